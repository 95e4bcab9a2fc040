/- Walks: package slices, at the types in use. No conditions. -/
import Derived.Test.YtbnbpmjfpfdenaaDoorTab
import Derived.Test.YtbnbpmjfpfdenaaDoorBase
namespace Go.Proofs.YtbnbpmjfpfdenaaDoor.E
open Go
set_option linter.unusedSimpArgs false
set_option linter.unusedVariables false
set_option linter.unusedSectionVars false
set_option maxRecDepth 20000
end Go.Proofs.YtbnbpmjfpfdenaaDoor.E
