/- Walks: package slices, at the types in use. No conditions. -/
import Derived.Test.YthpfjigkhbabnabTab
import Derived.Test.YthpfjigkhbabnabBase
namespace Go.Proofs.Ythpfjigkhbabnab.E
open Go
set_option linter.unusedSimpArgs false
set_option linter.unusedVariables false
set_option linter.unusedSectionVars false
set_option maxRecDepth 20000
end Go.Proofs.Ythpfjigkhbabnab.E
