/- Walks: package slices, at the types in use. No conditions. -/
import Derived.Test.YtonolfpnidaflaaDoorTab
import Derived.Test.YtonolfpnidaflaaDoorBase
namespace Go.Proofs.YtonolfpnidaflaaDoor.E
open Go
set_option linter.unusedSimpArgs false
set_option linter.unusedVariables false
set_option linter.unusedSectionVars false
set_option maxRecDepth 20000
end Go.Proofs.YtonolfpnidaflaaDoor.E
