/- Walks: slices.Delete of one string, in place, by the shelf's contract. No conditions. -/
import Derived.Test.YtpdenloeacaadaaGSo
import Derived.Test.YtpdenloeacaadaaIdxR
import Derived.Test.YtpdenloeacaadaaShelf
namespace Go.Proofs.Ytpdenloeacaadaa.E
open Go
set_option linter.unusedSimpArgs false
set_option linter.unusedVariables false
set_option linter.unusedSectionVars false
set_option maxRecDepth 20000
set_option maxHeartbeats 1000000
end Go.Proofs.Ytpdenloeacaadaa.E
