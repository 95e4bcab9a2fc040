/- Walks: slices.Delete of one string, in place, by the shelf's contract. No conditions. -/
import Derived.Test.YtpdenloeacaadaaDoorGSo
import Derived.Test.YtpdenloeacaadaaDoorIdxR
import Derived.Test.YtpdenloeacaadaaDoorShelf
namespace Go.Proofs.YtpdenloeacaadaaDoor.E
open Go
set_option linter.unusedSimpArgs false
set_option linter.unusedVariables false
set_option linter.unusedSectionVars false
set_option maxRecDepth 20000
set_option maxHeartbeats 1000000
end Go.Proofs.YtpdenloeacaadaaDoor.E
