/- Walks: package label. No conditions. -/
import Derived.Test.YtljickachmdejaaTab
import Derived.Test.YtljickachmdejaaBase
namespace Go.Proofs.Ytljickachmdejaa.E
open Go
set_option linter.unusedSimpArgs false
set_option linter.unusedVariables false
set_option linter.unusedSectionVars false
set_option maxRecDepth 20000
abbrev lab (l c : Int) : AV := .agg [I l, I c]
def okLab (l c : Int) : Bool := decide (0 ≤ l ∧ l ≤ 3 ∧ 0 ≤ c ∧ c < 256)
end Go.Proofs.Ytljickachmdejaa.E
