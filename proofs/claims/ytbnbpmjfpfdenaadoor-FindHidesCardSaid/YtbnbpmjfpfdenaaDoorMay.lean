/- Walks: rule.May. No conditions. -/
import Derived.Test.YtbnbpmjfpfdenaaDoorRuleP
namespace Go.Proofs.YtbnbpmjfpfdenaaDoor.E
open Go
set_option linter.unusedSimpArgs false
set_option linter.unusedVariables false
set_option linter.unusedSectionVars false
set_option maxRecDepth 20000
theorem low255 (k : Int) : ∃ n : Nat, n < 256 ∧ bits .and .i64 k 255 = n := band_low k 8 (by omega)
end Go.Proofs.YtbnbpmjfpfdenaaDoor.E
