/- Walks: package record: copies; what is told of a record. No conditions. -/
import Derived.Test.YtonolfpnidaflaaDoorRec
namespace Go.Proofs.YtonolfpnidaflaaDoor.E
open Go
set_option linter.unusedSimpArgs false
set_option linter.unusedVariables false
set_option linter.unusedSectionVars false
set_option maxRecDepth 20000
def getV (k : ByteArray) : List Fd → Option ByteArray
  | [] => none
  | f :: l => if f.key = k then some f.val else getV k l
theorem chkRec_len {r : Rc} (h : chkRec r = 0) : r.fields.length ≤ 6 ∧ r.refs.length ≤ 4 := by
  unfold chkRec at h
  repeat' split at h
  all_goals first | contradiction | omega
end Go.Proofs.YtonolfpnidaflaaDoor.E
