/- An index's functions, over one place. No conditions. -/
import Derived.Test.YtpdenloeacaadaaIdxS
namespace Go.Proofs.Ytpdenloeacaadaa.E
open Go
set_option linter.unusedSimpArgs false
set_option linter.unusedVariables false
set_option linter.unusedSectionVars false
set_option maxRecDepth 20000
set_option maxHeartbeats 2000000
def noteL (l : List Vn) (id : ByteArray) (es : Es) : Es := if (getN l id).isSome then addL (recOf l id).id (recOf l id).fields (dropL id es) else dropL id es
theorem noteL_up {l : List Vn} {id : ByteArray} {es : Es} (h : EsUp es) : EsUp (noteL l id es) := by
 unfold noteL
 split
 ·exact addL_up (dropL_up h)
 ·exact dropL_up h
theorem noteL_B {l : List Vn} (hl : chkSt l = 0) {id : ByteArray} {es : Es} (hs : EsUp es) {m k : Nat} (h : EsB m k es) : EsB (m + 6) (k + 6) (noteL l id es) := by
 unfold noteL
 split
 ·have := addL_B (id := (recOf l id).id) (fs := (recOf l id).fields) (dropL_up (id := id) hs) (dropL_B (id := id) h)
  have h6 := recOf_len hl id
  exact this.mono (by omega) (by omega)
 ·exact (dropL_B h).mono (by omega) (by omega)
theorem ByX_ok (es : Es) (f : Fd) (hs : EsUp es) (hb : EsB 45000 9000 es) : OkH Try.prog 16 [.ptr (.e 0) 0 0, fdV f] [.sem (IXR es)] (.tup [.own (.e 1) 1 1 0 (saysL f es).length, I (if byOk f then 0 else 3)]) [(0, .sem (IXR es)), (1, .row 9 1 none (ss1I (saysL f es)))] := by
 have := ByF_ok es f hs hb
 exact OkH.thawL (n := (saysL f es).length) (.inr ⟨_, rfl⟩) (by rfl) this
end Go.Proofs.Ytpdenloeacaadaa.E
