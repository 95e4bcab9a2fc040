/- An index's functions, over one place. No conditions. -/
import Derived.Test.YtpdenloeacaadaaGreatDoorIdxS
namespace Go.Proofs.YtpdenloeacaadaaGreatDoor.E
open Go
set_option linter.unusedSimpArgs false
set_option linter.unusedVariables false
set_option linter.unusedSectionVars false
set_option maxRecDepth 20000
set_option maxHeartbeats 2000000
def noteL (l : List Vn) (id : ByteArray) (es : Es) : Es := if (getN l id).isSome then addL (recOf l id).id (recOf l id).fields (dropL id es) else dropL id es
theorem noteL_up {l : List Vn} {id : ByteArray} {es : Es} (h : EsUp es) : EsUp (noteL l id es) := by
 unfold noteL
 split
 ·exact addL_up (dropL_up h)
 ·exact dropL_up h
theorem noteL_B {l : List Vn} (hl : chkSt l = 0) {id : ByteArray} {es : Es} (hs : EsUp es) {m k : Nat} (h : EsB m k es) : EsB (m + 6) (k + 6) (noteL l id es) := by
 unfold noteL
 split
 ·have := addL_B (id := (recOf l id).id) (fs := (recOf l id).fields) (dropL_up (id := id) hs) (dropL_B (id := id) h)
  have h6 := recOf_len hl id
  exact this.mono (by omega) (by omega)
 ·exact (dropL_B h).mono (by omega) (by omega)
theorem Note_ok (es : Es) (l : List Vn) (id : ByteArray) (h : chkSt l = 0) (hs : EsUp es) (hb : EsB 39000 8900 es) : OkH Tryz.prog 11 [.ptr (.e 0) 0 0, vers l, S id] [.sem (IXR es)] (I 0) [(0, .sem (IXR (noteL l id es)))] := by
 refine OkH.of_wpX (rs := [.tmp 6]) (n := 30) Tryz.func11 rfl rfl rfl (by simp) fo (by kernel_rfl) ?_
 have ge : getE l id = if (getN l id).isSome then 0 else 4 := by rw [getE, if_pos h]
 have h6 := recOf_len h id
 simp (decide := true) (maxSteps := 4000000) -implicitDefEqProofs only [S0, ↓reduceIte, Int.reduceAdd, Int.reduceSub, Int.reduceToNat, Int.reduceNeg, Nat.reduceAdd, Nat.reduceMul, Nat.reduceSub, reduceCtorEq]
 refine call_eq (Get_ok l id) ?_
 rw [if_pos h, ge]
 cases hg : (getN l id).isSome with
 | false =>
  have e0 : noteL l id es = dropL id es := by unfold noteL; rw [hg]; rfl
  rw [e0]
  simp (decide := true) (maxSteps := 4000000) -implicitDefEqProofs only [S0, ↓reduceIte, Int.reduceAdd, Int.reduceSub, Int.reduceToNat, Int.reduceNeg, Nat.reduceAdd, Nat.reduceMul, Nat.reduceSub, reduceCtorEq]
  refine callH (drop_ok es id hs (hb.mono (by omega) (by omega))) [.e 0] ?_
  simp (decide := true) (maxSteps := 4000000) -implicitDefEqProofs only [S0, ↓reduceIte, Int.reduceAdd, Int.reduceSub, Int.reduceToNat, Int.reduceNeg, Nat.reduceAdd, Nat.reduceMul, Nat.reduceSub, reduceCtorEq, imp_self]
  exact ⟨[], by simp (decide := true) (maxSteps := 4000000) -implicitDefEqProofs only [S0, ↓reduceIte, Int.reduceAdd, Int.reduceSub, Int.reduceToNat, Int.reduceNeg, Nat.reduceAdd, Nat.reduceMul, Nat.reduceSub, reduceCtorEq]⟩
 | true =>
  have e0 : noteL l id es = addL (recOf l id).id (recOf l id).fields (dropL id es) := by unfold noteL; rw [hg]; rfl
  rw [e0]
  simp (decide := true) (maxSteps := 4000000) -implicitDefEqProofs only [S0, ↓reduceIte, Int.reduceAdd, Int.reduceSub, Int.reduceToNat, Int.reduceNeg, Nat.reduceAdd, Nat.reduceMul, Nat.reduceSub, reduceCtorEq]
  refine callH (drop_ok es id hs (hb.mono (by omega) (by omega))) [.e 0] ?_
  simp (decide := true) (maxSteps := 4000000) -implicitDefEqProofs only [S0, ↓reduceIte, Int.reduceAdd, Int.reduceSub, Int.reduceToNat, Int.reduceNeg, Nat.reduceAdd, Nat.reduceMul, Nat.reduceSub, reduceCtorEq, imp_self]
  refine callH (add_ok (dropL id es) (recOf l id) (dropL_up hs) ((dropL_B hb).mono (by omega) (by omega)) (by omega)) [.e 0] ?_
  simp (decide := true) (maxSteps := 4000000) -implicitDefEqProofs only [S0, ↓reduceIte, Int.reduceAdd, Int.reduceSub, Int.reduceToNat, Int.reduceNeg, Nat.reduceAdd, Nat.reduceMul, Nat.reduceSub, reduceCtorEq, imp_self]
  exact ⟨[], by simp (decide := true) (maxSteps := 4000000) -implicitDefEqProofs only [S0, ↓reduceIte, Int.reduceAdd, Int.reduceSub, Int.reduceToNat, Int.reduceNeg, Nat.reduceAdd, Nat.reduceMul, Nat.reduceSub, reduceCtorEq]⟩
theorem ByX_ok (es : Es) (f : Fd) (hs : EsUp es) (hb : EsB 45000 9000 es) : OkH Tryz.prog 10 [.ptr (.e 0) 0 0, fdV f] [.sem (IXR es)] (.tup [.own (.e 1) 1 1 0 (saysL f es).length, I (if byOk f then 0 else 3)]) [(0, .sem (IXR es)), (1, .row 9 1 none (ss1I (saysL f es)))] := by
 have := ByF_ok es f hs hb
 exact OkH.thawL (n := (saysL f es).length) (.inr ⟨_, rfl⟩) (by rfl) this
theorem KeysX_ok (es : Es) (hl : es.length ≤ 45000) : OkH Tryz.prog 18 [.ptr (.e 0) 0 0] [.sem (IXR es)] (.own (.e 1) 1 1 0 (compL (keysL es)).length) [(0, .sem (IXR es)), (1, .row 9 1 none (ss1I (compL (keysL es))))] :=
 OkH.thawL (n := (compL (keysL es)).length) (.inl rfl) rfl (KeysF_ok es hl)
theorem CountX_ok (es : Es) (hb : EsB 45000 9000 es) : OkH Tryz.prog 16 [.ptr (.e 0) 0 0] [.sem (IXR es)] (I (countE es)) [(0, .sem (IXR es))] := OkH.thaw rfl rfl (CountF_ok es hb)
theorem SameX_ok (es : Es) (l : List Vn) (h : chkSt l = 0) (hl : l.length ≤ 1000) (hb : EsB 45000 9000 es) : OkH Tryz.prog 17 [.ptr (.e 0) 0 0, vers l] [.sem (IXR es)] (.tup [B (eqL es (newL l) && sameAll l (newL l)), I 0]) [(0, .sem (IXR es))] := OkH.thaw rfl rfl (SameF_ok es l h hl hb)
end Go.Proofs.YtpdenloeacaadaaGreatDoor.E
