/- Walks: IndexNotes. No conditions. -/
import Derived.Test.YtpdenloeacaadaaGreatDoorIdxQ
namespace Go.Proofs.YtpdenloeacaadaaGreatDoor.E
open Go
set_option linter.unusedSimpArgs false
set_option linter.unusedVariables false
set_option linter.unusedSectionVars false
set_option maxRecDepth 20000
set_option maxHeartbeats 2000000
theorem newL_nil : newL [] = [] := by
 have : idsL [] = [] := List.eq_nil_of_length_eq_zero (by have := idsL_len []; simpa using this)
 unfold newL
 rw [this]
 rfl
theorem IndexNotes_ok (l : List (List Int)) : Ok Tryz.prog 4 [.list 1 (l.map fun c => [ints c])] (B true) := by
 refine Ok.of_wp (rs := [.tmp 2]) (n := 91) Tryz.func4 rfl rfl rfl (by simp) fo (by kernel_rfl) ?_
 simp (decide := true) (maxSteps := 4000000) -implicitDefEqProofs only [S0, ↓reduceIte, Int.reduceAdd, Int.reduceSub, Int.reduceToNat, Int.reduceNeg, Nat.reduceAdd, Nat.reduceMul, Nat.reduceSub, reduceCtorEq]
 refine call_eq storeBegun_ok ?_
 simp (decide := true) (maxSteps := 4000000) -implicitDefEqProofs only [S0, ↓reduceIte, Int.reduceAdd, Int.reduceSub, Int.reduceToNat, Int.reduceNeg, Nat.reduceAdd, Nat.reduceMul, Nat.reduceSub, reduceCtorEq]
 refine call_eq (grown_ok l) ?_
 obtain ⟨hs, hsl⟩ := grown_st l
 generalize grownL l = s at *
 simp (decide := true) (maxSteps := 4000000) -implicitDefEqProofs only [S0, ↓reduceIte, Int.reduceAdd, Int.reduceSub, Int.reduceToNat, Int.reduceNeg, Nat.reduceAdd, Nat.reduceMul, Nat.reduceSub, reduceCtorEq]
 refine callHF (New_ok [] (by decide) (by simp)) [.l 18] ?_
 rw [newL_nil]
 have hc0 := CountX_ok [] ⟨Nat.zero_le _, fun e he => by cases he⟩
 have hc0' : countE [] = 0 := rfl
 rw [hc0'] at hc0
 simp (decide := true) (maxSteps := 4000000) -implicitDefEqProofs only [S0, ↓reduceIte, Int.reduceAdd, Int.reduceSub, Int.reduceToNat, Int.reduceNeg, Nat.reduceAdd, Nat.reduceMul, Nat.reduceSub, reduceCtorEq]
 refine callH hc0 [.l 18] ?_
 simp (decide := true) (maxSteps := 4000000) -implicitDefEqProofs only [S0, ↓reduceIte, Int.reduceAdd, Int.reduceSub, Int.reduceToNat, Int.reduceNeg, Nat.reduceAdd, Nat.reduceMul, Nat.reduceSub, reduceCtorEq, imp_self]
 refine ALoop.st [3, 4, 32, 33, 34] (fun (j : Nat) => [vers s, .ptr (.l 18) 1 0, vers s, I s.length, I j]) (fun j => [(.l 18, 1, .sem (IXR (newL (s.take j))))]) (fun j => j ≤ s.length) (fun j => s.length - j) [] 0 (by simp (decide := true) (maxSteps := 4000000) -implicitDefEqProofs only [S0, ↓reduceIte, Int.reduceAdd, Int.reduceSub, Int.reduceToNat, Int.reduceNeg, Nat.reduceAdd, Nat.reduceMul, Nat.reduceSub, reduceCtorEq]; try rfl) (by simp (decide := true) (maxSteps := 4000000) -implicitDefEqProofs only [S0, ↓reduceIte, Int.reduceAdd, Int.reduceSub, Int.reduceToNat, Int.reduceNeg, Nat.reduceAdd, Nat.reduceMul, Nat.reduceSub, reduceCtorEq, List.take_zero, newL_nil]; try rfl) (Nat.zero_le _) ?_
 intro j hj
 by_cases h : (j : Int) < s.length
 ·obtain ⟨v, hv⟩ := lt_get (l := s) (i := j) (by omega)
  have hw := wr_add1 h (by omega)
  have hck := chkSt_take hs (j + 1)
  have hck0 := chkSt_take hs j
  have htl : (s.take (j + 1)).length = j + 1 := by rw [List.length_take]; omega
  have htl0 : (s.take j).length = j := by rw [List.length_take]; omega
  have hst := note_step (s.take j) v
  rw [← take_get hv] at hst
  have b0 := newL_B hck0 (by omega)
  have b1 := newL_B hck (by omega)
  have hN1 := Note_ok (newL (s.take j)) (s.take (j + 1)) v.r.id hck (newL_up _) (b0.mono (by omega) (by omega))
  rw [hst] at hN1
  have hN2 := Note_ok (newL (s.take (j + 1))) (s.take (j + 1)) v.r.id hck (newL_up _) (b1.mono (by omega) (by omega))
  rw [note_again] at hN2
  have hS := SameX_ok (newL (s.take (j + 1))) (s.take (j + 1)) hck (by omega) (b1.mono (by omega) (by omega))
  rw [same_new hck] at hS
  have hC := CountX_ok (newL (s.take (j + 1))) (b1.mono (by omega) (by omega))
  have e1 : List.take (j + 1) (List.map verC s) = List.map verC (s.take (j + 1)) := by rw [List.map_take]
  have hle : ((j + 1 : Nat) : Int) ≤ s.length := by omega
  simp (decide := true) (maxSteps := 4000000) -implicitDefEqProofs only [S0, ↓reduceIte, Int.reduceAdd, Int.reduceSub, Int.reduceToNat, Int.reduceNeg, Nat.reduceAdd, Nat.reduceMul, Nat.reduceSub, reduceCtorEq, h, hv, hw, hle, e1, Nat.sub_zero]
  refine callH hN1 [.l 18] ?_
  simp (decide := true) (maxSteps := 4000000) -implicitDefEqProofs only [S0, ↓reduceIte, Int.reduceAdd, Int.reduceSub, Int.reduceToNat, Int.reduceNeg, Nat.reduceAdd, Nat.reduceMul, Nat.reduceSub, reduceCtorEq, imp_self]
  refine callH hC [.l 18] ?_
  simp (decide := true) (maxSteps := 4000000) -implicitDefEqProofs only [S0, ↓reduceIte, Int.reduceAdd, Int.reduceSub, Int.reduceToNat, Int.reduceNeg, Nat.reduceAdd, Nat.reduceMul, Nat.reduceSub, reduceCtorEq, imp_self]
  refine callH hS [.l 18] ?_
  simp (decide := true) (maxSteps := 4000000) -implicitDefEqProofs only [S0, ↓reduceIte, Int.reduceAdd, Int.reduceSub, Int.reduceToNat, Int.reduceNeg, Nat.reduceAdd, Nat.reduceMul, Nat.reduceSub, reduceCtorEq, imp_self]
  refine callH hN2 [.l 18] ?_
  simp (decide := true) (maxSteps := 4000000) -implicitDefEqProofs only [S0, ↓reduceIte, Int.reduceAdd, Int.reduceSub, Int.reduceToNat, Int.reduceNeg, Nat.reduceAdd, Nat.reduceMul, Nat.reduceSub, reduceCtorEq, imp_self]
  refine callH hC [.l 18] ?_
  simp (decide := true) (maxSteps := 4000000) -implicitDefEqProofs only [S0, ↓reduceIte, Int.reduceAdd, Int.reduceSub, Int.reduceToNat, Int.reduceNeg, Nat.reduceAdd, Nat.reduceMul, Nat.reduceSub, reduceCtorEq, imp_self]
  exact Nxt.mk [] (j + 1) (by simp (decide := true) (maxSteps := 4000000) -implicitDefEqProofs only [S0, ↓reduceIte, Int.reduceAdd, Int.reduceSub, Int.reduceToNat, Int.reduceNeg, Nat.reduceAdd, Nat.reduceMul, Nat.reduceSub, reduceCtorEq, hw]) (by simp (decide := true) (maxSteps := 4000000) -implicitDefEqProofs only [S0, ↓reduceIte, Int.reduceAdd, Int.reduceSub, Int.reduceToNat, Int.reduceNeg, Nat.reduceAdd, Nat.reduceMul, Nat.reduceSub, reduceCtorEq]) (by omega) (by omega)
 ·obtain rfl : j = s.length := by omega
  have hS := SameX_ok (newL s) s hs (by omega) ((newL_B hs (by omega)).mono (by omega) (by omega))
  rw [same_new hs] at hS
  rw [List.take_length]
  simp (decide := true) (maxSteps := 4000000) -implicitDefEqProofs only [S0, ↓reduceIte, Int.reduceAdd, Int.reduceSub, Int.reduceToNat, Int.reduceNeg, Nat.reduceAdd, Nat.reduceMul, Nat.reduceSub, reduceCtorEq, h]
  refine callH hS [.l 18] ?_
  simp (decide := true) (maxSteps := 4000000) -implicitDefEqProofs only [S0, ↓reduceIte, Int.reduceAdd, Int.reduceSub, Int.reduceToNat, Int.reduceNeg, Nat.reduceAdd, Nat.reduceMul, Nat.reduceSub, reduceCtorEq, imp_self]
end Go.Proofs.YtpdenloeacaadaaGreatDoor.E
