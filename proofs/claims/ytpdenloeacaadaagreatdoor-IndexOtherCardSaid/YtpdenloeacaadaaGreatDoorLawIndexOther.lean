/- Walks: IndexOther. No conditions. -/
import Derived.Test.YtpdenloeacaadaaGreatDoorIdxQ
namespace Go.Proofs.YtpdenloeacaadaaGreatDoor.E
open Go
set_option linter.unusedSimpArgs false
set_option linter.unusedVariables false
set_option linter.unusedSectionVars false
set_option maxRecDepth 20000
set_option maxHeartbeats 2000000
abbrev nA : ByteArray := ⟨#[97]⟩
abbrev nB : ByteArray := ⟨#[98]⟩
abbrev nC : ByteArray := ⟨#[99]⟩
theorem other_all (l m : List (List Int)) : noteL (grownL m) nB (noteL (grownL m) nA (noteL (grownL m) nC (newL (grownL l)))) = newL (grownL m) := by
 have u0 := newL_up (grownL l)
 have u1 := noteL_up (l := grownL m) (id := nC) u0
 have u2 := noteL_up (l := grownL m) (id := nA) u1
 refine note_new u2 fun f x h3 => ?_
 rw [noteL_mem u1, noteL_mem u0, newL_mem, newL_mem]
 constructor
 ·rintro (⟨⟨h, h1⟩ | h, h2⟩ | h)
  ·exfalso
   rcases grown_ids l x h.1 with e | e | e
   ·exact h2 e
   ·exact h3 e
   ·exact h1 e
  ·exact h.2
  ·exact h.2
 ·intro h
  rcases grown_ids m x h.1 with e | e | e
  ·exact .inr ⟨e, h⟩
  ·exact absurd e h3
  ·exact .inl ⟨.inr ⟨e, h⟩, by rw [e]; decide⟩
theorem IndexOther_ok (l m : List (List Int)) : Ok Tryz.prog 5 [.list 1 (l.map fun c => [ints c]), .list 1 (m.map fun c => [ints c])] (B true) := by
 refine Ok.of_wp (rs := [.tmp 4]) (n := 78) Tryz.func5 rfl rfl rfl (by simp) fo (by kernel_rfl) ?_
 simp (decide := true) (maxSteps := 4000000) -implicitDefEqProofs only [S0, ↓reduceIte, Int.reduceAdd, Int.reduceSub, Int.reduceToNat, Int.reduceNeg, Nat.reduceAdd, Nat.reduceMul, Nat.reduceSub, reduceCtorEq]
 refine call_eq storeBegun_ok ?_
 simp (decide := true) (maxSteps := 4000000) -implicitDefEqProofs only [S0, ↓reduceIte, Int.reduceAdd, Int.reduceSub, Int.reduceToNat, Int.reduceNeg, Nat.reduceAdd, Nat.reduceMul, Nat.reduceSub, reduceCtorEq]
 refine call_eq (grown_ok l) ?_
 simp (decide := true) (maxSteps := 4000000) -implicitDefEqProofs only [S0, ↓reduceIte, Int.reduceAdd, Int.reduceSub, Int.reduceToNat, Int.reduceNeg, Nat.reduceAdd, Nat.reduceMul, Nat.reduceSub, reduceCtorEq]
 refine call_eq (grown_ok m) ?_
 obtain ⟨hs, hsl⟩ := grown_st l
 obtain ⟨ht, htl⟩ := grown_st m
 have he3 := other_all l m
 generalize grownL l = s at *
 generalize grownL m = t at *
 simp (decide := true) (maxSteps := 4000000) -implicitDefEqProofs only [S0, ↓reduceIte, Int.reduceAdd, Int.reduceSub, Int.reduceToNat, Int.reduceNeg, Nat.reduceAdd, Nat.reduceMul, Nat.reduceSub, reduceCtorEq]
 refine callHF (New_ok s hs (by omega)) [.l 21] ?_
 have u0 := newL_up s
 have u1 := noteL_up (l := t) (id := nC) u0
 have u2 := noteL_up (l := t) (id := nA) u1
 have b0 := newL_B hs (by omega)
 have b1 := noteL_B ht (id := nC) u0 b0
 have b2 := noteL_B ht (id := nA) u1 b1
 have bt := newL_B ht (by omega)
 simp (decide := true) (maxSteps := 4000000) -implicitDefEqProofs only [S0, ↓reduceIte, Int.reduceAdd, Int.reduceSub, Int.reduceToNat, Int.reduceNeg, Nat.reduceAdd, Nat.reduceMul, Nat.reduceSub, reduceCtorEq]
 refine ALoop.unrollK [6, 7, 30, 31, 32] 4 ?_
 simp (decide := true) (maxSteps := 4000000) -implicitDefEqProofs only [S0, ↓reduceIte, Int.reduceAdd, Int.reduceSub, Int.reduceToNat, Int.reduceNeg, Nat.reduceAdd, Nat.reduceMul, Nat.reduceSub, reduceCtorEq]
 refine callH (Note_ok (newL s) t nC ht u0 (b0.mono (by omega) (by omega))) [.l 21] ?_
 simp (decide := true) (maxSteps := 4000000) -implicitDefEqProofs only [S0, ↓reduceIte, Int.reduceAdd, Int.reduceSub, Int.reduceToNat, Int.reduceNeg, Nat.reduceAdd, Nat.reduceMul, Nat.reduceSub, reduceCtorEq, imp_self]
 refine callH (Note_ok _ t nA ht u1 (b1.mono (by omega) (by omega))) [.l 21] ?_
 simp (decide := true) (maxSteps := 4000000) -implicitDefEqProofs only [S0, ↓reduceIte, Int.reduceAdd, Int.reduceSub, Int.reduceToNat, Int.reduceNeg, Nat.reduceAdd, Nat.reduceMul, Nat.reduceSub, reduceCtorEq, imp_self]
 refine callH (Note_ok _ t nB ht u2 (b2.mono (by omega) (by omega))) [.l 21] ?_
 rw [he3]
 simp (decide := true) (maxSteps := 4000000) -implicitDefEqProofs only [S0, ↓reduceIte, Int.reduceAdd, Int.reduceSub, Int.reduceToNat, Int.reduceNeg, Nat.reduceAdd, Nat.reduceMul, Nat.reduceSub, reduceCtorEq, imp_self]
 refine callHF (New_ok t ht (by omega)) [.l 44] ?_
 simp (decide := true) (maxSteps := 4000000) -implicitDefEqProofs only [S0, ↓reduceIte, Int.reduceAdd, Int.reduceSub, Int.reduceToNat, Int.reduceNeg, Nat.reduceAdd, Nat.reduceMul, Nat.reduceSub, reduceCtorEq, imp_self]
 have hsm := SameX_ok (newL t) t ht (by omega) (bt.mono (by omega) (by omega))
 rw [same_new ht] at hsm
 refine callH hsm [.l 21] ?_
 simp (decide := true) (maxSteps := 4000000) -implicitDefEqProofs only [S0, ↓reduceIte, Int.reduceAdd, Int.reduceSub, Int.reduceToNat, Int.reduceNeg, Nat.reduceAdd, Nat.reduceMul, Nat.reduceSub, reduceCtorEq, imp_self]
 refine callH (CountX_ok (newL t) (bt.mono (by omega) (by omega))) [.l 21] ?_
 simp (decide := true) (maxSteps := 4000000) -implicitDefEqProofs only [S0, ↓reduceIte, Int.reduceAdd, Int.reduceSub, Int.reduceToNat, Int.reduceNeg, Nat.reduceAdd, Nat.reduceMul, Nat.reduceSub, reduceCtorEq, imp_self]
 refine callH (CountX_ok (newL t) (bt.mono (by omega) (by omega))) [.l 44] ?_
 simp (decide := true) (maxSteps := 4000000) -implicitDefEqProofs only [S0, ↓reduceIte, Int.reduceAdd, Int.reduceSub, Int.reduceToNat, Int.reduceNeg, Nat.reduceAdd, Nat.reduceMul, Nat.reduceSub, reduceCtorEq, imp_self]
 refine callH (KeysX_ok (newL t) (Nat.le_trans bt.1 (by omega))) [.l 21, .l 73] ?_
 simp (decide := true) (maxSteps := 4000000) -implicitDefEqProofs only [S0, ↓reduceIte, Int.reduceAdd, Int.reduceSub, Int.reduceToNat, Int.reduceNeg, Nat.reduceAdd, Nat.reduceMul, Nat.reduceSub, reduceCtorEq, imp_self]
 refine callH (KeysX_ok (newL t) (Nat.le_trans bt.1 (by omega))) [.l 44, .l 75] ?_
 have hk : (compL (keysL (newL t))).length ≤ (keysL (newL t)).length := compP_len _ _
 have hk2 : (keysL (newL t)).length = (newL t).length := List.length_map _
 have hk3 := bt.1
 have tk : List.take (compL (keysL (newL t))).length (ss1I (compL (keysL (newL t)))) = ss1I (compL (keysL (newL t))) := List.take_of_length_le (by simp)
 simp (decide := true) (maxSteps := 4000000) -implicitDefEqProofs only [S0, ↓reduceIte, Int.reduceAdd, Int.reduceSub, Int.reduceToNat, Int.reduceNeg, Nat.reduceAdd, Nat.reduceMul, Nat.reduceSub, reduceCtorEq, imp_self, tk]
 refine call_eq (eqStrs_ok _ _ (by omega)) ?_
 simp (decide := true) (maxSteps := 4000000) -implicitDefEqProofs only [S0, ↓reduceIte, Int.reduceAdd, Int.reduceSub, Int.reduceToNat, Int.reduceNeg, Nat.reduceAdd, Nat.reduceMul, Nat.reduceSub, reduceCtorEq]
 rfl
end Go.Proofs.YtpdenloeacaadaaGreatDoor.E
