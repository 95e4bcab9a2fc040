/- Walks: IndexNone. No conditions. -/
import Derived.Test.YtpdenloeacaadaaGreatDoorIdxQ
import Derived.Test.YtpdenloeacaadaaGreatDoorDelN
namespace Go.Proofs.YtpdenloeacaadaaGreatDoor.E
open Go
set_option linter.unusedSimpArgs false
set_option linter.unusedVariables false
set_option linter.unusedSectionVars false
set_option maxRecDepth 20000
set_option maxHeartbeats 2000000
theorem IndexNone_ok (l : List (List Int)) (id0 : ByteArray) : Ok Tryz.prog 3 [.list 1 (l.map fun c => [ints c]), S id0] (B true) := by
 refine Ok.of_wp (rs := [.tmp 4]) (n := 95) Tryz.func3 rfl rfl rfl (by simp) fo (by kernel_rfl) ?_
 simp (decide := true) (maxSteps := 4000000) -implicitDefEqProofs only [S0, ↓reduceIte, Int.reduceAdd, Int.reduceSub, Int.reduceToNat, Int.reduceNeg, Nat.reduceAdd, Nat.reduceMul, Nat.reduceSub, reduceCtorEq]
 refine call_eq storeBegun_ok ?_
 simp (decide := true) (maxSteps := 4000000) -implicitDefEqProofs only [S0, ↓reduceIte, Int.reduceAdd, Int.reduceSub, Int.reduceToNat, Int.reduceNeg, Nat.reduceAdd, Nat.reduceMul, Nat.reduceSub, reduceCtorEq]
 refine call_eq (grown_ok l) ?_
 obtain ⟨hs, hsl⟩ := grown_st l
 generalize grownL l = s at *
 simp (decide := true) (maxSteps := 4000000) -implicitDefEqProofs only [S0, ↓reduceIte, Int.reduceAdd, Int.reduceSub, Int.reduceToNat, Int.reduceNeg, Nat.reduceAdd, Nat.reduceMul, Nat.reduceSub, reduceCtorEq]
 refine callHF (New_ok s hs (by omega)) [.l 23] ?_
 simp (decide := true) (maxSteps := 4000000) -implicitDefEqProofs only [S0, ↓reduceIte, Int.reduceAdd, Int.reduceSub, Int.reduceToNat, Int.reduceNeg, Nat.reduceAdd, Nat.reduceMul, Nat.reduceSub, reduceCtorEq]
 have hW := Within_ok (id0.size : Int) 3 (by omega) (by omega)
 have eW := (wN_eq (id0.size : Int) (show 0 < 3 by omega)).1
 rw [show within (id0.size : Int) 3 = ((wN (id0.size : Int) 3 : Nat) : Int) from eW] at hW
 refine call_eq hW ?_
 have hk3 : wN (id0.size : Int) 3 < 3 := (wN_eq _ (by omega)).2
 clear hW eW
 generalize wN (id0.size : Int) 3 = k at *
 obtain ⟨nm, hnm⟩ : ∃ nm : ByteArray, [[S ⟨#[97]⟩], [S ⟨#[98]⟩], [S ⟨#[99]⟩]][k]? = some [S nm] := by
  have : k = 0 ∨ k = 1 ∨ k = 2 := by omega
  rcases this with rfl | rfl | rfl
  ·exact ⟨_, rfl⟩
  ·exact ⟨_, rfl⟩
  ·exact ⟨_, rfl⟩
 have hkI : (k : Int) < 3 := by omega
 simp (decide := true) (maxSteps := 4000000) -implicitDefEqProofs only [S0, ↓reduceIte, Int.reduceAdd, Int.reduceSub, Int.reduceToNat, Int.reduceNeg, Nat.reduceAdd, Nat.reduceMul, Nat.reduceSub, reduceCtorEq, hkI, hnm]
 have u0 := newL_up s
 have b0 := newL_B hs (by omega)
 have u1 := dropL_up (id := nm) u0
 have b1 := dropL_B (id := nm) b0
 have hcp : ∀ f, (saysL f (newL s)).length ≤ 6000 := fun f => by
  unfold saysL
  split
  ·exact namesOf_B b0
  ·simp
 have hdr : ∀ f, saysL f (dropL nm (newL s)) = dlN nm (saysL f (newL s)) := fun f => by
  unfold saysL
  split
  ·exact names_drop u0 f nm
  ·rfl
 have hno : ∀ X : List ByteArray, hasB (dlN nm X) nm = false := fun X => by
  rw [Bool.eq_false_iff]
  intro h
  have := hasB_iff.1 h
  unfold dlN isN at this
  rw [List.mem_filter] at this
  simp at this
 have hN := Note_ok (newL s) [] nm (by decide) u0 (b0.mono (by omega) (by omega))
 rw [note_nil] at hN
 have hNew := New_ok s hs (by omega)
 have tk : ∀ X : List ByteArray, List.take X.length (ss1I X) = ss1I X := fun X => List.take_of_length_le (by simp)
 have dl : ∀ X : List ByteArray, (dlN nm X).length ≤ X.length := fun X => List.length_filter_le _ _
 have tz : ∀ X : List ByteArray, List.take (dlN nm X).length (List.map ssC (dlN nm X) ++ List.replicate (X.length - (dlN nm X).length) [S ⟨#[]⟩]) = ss1I (dlN nm X) := fun X => List.take_left' (by simp)
 refine ⟨by omega, ?_⟩
 refine ALoop.unrollK [3, 5, 6, 38, 39, 40] 3 ?_
 simp (decide := true) (maxSteps := 4000000) -implicitDefEqProofs only [S0, ↓reduceIte, Int.reduceAdd, Int.reduceSub, Int.reduceToNat, Int.reduceNeg, Nat.reduceAdd, Nat.reduceMul, Nat.reduceSub, reduceCtorEq]
 have bk120 : byOk ⟨⟨#[107]⟩, ⟨#[120]⟩⟩ = true := by decide +kernel
 refine callH (ByX_ok (newL s) ⟨⟨#[107]⟩, ⟨#[120]⟩⟩ u0 (b0.mono (by omega) (by omega))) [.l 23, .l 49] ?_
 simp (decide := true) (maxSteps := 4000000) -implicitDefEqProofs only [S0, ↓reduceIte, Int.reduceAdd, Int.reduceSub, Int.reduceToNat, Int.reduceNeg, Nat.reduceAdd, Nat.reduceMul, Nat.reduceSub, reduceCtorEq, imp_self, bk120]
 refine callHF hNew [.l 54] ?_
 simp (decide := true) (maxSteps := 4000000) -implicitDefEqProofs only [S0, ↓reduceIte, Int.reduceAdd, Int.reduceSub, Int.reduceToNat, Int.reduceNeg, Nat.reduceAdd, Nat.reduceMul, Nat.reduceSub, reduceCtorEq, imp_self]
 refine callH hN [.l 54] ?_
 simp (decide := true) (maxSteps := 4000000) -implicitDefEqProofs only [S0, ↓reduceIte, Int.reduceAdd, Int.reduceSub, Int.reduceToNat, Int.reduceNeg, Nat.reduceAdd, Nat.reduceMul, Nat.reduceSub, reduceCtorEq, imp_self]
 refine callH (ByX_ok (dropL nm (newL s)) ⟨⟨#[107]⟩, ⟨#[120]⟩⟩ u1 (b1.mono (by omega) (by omega))) [.l 54, .l 76] ?_
 have c120 := hcp ⟨⟨#[107]⟩, ⟨#[120]⟩⟩
 rw [hdr ⟨⟨#[107]⟩, ⟨#[120]⟩⟩]
 have d120 := dl (saysL ⟨⟨#[107]⟩, ⟨#[120]⟩⟩ (newL s))
 simp (decide := true) (maxSteps := 4000000) -implicitDefEqProofs only [S0, ↓reduceIte, Int.reduceAdd, Int.reduceSub, Int.reduceToNat, Int.reduceNeg, Nat.reduceAdd, Nat.reduceMul, Nat.reduceSub, reduceCtorEq, imp_self, bk120, tk]
 refine call_eq (hasStrs_ok (dlN nm (saysL ⟨⟨#[107]⟩, ⟨#[120]⟩⟩ (newL s))) nm (by omega)) ?_
 rw [hno]
 simp (decide := true) (maxSteps := 4000000) -implicitDefEqProofs only [S0, ↓reduceIte, Int.reduceAdd, Int.reduceSub, Int.reduceToNat, Int.reduceNeg, Nat.reduceAdd, Nat.reduceMul, Nat.reduceSub, reduceCtorEq, imp_self, tk]
 refine callH (delN_ok (saysL ⟨⟨#[107]⟩, ⟨#[120]⟩⟩ (newL s)) (by omega) nm) [.l 49, .l 3] ?_
 simp (decide := true) (maxSteps := 4000000) -implicitDefEqProofs only [S0, ↓reduceIte, Int.reduceAdd, Int.reduceSub, Int.reduceToNat, Int.reduceNeg, Nat.reduceAdd, Nat.reduceMul, Nat.reduceSub, reduceCtorEq, imp_self, tk, tz, Nat.le_add_right]
 refine call_eq (eqStrs_ok _ _ (by omega)) ?_
 simp (decide := true) (maxSteps := 4000000) -implicitDefEqProofs only [S0, ↓reduceIte, Int.reduceAdd, Int.reduceSub, Int.reduceToNat, Int.reduceNeg, Nat.reduceAdd, Nat.reduceMul, Nat.reduceSub, reduceCtorEq]
 have bk121 : byOk ⟨⟨#[107]⟩, ⟨#[121]⟩⟩ = true := by decide +kernel
 refine callH (ByX_ok (newL s) ⟨⟨#[107]⟩, ⟨#[121]⟩⟩ u0 (b0.mono (by omega) (by omega))) [.l 23, .l 49] ?_
 simp (decide := true) (maxSteps := 4000000) -implicitDefEqProofs only [S0, ↓reduceIte, Int.reduceAdd, Int.reduceSub, Int.reduceToNat, Int.reduceNeg, Nat.reduceAdd, Nat.reduceMul, Nat.reduceSub, reduceCtorEq, imp_self, bk121]
 refine callHF hNew [.l 54] ?_
 simp (decide := true) (maxSteps := 4000000) -implicitDefEqProofs only [S0, ↓reduceIte, Int.reduceAdd, Int.reduceSub, Int.reduceToNat, Int.reduceNeg, Nat.reduceAdd, Nat.reduceMul, Nat.reduceSub, reduceCtorEq, imp_self]
 refine callH hN [.l 54] ?_
 simp (decide := true) (maxSteps := 4000000) -implicitDefEqProofs only [S0, ↓reduceIte, Int.reduceAdd, Int.reduceSub, Int.reduceToNat, Int.reduceNeg, Nat.reduceAdd, Nat.reduceMul, Nat.reduceSub, reduceCtorEq, imp_self]
 refine callH (ByX_ok (dropL nm (newL s)) ⟨⟨#[107]⟩, ⟨#[121]⟩⟩ u1 (b1.mono (by omega) (by omega))) [.l 54, .l 76] ?_
 have c121 := hcp ⟨⟨#[107]⟩, ⟨#[121]⟩⟩
 rw [hdr ⟨⟨#[107]⟩, ⟨#[121]⟩⟩]
 have d121 := dl (saysL ⟨⟨#[107]⟩, ⟨#[121]⟩⟩ (newL s))
 simp (decide := true) (maxSteps := 4000000) -implicitDefEqProofs only [S0, ↓reduceIte, Int.reduceAdd, Int.reduceSub, Int.reduceToNat, Int.reduceNeg, Nat.reduceAdd, Nat.reduceMul, Nat.reduceSub, reduceCtorEq, imp_self, bk121, tk]
 refine call_eq (hasStrs_ok (dlN nm (saysL ⟨⟨#[107]⟩, ⟨#[121]⟩⟩ (newL s))) nm (by omega)) ?_
 rw [hno]
 simp (decide := true) (maxSteps := 4000000) -implicitDefEqProofs only [S0, ↓reduceIte, Int.reduceAdd, Int.reduceSub, Int.reduceToNat, Int.reduceNeg, Nat.reduceAdd, Nat.reduceMul, Nat.reduceSub, reduceCtorEq, imp_self, tk]
 refine callH (delN_ok (saysL ⟨⟨#[107]⟩, ⟨#[121]⟩⟩ (newL s)) (by omega) nm) [.l 49, .l 3] ?_
 simp (decide := true) (maxSteps := 4000000) -implicitDefEqProofs only [S0, ↓reduceIte, Int.reduceAdd, Int.reduceSub, Int.reduceToNat, Int.reduceNeg, Nat.reduceAdd, Nat.reduceMul, Nat.reduceSub, reduceCtorEq, imp_self, tk, tz, Nat.le_add_right]
 refine call_eq (eqStrs_ok _ _ (by omega)) ?_
 simp (decide := true) (maxSteps := 4000000) -implicitDefEqProofs only [S0, ↓reduceIte, Int.reduceAdd, Int.reduceSub, Int.reduceToNat, Int.reduceNeg, Nat.reduceAdd, Nat.reduceMul, Nat.reduceSub, reduceCtorEq]
end Go.Proofs.YtpdenloeacaadaaGreatDoor.E
