/- Walks: slices.Insert of one entry, and of one string, in a row of the call's own. No conditions. -/
import Derived.Test.YtpdenloeacaadaaIdxR
import Derived.Test.YtpdenloeacaadaaOkO
import Derived.Test.YtpdenloeacaadaaOvl
namespace Go.Proofs.Ytpdenloeacaadaa.E
open Go
set_option linter.unusedSimpArgs false
set_option linter.unusedVariables false
set_option linter.unusedSectionVars false
set_option maxRecDepth 20000
set_option maxHeartbeats 1000000
theorem insSO_ok (l : List ByteArray) (f : ByteArray) (i : Nat) (hl : l.length ≤ 1000000) (hi : i ≤ l.length) : OkO Try.prog 62 [.own (.e 0) 0 1 0 l.length, I i, .own (.e 1) 0 1 0 1] [.row 9 1 none (l.map ssC), .row 9 1 none [ssC f]] (fun j => match j with
  | 0 => (.own (.e 0) 1 1 0 (l.length + 1), [(1, .row 9 1 none ((l.take i ++ [f] ++ l.drop i).map ssC)), (0, .row 9 1 none [ssC f])])
  | 1 => (.own (.e 0) 0 1 0 (l.length + 1), [(0, .row 9 1 none ((l.take i ++ [f] ++ l.drop i).map ssC)), (0, .row 9 1 none [ssC f])])
  | _ => (.own (.e 2) 1 1 0 (l.length + 1), [(0, .gone), (0, .row 9 1 none [ssC f]), (1, .row 9 1 none ((l.take i ++ [f] ++ l.drop i).map ssC))])) := by
 refine OkO.of_wp (rs := [.tmp 6]) (n := 95) Try.func62 rfl rfl rfl (by simp) fo (by kernel_rfl) ?_
 by_cases h : i = l.length
 ·have h' : (i : Int) = l.length := by omega
  subst h
  simp (decide := true) (maxSteps := 4000000) -implicitDefEqProofs only [S0, ↓reduceIte, Int.reduceAdd, Int.reduceSub, Int.reduceToNat, Int.reduceNeg, Nat.reduceAdd, Nat.reduceMul, Nat.reduceSub, reduceCtorEq, tk1, Nat.le_refl, or_true]
  have e : l.take l.length ++ [f] ++ l.drop l.length = l ++ [f] := by simp
  rw [e]
  refine ⟨by omega, by omega, 0, [], ?_⟩
  simp (decide := true) (maxSteps := 4000000) -implicitDefEqProofs only [S0, ↓reduceIte, Int.reduceAdd, Int.reduceSub, Int.reduceToNat, Int.reduceNeg, Nat.reduceAdd, Nat.reduceMul, Nat.reduceSub, reduceCtorEq, Option.getD_some, List.map_append, Nat.le_refl, or_true]
 ·have h' : ¬ (i : Int) = l.length := by omega
  have hi2 : i < l.length := by omega
  have w1 : IntKind.i64.wrap ((l.length : Int) + 1) = ((l.length + 1 : Nat) : Int) := by rw [wr_i64 (by omega) (by omega)]; omega
  have w1' : IntKind.i64.wrap ((l.length : Int) + ((1 : Nat) : Int)) = ((l.length + 1 : Nat) : Int) := w1
  have w2 : IntKind.i64.wrap (((l.length + 1 : Nat) : Int) - i) = ((l.length + 1 - i : Nat) : Int) := by rw [wr_i64 (by omega) (by omega)]; omega
  have w3 : IntKind.i64.wrap ((i : Int) + ((1 : Nat) : Int)) = ((i + 1 : Nat) : Int) := wr_add1 (n := l.length) (by omega) (by omega)
  have n1 : (l.take i).length = i := by rw [List.length_take]; omega
  have hsum : i + (l.length + 1 - i) = l.length + 1 := by omega
  simp (decide := true) (maxSteps := 4000000) -implicitDefEqProofs only [S0, ↓reduceIte, Int.reduceAdd, Int.reduceSub, Int.reduceToNat, Int.reduceNeg, Nat.reduceAdd, Nat.reduceMul, Nat.reduceSub, reduceCtorEq, h', w1', w2, Nat.sub_zero, or_true, List.length_replicate, hsum]
  refine ⟨by omega, fun cp hc1 hc2 hc3 => ?_⟩
  have hR0 : ∃ R : List (List AV), List.map ssC l ++ List.replicate (cp - l.length) [AV.junk] = R := ⟨_, rfl⟩
  obtain ⟨R, hR⟩ := hR0
  have hRl : R.length = cp := by rw [← hR, List.length_append, List.length_map, List.length_replicate]; omega
  have hR1 : List.take i R = List.map ssC (l.take i) := by rw [← hR, List.take_append_of_le_length (by rw [List.length_map]; omega), List.map_take]
  have hR2 : List.take (l.length - i) (List.drop i R) = List.map ssC (l.drop i) := by
   rw [← hR, List.drop_append_of_le_length (by rw [List.length_map]; omega), List.take_append_of_le_length (by rw [List.length_drop, List.length_map]; exact Nat.le_refl _), ← List.map_drop]
   exact List.take_of_length_le (by simp)
  rw [hR]
  clear hR
  have y6 : i + (l.length - i) ≤ l.length + (cp - l.length) := by omega
  have y9 : i + (l.length + 1 - i) ≤ cp ↔ l.length + 1 ≤ cp := by omega
  have e0 : ∀ X : List (List AV), List.map ssC (l.take i) ++ [ssC f] ++ (List.map ssC (l.drop i) ++ X) = List.map ssC (l.take i ++ [f] ++ l.drop i) ++ X := fun X => by
   rw [List.map_append, List.map_append]; simp
  by_cases hr : l.length + 1 ≤ cp
  ·have hr' : ¬ (((l.length + 1 : Nat) : Int) > (cp : Int)) := by omega
   obtain ⟨Y, hY⟩ : ∃ Y, List.take (l.length + 1 - i) (List.drop i R) = Y := ⟨_, rfl⟩
   have hYl : Y.length = l.length + 1 - i := by rw [← hY, List.length_take, List.length_drop, hRl]; omega
   have hY1 : List.take (l.length - i) Y = List.map ssC (l.drop i) := by rw [← hY, List.take_take, Nat.min_eq_left (by omega)]; exact hR2
   have t1 : (List.take (i + 1) R).length = i + 1 := by rw [List.length_take, hRl]; omega
   have t0 : List.take i (List.take (i + 1) R) = List.map ssC (l.take i) := by rw [List.take_take, Nat.min_eq_left (by omega)]; exact hR1
   have y4 : l.length + 1 - (i + 1) = l.length - i := by omega
   have x3 : List.take (l.length + 1 - i) [ssC f] = [ssC f] := List.take_of_length_le (by simp; omega)
   have x4 : min 1 (l.length + 1 - i) = 1 := by omega
   have y7 : min (l.length + 1 - i) (l.length - i) = l.length - i := by omega
   have q1 : i + (l.length + 1 - i) ≤ cp := by omega
   have q2 : i + 1 + (l.length - i) = l.length + 1 := by omega
   have hml : (List.map ssC (l.drop i)).length = l.length - i := by rw [List.length_map, List.length_drop]
   obtain ⟨T, hT⟩ : ∃ T, List.drop (l.length + 1) R = T := ⟨_, rfl⟩
   have hTl : T.length = cp - (l.length + 1) := by rw [← hT, List.length_drop, hRl]
   have u1 : List.take i (List.take (i + 1) R ++ List.map ssC (l.drop i) ++ T) = List.map ssC (l.take i) := by
    rw [List.append_assoc, List.take_append_of_le_length (by omega), t0]
   have u2 : List.drop (i + 1) (List.take (i + 1) R ++ List.map ssC (l.drop i) ++ T) = List.map ssC (l.drop i) ++ T := by
    rw [List.append_assoc, List.drop_left' t1]
   simp (decide := true) (maxSteps := 4000000) -implicitDefEqProofs only [S0, ↓reduceIte, Int.reduceAdd, Int.reduceSub, Int.reduceToNat, Int.reduceNeg, Nat.reduceAdd, Nat.reduceMul, Nat.reduceSub, reduceCtorEq, hr', Nat.sub_zero, or_true, w1', w3, hRl]
   refine ⟨.inr (by omega), by omega, .inl (by omega), ?_⟩
   refine ⟨.bool false, rfl, fun hp' hag w c vs hi hv => ?_, ?_⟩
   ·have g0 := hag (.e 0) (by simp only [stsL, sts, rch, List.map_cons, List.flatMap_cons]; simp [Site.key])
    have g1 := hag (.e 1) (by simp only [stsL, sts, rch, List.map_cons, List.flatMap_cons]; simp [Site.key])
    simp only [RelL] at hv
    obtain ⟨u, us, rfl, hu, v, us2, rfl, hv2, rfl⟩ := hv
    have hrun := ovl_run (P := Try.prog) (tS := 33) (tR := 4) hi (s1 := .e 1) (s2 := .e 0) (by simp) g1 g0 hu (by simp) hv2 (by omega) Try.underlying33 1 (fun w => Try.sizeOf9 w)
    rw [run_callFunc_extern Try.func71 (by kernel_rfl) (by kernel_rfl) (by kernel_rfl) (e := Extern.SlicesOverlaps.overlaps #[33, 33] #[4]) (by kernel_rfl), hrun]
    rfl
   ·have q3 : l.length + 1 ≤ i + 1 + (l.length - i + (cp - (l.length + 1))) := by omega
    simp (decide := true) (maxSteps := 4000000) -implicitDefEqProofs only [S0, ↓reduceIte, Int.reduceAdd, Int.reduceSub, Int.reduceToNat, Int.reduceNeg, Nat.reduceAdd, Nat.reduceMul, Nat.reduceSub, reduceCtorEq, w3, hRl, hY, hYl, hY1, t1, y4, x3, x4, y7, q1, q2, q3, hml, hT, hTl, u1, u2, n1, e0]
    refine ⟨by omega, .inl (by omega), by omega, .inl (by omega), by omega, by omega, .inl (by omega), by omega, 1, [], ?_⟩
    simp (decide := true) (maxSteps := 4000000) -implicitDefEqProofs only [S0, ↓reduceIte, Int.reduceAdd, Int.reduceSub, Int.reduceToNat, Int.reduceNeg, Nat.reduceAdd, Nat.reduceMul, Nat.reduceSub, reduceCtorEq, Option.getD_some, or_true, List.prefix_append]
  ·have hr' : (((l.length + 1 : Nat) : Int) > (cp : Int)) := by omega
   have x2 : List.take i (List.map ssC (l.take i) ++ List.replicate (l.length + 1 - i) [S ⟨#[]⟩]) = List.map ssC (l.take i) := List.take_left' (by rw [List.length_map, n1])
   have x3 : List.take (l.length + 1 - i) [ssC f] = [ssC f] := List.take_of_length_le (by simp; omega)
   have x4 : min 1 (l.length + 1 - i) = 1 := by omega
   have x5 : List.drop (i + 1) (List.map ssC (l.take i) ++ List.replicate (l.length + 1 - i) [S ⟨#[]⟩]) = List.replicate (l.length - i) [S ⟨#[]⟩] := by
    rw [List.drop_append, List.drop_eq_nil_of_le (by rw [List.length_map, n1]; omega), List.nil_append, List.length_map, n1, List.drop_replicate]
    congr 1
    omega
   have y2 : List.take (i + 1) (List.map ssC (l.take i) ++ [ssC f] ++ List.replicate (l.length - i) [S ⟨#[]⟩]) = List.map ssC (l.take i) ++ [ssC f] := List.take_left' (by simp only [List.length_append, List.length_map, n1, List.length_singleton])
   have y4 : l.length + 1 - (i + 1) = l.length - i := by omega
   have y5 : List.take (l.length - i) (List.map ssC (l.drop i)) = List.map ssC (l.drop i) := List.take_of_length_le (by simp)
   have y7 : min (l.length - i) (l.length - i) = l.length - i := Nat.min_self _
   have y8 : List.drop (i + 1 + (l.length - i)) (List.map ssC (l.take i) ++ [ssC f] ++ List.replicate (l.length - i) [S ⟨#[]⟩]) = [] := List.drop_eq_nil_of_le (by simp only [List.length_append, List.length_map, n1, List.length_singleton, List.length_replicate]; omega)
   simp (decide := true) (maxSteps := 4000000) -implicitDefEqProofs only [S0, ↓reduceIte, Int.reduceAdd, Int.reduceSub, Int.reduceToNat, Int.reduceNeg, Nat.reduceAdd, Nat.reduceMul, Nat.reduceSub, reduceCtorEq, hr', hr, Nat.sub_zero, or_true, w1', w3, hR1, x2, x3, x4, x5, n1, hsum, hRl]
   refine ⟨.inl (by omega), by omega, by omega, by omega, by omega, fun _ => ⟨by omega, by omega, .inl (by omega), by omega, .inl (by omega), ?_⟩⟩
   have e2 : List.map ssC (l.take i) ++ [ssC f] ++ List.map ssC (l.drop i) = List.map ssC (l.take i ++ [f] ++ l.drop i) := by
    have := e0 []
    rwa [List.append_nil, List.append_nil] at this
   have q3 : l.length + 1 ≤ i + 1 + (l.length - i) := by omega
   have y10 : i + (l.length - i) ≤ cp := by omega
   simp (decide := true) (maxSteps := 4000000) -implicitDefEqProofs only [S0, ↓reduceIte, Int.reduceAdd, Int.reduceSub, Int.reduceToNat, Int.reduceNeg, Nat.reduceAdd, Nat.reduceMul, Nat.reduceSub, reduceCtorEq, hR2, hRl, y2, y4, y5, y6, y7, y8, y10, e2, q3, List.length_drop, n1]
   refine ⟨by rw [List.length_replicate]; exact Nat.le_refl _, 2, [some (.l 40)], ?_⟩
   simp (decide := true) (maxSteps := 4000000) -implicitDefEqProofs only [S0, ↓reduceIte, Int.reduceAdd, Int.reduceSub, Int.reduceToNat, Int.reduceNeg, Nat.reduceAdd, Nat.reduceMul, Nat.reduceSub, reduceCtorEq, Option.getD_some, or_true, List.prefix_append]
theorem insEO_ok (l : List RE) (f : RE) (i : Nat) (hl : l.length ≤ 1000000) (hi : i ≤ l.length) : OkO Try.prog 61 [.own (.e 0) 0 3 0 l.length, I i, .own (.e 1) 0 3 0 1] [.row 104 3 none (l.map entC), .row 104 3 none [entC f]] (fun j => match j with
  | 0 => (.own (.e 0) 1 3 0 (l.length + 1), [(1, .row 104 3 none ((l.take i ++ [f] ++ l.drop i).map entC)), (0, .row 104 3 none [entC f])])
  | 1 => (.own (.e 0) 0 3 0 (l.length + 1), [(0, .row 104 3 none ((l.take i ++ [f] ++ l.drop i).map entC)), (0, .row 104 3 none [entC f])])
  | _ => (.own (.e 2) 1 3 0 (l.length + 1), [(0, .gone), (0, .row 104 3 none [entC f]), (1, .row 104 3 none ((l.take i ++ [f] ++ l.drop i).map entC))])) := by
 refine OkO.of_wp (rs := [.tmp 6]) (n := 95) Try.func61 rfl rfl rfl (by simp) fo (by kernel_rfl) ?_
 by_cases h : i = l.length
 ·have h' : (i : Int) = l.length := by omega
  subst h
  simp (decide := true) (maxSteps := 4000000) -implicitDefEqProofs only [S0, ↓reduceIte, Int.reduceAdd, Int.reduceSub, Int.reduceToNat, Int.reduceNeg, Nat.reduceAdd, Nat.reduceMul, Nat.reduceSub, reduceCtorEq, tk1, Nat.le_refl, or_true]
  have e : l.take l.length ++ [f] ++ l.drop l.length = l ++ [f] := by simp
  rw [e]
  refine ⟨by omega, by omega, 0, [], ?_⟩
  simp (decide := true) (maxSteps := 4000000) -implicitDefEqProofs only [S0, ↓reduceIte, Int.reduceAdd, Int.reduceSub, Int.reduceToNat, Int.reduceNeg, Nat.reduceAdd, Nat.reduceMul, Nat.reduceSub, reduceCtorEq, Option.getD_some, List.map_append, Nat.le_refl, or_true]
 ·have h' : ¬ (i : Int) = l.length := by omega
  have hi2 : i < l.length := by omega
  have w1 : IntKind.i64.wrap ((l.length : Int) + 1) = ((l.length + 1 : Nat) : Int) := by rw [wr_i64 (by omega) (by omega)]; omega
  have w1' : IntKind.i64.wrap ((l.length : Int) + ((1 : Nat) : Int)) = ((l.length + 1 : Nat) : Int) := w1
  have w2 : IntKind.i64.wrap (((l.length + 1 : Nat) : Int) - i) = ((l.length + 1 - i : Nat) : Int) := by rw [wr_i64 (by omega) (by omega)]; omega
  have w3 : IntKind.i64.wrap ((i : Int) + ((1 : Nat) : Int)) = ((i + 1 : Nat) : Int) := wr_add1 (n := l.length) (by omega) (by omega)
  have n1 : (l.take i).length = i := by rw [List.length_take]; omega
  have hsum : i + (l.length + 1 - i) = l.length + 1 := by omega
  simp (decide := true) (maxSteps := 4000000) -implicitDefEqProofs only [S0, ↓reduceIte, Int.reduceAdd, Int.reduceSub, Int.reduceToNat, Int.reduceNeg, Nat.reduceAdd, Nat.reduceMul, Nat.reduceSub, reduceCtorEq, h', w1', w2, Nat.sub_zero, or_true, List.length_replicate, hsum]
  refine ⟨by omega, fun cp hc1 hc2 hc3 => ?_⟩
  have hR0 : ∃ R : List (List AV), List.map entC l ++ List.replicate (cp - l.length) [AV.junk, AV.junk, AV.junk] = R := ⟨_, rfl⟩
  obtain ⟨R, hR⟩ := hR0
  have hRl : R.length = cp := by rw [← hR, List.length_append, List.length_map, List.length_replicate]; omega
  have hR1 : List.take i R = List.map entC (l.take i) := by rw [← hR, List.take_append_of_le_length (by rw [List.length_map]; omega), List.map_take]
  have hR2 : List.take (l.length - i) (List.drop i R) = List.map entC (l.drop i) := by
   rw [← hR, List.drop_append_of_le_length (by rw [List.length_map]; omega), List.take_append_of_le_length (by rw [List.length_drop, List.length_map]; exact Nat.le_refl _), ← List.map_drop]
   exact List.take_of_length_le (by simp)
  rw [hR]
  clear hR
  have y6 : i + (l.length - i) ≤ l.length + (cp - l.length) := by omega
  have y9 : i + (l.length + 1 - i) ≤ cp ↔ l.length + 1 ≤ cp := by omega
  have e0 : ∀ X : List (List AV), List.map entC (l.take i) ++ [entC f] ++ (List.map entC (l.drop i) ++ X) = List.map entC (l.take i ++ [f] ++ l.drop i) ++ X := fun X => by
   rw [List.map_append, List.map_append]; simp
  by_cases hr : l.length + 1 ≤ cp
  ·have hr' : ¬ (((l.length + 1 : Nat) : Int) > (cp : Int)) := by omega
   obtain ⟨Y, hY⟩ : ∃ Y, List.take (l.length + 1 - i) (List.drop i R) = Y := ⟨_, rfl⟩
   have hYl : Y.length = l.length + 1 - i := by rw [← hY, List.length_take, List.length_drop, hRl]; omega
   have hY1 : List.take (l.length - i) Y = List.map entC (l.drop i) := by rw [← hY, List.take_take, Nat.min_eq_left (by omega)]; exact hR2
   have t1 : (List.take (i + 1) R).length = i + 1 := by rw [List.length_take, hRl]; omega
   have t0 : List.take i (List.take (i + 1) R) = List.map entC (l.take i) := by rw [List.take_take, Nat.min_eq_left (by omega)]; exact hR1
   have y4 : l.length + 1 - (i + 1) = l.length - i := by omega
   have x3 : List.take (l.length + 1 - i) [entC f] = [entC f] := List.take_of_length_le (by simp; omega)
   have x4 : min 1 (l.length + 1 - i) = 1 := by omega
   have y7 : min (l.length + 1 - i) (l.length - i) = l.length - i := by omega
   have q1 : i + (l.length + 1 - i) ≤ cp := by omega
   have q2 : i + 1 + (l.length - i) = l.length + 1 := by omega
   have hml : (List.map entC (l.drop i)).length = l.length - i := by rw [List.length_map, List.length_drop]
   obtain ⟨T, hT⟩ : ∃ T, List.drop (l.length + 1) R = T := ⟨_, rfl⟩
   have hTl : T.length = cp - (l.length + 1) := by rw [← hT, List.length_drop, hRl]
   have u1 : List.take i (List.take (i + 1) R ++ List.map entC (l.drop i) ++ T) = List.map entC (l.take i) := by
    rw [List.append_assoc, List.take_append_of_le_length (by omega), t0]
   have u2 : List.drop (i + 1) (List.take (i + 1) R ++ List.map entC (l.drop i) ++ T) = List.map entC (l.drop i) ++ T := by
    rw [List.append_assoc, List.drop_left' t1]
   simp (decide := true) (maxSteps := 4000000) -implicitDefEqProofs only [S0, ↓reduceIte, Int.reduceAdd, Int.reduceSub, Int.reduceToNat, Int.reduceNeg, Nat.reduceAdd, Nat.reduceMul, Nat.reduceSub, reduceCtorEq, hr', Nat.sub_zero, or_true, w1', w3, hRl]
   refine ⟨.inr (by omega), by omega, .inl (by omega), ?_⟩
   refine ⟨.bool false, rfl, fun hp' hag w c vs hi hv => ?_, ?_⟩
   ·have g0 := hag (.e 0) (by simp only [stsL, sts, rch, List.map_cons, List.flatMap_cons]; simp [Site.key])
    have g1 := hag (.e 1) (by simp only [stsL, sts, rch, List.map_cons, List.flatMap_cons]; simp [Site.key])
    simp only [RelL] at hv
    obtain ⟨u, us, rfl, hu, v, us2, rfl, hv2, rfl⟩ := hv
    have hrun := ovl_run (P := Try.prog) (tS := 97) (tR := 4) hi (s1 := .e 1) (s2 := .e 0) (by simp) g1 g0 hu (by simp) hv2 (by omega) Try.underlying97 3 (fun w => Try.sizeOf104 w)
    rw [run_callFunc_extern Try.func69 (by kernel_rfl) (by kernel_rfl) (by kernel_rfl) (e := Extern.SlicesOverlaps.overlaps #[97, 97] #[4]) (by kernel_rfl), hrun]
    rfl
   ·have q3 : l.length + 1 ≤ i + 1 + (l.length - i + (cp - (l.length + 1))) := by omega
    simp (decide := true) (maxSteps := 4000000) -implicitDefEqProofs only [S0, ↓reduceIte, Int.reduceAdd, Int.reduceSub, Int.reduceToNat, Int.reduceNeg, Nat.reduceAdd, Nat.reduceMul, Nat.reduceSub, reduceCtorEq, w3, hRl, hY, hYl, hY1, t1, y4, x3, x4, y7, q1, q2, q3, hml, hT, hTl, u1, u2, n1, e0]
    refine ⟨by omega, .inl (by omega), by omega, .inl (by omega), by omega, by omega, .inl (by omega), by omega, 1, [], ?_⟩
    simp (decide := true) (maxSteps := 4000000) -implicitDefEqProofs only [S0, ↓reduceIte, Int.reduceAdd, Int.reduceSub, Int.reduceToNat, Int.reduceNeg, Nat.reduceAdd, Nat.reduceMul, Nat.reduceSub, reduceCtorEq, Option.getD_some, or_true, List.prefix_append]
  ·have hr' : (((l.length + 1 : Nat) : Int) > (cp : Int)) := by omega
   have x2 : List.take i (List.map entC (l.take i) ++ List.replicate (l.length + 1 - i) [S ⟨#[]⟩, S ⟨#[]⟩, .val (.slice none 0 0)]) = List.map entC (l.take i) := List.take_left' (by rw [List.length_map, n1])
   have x3 : List.take (l.length + 1 - i) [entC f] = [entC f] := List.take_of_length_le (by simp; omega)
   have x4 : min 1 (l.length + 1 - i) = 1 := by omega
   have x5 : List.drop (i + 1) (List.map entC (l.take i) ++ List.replicate (l.length + 1 - i) [S ⟨#[]⟩, S ⟨#[]⟩, .val (.slice none 0 0)]) = List.replicate (l.length - i) [S ⟨#[]⟩, S ⟨#[]⟩, .val (.slice none 0 0)] := by
    rw [List.drop_append, List.drop_eq_nil_of_le (by rw [List.length_map, n1]; omega), List.nil_append, List.length_map, n1, List.drop_replicate]
    congr 1
    omega
   have y2 : List.take (i + 1) (List.map entC (l.take i) ++ [entC f] ++ List.replicate (l.length - i) [S ⟨#[]⟩, S ⟨#[]⟩, .val (.slice none 0 0)]) = List.map entC (l.take i) ++ [entC f] := List.take_left' (by simp only [List.length_append, List.length_map, n1, List.length_singleton])
   have y4 : l.length + 1 - (i + 1) = l.length - i := by omega
   have y5 : List.take (l.length - i) (List.map entC (l.drop i)) = List.map entC (l.drop i) := List.take_of_length_le (by simp)
   have y7 : min (l.length - i) (l.length - i) = l.length - i := Nat.min_self _
   have y8 : List.drop (i + 1 + (l.length - i)) (List.map entC (l.take i) ++ [entC f] ++ List.replicate (l.length - i) [S ⟨#[]⟩, S ⟨#[]⟩, .val (.slice none 0 0)]) = [] := List.drop_eq_nil_of_le (by simp only [List.length_append, List.length_map, n1, List.length_singleton, List.length_replicate]; omega)
   simp (decide := true) (maxSteps := 4000000) -implicitDefEqProofs only [S0, ↓reduceIte, Int.reduceAdd, Int.reduceSub, Int.reduceToNat, Int.reduceNeg, Nat.reduceAdd, Nat.reduceMul, Nat.reduceSub, reduceCtorEq, hr', hr, Nat.sub_zero, or_true, w1', w3, hR1, x2, x3, x4, x5, n1, hsum, hRl]
   refine ⟨.inl (by omega), by omega, by omega, by omega, by omega, fun _ => ⟨by omega, by omega, .inl (by omega), by omega, .inl (by omega), ?_⟩⟩
   have e2 : List.map entC (l.take i) ++ [entC f] ++ List.map entC (l.drop i) = List.map entC (l.take i ++ [f] ++ l.drop i) := by
    have := e0 []
    rwa [List.append_nil, List.append_nil] at this
   have q3 : l.length + 1 ≤ i + 1 + (l.length - i) := by omega
   have y10 : i + (l.length - i) ≤ cp := by omega
   simp (decide := true) (maxSteps := 4000000) -implicitDefEqProofs only [S0, ↓reduceIte, Int.reduceAdd, Int.reduceSub, Int.reduceToNat, Int.reduceNeg, Nat.reduceAdd, Nat.reduceMul, Nat.reduceSub, reduceCtorEq, hR2, hRl, y2, y4, y5, y6, y7, y8, y10, e2, q3, List.length_drop, n1]
   refine ⟨by rw [List.length_replicate]; exact Nat.le_refl _, 2, [some (.l 40)], ?_⟩
   simp (decide := true) (maxSteps := 4000000) -implicitDefEqProofs only [S0, ↓reduceIte, Int.reduceAdd, Int.reduceSub, Int.reduceToNat, Int.reduceNeg, Nat.reduceAdd, Nat.reduceMul, Nat.reduceSub, reduceCtorEq, Option.getD_some, or_true, List.prefix_append]
end Go.Proofs.Ytpdenloeacaadaa.E
