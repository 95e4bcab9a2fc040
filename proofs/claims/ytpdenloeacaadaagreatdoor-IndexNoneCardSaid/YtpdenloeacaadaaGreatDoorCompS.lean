/- Walks: slices.Compact of strings. No conditions. -/
import Derived.Test.YtpdenloeacaadaaGreatDoorGSo
namespace Go.Proofs.YtpdenloeacaadaaGreatDoor.E
open Go
set_option linter.unusedSimpArgs false
set_option linter.unusedVariables false
set_option linter.unusedSectionVars false
set_option maxRecDepth 20000
set_option maxHeartbeats 1000000
/-- What stands at a place is kept if it is not what stands ahead of it. -/
def keepAt (l : List ByteArray) (j : Nat) : Bool := decide (j = 0) || !decide (l[j]? = l[j - 1]?)
def compP (l : List ByteArray) : Nat → List ByteArray
 | 0 => []
 | j + 1 => if keepAt l j then compP l j ++ l[j]?.toList else compP l j
def compL (l : List ByteArray) : List ByteArray := compP l l.length
theorem compP_len (l : List ByteArray) (j : Nat) : (compP l j).length ≤ j := by
 induction j with
 | zero => simp [compP]
 | succ j ih =>
  rw [compP]
  split
  ·rw [List.length_append]
   have : l[j]?.toList.length ≤ 1 := by cases l[j]? <;> simp
   omega
  ·omega
theorem compP_all {l : List ByteArray} {k : Nat} (hk : k ≤ l.length) (h : ∀ i, 0 < i → i < k → l[i]? ≠ l[i - 1]?) : compP l k = l.take k := by
 induction k with
 | zero => simp [compP]
 | succ k ih =>
  have := ih (by omega) fun i h1 h2 => h i h1 (by omega)
  obtain ⟨x, hx⟩ := lt_get (l := l) (i := k) (by omega)
  have hkeep : keepAt l k = true := by
   unfold keepAt
   by_cases h0 : k = 0
   ·simp [h0]
   ·have := h k (by omega) (by omega)
    simp [this]
  rw [compP, hkeep, if_pos rfl, this, take_get hx, hx]
  rfl
abbrev strC (s : ByteArray) : List AV := [S s]
theorem compS_ok (l : List ByteArray) (hl : l.length ≤ 9000000000000) : OkH Tryz.prog 35 [.own (.e 0) 0 1 0 l.length] [.row 9 1 none (l.map fun s => [S s])] (.own (.e 0) 0 1 0 (compL l).length) [(0, .row 9 1 none ((compL l).map (fun s => [S s]) ++ List.replicate (l.length - (compL l).length) [S ⟨#[]⟩]))] := by
 refine OkH.of_wp (rs := [.tmp 2]) (n := 61) [] Tryz.func35 rfl rfl rfl (by simp) fo (by kernel_rfl) ?_
 by_cases hs : (l.length : Int) < 2
 ·have e : compL l = l := by
   unfold compL
   rw [compP_all (Nat.le_refl _) (fun i h1 h2 => by omega), List.take_of_length_le (Nat.le_refl _)]
  rw [e]
  simp (decide := true) (maxSteps := 4000000) -implicitDefEqProofs only [S0, ↓reduceIte, Int.reduceAdd, Int.reduceSub, Int.reduceToNat, Int.reduceNeg, Nat.reduceAdd, Nat.reduceMul, Nat.reduceSub, reduceCtorEq, hs, Nat.sub_self, List.replicate_zero, List.append_nil, Option.getD_some]
 ·simp (decide := true) (maxSteps := 4000000) -implicitDefEqProofs only [S0, ↓reduceIte, Int.reduceAdd, Int.reduceSub, Int.reduceToNat, Int.reduceNeg, Nat.reduceAdd, Nat.reduceMul, Nat.reduceSub, reduceCtorEq, hs]
  refine ALoop.st [0, 3] (fun (k : Nat) => [.own (.e 0) 0 1 0 l.length, I k]) (fun _ => [(.e 0, 0, .row 9 1 none (l.map fun s => [S s]))]) (fun k => 0 < k ∧ k ≤ l.length ∧ ∀ i, 0 < i → i < k → l[i]? ≠ l[i - 1]?) (fun k => l.length - k) [] 1 (by simp (decide := true) (maxSteps := 4000000) -implicitDefEqProofs only [S0, ↓reduceIte, Int.reduceAdd, Int.reduceSub, Int.reduceToNat, Int.reduceNeg, Nat.reduceAdd, Nat.reduceMul, Nat.reduceSub, reduceCtorEq]; try rfl) (by simp (decide := true) (maxSteps := 4000000) -implicitDefEqProofs only [S0, ↓reduceIte, Int.reduceAdd, Int.reduceSub, Int.reduceToNat, Int.reduceNeg, Nat.reduceAdd, Nat.reduceMul, Nat.reduceSub, reduceCtorEq]) ⟨by omega, by omega, fun i h1 h2 => by omega⟩ ?_
  rintro k ⟨hk0, hk, hne⟩
  have cp := compP_all hk hne
  by_cases h : (k : Int) < l.length
  ·obtain ⟨x, hx⟩ := get_lt h
   obtain ⟨y, hy⟩ := lt_get (l := l) (i := k - 1) (by omega)
   have hw := wr_add1 h (by omega)
   have e1 : IntKind.i64.wrap ((k : Int) - 1) = ((k - 1 : Nat) : Int) := by rw [wr_i64 (by omega) (by omega)]; omega
   by_cases he : x = y
   ·have he' : decide (x = y) = true := decide_eq_true he
    simp (decide := true) (maxSteps := 4000000) -implicitDefEqProofs only [S0, ↓reduceIte, Int.reduceAdd, Int.reduceSub, Int.reduceToNat, Int.reduceNeg, Nat.reduceAdd, Nat.reduceMul, Nat.reduceSub, reduceCtorEq, h, hx, hy, e1, show ((k - 1 : Nat) : Int) < l.length by omega, toList_beq, he']
    refine ⟨by omega, by omega, ?_⟩
    have nk : compP l (k + 1) = l.take k := by
     have : keepAt l k = false := by unfold keepAt; rw [hx, hy, he]; simp; omega
     rw [compP, this, if_neg (by simp), cp]
    have lk : (l.take k).length = k := by simp; omega
    refine ALoop.st [0, 3, 4, 5] (fun (m : Nat) => [.own (.e 0) 0 1 0 l.length, I (compP l (k + m)).length, .own (.e 0) 0 1 k (l.length - k), I m]) (fun m => [(.e 0, 0, .row 9 1 none ((compP l (k + m) ++ l.drop (compP l (k + m)).length).map fun s => [S s]))]) (fun m => 0 < m ∧ k + m ≤ l.length ∧ (compP l (k + m)).length < k + m) (fun m => l.length - m) [] 1
     (by rw [nk, lk]; simp (decide := true) (maxSteps := 4000000) -implicitDefEqProofs only [S0, ↓reduceIte, Int.reduceAdd, Int.reduceSub, Int.reduceToNat, Int.reduceNeg, Nat.reduceAdd, Nat.reduceMul, Nat.reduceSub, reduceCtorEq]; try rfl) (by rw [nk, lk, List.take_append_drop]; simp (decide := true) (maxSteps := 4000000) -implicitDefEqProofs only [S0, ↓reduceIte, Int.reduceAdd, Int.reduceSub, Int.reduceToNat, Int.reduceNeg, Nat.reduceAdd, Nat.reduceMul, Nat.reduceSub, reduceCtorEq]) ⟨by omega, by omega, by rw [nk, lk]; omega⟩ ?_
    rintro m ⟨hm0, hm, hml⟩
    by_cases h2 : (m : Int) < ((l.length - k : Nat) : Int)
    ·obtain ⟨u, hu⟩ := lt_get (l := l) (i := k + m) (by omega)
     obtain ⟨v, hv⟩ := lt_get (l := l) (i := k + m - 1) (by omega)
     have sn : compP l (k + m + 1) = if keepAt l (k + m) then compP l (k + m) ++ [u] else compP l (k + m) := by rw [compP, hu]; rfl
     generalize hF : compP l (k + m) = F at *
     have ru : (F ++ l.drop F.length)[k + m]? = some u := by
      rw [List.getElem?_append_right (by omega), List.getElem?_drop, ← hu]
      congr 1
      omega
     have rv : (F ++ l.drop F.length)[k + (m - 1)]? = some v := by
      rw [List.getElem?_append_right (by omega), List.getElem?_drop, ← hv]
      congr 1
      omega
     have hwm := wr_add1 h2 (by omega)
     have e2 : IntKind.i64.wrap ((m : Int) - 1) = ((m - 1 : Nat) : Int) := by rw [wr_i64 (by omega) (by omega)]; omega
     by_cases hq : u = v
     ·have hq' : decide (u = v) = true := decide_eq_true hq
      have kp : keepAt l (k + m) = false := by unfold keepAt; rw [hu, hv, hq]; simp; omega
      rw [kp, if_neg (by simp)] at sn
      simp (decide := true) (maxSteps := 4000000) -implicitDefEqProofs only [S0, ↓reduceIte, Int.reduceAdd, Int.reduceSub, Int.reduceToNat, Int.reduceNeg, Nat.reduceAdd, Nat.reduceMul, Nat.reduceSub, reduceCtorEq, h2, ru, rv, e2, show ((m - 1 : Nat) : Int) < ((l.length - k : Nat) : Int) by omega, toList_beq, hq']
      exact Nxt.mk [] (m + 1) (by rw [← Nat.add_assoc, sn]; simp (decide := true) (maxSteps := 4000000) -implicitDefEqProofs only [S0, ↓reduceIte, Int.reduceAdd, Int.reduceSub, Int.reduceToNat, Int.reduceNeg, Nat.reduceAdd, Nat.reduceMul, Nat.reduceSub, reduceCtorEq, hwm]) (by rw [← Nat.add_assoc, sn]; simp (decide := true) (maxSteps := 4000000) -implicitDefEqProofs only [S0, ↓reduceIte, Int.reduceAdd, Int.reduceSub, Int.reduceToNat, Int.reduceNeg, Nat.reduceAdd, Nat.reduceMul, Nat.reduceSub, reduceCtorEq]) ⟨by omega, by omega, by rw [← Nat.add_assoc, sn]; omega⟩ (by omega)
     ·have hq' : decide (u = v) = false := decide_eq_false hq
      have kp : keepAt l (k + m) = true := by unfold keepAt; rw [hu, hv]; simp [hq]
      rw [kp, if_pos rfl] at sn
      have hwF := wr_add1 (n := l.length) (i := F.length) (by omega) (by omega)
      obtain ⟨z, hz⟩ := lt_get (l := l) (i := F.length) (by omega)
      have rz : (F ++ l.drop F.length)[F.length]? = some z := by
       rw [List.getElem?_append_right (Nat.le_refl _), List.getElem?_drop, ← hz]
       congr 1
       omega
      have st : (List.map (fun s => [S s]) (F ++ l.drop F.length)).set F.length [S u] = List.map (fun s => [S s]) (F ++ [u] ++ l.drop (F ++ [u]).length) := by
       rw [← List.map_set (f := fun s => [S s]) (a := u)]
       congr 1
       rw [List.set_append_right _ _ (Nat.le_refl _), Nat.sub_self, List.length_append, List.length_singleton, List.append_assoc]
       congr 1
       rw [List.drop_eq_getElem_cons (show F.length < l.length by omega)]
       rfl
      simp (decide := true) (maxSteps := 4000000) -implicitDefEqProofs only [S0, ↓reduceIte, Int.reduceAdd, Int.reduceSub, Int.reduceToNat, Int.reduceNeg, Nat.reduceAdd, Nat.reduceMul, Nat.reduceSub, reduceCtorEq, h2, ru, rv, e2, show ((m - 1 : Nat) : Int) < ((l.length - k : Nat) : Int) by omega, toList_beq, hq', rz, hwF]
      refine ⟨by omega, ?_⟩
      exact Nxt.mk [] (m + 1) (by rw [← Nat.add_assoc, sn, List.length_append, List.length_singleton]; simp (decide := true) (maxSteps := 4000000) -implicitDefEqProofs only [S0, ↓reduceIte, Int.reduceAdd, Int.reduceSub, Int.reduceToNat, Int.reduceNeg, Nat.reduceAdd, Nat.reduceMul, Nat.reduceSub, reduceCtorEq, hwm]) (by rw [← Nat.add_assoc, sn, ← st]; simp (decide := true) (maxSteps := 4000000) -implicitDefEqProofs only [S0, ↓reduceIte, Int.reduceAdd, Int.reduceSub, Int.reduceToNat, Int.reduceNeg, Nat.reduceAdd, Nat.reduceMul, Nat.reduceSub, reduceCtorEq]) ⟨by omega, by omega, by rw [← Nat.add_assoc, sn, List.length_append, List.length_singleton]; omega⟩ (by omega)
    ·have hjn : k + m = l.length := by omega
     have ec : compP l (k + m) = compL l := by unfold compL; rw [hjn]
     rw [ec] at hml ⊢
     generalize compL l = F at *
     have e1 : List.take F.length (List.map (fun s => [S s]) (F ++ List.drop F.length l)) = List.map (fun s => [S s]) F := by
      rw [← List.map_take, List.take_left]
     have e2 : List.drop (F.length + (l.length - F.length)) (List.map (fun s => [S s]) (F ++ List.drop F.length l)) = [] := by
      rw [List.drop_eq_nil_of_le]; simp
     simp (decide := true) (maxSteps := 4000000) -implicitDefEqProofs only [S0, ↓reduceIte, Int.reduceAdd, Int.reduceSub, Int.reduceToNat, Int.reduceNeg, Nat.reduceAdd, Nat.reduceMul, Nat.reduceSub, reduceCtorEq, h2, Option.getD_some, e1, e2, List.append_nil]
     exact ⟨by omega, .inl (by omega), by simp, .inl (by omega), rfl⟩
   ·have he' : decide (x = y) = false := decide_eq_false he
    simp (decide := true) (maxSteps := 4000000) -implicitDefEqProofs only [S0, ↓reduceIte, Int.reduceAdd, Int.reduceSub, Int.reduceToNat, Int.reduceNeg, Nat.reduceAdd, Nat.reduceMul, Nat.reduceSub, reduceCtorEq, h, hx, hy, e1, show ((k - 1 : Nat) : Int) < l.length by omega, toList_beq, he']
    exact Nxt.mk [] (k + 1) (by simp (decide := true) (maxSteps := 4000000) -implicitDefEqProofs only [S0, ↓reduceIte, Int.reduceAdd, Int.reduceSub, Int.reduceToNat, Int.reduceNeg, Nat.reduceAdd, Nat.reduceMul, Nat.reduceSub, reduceCtorEq, hw]) (by simp (decide := true) (maxSteps := 4000000) -implicitDefEqProofs only [S0, ↓reduceIte, Int.reduceAdd, Int.reduceSub, Int.reduceToNat, Int.reduceNeg, Nat.reduceAdd, Nat.reduceMul, Nat.reduceSub, reduceCtorEq]) ⟨by omega, by omega, fun i h1 h2 => by
     by_cases hik : i = k
     ·subst hik; rw [hx, hy]; simpa using he
     ·exact hne i h1 (by omega)⟩ (by omega)
  ·obtain rfl : k = l.length := by omega
   have e : compL l = l := by
    unfold compL
    rw [cp, List.take_of_length_le (Nat.le_refl _)]
   rw [e]
   simp (decide := true) (maxSteps := 4000000) -implicitDefEqProofs only [S0, ↓reduceIte, Int.reduceAdd, Int.reduceSub, Int.reduceToNat, Int.reduceNeg, Nat.reduceAdd, Nat.reduceMul, Nat.reduceSub, reduceCtorEq, h, Nat.sub_self, List.replicate_zero, List.append_nil, Option.getD_some]
/-! What Compact leaves. -/
theorem compP_mem {l : List ByteArray} : ∀ {j : Nat}, j ≤ l.length → ∀ x, x ∈ compP l j ↔ x ∈ l.take j := by
 intro j
 induction j with
 | zero => intro _ x; simp [compP]
 | succ j ih =>
  intro hj x
  obtain ⟨y, hy⟩ := lt_get (l := l) (i := j) (by omega)
  rw [compP, take_get hy, hy]
  have ih := ih (by omega)
  cases hk : keepAt l j with
  | true => rw [if_pos rfl, List.mem_append, List.mem_append, ih]; simp
  | false =>
   rw [if_neg (by simp), ih, List.mem_append, List.mem_singleton]
   unfold keepAt at hk
   rw [Bool.or_eq_false_iff, Bool.not_eq_false', decide_eq_true_eq, decide_eq_false_iff_not] at hk
   refine ⟨.inl, fun h => h.elim id fun e => ?_⟩
   have hk2 : l[j - 1]? = some y := by rw [← hk.2, hy]
   rw [e]
   have : (l.take j)[j - 1]? = some y := by rw [List.getElem?_take_of_lt (by omega), hk2]
   exact List.mem_of_getElem? this
theorem compL_mem {l : List ByteArray} {x : ByteArray} : x ∈ compL l ↔ x ∈ l := by
 unfold compL
 rw [compP_mem (Nat.le_refl _), List.take_of_length_le (Nat.le_refl _)]
theorem sLt_le_trans {a b c : ByteArray} (h : sLt b a = false) (k : sLt b c = true) : sLt a c = true := by
 rcases sLt_tri a b with h1 | rfl | h1
 ·exact sLt_trans h1 k
 ·exact k
 ·rw [h1] at h; cases h
theorem compP_strict {l : List ByteArray} (h : l.Pairwise fun x y => sLt y x = false) : ∀ {j : Nat}, j ≤ l.length → (compP l j).Pairwise fun x y => sLt x y = true := by
 intro j
 induction j with
 | zero => intro _; simp [compP]
 | succ j ih =>
  intro hj
  obtain ⟨y, hy⟩ := lt_get (l := l) (i := j) (by omega)
  have ih := ih (by omega)
  rw [compP, hy]
  cases hk : keepAt l j with
  | true =>
   rw [if_pos rfl, List.pairwise_append]
   refine ⟨ih, by simp, ?_⟩
   intro x hx z hz
   simp only [Option.toList_some, List.mem_singleton] at hz
   subst hz
   rw [compP_mem (by omega)] at hx
   unfold keepAt at hk
   rw [Bool.or_eq_true, Bool.not_eq_true', decide_eq_true_eq, decide_eq_false_iff_not] at hk
   rcases hk with h0 | hk
   ·subst h0; simp at hx
   ·obtain ⟨w, hw⟩ := lt_get (l := l) (i := j - 1) (by omega)
    have hpw := List.pairwise_iff_getElem.1 h
    obtain ⟨i, hi⟩ := List.getElem?_of_mem hx
    have hij : i < j := by
     have := (List.getElem?_eq_some_iff.1 hi).1
     rw [List.length_take] at this; omega
    rw [List.getElem?_take_of_lt hij] at hi
    obtain ⟨gi1, gi2⟩ := List.getElem?_eq_some_iff.1 hi
    obtain ⟨gw1, gw2⟩ := List.getElem?_eq_some_iff.1 hw
    obtain ⟨gy1, gy2⟩ := List.getElem?_eq_some_iff.1 hy
    have wy : sLt w z = true := by
     have h1 := hpw (j - 1) j gw1 gy1 (by omega)
     rw [gw2, gy2] at h1
     rcases sLt_tri w z with h2 | rfl | h2
     ·exact h2
     ·exact absurd (by rw [hy, hw]) hk
     ·rw [h1] at h2; cases h2
    by_cases hij2 : i = j - 1
    ·subst hij2; rw [hi] at hw; cases hw; exact wy
    ·have h1 := hpw i (j - 1) gi1 gw1 (by omega)
     rw [gi2, gw2] at h1
     exact sLt_le_trans h1 wy
  | false => rw [if_neg (by simp)]; exact ih
theorem compL_strict {l : List ByteArray} (h : l.Pairwise fun x y => sLt y x = false) : (compL l).Pairwise fun x y => sLt x y = true := compP_strict h (Nat.le_refl _)
/-- Lists in strict order with the same members are the same. -/
theorem strict_ext {l m : List ByteArray} (hl : l.Pairwise fun x y => sLt x y = true) (hm : m.Pairwise fun x y => sLt x y = true) (h : ∀ x, x ∈ l ↔ x ∈ m) : l = m := by
 induction l generalizing m with
 | nil =>
  cases m with
  | nil => rfl
  | cons y m => exact absurd ((h y).2 (by simp)) (by simp)
 | cons x l ih =>
  cases m with
  | nil => exact absurd ((h x).1 (by simp)) (by simp)
  | cons y m =>
   rw [List.pairwise_cons] at hl hm
   have e : x = y := by
    have h1 := (h x).1 (by simp)
    have h2 := (h y).2 (by simp)
    rcases List.mem_cons.1 h1 with e | h1
    ·exact e
    ·rcases List.mem_cons.1 h2 with e | h2
     ·exact e.symm
     ·have a := hl.1 y h2
      have b := hm.1 x h1
      rw [sLt_asymm a] at b; cases b
   subst e
   congr 1
   refine ih hl.2 hm.2 fun z => ?_
   have hz := h z
   rw [List.mem_cons, List.mem_cons] at hz
   constructor
   ·intro hzl
    rcases hz.1 (.inr hzl) with e | hzm
    ·subst e; have := hl.1 z hzl; rw [sLt_irrefl] at this; cases this
    ·exact hzm
   ·intro hzm
    rcases hz.2 (.inr hzm) with e | hzl
    ·subst e; have := hm.1 z hzm; rw [sLt_irrefl] at this; cases this
    ·exact hzl
end Go.Proofs.YtpdenloeacaadaaGreatDoor.E
