/- Walks: slices.Compact of strings. No conditions. -/
import Derived.Test.YtpdenloeacaadaaGSo
namespace Go.Proofs.Ytpdenloeacaadaa.E
open Go
set_option linter.unusedSimpArgs false
set_option linter.unusedVariables false
set_option linter.unusedSectionVars false
set_option maxRecDepth 20000
set_option maxHeartbeats 1000000
/-- What stands at a place is kept if it is not what stands ahead of it. -/
def keepAt (l : List ByteArray) (j : Nat) : Bool := decide (j = 0) || !decide (l[j]? = l[j - 1]?)
def compP (l : List ByteArray) : Nat → List ByteArray
 | 0 => []
 | j + 1 => if keepAt l j then compP l j ++ l[j]?.toList else compP l j
def compL (l : List ByteArray) : List ByteArray := compP l l.length
theorem compP_len (l : List ByteArray) (j : Nat) : (compP l j).length ≤ j := by
 induction j with
 | zero => simp [compP]
 | succ j ih =>
  rw [compP]
  split
  ·rw [List.length_append]
   have : l[j]?.toList.length ≤ 1 := by cases l[j]? <;> simp
   omega
  ·omega
theorem compP_all {l : List ByteArray} {k : Nat} (hk : k ≤ l.length) (h : ∀ i, 0 < i → i < k → l[i]? ≠ l[i - 1]?) : compP l k = l.take k := by
 induction k with
 | zero => simp [compP]
 | succ k ih =>
  have := ih (by omega) fun i h1 h2 => h i h1 (by omega)
  obtain ⟨x, hx⟩ := lt_get (l := l) (i := k) (by omega)
  have hkeep : keepAt l k = true := by
   unfold keepAt
   by_cases h0 : k = 0
   ·simp [h0]
   ·have := h k (by omega) (by omega)
    simp [this]
  rw [compP, hkeep, if_pos rfl, this, take_get hx, hx]
  rfl
abbrev strC (s : ByteArray) : List AV := [S s]
/-! What Compact leaves. -/
theorem compP_mem {l : List ByteArray} : ∀ {j : Nat}, j ≤ l.length → ∀ x, x ∈ compP l j ↔ x ∈ l.take j := by
 intro j
 induction j with
 | zero => intro _ x; simp [compP]
 | succ j ih =>
  intro hj x
  obtain ⟨y, hy⟩ := lt_get (l := l) (i := j) (by omega)
  rw [compP, take_get hy, hy]
  have ih := ih (by omega)
  cases hk : keepAt l j with
  | true => rw [if_pos rfl, List.mem_append, List.mem_append, ih]; simp
  | false =>
   rw [if_neg (by simp), ih, List.mem_append, List.mem_singleton]
   unfold keepAt at hk
   rw [Bool.or_eq_false_iff, Bool.not_eq_false', decide_eq_true_eq, decide_eq_false_iff_not] at hk
   refine ⟨.inl, fun h => h.elim id fun e => ?_⟩
   have hk2 : l[j - 1]? = some y := by rw [← hk.2, hy]
   rw [e]
   have : (l.take j)[j - 1]? = some y := by rw [List.getElem?_take_of_lt (by omega), hk2]
   exact List.mem_of_getElem? this
theorem compL_mem {l : List ByteArray} {x : ByteArray} : x ∈ compL l ↔ x ∈ l := by
 unfold compL
 rw [compP_mem (Nat.le_refl _), List.take_of_length_le (Nat.le_refl _)]
theorem sLt_le_trans {a b c : ByteArray} (h : sLt b a = false) (k : sLt b c = true) : sLt a c = true := by
 rcases sLt_tri a b with h1 | rfl | h1
 ·exact sLt_trans h1 k
 ·exact k
 ·rw [h1] at h; cases h
theorem compP_strict {l : List ByteArray} (h : l.Pairwise fun x y => sLt y x = false) : ∀ {j : Nat}, j ≤ l.length → (compP l j).Pairwise fun x y => sLt x y = true := by
 intro j
 induction j with
 | zero => intro _; simp [compP]
 | succ j ih =>
  intro hj
  obtain ⟨y, hy⟩ := lt_get (l := l) (i := j) (by omega)
  have ih := ih (by omega)
  rw [compP, hy]
  cases hk : keepAt l j with
  | true =>
   rw [if_pos rfl, List.pairwise_append]
   refine ⟨ih, by simp, ?_⟩
   intro x hx z hz
   simp only [Option.toList_some, List.mem_singleton] at hz
   subst hz
   rw [compP_mem (by omega)] at hx
   unfold keepAt at hk
   rw [Bool.or_eq_true, Bool.not_eq_true', decide_eq_true_eq, decide_eq_false_iff_not] at hk
   rcases hk with h0 | hk
   ·subst h0; simp at hx
   ·obtain ⟨w, hw⟩ := lt_get (l := l) (i := j - 1) (by omega)
    have hpw := List.pairwise_iff_getElem.1 h
    obtain ⟨i, hi⟩ := List.getElem?_of_mem hx
    have hij : i < j := by
     have := (List.getElem?_eq_some_iff.1 hi).1
     rw [List.length_take] at this; omega
    rw [List.getElem?_take_of_lt hij] at hi
    obtain ⟨gi1, gi2⟩ := List.getElem?_eq_some_iff.1 hi
    obtain ⟨gw1, gw2⟩ := List.getElem?_eq_some_iff.1 hw
    obtain ⟨gy1, gy2⟩ := List.getElem?_eq_some_iff.1 hy
    have wy : sLt w z = true := by
     have h1 := hpw (j - 1) j gw1 gy1 (by omega)
     rw [gw2, gy2] at h1
     rcases sLt_tri w z with h2 | rfl | h2
     ·exact h2
     ·exact absurd (by rw [hy, hw]) hk
     ·rw [h1] at h2; cases h2
    by_cases hij2 : i = j - 1
    ·subst hij2; rw [hi] at hw; cases hw; exact wy
    ·have h1 := hpw i (j - 1) gi1 gw1 (by omega)
     rw [gi2, gw2] at h1
     exact sLt_le_trans h1 wy
  | false => rw [if_neg (by simp)]; exact ih
theorem compL_strict {l : List ByteArray} (h : l.Pairwise fun x y => sLt y x = false) : (compL l).Pairwise fun x y => sLt x y = true := compP_strict h (Nat.le_refl _)
/-- Lists in strict order with the same members are the same. -/
theorem strict_ext {l m : List ByteArray} (hl : l.Pairwise fun x y => sLt x y = true) (hm : m.Pairwise fun x y => sLt x y = true) (h : ∀ x, x ∈ l ↔ x ∈ m) : l = m := by
 induction l generalizing m with
 | nil =>
  cases m with
  | nil => rfl
  | cons y m => exact absurd ((h y).2 (by simp)) (by simp)
 | cons x l ih =>
  cases m with
  | nil => exact absurd ((h x).1 (by simp)) (by simp)
  | cons y m =>
   rw [List.pairwise_cons] at hl hm
   have e : x = y := by
    have h1 := (h x).1 (by simp)
    have h2 := (h y).2 (by simp)
    rcases List.mem_cons.1 h1 with e | h1
    ·exact e
    ·rcases List.mem_cons.1 h2 with e | h2
     ·exact e.symm
     ·have a := hl.1 y h2
      have b := hm.1 x h1
      rw [sLt_asymm a] at b; cases b
   subst e
   congr 1
   refine ih hl.2 hm.2 fun z => ?_
   have hz := h z
   rw [List.mem_cons, List.mem_cons] at hz
   constructor
   ·intro hzl
    rcases hz.1 (.inr hzl) with e | hzm
    ·subst e; have := hl.1 z hzl; rw [sLt_irrefl] at this; cases this
    ·exact hzm
   ·intro hzm
    rcases hz.2 (.inr hzm) with e | hzl
    ·subst e; have := hm.1 z hzm; rw [sLt_irrefl] at this; cases this
    ·exact hzl
end Go.Proofs.Ytpdenloeacaadaa.E
