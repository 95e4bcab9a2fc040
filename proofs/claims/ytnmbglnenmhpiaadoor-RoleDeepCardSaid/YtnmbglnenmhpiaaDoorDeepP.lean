/- Plain law: how deep a role is. No conditions. -/
import Derived.Test.YtnmbglnenmhpiaaDoorRoleP
import Derived.Lib.TrailingZeros
namespace Go.Proofs.YtnmbglnenmhpiaaDoor.E
open Go
set_option linter.unusedSimpArgs false
set_option linter.unusedVariables false
set_option linter.unusedSectionVars false
set_option maxRecDepth 20000
/-- One more than the deepest of those that come with it. -/
def deepOf : List Nat → Nat → Nat
  | [], _ => 0
  | d :: ds, m => max (if m.testBit 0 then 1 + d else 0) (deepOf ds (m / 2))
def deeps : List Nat → List Nat → List Nat
  | ds, [] => ds
  | ds, m :: l => deeps (ds ++ [deepOf ds m]) l
theorem deepOf_le : ∀ {ds : List Nat} {m c : Nat}, deepOf ds m ≤ c ↔ ∀ j, j < ds.length → m.testBit j = true → 1 + ds.getD j 0 ≤ c
  | [], m, c => by simp [deepOf]
  | d :: ds, m, c => by
    rw [deepOf, Nat.max_le, deepOf_le]
    constructor
    · rintro ⟨h1, h2⟩ j hj hb
      cases j with
      | zero => rw [if_pos hb] at h1; simpa using h1
      | succ j => simpa using h2 j (by simpa using hj) (by rwa [Nat.testBit_succ] at hb)
    · intro h
      refine ⟨?_, fun j hj hb => ?_⟩
      · split
        · rename_i hb; simpa using h 0 (by simp) hb
        · omega
      · simpa using h (j + 1) (by simpa using hj) (by rwa [Nat.testBit_succ])
theorem eq_of_le_iff {a b : Nat} (h : ∀ c, a ≤ c ↔ b ≤ c) : a = b := Nat.le_antisymm ((h b).2 (Nat.le_refl b)) ((h a).1 (Nat.le_refl a))
theorem deepOf_zero (ds : List Nat) : deepOf ds 0 = 0 := by
  have := (deepOf_le (ds := ds) (m := 0) (c := 0)).2 (fun j _ hb => by simp at hb)
  omega
set_option maxRecDepth 100000 in
theorem low_bit : ∀ m, m < 256 → m ≠ 0 → Lib.ctz 64 m < 8 ∧ m.testBit (Lib.ctz 64 m) = true ∧ (∀ j, j < 8 → (m &&& (m - 1)).testBit j = (m.testBit j && decide (j ≠ Lib.ctz 64 m))) ∧ m &&& (m - 1) < m := by decide +kernel
/-- The lowest one taken out. -/
theorem deepOf_low {ds : List Nat} {m : Nat} (hl : ds.length ≤ 8) (hm : m < 256) (h0 : m ≠ 0) (hk : Lib.ctz 64 m < ds.length) : deepOf ds m = max (1 + ds.getD (Lib.ctz 64 m) 0) (deepOf ds (m &&& (m - 1))) := by
  obtain ⟨h1, h2, h3, h4⟩ := low_bit m hm h0
  refine eq_of_le_iff fun c => ?_
  rw [Nat.max_le, deepOf_le, deepOf_le]
  constructor
  · intro h
    refine ⟨h _ hk h2, fun j hj hb => h j hj ?_⟩
    rw [h3 j (by omega), Bool.and_eq_true] at hb
    exact hb.1
  · rintro ⟨h5, h6⟩ j hj hb
    by_cases hjk : j = Lib.ctz 64 m
    · rw [hjk]; exact h5
    · exact h6 j hj (by rw [h3 j (by omega), hb, decide_eq_true hjk]; rfl)
theorem deeps_length : ∀ (ds l : List Nat), (deeps ds l).length = ds.length + l.length
  | ds, [] => by simp [deeps]
  | ds, m :: l => by rw [deeps, deeps_length]; simp; omega
theorem deeps_prefix : ∀ (ds l : List Nat), ∃ r, deeps ds l = ds ++ r
  | ds, [] => ⟨[], by simp [deeps]⟩
  | ds, m :: l => by
    obtain ⟨r, h⟩ := deeps_prefix (ds ++ [deepOf ds m]) l
    exact ⟨deepOf ds m :: r, by rw [deeps, h]; simp⟩
theorem deeps_app : ∀ (ds a b : List Nat), deeps ds (a ++ b) = deeps (deeps ds a) b
  | ds, [], b => rfl
  | ds, m :: a, b => by rw [List.cons_append, deeps, deeps, deeps_app]
def deepN (up : List Nat) (i : Nat) : Nat := (deeps [] up).getD i 0
/-- What of a list comes first says how deep the first ones are. -/
theorem deepN_take {up : List Nat} {k i : Nat} (h : i < k) (hk : k ≤ up.length) : (deeps [] (up.take k)).getD i 0 = deepN up i := by
  unfold deepN
  rw [show deeps [] up = deeps (deeps [] (up.take k)) (up.drop k) by rw [← deeps_app, List.take_append_drop]]
  obtain ⟨r, e⟩ := deeps_prefix (deeps [] (up.take k)) (up.drop k)
  rw [e]
  have hl := deeps_length [] (up.take k)
  rw [List.length_take, Nat.min_eq_left hk] at hl
  simp only [List.getD]
  rw [List.getElem?_append_left (by simp at hl; omega)]
theorem deepN_eq {up : List Nat} {k : Nat} (hk : k < up.length) : deepN up k = deepOf (deeps [] (up.take k)) (up.getD k 0) := by
  rw [← deepN_take (k := k + 1) (by omega) hk, List.take_add_one, deeps_app]
  have hl := deeps_length [] (up.take k)
  rw [List.length_take, Nat.min_eq_left (by omega)] at hl
  simp only [List.length_nil, Nat.zero_add] at hl
  simp [hk, deeps, List.getD, List.getElem?_append_right, hl]
/-- How deep one is, told by those that come with it at once. -/
theorem deepN_le {up : List Nat} {k c : Nat} (hk : k < up.length) : deepN up k ≤ c ↔ ∀ j, j < k → (up.getD k 0).testBit j = true → 1 + deepN up j ≤ c := by
  have hl := deeps_length [] (up.take k)
  rw [List.length_take, Nat.min_eq_left (by omega)] at hl
  simp only [List.length_nil, Nat.zero_add] at hl
  rw [deepN_eq hk, deepOf_le, hl]
  exact ⟨fun h j hj hb => by rw [← deepN_take hj (by omega)]; exact h j hj hb, fun h j hj hb => by rw [deepN_take hj (by omega)]; exact h j hj hb⟩
theorem deepN_lt {up : List Nat} {k j : Nat} (hk : k < up.length) (hj : j < k) (hb : (up.getD k 0).testBit j = true) : deepN up j < deepN up k := by
  have := (deepN_le hk).1 (Nat.le_refl _) j hj hb
  omega
theorem deepN_idx {up : List Nat} : ∀ {k : Nat}, k < up.length → deepN up k ≤ k := by
  intro k
  induction k using Nat.strongRecOn with
  | _ k ih => exact fun hk => (deepN_le hk).2 fun j hj _ => by have := ih j hj (by omega); omega
/-- Who comes with a role is less deep. -/
theorem deepN_has {up : List Nat} (hu : ∀ i, up.getD i 0 < 2 ^ i) : ∀ {i j : Nat}, i < up.length → (allN up i).testBit j = true → i ≠ j → deepN up j < deepN up i := by
  intro i
  induction i using Nat.strongRecOn with
  | _ i ih =>
    intro j hi hb hij
    rcases (allN_bits (hu i) j).1 hb with h | ⟨k, h1, h2, h3⟩
    · exact absurd h.symm hij
    · have h4 := deepN_lt hi h1 h2
      by_cases hkj : k = j
      · rw [← hkj]; exact h4
      · exact Nat.lt_trans (ih k h1 (by omega) h3 hkj) h4
/-- There is one of which it is just one more. -/
theorem deepN_next {up : List Nat} {k d : Nat} (hk : k < up.length) (h : deepN up k = d + 1) : ∃ j, j < k ∧ (up.getD k 0).testBit j = true ∧ deepN up j = d := by
  by_cases hn : ∃ j, j < k ∧ (up.getD k 0).testBit j = true ∧ deepN up j = d
  · exact hn
  · exfalso
    have : deepN up k ≤ d := (deepN_le hk).2 fun j hj hb => by
      have h1 := deepN_lt hk hj hb
      have h2 : deepN up j ≠ d := fun e => hn ⟨j, hj, hb, e⟩
      omega
    omega
theorem deepN_zero {up : List Nat} {k : Nat} (hk : k < up.length) (hu : up.getD k 0 < 2 ^ k) (h : deepN up k = 0) : up.getD k 0 = 0 := by
  apply Nat.eq_of_testBit_eq
  intro j
  rw [Nat.zero_testBit]
  cases hb : (up.getD k 0).testBit j with
  | false => rfl
  | true =>
    have := deepN_lt hk (lt_of_bit hu hb) hb
    omega
end Go.Proofs.YtnmbglnenmhpiaaDoor.E
