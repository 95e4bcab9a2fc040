/- Walks and plain law: stores held against each other, parts of stores. No conditions. -/
import Derived.Test.YtljickachmdejaaPart
namespace Go.Proofs.Ytljickachmdejaa.E
open Go
set_option linter.unusedSimpArgs false
set_option linter.unusedVariables false
set_option linter.unusedSectionVars false
set_option maxRecDepth 20000
set_option maxHeartbeats 1000000
def sameV (a b : Vn) : Bool := decide (a = b)
/-! Parts of parts. -/
theorem hid_iff {a : Nat} {v : Vn} (ha : a < 256) (hv : 0 ≤ v.r.cats ∧ v.r.cats < 256) : hid a v = false ↔ ∀ i, v.r.cats.toNat.testBit i = true → a.testBit i = true := by
  have e : v.r.cats = (v.r.cats.toNat : Int) := by omega
  unfold hid
  rw [Bool.not_eq_false', decide_eq_true_eq]
  generalize v.r.cats.toNat = c at e
  have hc : c < 256 := by omega
  rw [e, bnot_sub (by omega) (by omega)]
theorem hid_eq {a b : Bool} (h : a = false ↔ b = false) : a = b := by
  cases a <;> cases b <;> simp_all
theorem mem_cats {l : List Vn} (h : chkSt l = 0) {v : Vn} (hv : v ∈ l) : 0 ≤ v.r.cats ∧ v.r.cats < 256 := (chkRec_iff.1 ((chkSt_len h).2 v hv)).2.1
theorem partL_part {l : List Vn} {a b c : Nat} (h : chkSt l = 0) (ha : a < 256) (hb : b < 256) (hc : c < 256) (hab : ∀ i, c.testBit i = true ↔ a.testBit i = true ∧ b.testBit i = true) : partL b (partL a l) = partL c l := by
  unfold partL
  rw [List.filter_filter]
  refine List.filter_congr fun v hv => ?_
  have hv := mem_cats h hv
  rw [Bool.eq_iff_iff, Bool.and_eq_true, Bool.not_eq_true', Bool.not_eq_true', Bool.not_eq_true', hid_iff ha hv, hid_iff hb hv, hid_iff hc hv]
  simp only [hab]
  exact ⟨fun h i hi => ⟨h.2 i hi, h.1 i hi⟩, fun h => ⟨fun i hi => (h i hi).2, fun i hi => (h i hi).1⟩⟩
theorem partL_all {l : List Vn} (h : chkSt l = 0) : partL (255 : Nat) l = l := by
  unfold partL
  rw [List.filter_eq_self]
  intro v hv
  have hv := mem_cats h hv
  rw [Bool.not_eq_true', hid_iff (by omega) hv]
  intro i hi
  have : v.r.cats.toNat < 2 ^ 8 := by omega
  have hi8 : i < 8 := Classical.byContradiction fun hn => by
    have := Nat.testBit_lt_two_pow (Nat.lt_of_lt_of_le this (Nat.pow_le_pow_right (by omega) (show 8 ≤ i by omega)))
    rw [hi] at this; cases this
  rw [show (255 : Nat) = 2 ^ 8 - 1 by rfl, Nat.testBit_two_pow_sub_one]
  simp [hi8]
theorem partL_sub {a b : Nat} {l : List Vn} (h : chkSt l = 0) (ha : a < 256) (hb : b < 256) (hab : ∀ i, a.testBit i = true → b.testBit i = true) : (partL a l).length ≤ (partL b l).length := by
  rw [← partL_part h hb ha ha (fun i => ⟨fun h => ⟨hab i h, h⟩, fun h => h.2⟩)]
  exact partL_len _ _
theorem partL_add (a : Int) (l : List Vn) (v : Vn) : partL a (l ++ [v]) = if hid a v then partL a l else partL a l ++ [v] := by
  unfold partL
  rw [List.filter_append]
  cases e : hid a v with
  | true => simp [e]
  | false => simp [e]
theorem hid_cats {a : Int} {v w : Vn} (h : v.r.cats = w.r.cats) : hid a v = hid a w := by unfold hid; rw [h]
theorem cnt_part_le (a : Int) (l : List Vn) (c : Int) : cnt (partL a l) c ≤ cnt l c := by
  unfold cnt partL
  rw [List.filter_filter, ← List.countP_eq_length_filter, ← List.countP_eq_length_filter]
  exact List.countP_mono_left fun x _ h => by simp only [Bool.and_eq_true] at h; exact h.1
theorem snoc_ind {α : Type} {P : List α → Prop} (h0 : P []) (h1 : ∀ l x, P l → P (l ++ [x])) (l : List α) : P l := by
  have key : ∀ n (l : List α), l.length = n → P l := by
    intro n
    induction n with
    | zero => intro l h; rw [List.eq_nil_of_length_eq_zero h]; exact h0
    | succ n ih =>
      intro l h
      have hne : l ≠ [] := fun e => by rw [e] at h; cases h
      rw [← List.dropLast_concat_getLast hne]
      exact h1 _ _ (ih _ (by rw [List.length_dropLast, h]; rfl))
  exact key l.length l rfl
/-- What may be seen has just as many of its kinds in the part. -/
theorem cnt_part (a : Int) (l : List Vn) (c : Int) (hc : bnot c a = 0) : cnt (partL a l) c = cnt l c := by
  unfold cnt partL
  rw [List.filter_filter]
  congr 1
  refine List.filter_congr fun v _ => ?_
  by_cases h : v.r.cats = c
  · simp [h, hid, hc]
  · simp [h]
theorem lives_part (a : Int) (l : List Vn) (id : ByteArray) (c : Int) (hc : bnot c a = 0) : lives (partL a l) id c = lives l id c := by
  induction l using snoc_ind with
  | h0 => rfl
  | h1 l v ih =>
    rw [partL_add, lives_add]
    cases e : hid a v with
    | true =>
      rw [if_pos rfl, ih, lStep, if_neg]
      rintro ⟨_, h⟩
      unfold hid at e
      rw [h, hc] at e
      simp at e
    | false =>
      rw [if_neg (by simp), lives_add, ih]
theorem chkGo_part (a : Int) : ∀ (m p : List Vn), chkGo p m = 0 → chkGo (partL a p) (partL a m) = 0 := by
  intro m
  induction m with
  | nil => intro p _; rfl
  | cons v m ih =>
    intro p h
    simp only [chkGo] at h
    split at h
    · rename_i h0
      have := ih _ h
      rw [partL_add] at this
      cases e : hid a v with
      | true =>
        rw [e, if_pos rfl] at this
        have e2 : partL a (v :: m) = partL a m := by unfold partL; rw [List.filter_cons, e]; rfl
        rw [e2]; exact this
      | false =>
        rw [e, if_neg (by simp)] at this
        have e2 : partL a (v :: m) = v :: partL a m := by unfold partL; rw [List.filter_cons, e]; rfl
        have hc : bnot v.r.cats a = 0 := by unfold hid at e; simpa using e
        rw [e2, chkGo]
        have e3 : stepE (partL a p) v = stepE p v := by unfold stepE; rw [cnt_part a p _ hc, lives_part a p _ _ hc]
        rw [e3, h0, if_pos rfl]
        exact this
    · rename_i h0; exact absurd h h0
/-- A part of a store is a store. -/
theorem chkSt_part {a : Int} {l : List Vn} (h : chkSt l = 0) : chkSt (partL a l) = 0 := by
  have hl := (chkSt_len h).1
  have := partL_len a l
  unfold chkSt at h ⊢
  rw [if_neg (by omega)] at h ⊢
  exact chkGo_part a l [] h
end Go.Proofs.Ytljickachmdejaa.E
