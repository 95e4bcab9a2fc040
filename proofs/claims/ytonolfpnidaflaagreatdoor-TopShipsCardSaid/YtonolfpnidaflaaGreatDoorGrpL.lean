/- Plain law: what is sure of a group. No conditions. -/
import Derived.Test.YtonolfpnidaflaaGreatDoorGrp
namespace Go.Proofs.YtonolfpnidaflaaGreatDoor.E
open Go
set_option linter.unusedSimpArgs false
set_option linter.unusedVariables false
set_option linter.unusedSectionVars false
set_option maxRecDepth 20000
theorem sortI_perm (a : List Int) : (sortI a).Perm a := List.mergeSort_perm _ _
theorem sortI_le (a : List Int) : (sortI a).Pairwise (· ≤ ·) := by
 have := List.pairwise_mergeSort (le := fun x y : Int => decide (x ≤ y)) (fun a b c h1 h2 => by simp only [decide_eq_true_eq] at *; omega) (fun a b => by simp only [Bool.or_eq_true, decide_eq_true_eq]; omega) a
 exact this.imp fun h => by simpa using h
theorem sortI_cnt (a : List Int) (p : Int → Bool) : (sortI a).countP p = a.countP p := (sortI_perm a).countP_eq p
theorem sorted_mono {s : List Int} (h : s.Pairwise (· ≤ ·)) {i j : Nat} {x y : Int} (hi : s[i]? = some x) (hj : s[j]? = some y) (hij : i ≤ j) : x ≤ y := by
 obtain ⟨a, rfl⟩ := List.getElem?_eq_some_iff.1 hi
 obtain ⟨b, rfl⟩ := List.getElem?_eq_some_iff.1 hj
 rcases Nat.lt_or_ge i j with h2 | h2
 ·exact List.pairwise_iff_getElem.1 h i j a b h2
 ·obtain rfl : i = j := by omega
  exact Int.le_refl _
theorem countP_none {s : List Int} {p : Int → Bool} (h : ∀ x ∈ s, p x = false) : s.countP p = 0 := by
 rw [List.countP_eq_zero]
 intro x hx
 rw [h x hx]
 simp
theorem countP_every {s : List Int} {p : Int → Bool} (h : ∀ x ∈ s, p x = true) : s.countP p = s.length := List.countP_eq_length.2 h
theorem cnt_split (s : List Int) (m : Nat) (p : Int → Bool) : s.countP p = (s.take m).countP p + (s.drop m).countP p := by
 rw [← List.countP_append, List.take_append_drop]
theorem mem_take_get {s : List Int} {m : Nat} {x : Int} (h : x ∈ s.take m) : ∃ i, i < m ∧ s[i]? = some x := by
 obtain ⟨i, hi⟩ := List.getElem?_of_mem h
 rw [List.getElem?_take] at hi
 split at hi
 ·exact ⟨i, by assumption, hi⟩
 ·cases hi
theorem mem_drop_get {s : List Int} {m : Nat} {x : Int} (h : x ∈ s.drop m) : ∃ i, m ≤ i ∧ s[i]? = some x := by
 obtain ⟨i, hi⟩ := List.getElem?_of_mem h
 rw [List.getElem?_drop] at hi
 exact ⟨m + i, by omega, hi⟩
/-- How many are less, or more, than the one at m. -/
theorem cnt_lt {a : List Int} {m : Nat} {x : Int} (h : (sortI a)[m]? = some x) : a.countP (fun y => decide (y < x)) ≤ m := by
 rw [← sortI_cnt, cnt_split _ m, countP_none (s := (sortI a).drop m), Nat.add_zero]
 ·exact Nat.le_trans List.countP_le_length (by rw [List.length_take]; omega)
 ·intro y hy
  obtain ⟨i, hi, e⟩ := mem_drop_get hy
  have := sorted_mono (sortI_le a) h e hi
  exact decide_eq_false (by omega)
theorem cnt_gt {a : List Int} {m : Nat} {x : Int} (h : (sortI a)[m]? = some x) : a.countP (fun y => decide (x < y)) + m + 1 ≤ a.length := by
 have hm : m < (sortI a).length := (List.getElem?_eq_some_iff.1 h).1
 rw [← sortI_cnt, cnt_split _ (m + 1), countP_none (s := (sortI a).take (m + 1)), Nat.zero_add]
 ·have := List.countP_le_length (p := fun y => decide (x < y)) (l := (sortI a).drop (m + 1))
  rw [List.length_drop] at this
  rw [sortI_len] at hm this
  omega
 ·intro y hy
  obtain ⟨i, hi, e⟩ := mem_take_get hy
  have := sorted_mono (sortI_le a) e h (by omega)
  exact decide_eq_false (by omega)
theorem ostat_le {a : List Int} {m : Nat} {x v : Int} (h : (sortI a)[m]? = some x) (hc : a.countP (fun y => decide (y < v)) ≤ m) : v ≤ x := by
 apply Int.not_lt.1
 intro hx
 have hm : m < (sortI a).length := (List.getElem?_eq_some_iff.1 h).1
 rw [← sortI_cnt, cnt_split _ (m + 1), countP_every (s := (sortI a).take (m + 1)), List.length_take] at hc
 ·omega
 ·intro y hy
  obtain ⟨i, hi, e⟩ := mem_take_get hy
  have := sorted_mono (sortI_le a) e h (by omega)
  exact decide_eq_true (by omega)
theorem ostat_ge {a : List Int} {m : Nat} {x v : Int} (h : (sortI a)[m]? = some x) (hc : a.countP (fun y => decide (v < y)) + m + 1 ≤ a.length) : x ≤ v := by
 apply Int.not_lt.1
 intro hx
 have hm : m < (sortI a).length := (List.getElem?_eq_some_iff.1 h).1
 rw [← sortI_cnt, cnt_split _ m, countP_every (s := (sortI a).drop m), List.length_drop] at hc
 ·rw [sortI_len] at hm hc
  omega
 ·intro y hy
  obtain ⟨i, hi, e⟩ := mem_drop_get hy
  have := sorted_mono (sortI_le a) h e hi
  exact decide_eq_true (by omega)
theorem gSure_at {g : Gr} (h : grOk g) : (sortI g.ack)[(g.n - 1) / 2]? = some (gSure g) := by
 have hn := h.2.1
 have hn1 := h.1
 have ha := h.2.2.2.1
 obtain ⟨x, hx⟩ := lt_get (l := sortI g.ack) (i := (g.n - 1) / 2) (by rw [sortI_len, ha]; omega)
 unfold gSure
 rw [show (g.ack.mergeSort fun x y => decide (x ≤ y)) = sortI g.ack from rfl, hx]
 rfl
theorem gSure_eq {g : Gr} (h : grOk g) {v : Int} (h1 : g.ack.countP (fun y => decide (y < v)) ≤ (g.n - 1) / 2) (h2 : g.ack.countP (fun y => decide (v < y)) + (g.n - 1) / 2 + 1 ≤ g.n) : gSure g = v := by
 have e := gSure_at h
 have a1 := ostat_le e h1
 have a2 := ostat_ge (v := v) e (by rw [h.2.2.2.1]; exact h2)
 omega
/-- A group to which just the leader added. -/
def gFull (n : Nat) (l : List ByteArray) : Gr := ⟨n + 1, l, List.replicate n [], (l.length : Int) :: List.replicate n 0⟩
theorem gNew_full (n : Nat) : gNew (n + 1) = gFull n [] := rfl
theorem gAdd_full (n : Nat) (l : List ByteArray) (s : ByteArray) : gAdd (gFull n l) s = gFull n (l ++ [s]) := by
 unfold gAdd gFull
 simp
theorem gFull_ok {n : Nat} (hn : n < 5) {l : List ByteArray} (hl : l.length ≤ 60) : grOk (gFull n l) := by
 refine ⟨Nat.le_add_left _ _, hn, ?_, ?_, hl, ?_⟩
 ·simp [gFull]
 ·simp [gFull]
 ·intro x hx
  rw [List.eq_of_mem_replicate hx]
  simp
theorem gFull_one {l : List ByteArray} (hl : l.length ≤ 60) : gSure (gFull 0 l) = l.length := gSure_eq (gFull_ok (by omega) hl) (by simp [gFull]) (by simp [gFull])
theorem gFull_more {n : Nat} (h0 : 0 < n) (hn : n < 5) {l : List ByteArray} (hl : l.length ≤ 60) : gSure (gFull n l) = 0 := by
 refine gSure_eq (gFull_ok hn hl) ?_ ?_
 ·have : (gFull n l).ack.countP (fun y => decide (y < 0)) = 0 := by
   refine countP_none fun x hx => ?_
   simp only [gFull, List.mem_cons, List.mem_replicate] at hx
   exact decide_eq_false (by omega)
  rw [this]
  omega
 ·have : (gFull n l).ack.countP (fun y => decide (0 < y)) ≤ 1 := by
   simp only [gFull]
   rw [List.countP_cons, countP_none (s := List.replicate n 0) (fun x hx => by rw [List.eq_of_mem_replicate hx]; rfl)]
   split <;> omega
  have e : (gFull n l).n = n + 1 := rfl
  rw [e]
  omega
/-- Are two lists told to agree whose one begins the other? -/
theorem agr_of_prefix : ∀ {a b : List ByteArray}, (∃ c, a ++ c = b ∨ b ++ c = a) → agr a b = true
 | [], b, _ => agr_nil b
 | a, [], _ => agr_nil2 a
 | x :: xs, y :: ys, ⟨c, h⟩ => by
  have e : x = y ∧ (xs ++ c = ys ∨ ys ++ c = xs) := by
   rcases h with h | h
   ·injection h with h1 h2; exact ⟨h1, .inl h2⟩
   ·injection h with h1 h2; exact ⟨h1.symm, .inr h2⟩
  rw [agr, decide_eq_true e.1, Bool.true_and]
  exact agr_of_prefix ⟨c, e.2⟩
end Go.Proofs.YtonolfpnidaflaaGreatDoor.E
