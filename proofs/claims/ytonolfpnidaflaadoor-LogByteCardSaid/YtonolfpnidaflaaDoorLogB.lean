/- Plain law: of a line, one byte of which is another one, it is told that it is wrong. No conditions. -/
import Derived.Test.YtonolfpnidaflaaDoorLogM
namespace Go.Proofs.YtonolfpnidaflaaDoor.E
open Go
set_option linter.unusedSimpArgs false
set_option linter.unusedVariables false
set_option linter.unusedSectionVars false
set_option maxRecDepth 20000
def wS : Nat → List UInt8 → Nat
  | _, [] => 0
  | k, b :: l => (k + 1) * b.toNat + wS (k + 1) l
theorem sumFrom_wS : ∀ (l : List UInt8) (k n : Nat), n < 65521 → sumFrom k n l = (n + wS k l) % 65521
  | [], k, n, h => by rw [sumFrom, wS]; omega
  | b :: l, k, n, h => by
    rw [sumFrom, wS, sumFrom_wS l _ _ (Nat.mod_lt _ (by omega))]
    generalize (k + 1) * b.toNat = x
    generalize wS (k + 1) l = y
    omega
theorem wS_set : ∀ (l : List UInt8) (k i : Nat) (a b : UInt8), l[i]? = some a → wS k (l.set i b) + (k + i + 1) * a.toNat = wS k l + (k + i + 1) * b.toNat
  | [], k, i, a, b, h => by simp at h
  | x :: l, k, 0, a, b, h => by
    simp only [List.getElem?_cons_zero, Option.some.injEq] at h
    subst h
    rw [List.set_cons_zero, wS, wS, Nat.add_zero]
    generalize (k + 1) * x.toNat = p
    generalize (k + 1) * b.toNat = q
    omega
  | x :: l, k, i + 1, a, b, h => by
    rw [List.set_cons_succ, wS, wS]
    have := wS_set l (k + 1) i a b (by simpa using h)
    rw [show k + 1 + i + 1 = k + (i + 1) + 1 by omega] at this
    generalize (k + (i + 1) + 1) * a.toNat = p at *
    generalize (k + (i + 1) + 1) * b.toNat = q at *
    omega
set_option maxRecDepth 100000 in
theorem coprime_small : ∀ d, 0 < d → d < 256 → Nat.gcd 65521 d = 1 := by
  have h : ∀ d, d < 256 → 0 < d → Nat.gcd 65521 d = 1 := by decide +kernel
  exact fun d h0 h1 => h d h1 h0
theorem no_mul {m d x y : Nat} (hm : 0 < m ∧ m < 65521) (hd : 0 < d ∧ d < 256) (h : x % 65521 = y % 65521) (e : x = y + m * d) : False := by
  have h1 : 65521 ∣ m * d := by
    have : (y + m * d) % 65521 = y % 65521 := by rw [← e]; exact h
    generalize m * d = z at *
    omega
  have h2 : 65521 ∣ m := Nat.Coprime.dvd_of_dvd_mul_right (coprime_small d hd.1 hd.2) h1
  have := Nat.le_of_dvd hm.1 h2
  omega
/-- Another byte makes another sum. -/
theorem sum_set {l : List UInt8} {i : Nat} {a b : UInt8} (hl : l.length ≤ 65520) (h : l[i]? = some a) (hab : b ≠ a) : sumL (l.set i b) ≠ sumL l := by
  intro e
  unfold sumL at e
  rw [sumFrom_wS _ _ _ (by omega), sumFrom_wS _ _ _ (by omega), Nat.zero_add, Nat.zero_add] at e
  have h1 := wS_set l 0 i a b h
  have hi : i < l.length := (List.getElem?_eq_some_iff.1 h).1
  have hne : a.toNat ≠ b.toNat := fun e => hab (UInt8.toNat.inj e.symm)
  have ha := a.toNat_lt
  have hb := b.toNat_lt
  rw [Nat.zero_add] at h1
  rcases Nat.lt_or_ge a.toNat b.toNat with h2 | h2
  · refine no_mul (m := i + 1) (d := b.toNat - a.toNat) ⟨by omega, by omega⟩ ⟨by omega, by omega⟩ e ?_
    have : (i + 1) * b.toNat = (i + 1) * a.toNat + (i + 1) * (b.toNat - a.toNat) := by rw [← Nat.mul_add]; congr 1; omega
    generalize (i + 1) * b.toNat = p at *
    generalize (i + 1) * a.toNat = q at *
    generalize (i + 1) * (b.toNat - a.toNat) = r at *
    omega
  · refine no_mul (m := i + 1) (d := a.toNat - b.toNat) ⟨by omega, by omega⟩ ⟨by omega, by omega⟩ e.symm ?_
    have : (i + 1) * a.toNat = (i + 1) * b.toNat + (i + 1) * (a.toNat - b.toNat) := by rw [← Nat.mul_add]; congr 1; omega
    generalize (i + 1) * b.toNat = p at *
    generalize (i + 1) * a.toNat = q at *
    generalize (i + 1) * (a.toNat - b.toNat) = r at *
    omega
/-- No word begins with '='. -/
theorem splitC_app (c : UInt8) (y : List UInt8) : ∀ x : List UInt8, splitC c (x ++ c :: y) = splitC c x ++ splitC c y
  | [] => by simp [splitC]
  | a :: x => by
    rw [List.cons_append, splitC, splitC, splitC_app c y x]
    split
    · rfl
    · have hn := splitC_ne c x
      cases e : splitC c x with
      | nil => exact absurd e hn
      | cons h t => rfl
theorem itoa_head (n : Int) : (Lib.itoa n).head? ≠ some 61 := by
  intro h
  cases e : Lib.itoa n with
  | nil => exact itoa_ne n e
  | cons x l =>
    rw [e] at h
    have hx : x = 61 := by simpa using h
    subst hx
    exact itoa61 n (by rw [e]; simp)
theorem id_head {s : ByteArray} (h : idOk s = true) (l : List UInt8) : (s.data.toList ++ l).head? ≠ some 61 := by
  intro hh
  cases e : s.data.toList with
  | nil => exact idOk_ne h e
  | cons x r =>
    rw [e] at hh
    have hx : x = 61 := by simpa using hh
    subst hx
    exact id_no h (c := 61) (by decide) (by rw [e]; simp)
theorem words_head {o : OpS} (h : OpW o) : ∀ w ∈ wordsL o, w.head? ≠ some 61 := by
  intro w hw
  unfold wordsL at hw
  split at hw
  · rename_i hk
    obtain ⟨_, hg⟩ := h.two hk
    simp only [whoWs, List.mem_cons, List.mem_append, List.not_mem_nil, or_false] at hw
    rcases hw with rfl | (rfl | rfl | rfl) | rfl
    · decide
    · exact itoa_head _
    · exact itoa_head _
    · exact itoa_head _
    · rw [wrL_good hg]; exact id_head hg.id _
  · split at hw
    · rename_i hk
      obtain ⟨_, _, hid⟩ := h.three hk
      simp only [whoWs, List.mem_cons, List.mem_append, List.not_mem_nil, or_false] at hw
      rcases hw with rfl | (rfl | rfl | rfl) | rfl | rfl
      · decide
      · exact itoa_head _
      · exact itoa_head _
      · exact itoa_head _
      · have := id_head hid []; rwa [List.append_nil] at this
      · exact itoa_head _
    · rcases List.mem_cons.1 hw with rfl | hw
      · decide
      · obtain ⟨r, _, hr⟩ := List.mem_flatMap.1 hw
        simp only [ruleWs, List.mem_cons, List.not_mem_nil, or_false] at hr
        rcases hr with rfl | rfl | rfl | rfl | rfl | rfl
        · exact itoa_head _
        · exact itoa_head _
        · exact itoa_head _
        · exact itoa_head _
        · exact itoa_head _
        · cases r.allow <;> decide
theorem plain_occ {o : OpS} (h : OpW o) (x y : List UInt8) : plainL o ≠ x ++ 32 :: 61 :: y := by
  intro e
  have hs : splitC 32 (plainL o) = wordsL o := by
    rw [plainL_words, split_join (wordsL_ne o) fun w hw => words_no h (.inl rfl) w hw]
  rw [e, splitC_app, splitC, if_neg (by decide)] at hs
  have hn := splitC_ne 32 y
  cases e2 : splitC 32 y with
  | nil => exact absurd e2 hn
  | cons a t =>
    rw [e2] at hs
    exact words_head h (61 :: a) (by rw [← hs]; simp) rfl
theorem itoa_inj {a b : Nat} (ha : a < 65521) (hb : b < 65521) (h : Lib.itoa (a : Int) = Lib.itoa (b : Int)) : a = b := by
  have := sumOk_itoa ha
  rw [h, sumOk_itoa hb] at this
  exact (Option.some.inj this).symm
/-- The digits of a sum. -/
def digs (l : List UInt8) : Prop := ∀ x ∈ l, 48 ≤ x.toNat ∧ x.toNat ≤ 57
theorem digs_itoa (n : Nat) : digs (Lib.itoa (n : Int)) := fun x hx => by
  rw [Lib.itoa_nonneg] at hx
  exact decDigits_mem hx
/-- Where the bytes of a line stand. -/
theorem at_p {p d : List UInt8} {j : Nat} (h : j < p.length) : (p ++ 32 :: 61 :: d)[j]? = p[j]? := List.getElem?_append_left h
theorem at_sp (p d : List UInt8) : (p ++ 32 :: 61 :: d)[p.length]? = some 32 := by simp
theorem at_eq (p d : List UInt8) : (p ++ 32 :: 61 :: d)[p.length + 1]? = some 61 := by
  rw [List.getElem?_append_right (by omega)]; simp
theorem at_d {p d : List UInt8} {j : Nat} (h : p.length + 2 ≤ j) : (p ++ 32 :: 61 :: d)[j]? = d[j - (p.length + 2)]? := by
  rw [List.getElem?_append_right (by omega)]
  obtain ⟨m, rfl⟩ : ∃ m, j = p.length + 2 + m := ⟨j - (p.length + 2), by omega⟩
  rw [show p.length + 2 + m - p.length = m + 1 + 1 by omega, List.getElem?_cons_succ, List.getElem?_cons_succ]
  congr 1
  omega
theorem at_dig {p d : List UInt8} (hd : digs d) {j : Nat} (h : p.length + 2 ≤ j) {x : UInt8} (hx : (p ++ 32 :: 61 :: d)[j]? = some x) : 48 ≤ x.toNat ∧ x.toNat ≤ 57 := by
  rw [at_d h] at hx
  exact hd x (List.mem_of_getElem? hx)
theorem two_bodies {p d q e : List UInt8} {i : Nat} {a b : UInt8} (hd : digs d) (he : digs e) (hdn : d ≠ []) (hen : e ≠ []) (ha : (p ++ 32 :: 61 :: d)[i]? = some a) (hab : b ≠ a)
    (h : (p ++ 32 :: 61 :: d).set i b = q ++ 32 :: 61 :: e) : p.length = q.length ∧ ((i < p.length ∧ q = p.set i b ∧ e = d) ∨ (q = p ∧ e ≠ d)) := by
  have hlen : p.length + d.length = q.length + e.length := by
    have := congrArg List.length h
    simp at this
    omega
  have hd1 : 0 < d.length := List.length_pos_iff.2 hdn
  have he1 : 0 < e.length := List.length_pos_iff.2 hen
  have hset : ∀ j, (q ++ 32 :: 61 :: e)[j]? = if i = j then (if i < (p ++ 32 :: 61 :: d).length then some b else none) else (p ++ 32 :: 61 :: d)[j]? := fun j => by
    rw [← h, List.getElem?_set]
  have hL : (p ++ 32 :: 61 :: d).length = p.length + d.length + 2 := by simp; omega
  -- the same place
  have hpq : p.length = q.length := by
    rcases Nat.lt_trichotomy p.length q.length with hlt | he' | hgt
    · exfalso
      have s1 := hset q.length
      have s2 := hset (q.length + 1)
      rw [at_sp] at s1
      rw [at_eq] at s2
      by_cases hm : q.length = p.length + 1
      · by_cases hi : i = q.length
        · rw [if_neg (by omega)] at s2
          have := at_dig hd (by omega) s2.symm
          revert this; decide
        · rw [if_neg hi, hm, at_eq] at s1
          cases s1
      · by_cases hi : i = q.length
        · rw [if_neg (by omega)] at s2
          have := at_dig hd (by omega) s2.symm
          revert this; decide
        · rw [if_neg hi] at s1
          have := at_dig hd (by omega) s1.symm
          revert this; decide
    · exact he'
    · exfalso
      have s1 := hset p.length
      have s2 := hset (p.length + 1)
      rw [at_sp] at s1
      rw [at_eq] at s2
      by_cases hm : p.length = q.length + 1
      · by_cases hi : i = p.length
        · rw [if_neg (by omega)] at s2
          have := at_dig he (by omega) s2
          revert this; decide
        · rw [if_neg hi, hm, at_eq] at s1
          cases s1
      · by_cases hi : i = p.length
        · rw [if_neg (by omega)] at s2
          have := at_dig he (by omega) s2
          revert this; decide
        · rw [if_neg hi] at s1
          have := at_dig he (by omega) s1
          revert this; decide
  refine ⟨hpq, ?_⟩
  have hi : i < (p ++ 32 :: 61 :: d).length := (List.getElem?_eq_some_iff.1 ha).1
  by_cases h1 : i < p.length
  · left
    rw [List.set_append_left _ _ h1] at h
    obtain ⟨e1, e2⟩ := List.append_inj h (by simpa using hpq)
    exact ⟨h1, e1.symm, by simpa using e2.symm⟩
  · right
    rw [List.set_append_right _ _ (by omega)] at h
    obtain ⟨e1, e2⟩ := List.append_inj h hpq
    refine ⟨e1.symm, fun hed => ?_⟩
    -- nothing was another one
    rw [← e1, hed] at hset
    have := hset i
    rw [if_pos rfl, if_pos hi, ha] at this
    exact hab (Option.some.inj this).symm
theorem first_nl {x y r t : List UInt8} (hx : (10 : UInt8) ∉ x) (hy : (10 : UInt8) ∉ y) (h : x ++ 10 :: r = y ++ 10 :: t) : x = y := by
  have h1 := ib_hit (c := 10) (b := r) hx
  rw [h, ib_hit hy] at h1
  exact (List.append_inj h (by omega)).1
theorem itoa_nn (n : Nat) : Lib.itoa (n : Int) ≠ [] := itoa_ne _
theorem byte_bad {o : OpS} (h : chkOp o = 0) {i : Nat} {a b : UInt8} (ha : (bodyL o)[i]? = some a) (hab : b ≠ a) : lnC ((bodyL o).set i b ++ [10]) ≠ 0 := by
  intro hc
  have hi : i < (bodyL o).length := (List.getElem?_eq_some_iff.1 ha).1
  obtain ⟨g1, r, g2, _⟩ := ln_inv hc
  have hw := opW_of h
  have hw' := opW_of g1
  generalize lnO ((bodyL o).set i b ++ [10]) = o' at *
  rw [lineL_body, List.append_assoc, List.singleton_append] at g2
  have hn' := body_no hw'
  have hn := body_no hw
  have hpl := plainL_len h
  by_cases hb : b = 10
  · -- a shorter line
    subst hb
    have e0 : (bodyL o).set i 10 = (bodyL o).take i ++ 10 :: (bodyL o).drop (i + 1) := by
      rw [List.set_eq_take_append_cons_drop, if_pos hi]
    rw [e0, List.append_assoc, List.cons_append] at g2
    have e1 := first_nl (fun hx => hn (List.mem_of_mem_take hx)) hn' g2
    have e2 : (bodyL o).take i = plainL o' ++ 32 :: 61 :: Lib.itoa (sumL (plainL o') : Nat) := e1
    have hlen := congrArg List.length e2
    rw [List.length_take, Nat.min_eq_left (by omega), List.length_append, List.length_cons, List.length_cons] at hlen
    have hdn := List.length_pos_iff.2 (itoa_nn (sumL (plainL o')))
    have hB : bodyL o = plainL o ++ 32 :: 61 :: Lib.itoa (sumL (plainL o) : Nat) := rfl
    have hget : ∀ j, j < i → (bodyL o)[j]? = (plainL o' ++ 32 :: 61 :: Lib.itoa (sumL (plainL o') : Nat))[j]? := fun j hj => by
      rw [← e2, List.getElem?_take, if_pos hj]
    rw [hB] at hget
    rcases Nat.lt_trichotomy (plainL o').length (plainL o).length with hlt | he | hgt
    · -- within what stands ahead of the sum
      by_cases hin : i ≤ (plainL o).length
      · have : (plainL o).take i = plainL o' ++ 32 :: 61 :: Lib.itoa (sumL (plainL o') : Nat) := by
          rw [← e2, hB, List.take_append_of_le_length hin]
        exact plain_occ hw (plainL o') (Lib.itoa (sumL (plainL o') : Nat) ++ (plainL o).drop i) (by
          conv => lhs; rw [← List.take_append_drop i (plainL o), this]
          simp)
      · have s1 := hget (plainL o).length (by omega)
        rw [at_sp] at s1
        by_cases hm : (plainL o).length = (plainL o').length + 1
        · rw [hm, at_eq] at s1; cases s1
        · have := at_dig (digs_itoa _) (by omega) s1.symm
          revert this; decide
    · have hpp : plainL o' = plainL o := by
        have := congrArg (List.take (plainL o).length) e2
        rw [List.take_take, Nat.min_eq_left (by omega), hB, List.take_left] at this
        rw [this, ← he, List.take_left]
      rw [hpp] at hlen
      rw [hB] at hi
      simp only [List.length_append, List.length_cons] at hi
      omega
    · have s1 := hget (plainL o').length (by omega)
      rw [at_sp] at s1
      by_cases hm : (plainL o').length = (plainL o).length + 1
      · rw [hm, at_eq] at s1; cases s1
      · have := at_dig (digs_itoa _) (by omega) s1
        revert this; decide
  · have hns : (10 : UInt8) ∉ (bodyL o).set i b := fun hx => by
      rcases List.mem_or_eq_of_mem_set hx with h1 | h1
      · exact hn h1
      · exact hb h1.symm
    have e1 := first_nl hns hn' g2
    obtain ⟨hl, h2⟩ := two_bodies (digs_itoa _) (digs_itoa _) (itoa_nn _) (itoa_nn _) ha hab e1
    rcases h2 with ⟨h3, h4, h5⟩ | ⟨h3, h4⟩
    · have h6 := itoa_inj (sum_lt _) (sum_lt _) h5
      rw [h4] at h6
      have ha' : (plainL o)[i]? = some a := by rw [← ha]; exact (at_p h3).symm
      exact sum_set (by omega) ha' hab h6
    · rw [h3] at h4
      exact h4 rfl
end Go.Proofs.YtonolfpnidaflaaDoor.E
