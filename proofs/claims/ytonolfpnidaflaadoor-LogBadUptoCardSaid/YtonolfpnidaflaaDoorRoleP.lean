/- Plain law: what comes with a role. No conditions. -/
import Derived.Test.YtonolfpnidaflaaDoorRole
namespace Go.Proofs.YtonolfpnidaflaaDoor.E
open Go
set_option linter.unusedSimpArgs false
set_option linter.unusedVariables false
set_option linter.unusedSectionVars false
set_option maxRecDepth 20000
theorem allL_or (up : List Nat) (k a b : Nat) : allL up k (a ||| b) = allL up k a ||| allL up k b := by
  induction k generalizing a b with
  | zero => rfl
  | succ k ih =>
    simp only [allL, Nat.testBit_or]
    have h : (if (a.testBit k || b.testBit k) = true then a ||| b ||| up.getD k 0 else a ||| b) = (if a.testBit k = true then a ||| up.getD k 0 else a) ||| (if b.testBit k = true then b ||| up.getD k 0 else b) := by
      apply Nat.eq_of_testBit_eq; intro i
      cases ha : a.testBit k <;> cases hb : b.testBit k <;> simp [Nat.testBit_or] <;> cases a.testBit i <;> cases b.testBit i <;> simp
    rw [h, ih]
theorem allL_high (up : List Nat) (k a : Nat) (h : ∀ j, j < k → a.testBit j = false) : allL up k a = a := by
  induction k with
  | zero => rfl
  | succ k ih =>
    simp only [allL]
    rw [h k (by omega)]
    exact ih fun j hj => h j (by omega)
theorem allN_eq (up : List Nat) (i : Nat) : allN up i = 2 ^ i ||| allL up i (up.getD i 0) := by
  unfold allN
  simp only [allL, Nat.testBit_two_pow_self, if_true]
  rw [allL_or, allL_high up i (2 ^ i)]
  intro j hj
  rw [Nat.testBit_two_pow]
  simp; omega
theorem allL_bits (up : List Nat) (k a m : Nat) : (allL up k a).testBit m = true ↔ a.testBit m = true ∨ ∃ j, j < k ∧ a.testBit j = true ∧ (allN up j).testBit m = true := by
  induction k generalizing a with
  | zero => simp [allL]
  | succ k ih =>
    simp only [allL]
    cases hk : a.testBit k with
    | false =>
      simp only [Bool.false_eq_true, if_false]
      rw [ih]
      constructor
      · rintro (h | ⟨j, h1, h2⟩)
        · exact .inl h
        · exact .inr ⟨j, by omega, h2⟩
      · rintro (h | ⟨j, h1, h2, h3⟩)
        · exact .inl h
        · rcases Nat.lt_or_ge j k with h4 | h4
          · exact .inr ⟨j, h4, h2, h3⟩
          · obtain rfl : j = k := by omega
            rw [hk] at h2; cases h2
    | true =>
      simp only [if_true]
      rw [allL_or, Nat.testBit_or, Bool.or_eq_true, ih a]
      constructor
      · rintro ((h | ⟨j, h1, h2⟩) | h)
        · exact .inl h
        · exact .inr ⟨j, by omega, h2⟩
        · refine .inr ⟨k, by omega, hk, ?_⟩
          rw [allN_eq, Nat.testBit_or, h, Bool.or_true]
      · rintro (h | ⟨j, h1, h2, h3⟩)
        · exact .inl (.inl h)
        · rcases Nat.lt_or_ge j k with h4 | h4
          · exact .inl (.inr ⟨j, h4, h2, h3⟩)
          · obtain rfl : j = k := by omega
            rw [allN_eq, Nat.testBit_or, Bool.or_eq_true, Nat.testBit_two_pow] at h3
            rcases h3 with h3 | h3
            · have : j = m := by simpa using h3
              subst this
              exact .inl (.inl hk)
            · exact .inr h3
theorem allN_self (up : List Nat) (i : Nat) : (allN up i).testBit i = true := by
  rw [allN_eq, Nat.testBit_or, Nat.testBit_two_pow_self]; rfl
theorem lt_of_bit {n i m : Nat} (h : n < 2 ^ i) (hb : n.testBit m = true) : m < i := by
  rcases Nat.lt_or_ge m i with h1 | h1
  · exact h1
  · rw [Nat.testBit_lt_two_pow (Nat.lt_of_lt_of_le h (Nat.pow_le_pow_right (by omega) h1))] at hb; cases hb
/-- Who comes with a role: itself, and who comes with those that come with it at once. -/
theorem allN_bits {up : List Nat} {i : Nat} (hu : up.getD i 0 < 2 ^ i) (m : Nat) : (allN up i).testBit m = true ↔ m = i ∨ ∃ j, j < i ∧ (up.getD i 0).testBit j = true ∧ (allN up j).testBit m = true := by
  unfold allN
  rw [allL_bits]
  have h2 : (2 ^ i).testBit m = true ↔ m = i := by rw [Nat.testBit_two_pow]; simp [eq_comm]
  constructor
  · rintro (h | ⟨j, h1, h3, h4⟩)
    · exact .inl (h2.1 h)
    · rw [Nat.testBit_two_pow] at h3
      have : i = j := by simpa using h3
      subst this
      rw [allN_eq, Nat.testBit_or, Bool.or_eq_true] at h4
      rcases h4 with h4 | h4
      · exact .inl (h2.1 h4)
      · rw [allL_bits] at h4
        rcases h4 with h4 | ⟨j, h5, h6, h7⟩
        · exact .inr ⟨m, lt_of_bit hu h4, h4, allN_self up m⟩
        · exact .inr ⟨j, h5, h6, h7⟩
  · rintro (h | ⟨j, h1, h3, h4⟩)
    · exact .inl (h2.2 h)
    · refine .inr ⟨i, by omega, Nat.testBit_two_pow_self, ?_⟩
      rw [allN_eq, Nat.testBit_or, Bool.or_eq_true, allL_bits]
      exact .inr (.inr ⟨j, h1, h3, h4⟩)
/-- Each role's bits are those of lower ones. -/
def upN (up : List Nat) : Prop := ∀ i, up.getD i 0 < 2 ^ i
theorem allN_lt {up : List Nat} (hu : upN up) {i m : Nat} (h : (allN up i).testBit m = true) : m ≤ i := by
  induction i using Nat.strongRecOn generalizing m with
  | _ i ih =>
    rcases (allN_bits (hu i) m).1 h with rfl | ⟨j, h1, h2, h3⟩
    · omega
    · have := ih j h1 h3; omega
/-- Who comes with one that comes with a role comes with that. -/
theorem allN_trans {up : List Nat} (hu : upN up) {i j m : Nat} (h : (allN up i).testBit j = true) (k : (allN up j).testBit m = true) : (allN up i).testBit m = true := by
  induction i using Nat.strongRecOn generalizing j m with
  | _ i ih =>
    rcases (allN_bits (hu i) j).1 h with rfl | ⟨x, h1, h2, h3⟩
    · exact k
    · exact (allN_bits (hu i) m).2 (.inr ⟨x, h1, h2, ih x h1 h3 k⟩)
theorem upFrom_upN {l : List Int} (h : upFrom 0 l = true) : upN (l.map Int.toNat) := by
  intro i
  cases e : l[i]? with
  | none => simp [List.getD, e, Nat.two_pow_pos]
  | some x =>
    rw [getD_toNat e]
    obtain ⟨n, rfl, hn⟩ := upFrom_get h e
    simpa using hn
theorem allN_pow {up : List Nat} (hu : upN up) (i : Nat) : allN up i < 2 ^ (i + 1) := by
  apply Nat.lt_pow_two_of_testBit
  intro j hj
  cases e : (allN up i).testBit j with
  | false => rfl
  | true => have := allN_lt hu e; omega
/-- Roles that are made of any numbers. -/
theorem upsL_ok (k : Nat) (l : List Int) : upFrom k (upsL k l) = true := by
  induction l generalizing k with
  | nil => rfl
  | cons x l ih =>
    simp only [upsL, upFrom, Bool.and_eq_true, decide_eq_true_eq]
    have h := Nat.two_pow_pos k
    refine ⟨⟨Int.emod_nonneg _ (by omega), ?_⟩, ih (k + 1)⟩
    have := Int.emod_lt_of_pos (x % 2 ^ 64) (show (0 : Int) < (2 ^ k : Nat) by omega)
    simpa [within] using this
/-- The roles of a law. -/
theorem ups_some (l : List Int) : ∃ u : List Int, upsL 0 (l.take 8) = u ∧ u.length ≤ 8 ∧ upFrom 0 u = true ∧ chkUp u = 0 ∧ upN (u.map Int.toNat) := by
  refine ⟨_, rfl, ?_, upsL_ok 0 _, ?_, upFrom_upN (upsL_ok 0 _)⟩
  · rw [upsL_length, List.length_take]; omega
  · unfold chkUp
    rw [if_neg (by rw [upsL_length, List.length_take]; omega), if_pos (upsL_ok 0 _)]
theorem within_lt (k : Int) {n : Nat} (h : 0 < n) : ∃ i : Nat, within k n = i ∧ i < n := by
  refine ⟨(within k n).toNat, ?_, ?_⟩ <;>
  · have h1 : 0 ≤ within k n := Int.emod_nonneg _ (by omega)
    have h2 : within k n < n := Int.emod_lt_of_pos _ (by omega)
    omega
theorem All_ok' {u : List Int} (hc : chkUp u = 0) {i : Nat} (h : i < u.length) : Ok Tryd.prog 33 [ints u, I i] (.tup [I (allN (u.map Int.toNat) i), I 0]) := by
  have := All_ok u i
  have e : chkAt u i = 0 := by unfold chkAt; rw [if_pos hc, if_pos (by omega)]
  rw [e] at this
  exact this
theorem Has_ok' {u : List Int} (hc : chkUp u = 0) (hn : upN (u.map Int.toNat)) {i k : Nat} (h : i < u.length) (hk : k < u.length) : Ok Tryd.prog 13 [ints u, I i, I k] (.tup [B ((allN (u.map Int.toNat) i).testBit k), I 0]) := by
  refine Ok.of_wp (rs := [.tmp 6, .tmp 7]) (n := 32) Tryd.func13 rfl rfl rfl (by simp) fo (by kernel_rfl) ?_
  simp (decide := true) (maxSteps := 4000000) -implicitDefEqProofs only [evs, tabs, puts, siteD, gget, tget, tset, initT, dstAt, ev, evC, plain, Hp.get, Hp.set, bnd, isCells, isRow, SubA, SubC, Sub, SubL, CvA, Cv, dis, ordB, ite_self, exists_eq', List.mem_cons, List.not_mem_nil, Site.m.injEq, bne_self_eq_false, beq_iff_eq, bne_iff_ne, ↓reduceIte, Int.reduceAdd, Int.reduceSub, Int.reduceToNat, Int.reduceNeg, Nat.reduceAdd, Nat.reduceMul, Nat.reduceSub, exists_eq_left', exists_eq_left, implies_true, forall_const, Site.l.injEq, Site.e.injEq, reduceCtorEq, beq_self_eq_true, ne_eq]
  refine call_eq (All_ok' hc h) ?_
  simp (decide := true) (maxSteps := 4000000) -implicitDefEqProofs only [evs, tabs, puts, siteD, gget, tget, tset, initT, dstAt, ev, evC, plain, Hp.get, Hp.set, bnd, isCells, isRow, SubA, SubC, Sub, SubL, CvA, Cv, dis, ordB, ite_self, exists_eq', List.mem_cons, List.not_mem_nil, Site.m.injEq, bne_self_eq_false, beq_iff_eq, bne_iff_ne, ↓reduceIte, Int.reduceAdd, Int.reduceSub, Int.reduceToNat, Int.reduceNeg, Nat.reduceAdd, Nat.reduceMul, Nat.reduceSub, exists_eq_left', exists_eq_left, implies_true, forall_const, Site.l.injEq, Site.e.injEq, reduceCtorEq, beq_self_eq_true, ne_eq]
  rw [if_neg (by omega), if_neg (by omega)]
  have hl : u.length ≤ 8 := (upOk_of hc).1
  have h62 : allN (u.map Int.toNat) i < 2 ^ 62 := Nat.lt_trans (allN_pow hn i) (pow_lt (by omega))
  refine B_eq ?_
  rw [Bool.eq_iff_iff, beq_iff_eq, bit_eq h62 (by omega)]
/-- A number of some, by a number of any sort. -/
def wN (k : Int) (n : Nat) : Nat := (within k n).toNat
theorem wN_eq (k : Int) {n : Nat} (h : 0 < n) : within k n = wN k n ∧ wN k n < n := by
  obtain ⟨i, e, hi⟩ := within_lt k h
  unfold wN
  rw [e]
  exact ⟨rfl, hi⟩
end Go.Proofs.YtonolfpnidaflaaDoor.E
