/- Plain law: what rules let be seen. No conditions. -/
import Derived.Test.YtonolfpnidaflaaDoorRule
namespace Go.Proofs.YtonolfpnidaflaaDoor.E
open Go
set_option linter.unusedSimpArgs false
set_option linter.unusedVariables false
set_option linter.unusedSectionVars false
set_option maxRecDepth 20000
theorem oneLt {r : Rl} (h : oneE r = 0) : r.fr < r.to ∧ -1 ≤ r.role ∧ r.role < 8 ∧ -1 ≤ r.why ∧ r.why < 4 ∧ 0 ≤ r.fr ∧ r.to ≤ 1000 ∧ 0 ≤ r.cats ∧ r.cats < 256 := by
  have ho := oneOk_of h
  have ho' := ho
  simp only [oneOk, decide_eq_true_eq] at ho'
  rw [oneE, ho, if_pos rfl] at h
  split at h
  · omega
  · omega
theorem oneE_of {r : Rl} (h : r.fr < r.to ∧ -1 ≤ r.role ∧ r.role < 8 ∧ -1 ≤ r.why ∧ r.why < 4 ∧ 0 ≤ r.fr ∧ r.to ≤ 1000 ∧ 0 ≤ r.cats ∧ r.cats < 256) : oneE r = 0 := by
  have ho : oneOk r = true := decide_eq_true h.2
  rw [oneE, ho, if_pos rfl, if_pos h.1]
theorem tk4 {α β : Type} (f : α → β) (l : List α) (x : α) : List.take (l.length + 1) (List.map f (l ++ [x])) = List.map f (l ++ [x]) := List.take_of_length_le (by simp)
theorem tk5 {α β : Type} (f : α → β) (l : List α) (x y : α) : List.take (l.length + 2) (List.map f (l ++ [x, y])) = List.map f (l ++ [x, y]) := List.take_of_length_le (by simp)
theorem yesN_bits {f : Rl → Bool} {l : List Rl} {a m : Nat} : (yesN f l a).testBit m = true ↔ a.testBit m = true ∨ ∃ r ∈ l, f r = true ∧ r.allow = true ∧ r.cats.toNat.testBit m = true := by
  induction l generalizing a with
  | nil => simp [yesN]
  | cons r l ih =>
    simp only [yesN, ih, List.mem_cons, exists_eq_or_imp]
    cases hf : f r <;> cases ha : r.allow <;> simp [or_assoc]
theorem noN_bits {f : Rl → Bool} {l : List Rl} {a m : Nat} : (noN f l a).testBit m = true ↔ a.testBit m = true ∨ ∃ r ∈ l, f r = true ∧ r.allow = false ∧ r.cats.toNat.testBit m = true := by
  induction l generalizing a with
  | nil => simp [noN]
  | cons r l ih =>
    simp only [noN, ih, List.mem_cons, exists_eq_or_imp]
    cases hf : f r <;> cases ha : r.allow <;> simp [or_assoc]
/-- What these rules allow, deny, to whom they fit. -/
def Alw (f : Rl → Bool) (l : List Rl) (m : Nat) : Prop := ∃ r ∈ l, f r = true ∧ r.allow = true ∧ r.cats.toNat.testBit m = true
def Dny (f : Rl → Bool) (l : List Rl) (m : Nat) : Prop := ∃ r ∈ l, f r = true ∧ r.allow = false ∧ r.cats.toNat.testBit m = true
def seesF (f : Rl → Bool) (l : List Rl) : Nat := yesN f l 0 ^^^ (yesN f l 0 &&& noN f l 0)
theorem seesF_bits {f : Rl → Bool} {l : List Rl} {m : Nat} : (seesF f l).testBit m = true ↔ Alw f l m ∧ ¬ Dny f l m := by
  have h1 := yesN_bits (f := f) (l := l) (a := 0) (m := m)
  have h2 := noN_bits (f := f) (l := l) (a := 0) (m := m)
  simp only [Nat.zero_testBit, Bool.false_eq_true, false_or] at h1 h2
  unfold seesF Alw Dny
  rw [← h1, ← h2, Nat.testBit_xor, Nat.testBit_and]
  cases (yesN f l 0).testBit m <;> cases (noN f l 0).testBit m <;> simp
theorem seesF_ext {f g : Rl → Bool} {l k : List Rl} (h1 : ∀ m, Alw f l m ↔ Alw g k m) (h2 : ∀ m, Dny f l m ↔ Dny g k m) : seesF f l = seesF g k := by
  apply Nat.eq_of_testBit_eq
  intro m
  rw [Bool.eq_iff_iff, seesF_bits, seesF_bits, h1, h2]
def fitsW (up : List Int) (w : Wh) : Rl → Bool := fitsN (allN (up.map Int.toNat) w.role.toNat) w
theorem seesM_eq (up : List Int) (l : List Rl) (w : Wh) : seesM up l w = seesF (fitsW up w) l := rfl
theorem chkR_iff {l : List Rl} : chkR l = 0 ↔ ∀ r ∈ l, oneE r = 0 := by
  induction l with
  | nil => simp [chkR]
  | cons r l ih =>
    simp only [chkR, List.mem_cons, forall_eq_or_imp]
    split
    · rw [ih]; simp_all
    · simp_all
/-- May the question be? -/
def askOk (up : List Int) (w : Wh) : Prop := chkUp up = 0 ∧ whoOk w = true ∧ chkAt up w.role = 0
theorem seesE_zero {up : List Int} {l : List Rl} {w : Wh} : seesE up l w = 0 ↔ askOk up w ∧ l.length ≤ 20 ∧ ∀ r ∈ l, oneE r = 0 := by
  unfold seesE askOk
  rw [← chkR_iff]
  have : chkRs l = 0 ↔ l.length ≤ 20 ∧ chkR l = 0 := ⟨chkRs_of, fun h => by rw [chkRs, if_neg (by omega)]; exact h.2⟩
  rw [← this]
  by_cases h1 : chkUp up = 0
  · rw [if_pos h1]
    by_cases h2 : chkRs l = 0
    · rw [if_pos h2]
      by_cases h3 : whoOk w = true
      · rw [if_pos h3]; simp [h1, h2, h3]
      · rw [if_neg h3]; simp [h3]
    · rw [if_neg h2]; simp [h2]
  · rw [if_neg h1]; simp [h1]
theorem seesF_lt {f : Rl → Bool} {l : List Rl} (h : ∀ r ∈ l, oneE r = 0) : seesF f l < 256 := by
  have := yesN_lt (f := f) (chkR_iff.2 h) (show 0 < 256 by omega)
  exact Nat.xor_lt_two_pow (n := 8) this.1 (Nat.lt_of_le_of_lt Nat.and_le_left this.1)
theorem Alw_append {f : Rl → Bool} {l k : List Rl} {m : Nat} : Alw f (l ++ k) m ↔ Alw f l m ∨ Alw f k m := by
  simp only [Alw, List.mem_append, or_and_right, exists_or]
theorem Dny_append {f : Rl → Bool} {l k : List Rl} {m : Nat} : Dny f (l ++ k) m ↔ Dny f l m ∨ Dny f k m := by
  simp only [Dny, List.mem_append, or_and_right, exists_or]
theorem Alw_one {f : Rl → Bool} {r : Rl} {m : Nat} : Alw f [r] m ↔ f r = true ∧ r.allow = true ∧ r.cats.toNat.testBit m = true := by simp [Alw]
theorem Dny_one {f : Rl → Bool} {r : Rl} {m : Nat} : Dny f [r] m ↔ f r = true ∧ r.allow = false ∧ r.cats.toNat.testBit m = true := by simp [Dny]
theorem Alw_two {f : Rl → Bool} {r s : Rl} {m : Nat} : Alw f [r, s] m ↔ Alw f [r] m ∨ Alw f [s] m := by simp [Alw]
theorem Dny_two {f : Rl → Bool} {r s : Rl} {m : Nat} : Dny f [r, s] m ↔ Dny f [r] m ∨ Dny f [s] m := by simp [Dny]
theorem has_ruleC {bs : List AV} (h : Sh.hasL [.int .i64, .int .i64, .int .i64, .int .i64, .int .i64, .bool] bs) : ∃ r : Rl, bs = [I r.role, I r.why, I r.fr, I r.to, I r.cats, B r.allow] := by
  simp only [Sh.hasL, Sh.has] at h
  obtain ⟨_, _, rfl, ⟨a, rfl, _⟩, _, _, rfl, ⟨b, rfl, _⟩, _, _, rfl, ⟨c, rfl, _⟩, _, _, rfl, ⟨d, rfl, _⟩, _, _, rfl, ⟨e, rfl, _⟩, _, _, rfl, ⟨g, rfl⟩, rfl⟩ := h
  exact ⟨⟨a, b, c, d, e, g⟩, rfl⟩
theorem has_rule {x : AV} (h : Sh.hasV (.struct [.int .i64, .int .i64, .int .i64, .int .i64, .int .i64, .bool]) x) : ∃ r : Rl, x = ruleV r := by
  obtain ⟨bs, rfl, h⟩ := h
  obtain ⟨r, rfl⟩ := has_ruleC h
  exact ⟨r, rfl⟩
theorem has_rules {x : AV} (h : Sh.hasV (.slice 6 (.struct [.int .i64, .int .i64, .int .i64, .int .i64, .int .i64, .bool])) x) : ∃ l : List Rl, x = rules l := by
  obtain ⟨l, e, _⟩ := has_slice (f := fun r : Rl => [I r.role, I r.why, I r.fr, I r.to, I r.cats, B r.allow]) (fun r hr => has_ruleC (by simpa only [Sh.has] using hr)) h
  exact ⟨l, by simpa using e⟩
theorem has_who {x : AV} (h : Sh.hasV (.struct [.int .i64, .int .i64, .int .i64]) x) : ∃ w : Wh, x = whoV w := by
  obtain ⟨bs, rfl, h⟩ := h
  simp only [Sh.hasL, Sh.has] at h
  obtain ⟨_, _, rfl, ⟨a, rfl, _⟩, _, _, rfl, ⟨b, rfl, _⟩, _, _, rfl, ⟨c, rfl, _⟩, rfl⟩ := h
  exact ⟨⟨a, b, c⟩, rfl⟩
end Go.Proofs.YtonolfpnidaflaaDoor.E
