/- Several texts in one: Label LabelB LabelC Role RoleP Rule RuleP. No conditions. -/
import Derived.Test.YtonolfpnidaflaaGreatDoorTab
import Derived.Test.YtonolfpnidaflaaGreatDoorGBa
namespace Go.Proofs.YtonolfpnidaflaaGreatDoor.E
open Go
set_option linter.unusedSimpArgs false
set_option linter.unusedVariables false
set_option linter.unusedSectionVars false
set_option maxRecDepth 20000
abbrev lab (l c : Int) : AV := .agg [I l, I c]
def okLab (l c : Int) : Bool := decide (0 ≤ l ∧ l ≤ 3 ∧ 0 ≤ c ∧ c < 256)
theorem Cats_ok (n : Int) : Ok Tryz.prog 87 [I n] (B (decide (0 ≤ n ∧ n < 256))) := by
 refine Ok.of_wp (rs := [.tmp 2]) (n := 9) Tryz.func87 rfl rfl rfl (by simp) fo (by kernel_rfl) ?_
 simp +decide -implicitDefEqProofs only [S0, simprocAttr]
 split <;> refine B_eq ?_ <;> simp <;> omega
theorem Check_ok (l c : Int) : Ok Tryz.prog 184 [lab l c] (I (if okLab l c then 0 else 1)) := by
 refine Ok.of_wp (rs := [.tmp 2]) (n := 17) Tryz.func184 rfl rfl rfl (by simp) fo (by kernel_rfl) ?_
 simp +decide -implicitDefEqProofs only [S0, simprocAttr]
 split
 ·refine I_eq ?_
  simp [okLab]; omega
 ·split
  ·refine I_eq ?_
   simp [okLab]; omega
  ·refine call_eq (Cats_ok c) ?_
   simp +decide -implicitDefEqProofs only [S0, simprocAttr]
   split <;> refine I_eq ?_ <;> simp_all [okLab] <;> omega
theorem two_ok (a b c d : Int) : Ok Tryz.prog 159 [lab a b, lab c d] (I (if okLab a b && okLab c d then 0 else 1)) := by
 refine Ok.of_wp (rs := [.tmp 4]) (n := 13) Tryz.func159 rfl rfl rfl (by simp) fo (by kernel_rfl) ?_
 simp +decide -implicitDefEqProofs only [S0, simprocAttr]
 refine call_eq (Check_ok a b) ?_
 cases okLab a b
 ·simp +decide -implicitDefEqProofs only [S0, simprocAttr]
  simp
 ·simp +decide -implicitDefEqProofs only [S0, simprocAttr]
  refine call_eq (Check_ok c d) ?_
  simp +decide -implicitDefEqProofs only [S0, simprocAttr]
theorem Below_ok (a b c d : Int) : Ok Tryz.prog 132 [lab a b, lab c d] (if okLab a b && okLab c d then .tup [B (decide (a ≤ c) && bnot b d == 0), I 0] else .tup [B false, I 1]) := by
 refine Ok.of_wp (rs := [.tmp 4, .tmp 5]) (n := 26) Tryz.func132 rfl rfl rfl (by simp) fo (by kernel_rfl) ?_
 simp +decide -implicitDefEqProofs only [S0, simprocAttr]
 refine call_eq (two_ok a b c d) ?_
 cases okLab a b && okLab c d
 ·simp +decide -implicitDefEqProofs only [S0, simprocAttr]
 ·simp +decide -implicitDefEqProofs only [S0, simprocAttr]
  split <;> simp_all <;> omega
end Go.Proofs.YtonolfpnidaflaaGreatDoor.E

namespace Go.Proofs.YtonolfpnidaflaaGreatDoor.E
open Go
set_option linter.unusedSimpArgs false
set_option linter.unusedVariables false
set_option linter.unusedSectionVars false
set_option maxRecDepth 20000
set_option maxRecDepth 8000
set_option maxHeartbeats 1000000
end Go.Proofs.YtonolfpnidaflaaGreatDoor.E

namespace Go.Proofs.YtonolfpnidaflaaGreatDoor.E
open Go
set_option linter.unusedSimpArgs false
set_option linter.unusedVariables false
set_option linter.unusedSectionVars false
set_option maxRecDepth 20000
theorem l63 {n : Nat} (h : n < 256) : n < 9223372036854775808 := by omega
theorem c1 {n m : Nat} (h : n < 256) (k : m < 256) : bor n m = ((n ||| m : Nat) : Int) := bor_nat (l63 h) (l63 k)
theorem c2 {n m : Nat} (h : n < 256) (k : m < 256) : band n m = ((n &&& m : Nat) : Int) := band_nat (l63 h) (l63 k)
theorem d1 {n m : Nat} (h : n < 256) (k : m < 256) : n ||| m < 256 := Nat.or_lt_two_pow (n := 8) h k
theorem d2 {n m : Nat} (h : n < 256) : n &&& m < 256 := Nat.lt_of_le_of_lt Nat.and_le_left h
end Go.Proofs.YtonolfpnidaflaaGreatDoor.E

namespace Go.Proofs.YtonolfpnidaflaaGreatDoor.E
open Go
set_option linter.unusedSimpArgs false
set_option linter.unusedVariables false
set_option linter.unusedSectionVars false
set_option maxRecDepth 20000
/-- Roles that may be, from the k-th on. -/
def upFrom : Nat → List Int → Bool
 | _, [] => true
 | k, x :: l => decide (0 ≤ x ∧ x < 2 ^ k) && upFrom (k + 1) l
def chkUp (l : List Int) : Int := if 8 < l.length then 2 else if upFrom 0 l then 0 else 1
def allL (up : List Nat) : Nat → Nat → Nat
 | 0, out => out
 | k + 1, out => allL up k (if out.testBit k then out ||| up.getD k 0 else out)
def allN (up : List Nat) (i : Nat) : Nat := allL up (i + 1) (2 ^ i)
def allI (l : List Int) (i : Nat) : Int := (allN (l.map Int.toNat) i : Int)
theorem rCheck_ok (l : List Int) : Ok Tryz.prog 69 [ints l] (I (chkUp l)) := by
 refine Ok.of_wp (rs := [.tmp 2]) (n := 24) Tryz.func69 rfl rfl rfl (by simp) fo (by kernel_rfl) ?_
 simp +decide -implicitDefEqProofs only [S0, simprocAttr]
 unfold chkUp
 split
 ·refine I_eq ?_
  rw [if_pos (by omega)]
 ·rename_i h8
  rw [if_neg (by omega)]
  refine ALoop.st [2,8,9,10] (fun (i : Nat) => [I 0, ints l, I l.length, I i]) (fun _ => []) (fun i => i ≤ l.length ∧ upFrom i (l.drop i) = upFrom 0 l) (fun i => l.length - i) [] 0 (by simp +decide -implicitDefEqProofs only [S0, simprocAttr]; try omega) (by simp +decide -implicitDefEqProofs only [S0, simprocAttr]) ⟨by omega, rfl⟩ ?_
  rintro i ⟨hi, hu⟩
  simp +decide -implicitDefEqProofs only [S0, simprocAttr]
  split
  ·rename_i h
   obtain ⟨x, hx⟩ := get_lt h
   rw [get_drop hx, upFrom] at hu
   simp +decide -implicitDefEqProofs only [S0, simprocAttr, hx, shl1 (show i < 62 by omega), wr_add1 h (by omega)]
   have e2 : ((2 ^ i : Nat) : Int) = 2 ^ i := by simp
   split
   ·refine I_eq ?_
    rw [← hu, decide_eq_false (by omega)]; rfl
   ·split
    ·refine I_eq ?_
     rw [← hu, decide_eq_false (by omega)]; rfl
    ·refine Nxt.mk [] (i + 1) (by simp +decide -implicitDefEqProofs only [S0, simprocAttr]) (by simp +decide -implicitDefEqProofs only [S0, simprocAttr]) ⟨by omega, ?_⟩ (by omega)
     rw [← hu, decide_eq_true (by omega), Bool.true_and]
  ·rename_i h
   refine I_eq ?_
   rw [drop_all h] at hu
   rw [← hu]; rfl
/-- What is said of a role among these. -/
def chkAt (l : List Int) (i : Int) : Int := if chkUp l = 0 then (if 0 ≤ i ∧ i < l.length then 0 else 4) else chkUp l
theorem upFrom_get : ∀ {l : List Int} {k i : Nat} {x : Int}, upFrom k l = true → l[i]? = some x → ∃ n : Nat, x = n ∧ n < 2 ^ (k + i)
 | y :: l, k, 0, x, h, e => by
  simp only [upFrom, Bool.and_eq_true, decide_eq_true_eq] at h
  simp only [List.getElem?_cons_zero, Option.some.injEq] at e
  subst e
  refine ⟨y.toNat, by omega, ?_⟩
  have := h.1.2
  have e2 : ((2 ^ k : Nat) : Int) = 2 ^ k := by simp
  show _ < 2 ^ k
  omega
 | y :: l, k, i + 1, x, h, e => by
  simp only [upFrom, Bool.and_eq_true, decide_eq_true_eq] at h
  obtain ⟨n, e1, e2⟩ := upFrom_get h.2 e
  exact ⟨n, e1, by rwa [show k + (i + 1) = k + 1 + i by omega]⟩
theorem upOk_of {l : List Int} (hc : chkUp l = 0) : l.length ≤ 8 ∧ upFrom 0 l = true := by
 unfold chkUp at hc
 split at hc
 ·omega
 ·split at hc
  ·exact ⟨by omega, by assumption⟩
  ·omega
theorem getD_toNat {l : List Int} {i : Nat} {x : Int} (h : l[i]? = some x) : (l.map Int.toNat).getD i 0 = x.toNat := by
 simp [List.getD, h]
theorem All_ok (l : List Int) (i : Int) : Ok Tryz.prog 75 [ints l, I i] (.tup [I (if chkAt l i = 0 then allI l i.toNat else 0), I (chkAt l i)]) := by
 refine Ok.of_wp (rs := [.tmp 4, .tmp 5]) (n := 41) Tryz.func75 rfl rfl rfl (by simp) fo (by kernel_rfl) ?_
 simp +decide -implicitDefEqProofs only [S0, simprocAttr]
 refine call_eq (rCheck_ok l) ?_
 unfold chkAt
 by_cases hc : chkUp l = 0
 ·simp +decide -implicitDefEqProofs only [S0, simprocAttr, hc]
  have hl := upOk_of hc
  split
  ·rw [if_neg (show ¬ (0 ≤ i ∧ i < l.length) by omega)]; exact ⟨rfl, rfl⟩
  ·split
   ·rw [if_neg (show ¬ (0 ≤ i ∧ i < l.length) by omega)]; exact ⟨rfl, rfl⟩
   ·rename_i h1 h2
    rw [if_pos (show 0 ≤ i ∧ i < l.length by omega)]
    obtain ⟨n, rfl⟩ : ∃ n : Nat, i = n := ⟨i.toNat, by omega⟩
    simp +decide -implicitDefEqProofs only [S0, simprocAttr, shl1 (show n < 62 by omega)]
    have p8 : ∀ {m : Nat}, m < 8 → 2 ^ m < 256 := fun h => Nat.lt_of_le_of_lt (Nat.pow_le_pow_right (by omega) (show _ ≤ 7 by omega)) (by omega)
    refine ALoop.st [0,7,8] (fun (s : Nat × Nat) => [ints l, I s.1, I ((s.2 : Int) - 1)]) (fun _ => []) (fun s => s.2 ≤ n + 1 ∧ s.1 < 256 ∧ allL (l.map Int.toNat) s.2 s.1 = allN (l.map Int.toNat) n) (fun s => s.2) [] (2 ^ n, n + 1) (by simp +decide -implicitDefEqProofs only [S0, simprocAttr, show ((n + 1 : Nat) : Int) - 1 = n by omega]) (by simp +decide -implicitDefEqProofs only [S0, simprocAttr]) ⟨Nat.le_refl _, p8 (by omega), rfl⟩ ?_
    rintro ⟨o, k⟩ ⟨hk, ho, hu⟩
    simp only at hk ho hu
    rcases k with _ | k
    ·simp +decide -implicitDefEqProofs only [S0, simprocAttr]
     exact I_eq (by rw [allI, ← hu]; rfl)
    ·have e1 : ((k + 1 : Nat) : Int) - 1 = k := by omega
     have e2 : IntKind.i64.wrap ((k : Int) - 1) = (k : Int) - 1 := wr_i64 (by omega) (by omega)
     simp +decide -implicitDefEqProofs only [S0, simprocAttr, e1, e2, bit_eq (show o < 2 ^ 62 by omega) (show k < 62 by omega)]
     obtain ⟨x, hx⟩ := get_lt (show (k : Int) < l.length by omega)
     obtain ⟨m, rfl, hm⟩ := upFrom_get hl.2 hx
     rw [allL, getD_toNat hx] at hu
     have hm8 := p8 (show 0 + k < 8 by omega)
     split
     ·rename_i hb
      rw [if_pos hb] at hu
      simp +decide -implicitDefEqProofs only [S0, simprocAttr, hx, bor_nat (show o < 9223372036854775808 by omega) (show m < 9223372036854775808 by omega)]
      exact Nxt.mk [] (o ||| m, k) (by simp +decide -implicitDefEqProofs only [S0, simprocAttr, e2]) (by simp +decide -implicitDefEqProofs only [S0, simprocAttr]) ⟨by simp only; omega, Nat.or_lt_two_pow (n := 8) ho (by omega), hu⟩ (by simp only; omega)
     ·rename_i hb
      rw [if_neg hb] at hu
      exact Nxt.mk [] (o, k) (by simp +decide -implicitDefEqProofs only [S0, simprocAttr, e2]) (by simp +decide -implicitDefEqProofs only [S0, simprocAttr]) ⟨by simp only; omega, ho, hu⟩ (by simp only; omega)
 ·simp +decide -implicitDefEqProofs only [S0, simprocAttr, hc]
def within (k n : Int) : Int := (k % 2 ^ 64) % n
theorem Within_ok (k n : Int) (h : 0 < n) (h2 : n < 2 ^ 63) : Ok Tryz.prog 21 [I k, I n] (I (within k n)) := by
 refine Ok.of_wp (rs := [.tmp 4]) (n := 11) Tryz.func21 rfl rfl rfl (by simp) fo (by kernel_rfl) ?_
 simp +decide -implicitDefEqProofs only [S0, simprocAttr]
 have e1 : ∀ x : Int, IntKind.u64.wrap x = x % 2 ^ 64 := fun x => rfl
 rw [e1 n, e1 k, Int.emod_eq_of_lt (by omega) (by omega)]
 refine ⟨by omega, I_eq ?_⟩
 have h3 : 0 ≤ k % 2 ^ 64 := Int.emod_nonneg _ (by omega)
 rw [Int.tmod_eq_emod_of_nonneg h3]
 have h4 : 0 ≤ (k % 2 ^ 64) % n := Int.emod_nonneg _ (by omega)
 have h5 : (k % 2 ^ 64) % n < n := Int.emod_lt_of_pos _ h
 exact wr_i64 (by omega) (by omega)
end Go.Proofs.YtonolfpnidaflaaGreatDoor.E

namespace Go.Proofs.YtonolfpnidaflaaGreatDoor.E
open Go
set_option linter.unusedSimpArgs false
set_option linter.unusedVariables false
set_option linter.unusedSectionVars false
set_option maxRecDepth 20000
theorem allL_or (up : List Nat) (k a b : Nat) : allL up k (a ||| b) = allL up k a ||| allL up k b := by
 induction k generalizing a b with
 | zero => rfl
 | succ k ih =>
  simp only [allL, Nat.testBit_or]
  have h : (if (a.testBit k || b.testBit k) = true then a ||| b ||| up.getD k 0 else a ||| b) = (if a.testBit k = true then a ||| up.getD k 0 else a) ||| (if b.testBit k = true then b ||| up.getD k 0 else b) := by
   apply Nat.eq_of_testBit_eq; intro i
   cases ha : a.testBit k <;> cases hb : b.testBit k <;> simp [Nat.testBit_or] <;> cases a.testBit i <;> cases b.testBit i <;> simp
  rw [h, ih]
theorem allL_high (up : List Nat) (k a : Nat) (h : ∀ j, j < k → a.testBit j = false) : allL up k a = a := by
 induction k with
 | zero => rfl
 | succ k ih =>
  simp only [allL]
  rw [h k (by omega)]
  exact ih fun j hj => h j (by omega)
theorem allN_eq (up : List Nat) (i : Nat) : allN up i = 2 ^ i ||| allL up i (up.getD i 0) := by
 unfold allN
 simp only [allL, Nat.testBit_two_pow_self, if_true]
 rw [allL_or, allL_high up i (2 ^ i)]
 intro j hj
 rw [Nat.testBit_two_pow]
 simp; omega
theorem allL_bits (up : List Nat) (k a m : Nat) : (allL up k a).testBit m = true ↔ a.testBit m = true ∨ ∃ j, j < k ∧ a.testBit j = true ∧ (allN up j).testBit m = true := by
 induction k generalizing a with
 | zero => simp [allL]
 | succ k ih =>
  simp only [allL]
  cases hk : a.testBit k with
  | false =>
   simp only [Bool.false_eq_true, if_false]
   rw [ih]
   constructor
   ·rintro (h | ⟨j, h1, h2⟩)
    ·exact .inl h
    ·exact .inr ⟨j, by omega, h2⟩
   ·rintro (h | ⟨j, h1, h2, h3⟩)
    ·exact .inl h
    ·rcases Nat.lt_or_ge j k with h4 | h4
     ·exact .inr ⟨j, h4, h2, h3⟩
     ·obtain rfl : j = k := by omega
      rw [hk] at h2; cases h2
  | true =>
   simp only [if_true]
   rw [allL_or, Nat.testBit_or, Bool.or_eq_true, ih a]
   constructor
   ·rintro ((h | ⟨j, h1, h2⟩) | h)
    ·exact .inl h
    ·exact .inr ⟨j, by omega, h2⟩
    ·refine .inr ⟨k, by omega, hk, ?_⟩
     rw [allN_eq, Nat.testBit_or, h, Bool.or_true]
   ·rintro (h | ⟨j, h1, h2, h3⟩)
    ·exact .inl (.inl h)
    ·rcases Nat.lt_or_ge j k with h4 | h4
     ·exact .inl (.inr ⟨j, h4, h2, h3⟩)
     ·obtain rfl : j = k := by omega
      rw [allN_eq, Nat.testBit_or, Bool.or_eq_true, Nat.testBit_two_pow] at h3
      rcases h3 with h3 | h3
      ·have : j = m := by simpa using h3
       subst this
       exact .inl (.inl hk)
      ·exact .inr h3
theorem allN_self (up : List Nat) (i : Nat) : (allN up i).testBit i = true := by
 rw [allN_eq, Nat.testBit_or, Nat.testBit_two_pow_self]; rfl
theorem lt_of_bit {n i m : Nat} (h : n < 2 ^ i) (hb : n.testBit m = true) : m < i := by
 rcases Nat.lt_or_ge m i with h1 | h1
 ·exact h1
 ·rw [Nat.testBit_lt_two_pow (Nat.lt_of_lt_of_le h (Nat.pow_le_pow_right (by omega) h1))] at hb; cases hb
/-- Who comes with a role: itself, and who comes with those that come with it at once. -/
theorem allN_bits {up : List Nat} {i : Nat} (hu : up.getD i 0 < 2 ^ i) (m : Nat) : (allN up i).testBit m = true ↔ m = i ∨ ∃ j, j < i ∧ (up.getD i 0).testBit j = true ∧ (allN up j).testBit m = true := by
 unfold allN
 rw [allL_bits]
 have h2 : (2 ^ i).testBit m = true ↔ m = i := by rw [Nat.testBit_two_pow]; simp [eq_comm]
 constructor
 ·rintro (h | ⟨j, h1, h3, h4⟩)
  ·exact .inl (h2.1 h)
  ·rw [Nat.testBit_two_pow] at h3
   have : i = j := by simpa using h3
   subst this
   rw [allN_eq, Nat.testBit_or, Bool.or_eq_true] at h4
   rcases h4 with h4 | h4
   ·exact .inl (h2.1 h4)
   ·rw [allL_bits] at h4
    rcases h4 with h4 | ⟨j, h5, h6, h7⟩
    ·exact .inr ⟨m, lt_of_bit hu h4, h4, allN_self up m⟩
    ·exact .inr ⟨j, h5, h6, h7⟩
 ·rintro (h | ⟨j, h1, h3, h4⟩)
  ·exact .inl (h2.2 h)
  ·refine .inr ⟨i, by omega, Nat.testBit_two_pow_self, ?_⟩
   rw [allN_eq, Nat.testBit_or, Bool.or_eq_true, allL_bits]
   exact .inr (.inr ⟨j, h1, h3, h4⟩)
/-- Each role's bits are those of lower ones. -/
def upN (up : List Nat) : Prop := ∀ i, up.getD i 0 < 2 ^ i
theorem allN_lt {up : List Nat} (hu : upN up) {i m : Nat} (h : (allN up i).testBit m = true) : m ≤ i := by
 induction i using Nat.strongRecOn generalizing m with
 | _ i ih =>
  rcases (allN_bits (hu i) m).1 h with rfl | ⟨j, h1, h2, h3⟩
  ·omega
  ·have := ih j h1 h3; omega
theorem upFrom_upN {l : List Int} (h : upFrom 0 l = true) : upN (l.map Int.toNat) := by
 intro i
 cases e : l[i]? with
 | none => simp [List.getD, e, Nat.two_pow_pos]
 | some x =>
  rw [getD_toNat e]
  obtain ⟨n, rfl, hn⟩ := upFrom_get h e
  simpa using hn
theorem allN_pow {up : List Nat} (hu : upN up) (i : Nat) : allN up i < 2 ^ (i + 1) := by
 apply Nat.lt_pow_two_of_testBit
 intro j hj
 cases e : (allN up i).testBit j with
 | false => rfl
 | true => have := allN_lt hu e; omega
theorem within_lt (k : Int) {n : Nat} (h : 0 < n) : ∃ i : Nat, within k n = i ∧ i < n := by
 refine ⟨(within k n).toNat, ?_, ?_⟩ <;>
 ·have h1 : 0 ≤ within k n := Int.emod_nonneg _ (by omega)
  have h2 : within k n < n := Int.emod_lt_of_pos _ (by omega)
  omega
end Go.Proofs.YtonolfpnidaflaaGreatDoor.E

namespace Go.Proofs.YtonolfpnidaflaaGreatDoor.E
open Go
set_option linter.unusedSimpArgs false
set_option linter.unusedVariables false
set_option linter.unusedSectionVars false
set_option maxRecDepth 20000
structure Rl where
 role : Int
 why : Int
 fr : Int
 to : Int
 cats : Int
 allow : Bool
structure Wh where
 role : Int
 why : Int
 time : Int
abbrev ruleV (r : Rl) : AV := .agg [I r.role, I r.why, I r.fr, I r.to, I r.cats, B r.allow]
abbrev rules (l : List Rl) : AV := .list 6 (l.map fun r => [I r.role, I r.why, I r.fr, I r.to, I r.cats, B r.allow])
abbrev whoV (w : Wh) : AV := .agg [I w.role, I w.why, I w.time]
def oneOk (r : Rl) : Bool := decide (-1 ≤ r.role ∧ r.role < 8 ∧ -1 ≤ r.why ∧ r.why < 4 ∧ 0 ≤ r.fr ∧ r.to ≤ 1000 ∧ 0 ≤ r.cats ∧ r.cats < 256)
def oneE (r : Rl) : Int := if oneOk r then (if r.fr < r.to then 0 else 3) else 1
def chkR : List Rl → Int
 | [] => 0
 | r :: l => if oneE r = 0 then chkR l else oneE r
def chkRs (l : List Rl) : Int := if 20 < l.length then 2 else chkR l
def whoOk (w : Wh) : Bool := decide (0 ≤ w.role ∧ w.role < 8 ∧ 0 ≤ w.why ∧ w.why < 4 ∧ 0 ≤ w.time ∧ w.time < 1000)
def fitsN (roles : Nat) (w : Wh) (r : Rl) : Bool := (decide (r.role < 0) || roles.testBit r.role.toNat) && (decide (r.why < 0) || decide (r.why = w.why)) && decide (r.fr ≤ w.time) && decide (w.time < r.to)
def yesN (f : Rl → Bool) : List Rl → Nat → Nat
 | [], a => a
 | r :: l, a => yesN f l (if f r && r.allow then a ||| r.cats.toNat else a)
def noN (f : Rl → Bool) : List Rl → Nat → Nat
 | [], a => a
 | r :: l, a => noN f l (if f r && !r.allow then a ||| r.cats.toNat else a)
def seesE (up : List Int) (l : List Rl) (w : Wh) : Int := if chkUp up = 0 then (if chkRs l = 0 then (if whoOk w then chkAt up w.role else 1) else chkRs l) else chkUp up
def seesM (up : List Int) (l : List Rl) (w : Wh) : Nat :=
 let f := fitsN (allN (up.map Int.toNat) w.role.toNat) w
 yesN f l 0 ^^^ (yesN f l 0 &&& noN f l 0)
theorem oneE_bad {r : Rl} (h : ¬ (-1 ≤ r.role ∧ r.role < 8 ∧ -1 ≤ r.why ∧ r.why < 4 ∧ 0 ≤ r.fr ∧ r.to ≤ 1000 ∧ 0 ≤ r.cats ∧ r.cats < 256)) : I 1 = I (oneE r) := by
 rw [oneE, oneOk, decide_eq_false h]; rfl
theorem One_ok (r : Rl) : Ok Tryz.prog 71 [ruleV r] (I (oneE r)) := by
 refine Ok.of_wp (rs := [.tmp 2]) (n := 42) Tryz.func71 rfl rfl rfl (by simp) fo (by kernel_rfl) ?_
 simp +decide -implicitDefEqProofs only [S0, simprocAttr]
 split
 ·exact oneE_bad (by omega)
 ·split
  ·exact oneE_bad (by omega)
  ·split
   ·exact oneE_bad (by omega)
   ·split
    ·exact oneE_bad (by omega)
    ·split
     ·exact oneE_bad (by omega)
     ·split
      ·exact oneE_bad (by omega)
      ·refine call_eq (Cats_ok r.cats) ?_
       by_cases hc : 0 ≤ r.cats ∧ r.cats < 256
       ·rw [decide_eq_true hc]
        simp +decide -implicitDefEqProofs only [S0, simprocAttr]
        have : oneOk r = true := decide_eq_true (by omega)
        split
        ·refine I_eq ?_; rw [oneE, this, if_pos rfl, if_neg (by omega)]
        ·refine I_eq ?_; rw [oneE, this, if_pos rfl, if_pos (by omega)]
       ·rw [decide_eq_false hc]
        simp +decide -implicitDefEqProofs only [S0, simprocAttr]
        exact oneE_bad (by omega)
theorem chkRules_ok (l : List Rl) : Ok Tryz.prog 34 [rules l] (I (chkRs l)) := by
 refine Ok.of_wp (rs := [.tmp 2]) (n := 21) Tryz.func34 rfl rfl rfl (by simp) fo (by kernel_rfl) ?_
 simp +decide -implicitDefEqProofs only [S0, simprocAttr]
 split
 ·refine I_eq ?_; rw [chkRs, if_pos (by omega)]
 ·rename_i h8
  have e0 : chkRs l = chkR l := by rw [chkRs, if_neg (by omega)]
  rw [e0]
  refine ALoop.st [2,9,10,11] (fun (i : Nat) => [I 0, rules l, I l.length, I i]) (fun _ => []) (fun i => i ≤ l.length ∧ chkR (l.drop i) = chkR l) (fun i => l.length - i) [] 0 (by simp +decide -implicitDefEqProofs only [S0, simprocAttr]; try omega) (by simp +decide -implicitDefEqProofs only [S0, simprocAttr]) ⟨by omega, rfl⟩ ?_
  rintro i ⟨hi, hu⟩
  simp +decide -implicitDefEqProofs only [S0, simprocAttr]
  split
  ·rename_i h
   obtain ⟨x, hx⟩ := get_lt h
   rw [get_drop hx, chkR] at hu
   simp +decide -implicitDefEqProofs only [S0, simprocAttr, hx]
   refine call_eq (One_ok x) ?_
   by_cases he : oneE x = 0
   ·rw [if_pos he] at hu
    simp +decide -implicitDefEqProofs only [S0, simprocAttr, he, wr_add1 h (by omega)]
    exact Nxt.mk [] (i + 1) (by simp +decide -implicitDefEqProofs only [S0, simprocAttr]) (by simp +decide -implicitDefEqProofs only [S0, simprocAttr]) ⟨by omega, hu⟩ (by omega)
   ·rw [if_neg he] at hu
    simp +decide -implicitDefEqProofs only [S0, simprocAttr, he]
    rw [← hu]
  ·rename_i h
   rw [drop_all h] at hu
   rw [← hu]; rfl
theorem Who_ok (w : Wh) : Ok Tryz.prog 74 [whoV w] (B (whoOk w)) := by
 refine Ok.of_wp (rs := [.tmp 2]) (n := 31) Tryz.func74 rfl rfl rfl (by simp) fo (by kernel_rfl) ?_
 simp +decide -implicitDefEqProofs only [S0, simprocAttr]
 have bad : ¬ (0 ≤ w.role ∧ w.role < 8 ∧ 0 ≤ w.why ∧ w.why < 4 ∧ 0 ≤ w.time ∧ w.time < 1000) → B false = B (whoOk w) := fun h => by rw [whoOk, decide_eq_false h]
 split
 ·split
  ·split
   ·split
    ·split
     ·refine B_eq ?_
      unfold whoOk
      rw [Bool.eq_iff_iff, decide_eq_true_eq, decide_eq_true_eq]
      omega
     ·exact bad (by omega)
    ·exact bad (by omega)
   ·exact bad (by omega)
  ·exact bad (by omega)
 ·exact bad (by omega)
theorem fits_ok {r : Rl} {roles : Nat} {w : Wh} (hr : roles < 2 ^ 62) (ho : oneOk r = true) : Ok Tryz.prog 76 [ruleV r, I roles, whoV w] (B (fitsN roles w r)) := by
 refine Ok.of_wp (rs := [.tmp 6]) (n := 44) Tryz.func76 rfl rfl rfl (by simp) fo (by kernel_rfl) ?_
 simp only [oneOk, decide_eq_true_eq] at ho
 unfold fitsN
 by_cases h1 : r.role < 0
 ·simp +decide -implicitDefEqProofs only [S0, simprocAttr, h1]
  repeat' split
  all_goals
   refine B_eq ?_
   simp_all <;> omega
 ·obtain ⟨k, hk⟩ : ∃ k : Nat, r.role = k := ⟨r.role.toNat, by omega⟩
  simp +decide -implicitDefEqProofs only [S0, simprocAttr, hk, show ¬ ((k : Int) < 0) by omega, bit_eq hr (show k < 62 by omega)]
  repeat' split
  all_goals
   refine B_eq ?_
   simp_all <;> omega
theorem yesN_lt {f : Rl → Bool} {l : List Rl} {a : Nat} (h : chkR l = 0) (ha : a < 256) : yesN f l a < 256 ∧ noN f l a < 256 := by
 induction l generalizing a with
 | nil => exact ⟨ha, ha⟩
 | cons r l ih =>
  simp only [chkR] at h
  split at h
  ·rename_i he
   have hr : r.cats.toNat < 256 := by
    unfold oneE at he
    split at he
    ·rename_i ho; simp only [oneOk, decide_eq_true_eq] at ho; omega
    ·omega
   have hor : a ||| r.cats.toNat < 256 := Nat.or_lt_two_pow (n := 8) ha hr
   simp only [yesN, noN]
   refine ⟨?_, ?_⟩
   ·split
    ·exact (ih h hor).1
    ·exact (ih h ha).1
   ·split
    ·exact (ih h hor).2
    ·exact (ih h ha).2
  ·contradiction
theorem oneOk_of {r : Rl} (h : oneE r = 0) : oneOk r = true := by
 unfold oneE at h
 split at h
 ·assumption
 ·omega
theorem chkR_mem {l : List Rl} (h : chkR l = 0) {r : Rl} (hr : r ∈ l) : oneOk r = true := by
 induction l with
 | nil => cases hr
 | cons x l ih =>
  simp only [chkR] at h
  split at h
  ·rename_i he
   rcases List.mem_cons.1 hr with rfl | hr
   ·exact oneOk_of he
   ·exact ih h hr
  ·contradiction
theorem chkRs_of {l : List Rl} (h : chkRs l = 0) : l.length ≤ 20 ∧ chkR l = 0 := by
 unfold chkRs at h
 split at h
 ·omega
 ·exact ⟨by omega, h⟩
theorem chkAt_nz {u : List Int} {i : Int} (h : chkUp u = 0) : chkAt u i = 0 ↔ 0 ≤ i ∧ i < u.length := by
 unfold chkAt
 rw [if_pos h]
 split
 ·simp_all
 ·simp_all
theorem Sees_ok (up : List Int) (l : List Rl) (w : Wh) : Ok Tryz.prog 39 [ints up, rules l, whoV w] (.tup [I (if seesE up l w = 0 then (seesM up l w : Nat) else 0), I (seesE up l w)]) := by
 refine Ok.of_wp (rs := [.tmp 6, .tmp 7]) (n := 66) Tryz.func39 rfl rfl rfl (by simp) fo (by kernel_rfl) ?_
 simp +decide -implicitDefEqProofs only [S0, simprocAttr]
 refine call_eq (rCheck_ok up) ?_
 by_cases h1 : chkUp up = 0
 ·simp +decide -implicitDefEqProofs only [S0, simprocAttr, h1]
  refine call_eq (chkRules_ok l) ?_
  by_cases h2 : chkRs l = 0
  ·simp +decide -implicitDefEqProofs only [S0, simprocAttr, h2]
   refine call_eq (Who_ok w) ?_
   by_cases h3 : whoOk w = true
   ·simp +decide -implicitDefEqProofs only [S0, simprocAttr, h3]
    refine call_eq (All_ok up w.role) ?_
    have e : seesE up l w = chkAt up w.role := by rw [seesE, if_pos h1, if_pos h2, if_pos h3]
    by_cases h4 : chkAt up w.role = 0
    ·simp +decide -implicitDefEqProofs only [S0, simprocAttr, h4, e]
     obtain ⟨hl, hc⟩ := chkRs_of h2
     have hr := (chkAt_nz h1).1 h4
     have hup := upOk_of h1
     have hr62 : allN (up.map Int.toNat) w.role.toNat < 2 ^ 62 := Nat.lt_trans (allN_pow (upFrom_upN hup.2) _) (pow_lt (by omega))
     rw [allI, seesM]
     generalize allN (up.map Int.toNat) w.role.toNat = roles at hr62
     have hok : ∀ {i : Nat} {r : Rl}, l[i]? = some r → oneOk r = true := fun {i r} hi => chkR_mem hc (List.mem_of_getElem? hi)
     generalize hf : fitsN roles w = f
     refine ALoop.st [5,10,12,13,39,40,41] (fun (s : Nat × Nat × Nat) => [.ptr (.l 5) 1 0, I roles, I s.1, I s.2.1, rules l, I l.length, I s.2.2]) (fun _ => [(.l 5, 1, .cells 30 [I w.role, I w.why, I w.time])])
      (fun s => s.2.2 ≤ l.length ∧ s.1 < 256 ∧ s.2.1 < 256 ∧ yesN f (l.drop s.2.2) s.1 = yesN f l 0 ∧ noN f (l.drop s.2.2) s.2.1 = noN f l 0) (fun s => l.length - s.2.2) [] (0, 0, 0) (by simp +decide -implicitDefEqProofs only [S0, simprocAttr]; try simp) (by simp +decide -implicitDefEqProofs only [S0, simprocAttr]) ⟨by simp, by simp, by simp, rfl, rfl⟩ ?_
     rintro ⟨y, z, i⟩ ⟨hi, hy, hz, hY, hZ⟩
     simp only at hi hy hz hY hZ
     simp +decide -implicitDefEqProofs only [S0, simprocAttr]
     split
     ·rename_i h
      obtain ⟨r, hx⟩ := get_lt h
      rw [get_drop hx, yesN] at hY
      rw [get_drop hx, noN] at hZ
      have ho := hok hx
      have ho' := ho
      simp only [oneOk, decide_eq_true_eq] at ho'
      obtain ⟨c, hcc⟩ : ∃ c : Nat, r.cats = c := ⟨r.cats.toNat, by omega⟩
      have hc256 : c < 256 := by omega
      simp +decide -implicitDefEqProofs only [S0, simprocAttr, hx]
      refine call_eq (fits_ok hr62 ho) ?_
      rw [hf]
      have hw := wr_add1 h (show l.length < 2 ^ 62 by omega)
      cases hfr : f r
      ·rw [hfr, Bool.false_and, if_neg (by simp)] at hY hZ
       simp +decide -implicitDefEqProofs only [S0, simprocAttr]
       exact Nxt.mk [] (y, z, i + 1) (by simp +decide -implicitDefEqProofs only [S0, simprocAttr, hw]) (by simp +decide -implicitDefEqProofs only [S0, simprocAttr]) ⟨by simp only; omega, hy, hz, hY, hZ⟩ (by simp only; omega)
      ·cases hal : r.allow
       ·simp only [hfr, hal, Bool.and_false, Bool.true_and, Bool.not_false, if_true, Bool.false_eq_true, if_false, hcc, Int.toNat_natCast] at hY hZ
        simp +decide -implicitDefEqProofs only [S0, simprocAttr, hal, hcc, bor_nat (show z < 9223372036854775808 by omega) (show c < 9223372036854775808 by omega)]
        exact Nxt.mk [] (y, z ||| c, i + 1) (by simp +decide -implicitDefEqProofs only [S0, simprocAttr, hw]) (by simp +decide -implicitDefEqProofs only [S0, simprocAttr]) ⟨by simp only; omega, hy, Nat.or_lt_two_pow (n := 8) hz hc256, hY, hZ⟩ (by simp only; omega)
       ·simp only [hfr, hal, Bool.and_false, Bool.true_and, Bool.and_true, Bool.not_true, if_true, Bool.false_eq_true, if_false, hcc, Int.toNat_natCast] at hY hZ
        simp +decide -implicitDefEqProofs only [S0, simprocAttr, hal, hcc, bor_nat (show y < 9223372036854775808 by omega) (show c < 9223372036854775808 by omega)]
        exact Nxt.mk [] (y ||| c, z, i + 1) (by simp +decide -implicitDefEqProofs only [S0, simprocAttr, hw]) (by simp +decide -implicitDefEqProofs only [S0, simprocAttr]) ⟨by simp only; omega, Nat.or_lt_two_pow (n := 8) hy hc256, hz, hY, hZ⟩ (by simp only; omega)
     ·rename_i h
      rw [drop_all h, yesN] at hY
      rw [drop_all h, noN] at hZ
      rw [← hY, ← hZ]
      exact I_eq (bnot_nat (by omega) (by omega))
    ·simp +decide -implicitDefEqProofs only [S0, simprocAttr, h4, e]
   ·simp +decide -implicitDefEqProofs only [S0, simprocAttr, h3]
    have e : seesE up l w = 1 := by rw [seesE, if_pos h1, if_pos h2, if_neg h3]
    simp +decide -implicitDefEqProofs only [S0, simprocAttr, e]
  ·have e : seesE up l w = chkRs l := by rw [seesE, if_pos h1, if_neg h2]
   simp +decide -implicitDefEqProofs only [S0, simprocAttr, h2, e]
 ·have e : seesE up l w = chkUp up := by rw [seesE, if_neg h1]
  simp +decide -implicitDefEqProofs only [S0, simprocAttr, h1, e]
end Go.Proofs.YtonolfpnidaflaaGreatDoor.E

namespace Go.Proofs.YtonolfpnidaflaaGreatDoor.E
open Go
set_option linter.unusedSimpArgs false
set_option linter.unusedVariables false
set_option linter.unusedSectionVars false
set_option maxRecDepth 20000
def seesF (f : Rl → Bool) (l : List Rl) : Nat := yesN f l 0 ^^^ (yesN f l 0 &&& noN f l 0)
def fitsW (up : List Int) (w : Wh) : Rl → Bool := fitsN (allN (up.map Int.toNat) w.role.toNat) w
theorem chkR_iff {l : List Rl} : chkR l = 0 ↔ ∀ r ∈ l, oneE r = 0 := by
 induction l with
 | nil => simp [chkR]
 | cons r l ih =>
  simp only [chkR, List.mem_cons, forall_eq_or_imp]
  split
  ·rw [ih]; simp_all
  ·simp_all
/-- May the question be? -/
def askOk (up : List Int) (w : Wh) : Prop := chkUp up = 0 ∧ whoOk w = true ∧ chkAt up w.role = 0
theorem seesE_zero {up : List Int} {l : List Rl} {w : Wh} : seesE up l w = 0 ↔ askOk up w ∧ l.length ≤ 20 ∧ ∀ r ∈ l, oneE r = 0 := by
 unfold seesE askOk
 rw [← chkR_iff]
 have : chkRs l = 0 ↔ l.length ≤ 20 ∧ chkR l = 0 := ⟨chkRs_of, fun h => by rw [chkRs, if_neg (by omega)]; exact h.2⟩
 rw [← this]
 by_cases h1 : chkUp up = 0
 ·rw [if_pos h1]
  by_cases h2 : chkRs l = 0
  ·rw [if_pos h2]
   by_cases h3 : whoOk w = true
   ·rw [if_pos h3]; simp [h1, h2, h3]
   ·rw [if_neg h3]; simp [h3]
  ·rw [if_neg h2]; simp [h2]
 ·rw [if_neg h1]; simp [h1]
theorem seesF_lt {f : Rl → Bool} {l : List Rl} (h : ∀ r ∈ l, oneE r = 0) : seesF f l < 256 := by
 have := yesN_lt (f := f) (chkR_iff.2 h) (show 0 < 256 by omega)
 exact Nat.xor_lt_two_pow (n := 8) this.1 (Nat.lt_of_le_of_lt Nat.and_le_left this.1)
theorem Sees_ok' {up : List Int} {l : List Rl} {w : Wh} (h : askOk up w) (hl : l.length ≤ 20) (hr : ∀ r ∈ l, oneE r = 0) : Ok Tryz.prog 39 [ints up, rules l, whoV w] (.tup [I (seesF (fitsW up w) l : Nat), I 0]) := by
 have := Sees_ok up l w
 rw [seesE_zero.2 ⟨h, hl, hr⟩] at this
 exact this
theorem Sees_bad {up : List Int} {l : List Rl} {w : Wh} (h : ¬ seesE up l w = 0) : Ok Tryz.prog 39 [ints up, rules l, whoV w] (.tup [I 0, I (seesE up l w)]) := by
 have := Sees_ok up l w
 rwa [if_neg h] at this
theorem cloneRules_ok (l : List Rl) (hl : l.length ≤ 1000000) : OkH Tryz.prog 35 [rules l] [] (.own (.e 0) 1 6 0 l.length) [(1, .row 54 6 none (l.map fun r => [I r.role, I r.why, I r.fr, I r.to, I r.cats, B r.allow]))] := by
 refine OkH.of_wpX (rs := [.tmp 2]) (n := 8) Tryz.func35 rfl rfl rfl (by simp) fo (by kernel_rfl) ?_
 simp +decide -implicitDefEqProofs only [S0, simprocAttr]
 refine ⟨fun h => ⟨[none], ?_⟩, by omega, ⟨[some (.l 5)], ?_⟩⟩
 ·obtain rfl := List.map_eq_nil_iff.1 h
  simp +decide -implicitDefEqProofs only [S0, simprocAttr]
 ·simp +decide -implicitDefEqProofs only [S0, simprocAttr]
end Go.Proofs.YtonolfpnidaflaaGreatDoor.E
