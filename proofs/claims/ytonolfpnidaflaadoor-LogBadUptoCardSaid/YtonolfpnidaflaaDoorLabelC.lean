/- Plain law: labels in order. No conditions. -/
import Derived.Test.YtonolfpnidaflaaDoorLabelB
namespace Go.Proofs.YtonolfpnidaflaaDoor.E
open Go
set_option linter.unusedSimpArgs false
set_option linter.unusedVariables false
set_option linter.unusedSectionVars false
set_option maxRecDepth 20000
def leL (a b c d : Int) : Bool := decide (a ≤ c) && bnot b d == 0
theorem l63 {n : Nat} (h : n < 256) : n < 9223372036854775808 := by omega
theorem c1 {n m : Nat} (h : n < 256) (k : m < 256) : bor n m = ((n ||| m : Nat) : Int) := bor_nat (l63 h) (l63 k)
theorem c2 {n m : Nat} (h : n < 256) (k : m < 256) : band n m = ((n &&& m : Nat) : Int) := band_nat (l63 h) (l63 k)
theorem d1 {n m : Nat} (h : n < 256) (k : m < 256) : n ||| m < 256 := Nat.or_lt_two_pow (n := 8) h k
theorem d2 {n m : Nat} (h : n < 256) : n &&& m < 256 := Nat.lt_of_le_of_lt Nat.and_le_left h
theorem bnot_zero {p r : Nat} (hp : p < 256) (hr : r < 256) : (bnot (p : Int) r == 0) = true ↔ ∀ i, p.testBit i = true → r.testBit i = true := by
  rw [beq_iff_eq]
  exact bnot_sub (l63 hp) (l63 hr)
theorem leL_iff {x p z r : Nat} (hp : p < 256) (hr : r < 256) : leL x p z r = true ↔ x ≤ z ∧ ∀ i, p.testBit i = true → r.testBit i = true := by
  unfold leL
  rw [Bool.and_eq_true, bnot_zero hp hr]
  simp
end Go.Proofs.YtonolfpnidaflaaDoor.E
