/- Plain law: bits of small numbers. No conditions. -/
import Derived.Test.YtonolfpnidaflaaDoorEngineC
namespace Go.Proofs.YtonolfpnidaflaaDoor.E
open Go
set_option linter.unusedSimpArgs false
set_option linter.unusedVariables false
set_option linter.unusedSectionVars false
set_option maxRecDepth 20000
abbrev bor (a b : Int) : Int := bits .or .i64 a b
abbrev band (a b : Int) : Int := bits .and .i64 a b
abbrev bnot (a b : Int) : Int := bits .andNot .i64 a b
theorem wrap_nat {n : Nat} (h : n < 9223372036854775808) : IntKind.i64.wrap (n : Int) = (n : Int) := wr_i64 (by omega) (by omega)
theorem bv_nat {n : Nat} (h : n < 9223372036854775808) : (BitVec.ofInt 64 (n : Int)).toNat = n := by
  rw [BitVec.toNat_ofInt]; omega
theorem bor_nat {n m : Nat} (h : n < 9223372036854775808) (k : m < 9223372036854775808) : bor n m = ((n ||| m : Nat) : Int) := by
  show IntKind.i64.wrap (((BitVec.ofInt 64 (n : Int)) ||| (BitVec.ofInt 64 (m : Int))).toNat : Int) = _
  rw [BitVec.toNat_or, bv_nat h, bv_nat k]
  exact wrap_nat (Nat.or_lt_two_pow (n := 63) h k)
theorem band_nat {n m : Nat} (h : n < 9223372036854775808) (k : m < 9223372036854775808) : band n m = ((n &&& m : Nat) : Int) := by
  show IntKind.i64.wrap (((BitVec.ofInt 64 (n : Int)) &&& (BitVec.ofInt 64 (m : Int))).toNat : Int) = _
  rw [BitVec.toNat_and, bv_nat h, bv_nat k]
  exact wrap_nat (Nat.lt_of_le_of_lt Nat.and_le_left h)
theorem bnot_nat {n m : Nat} (h : n < 9223372036854775808) (k : m < 9223372036854775808) : bnot n m = ((n ^^^ (n &&& m) : Nat) : Int) := by
  show IntKind.i64.wrap (((BitVec.ofInt 64 (n : Int)) &&& ~~~(BitVec.ofInt 64 (m : Int))).toNat : Int) = _
  have e : (((BitVec.ofInt 64 (n : Int)) &&& ~~~(BitVec.ofInt 64 (m : Int)))).toNat = n ^^^ (n &&& m) := by
    have : (((BitVec.ofInt 64 (n : Int)) &&& ~~~(BitVec.ofInt 64 (m : Int)))) = (BitVec.ofInt 64 (n : Int)) ^^^ ((BitVec.ofInt 64 (n : Int)) &&& (BitVec.ofInt 64 (m : Int))) := by
      ext i hi
      simp only [BitVec.getElem_and, BitVec.getElem_not, BitVec.getElem_xor]
      cases (BitVec.ofInt 64 (n : Int))[i] <;> cases (BitVec.ofInt 64 (m : Int))[i] <;> rfl
    rw [this, BitVec.toNat_xor, BitVec.toNat_and, bv_nat h, bv_nat k]
  rw [e]
  exact wrap_nat (Nat.xor_lt_two_pow (n := 63) h (Nat.lt_of_le_of_lt Nat.and_le_left h))
/-- The low bits of any number. -/
theorem band_low (a : Int) (j : Nat) (hj : j < 63) : ∃ n : Nat, n < 2 ^ j ∧ band a ((2 ^ j - 1 : Nat) : Int) = (n : Int) := by
  have hp : 2 ^ j ≤ 2 ^ 62 := Nat.pow_le_pow_right (by omega) (by omega)
  refine ⟨((BitVec.ofInt 64 a).toNat &&& (2 ^ j - 1)), ?_, ?_⟩
  · rw [Nat.and_two_pow_sub_one_eq_mod]; exact Nat.mod_lt _ (Nat.two_pow_pos j)
  · show IntKind.i64.wrap (((BitVec.ofInt 64 a) &&& (BitVec.ofInt 64 ((2 ^ j - 1 : Nat) : Int))).toNat : Int) = _
    rw [BitVec.toNat_and, bv_nat (by omega)]
    exact wrap_nat (Nat.lt_of_le_of_lt Nat.and_le_right (by omega))
theorem bnot_sub {p r : Nat} (hp : p < 9223372036854775808) (hr : r < 9223372036854775808) : bnot (p : Int) r = 0 ↔ ∀ i, p.testBit i = true → r.testBit i = true := by
  rw [bnot_nat hp hr]
  have : ((p ^^^ (p &&& r) : Nat) : Int) = 0 ↔ p ^^^ (p &&& r) = 0 := by omega
  rw [this]
  constructor
  · intro h i hi
    have := congrArg (fun n => Nat.testBit n i) h
    simp only [Nat.testBit_xor, Nat.testBit_and, hi, Nat.zero_testBit] at this
    simpa using this
  · intro h
    apply Nat.eq_of_testBit_eq
    intro i
    simp only [Nat.testBit_xor, Nat.testBit_and, Nat.zero_testBit]
    have := h i
    cases hp : p.testBit i
    · simp
    · rw [this hp]; simp
end Go.Proofs.YtonolfpnidaflaaDoor.E
