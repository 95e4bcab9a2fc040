/- Walks: labels that may be. No conditions. -/
import Derived.Test.YtonolfpnidaflaaDoorLabel
namespace Go.Proofs.YtonolfpnidaflaaDoor.E
open Go
set_option linter.unusedSimpArgs false
set_option linter.unusedVariables false
set_option linter.unusedSectionVars false
set_option maxRecDepth 20000
set_option maxRecDepth 8000
set_option maxHeartbeats 1000000
theorem lab_nat {a b : Int} (h : okLab a b = true) : ∃ n m : Nat, n < 4 ∧ m < 256 ∧ a = n ∧ b = m := by
  simp only [okLab, decide_eq_true_eq] at h
  exact ⟨a.toNat, b.toNat, by omega, by omega, by omega, by omega⟩
theorem okJ {a b c d : Int} (h : okLab a b = true) (k : okLab c d = true) : okLab (max a c) (bor b d) = true := by
  obtain ⟨n, m, h1, h2, rfl, rfl⟩ := lab_nat h
  obtain ⟨n', m', k1, k2, rfl, rfl⟩ := lab_nat k
  rw [bor_nat (by omega) (by omega)]
  have := Nat.or_lt_two_pow (n := 8) h2 k2
  simp only [okLab, decide_eq_true_eq]
  omega
theorem okM {a b c d : Int} (h : okLab a b = true) (k : okLab c d = true) : okLab (min a c) (band b d) = true := by
  obtain ⟨n, m, h1, h2, rfl, rfl⟩ := lab_nat h
  obtain ⟨n', m', k1, k2, rfl, rfl⟩ := lab_nat k
  rw [band_nat (by omega) (by omega)]
  have : m &&& m' ≤ m := Nat.and_le_left
  simp only [okLab, decide_eq_true_eq]
  omega
theorem okS (k : Int) : okLab (band (k.fdiv 256) 3) (band k 255) = true := by
  obtain ⟨n, h1, e1⟩ := band_low (k.fdiv 256) 2 (by omega)
  obtain ⟨m, h2, e2⟩ := band_low k 8 (by omega)
  have e1' : band (k.fdiv 256) 3 = n := e1
  have e2' : band k 255 = m := e2
  rw [e1', e2']
  simp only [okLab, decide_eq_true_eq]
  omega
end Go.Proofs.YtonolfpnidaflaaDoor.E
