/- Walks: operations, plain and the same. No conditions. -/
import Derived.Test.YtonolfpnidaflaaGreatDoorLogM
import Derived.Test.YtonolfpnidaflaaGreatDoorGSt
namespace Go.Proofs.YtonolfpnidaflaaGreatDoor.E
open Go
set_option linter.unusedSimpArgs false
set_option linter.unusedVariables false
set_option linter.unusedSectionVars false
set_option maxRecDepth 20000
set_option maxHeartbeats 1000000
theorem eqRules1_ok (l : List Rl) (hl : l.length ≤ 1000000000000) : Ok Tryz.prog 16 [rules l, rules l] (B true) := by
 refine Ok.of_wp (rs := [.tmp 4]) (n := 26) Tryz.func16 rfl rfl rfl (by simp) fo (by kernel_rfl) ?_
 simp (decide := true) (maxSteps := 4000000) -implicitDefEqProofs only [S0, ↓reduceIte, Int.reduceAdd, Int.reduceSub, Int.reduceToNat, Int.reduceNeg, Nat.reduceAdd, Nat.reduceMul, Nat.reduceSub, reduceCtorEq]
 refine ALoop.st [0, 1, 12, 13] (fun (i : Nat) => [rules l, rules l, I l.length, I i]) (fun _ => []) (fun i => i ≤ l.length) (fun i => l.length - i) [] 0 (by simp (decide := true) (maxSteps := 4000000) -implicitDefEqProofs only [S0, ↓reduceIte, Int.reduceAdd, Int.reduceSub, Int.reduceToNat, Int.reduceNeg, Nat.reduceAdd, Nat.reduceMul, Nat.reduceSub, reduceCtorEq]; try rfl) (by simp (decide := true) (maxSteps := 4000000) -implicitDefEqProofs only [S0, ↓reduceIte, Int.reduceAdd, Int.reduceSub, Int.reduceToNat, Int.reduceNeg, Nat.reduceAdd, Nat.reduceMul, Nat.reduceSub, reduceCtorEq]) (by omega) ?_
 intro i hi
 simp (decide := true) (maxSteps := 4000000) -implicitDefEqProofs only [S0, ↓reduceIte, Int.reduceAdd, Int.reduceSub, Int.reduceToNat, Int.reduceNeg, Nat.reduceAdd, Nat.reduceMul, Nat.reduceSub, reduceCtorEq]
 split
 ·rename_i h
  obtain ⟨f, hf⟩ := lt_get (l := l) (i := i) (by omega)
  have hw := wr_add1 (n := l.length) h (by omega)
  simp (decide := true) (maxSteps := 4000000) -implicitDefEqProofs only [S0, ↓reduceIte, Int.reduceAdd, Int.reduceSub, Int.reduceToNat, Int.reduceNeg, Nat.reduceAdd, Nat.reduceMul, Nat.reduceSub, reduceCtorEq, hf, decide_true]
  exact Nxt.mk [] (i + 1) (by simp (decide := true) (maxSteps := 4000000) -implicitDefEqProofs only [S0, ↓reduceIte, Int.reduceAdd, Int.reduceSub, Int.reduceToNat, Int.reduceNeg, Nat.reduceAdd, Nat.reduceMul, Nat.reduceSub, reduceCtorEq, hw]) (by simp (decide := true) (maxSteps := 4000000) -implicitDefEqProofs only [S0, ↓reduceIte, Int.reduceAdd, Int.reduceSub, Int.reduceToNat, Int.reduceNeg, Nat.reduceAdd, Nat.reduceMul, Nat.reduceSub, reduceCtorEq]) (by omega) (by omega)
 ·trivial
theorem chk_lens {o : OpS} (h : chkOp o = 0) : (plainO o).rs.length ≤ 1000000000000 ∧ (plainO o).rcd.fields.length ≤ 1000000000000 ∧ (plainO o).rcd.refs.length ≤ 1000000000000 := by
 rcases chkOp_cases h with ⟨h1, h2⟩ | ⟨h1, h2, h3⟩ | ⟨h1, h2, h3, h4⟩
 ·have := (chkRs_good h2).1
  rw [plainO, if_pos h1]
  exact ⟨by simp only; omega, Nat.zero_le _, Nat.zero_le _⟩
 ·have h5 := (chkRec_good _).1 h3
  have := h5.nf
  have := h5.nr
  rw [plainO, if_neg (by omega), if_pos h1]
  exact ⟨Nat.zero_le _, by simp only; omega, by simp only; omega⟩
 ·rw [plainO, if_neg (by omega), if_neg (by omega)]
  exact ⟨Nat.zero_le _, Nat.zero_le _, Nat.zero_le _⟩
theorem itoa_digit (n : Nat) (h : n < 10) : Lib.itoa n = [UInt8.ofNat (48 + n)] := by
 rw [Lib.itoa_nonneg, Lib.decDigits, dif_pos h]
end Go.Proofs.YtonolfpnidaflaaGreatDoor.E
