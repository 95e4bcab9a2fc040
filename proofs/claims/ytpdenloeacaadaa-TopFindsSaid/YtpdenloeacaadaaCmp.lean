/- Walks: strings.Compare, by the shelf's contract. No conditions. -/
import Derived.Test.YtpdenloeacaadaaGSt
import Derived.Test.YtpdenloeacaadaaShelf
namespace Go.Proofs.Ytpdenloeacaadaa.E
open Go
set_option linter.unusedSimpArgs false
set_option linter.unusedVariables false
set_option linter.unusedSectionVars false
set_option maxRecDepth 20000
def cmpB (a b : ByteArray) : Int := if a = b then 0 else if sLt a b then -1 else 1
theorem u8_tri (a b : UInt8) (h : ¬ a < b) (k : ¬ b < a) : a = b := by
 apply UInt8.toNat.inj
 rw [UInt8.lt_iff_toNat_lt] at h k
 omega
theorem cmpL_eq (a b : List UInt8) : Lib.compareBytes a b = if a = b then 0 else if a < b then -1 else 1 := by
 induction a generalizing b with
 | nil =>
  cases b with
  | nil => rfl
  | cons y b => simp [Lib.compareBytes]
 | cons x a ih =>
  cases b with
  | nil => simp [Lib.compareBytes]
  | cons y b =>
   rw [Lib.compareBytes]
   by_cases h1 : x < y
   ·have hne : ¬ x = y := fun e => by subst e; exact absurd h1 (UInt8.lt_irrefl _)
    rw [if_pos h1, if_neg (by simp [hne]), if_pos (List.cons_lt_cons_iff.2 (.inl h1))]
   ·rw [if_neg h1]
    by_cases h2 : y < x
    ·have hne : ¬ x = y := fun e => by subst e; exact absurd h2 (UInt8.lt_irrefl _)
     rw [if_pos h2, if_neg (by simp [hne]), if_neg (fun h => by
      rcases List.cons_lt_cons_iff.1 h with h | ⟨h, _⟩
      ·exact h1 h
      ·exact hne h)]
    ·have e := u8_tri x y h1 h2
     subst e
     rw [if_neg h2, ih]
     by_cases h3 : a = b
     ·rw [if_pos h3, if_pos (by rw [h3])]
     ·rw [if_neg h3, if_neg (show ¬ (x :: a = x :: b) from fun e => h3 (List.cons.inj e).2)]
      by_cases h4 : a < b
      ·rw [if_pos h4, if_pos (List.cons_lt_cons_iff.2 (.inr ⟨rfl, h4⟩))]
      ·rw [if_neg h4, if_neg (fun h => by
        rcases List.cons_lt_cons_iff.1 h with h | ⟨_, h⟩
        ·exact h1 h
        ·exact h4 h)]
theorem cmpB_eq (a b : ByteArray) : Lib.compareBytes a.data.toList b.data.toList = cmpB a b := by
 rw [cmpL_eq, cmpB]
 by_cases h : a = b
 ·rw [if_pos h, if_pos (by rw [h])]
 ·rw [if_neg h, if_neg (fun e => h (bytes_ext e))]
  by_cases h2 : sLt a b = true
  ·rw [if_pos h2, if_pos (sLt_iff.1 h2)]
  ·rw [if_neg h2, if_neg (fun e => h2 (sLt_iff.2 e))]
theorem Compare_ok (a b : ByteArray) : Ok Try.prog 63 [S a, S b] (I (cmpB a b)) := by
 intro w T vs hT hG hv
 simp only [RVL, RV] at hv
 obtain ⟨_, _, rfl, ⟨rfl, _⟩, _, _, rfl, ⟨rfl, _⟩, rfl⟩ := hv
 refine (Try.strings_Compare a b w).mono ?_
 rintro e w' ⟨rfl, rfl⟩
 exact ⟨_, rfl, RowKit.Below.refl _ _, by simp only [RV]; exact ⟨by rw [cmpB_eq], rfl⟩⟩
end Go.Proofs.Ytpdenloeacaadaa.E
