/- Walks: slices.Index, slices.Contains of fields and of strings. No conditions. -/
import Derived.Test.YtljickachmdejaaRecB
namespace Go.Proofs.Ytljickachmdejaa.E
open Go
set_option linter.unusedSimpArgs false
set_option linter.unusedVariables false
set_option linter.unusedSectionVars false
set_option maxRecDepth 20000
def idxF {α : Type} [DecidableEq α] (x : α) : Nat → List α → Int
  | _, [] => -1
  | i, y :: l => if y = x then i else idxF x (i + 1) l
theorem idxF_iff {α : Type} [DecidableEq α] (x : α) (i : Nat) (l : List α) : 0 ≤ idxF x i l ↔ x ∈ l := by
  induction l generalizing i with
  | nil => simp [idxF]
  | cons y l ih =>
    simp only [idxF, List.mem_cons]
    by_cases h : y = x
    · rw [if_pos h]
      exact ⟨fun _ => .inl h.symm, fun _ => by omega⟩
    · rw [if_neg h, ih]
      exact ⟨.inr, fun h' => h'.elim (fun e => absurd e.symm h) id⟩
theorem fd_eq (f g : Fd) : (decide (f.key = g.key) && decide (f.val = g.val)) = decide (f = g) := by
  cases f; cases g
  rw [Bool.eq_iff_iff]; simp
end Go.Proofs.Ytljickachmdejaa.E
