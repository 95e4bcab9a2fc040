/- The row of GroupOne: no conditions. -/
import Derived.Test.YtljickachmdejaaLawGroupOne
import Derived.Test.YtljickachmdejaaReadC
import Derived.Test.YtljickachmdejaaRows
namespace Go.Proofs.Ytljickachmdejaa.groupOne
open Go Go.ChangeShapes Go.WideShapes Go.ChangeAt Go.RowKit Go.Proofs.Ytljickachmdejaa.E
set_option linter.unusedSimpArgs false
set_option linter.unusedVariables false
set_option linter.unusedSectionVars false
set_option maxRecDepth 20000
theorem argsAre : ∀ xs, hasAll [.slice 1 .str] xs → ∃ a0, xs = [E.strs a0] := by
  intro xs h
  obtain ⟨x0, u0, rfl, h0, t1⟩ := hasAll_cons h
  obtain ⟨a0, rfl⟩ := has_strs h0
  obtain rfl := hasAll_nil t1
  exact ⟨a0, rfl⟩
set_option maxRecDepth 100000 in
theorem lifted (os : Os) (started : os.Started) (H : Type) (enc : TypeId × Value → H) :
    ReturnsInHanded {} Try.checked os 3 .any (Rows.groupOneSpec.pre6 enc Try.prog Try.f3 Rows.groupOneRow.domain false) (Rows.groupOneSpec.post enc Try.prog Try.f3 false true false false) := by
  refine lift_true (C := Try.checked) (l := [.slice 1 .str]) (tb := 4) (by kernel_rfl) started (by kernel_rfl) Try.func3
    (ChangeSpec.witness6 (enc := enc) (C := Try.checked) false ⟨#[], #[.slice none 0 0], []⟩ 8 (by kernel_rfl) (by kernel_rfl) (by kernel_rfl) (by kernel_rfl))
    rfl (by kernel_rfl) (by kernel_rfl) (by kernel_rfl) (by kernel_rfl) (fun ds h => by match ds, h with | [d0], _ => rfl) ?_
  intro xs h
  obtain ⟨a0, rfl⟩ := argsAre xs h
  exact GroupOne_ok a0
theorem over : Rows.groupOneRow.holds Try.pinned (OpenSpec.ofChange Rows.groupOneSpec) :=
  OpenClaim.holds_of_wide 3 Try.f3 rfl rfl rfl rfl rfl rfl rfl ⟨rfl, rfl, rfl, rfl, rfl⟩ rfl rfl rfl rfl rfl (by kernel_rfl) Try.func3 (by kernel_rfl)
    (of_decide_eq_true (by kernel_rfl)) (by unfold Func.isWrapper; first | (rw [if_pos (by decide +kernel)]; kernel_rfl) | (rw [if_neg (by decide +kernel)]; exact ⟨rfl, rfl⟩))
    (fun os started H enc _ => lifted os started H enc)
theorem proved : Rows.GroupOneSaid := over
end Go.Proofs.Ytljickachmdejaa.groupOne
