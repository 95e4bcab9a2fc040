/- The row of GroupSure: no conditions. -/
import Derived.Test.YtljickachmdejaaLawGroupSure
import Derived.Test.YtljickachmdejaaReadC
import Derived.Test.YtljickachmdejaaRows
namespace Go.Proofs.Ytljickachmdejaa.groupSure
open Go Go.ChangeShapes Go.WideShapes Go.ChangeAt Go.RowKit Go.Proofs.Ytljickachmdejaa.E
set_option linter.unusedSimpArgs false
set_option linter.unusedVariables false
set_option linter.unusedSectionVars false
set_option maxRecDepth 20000
theorem argsAre : ∀ xs, hasAll [.int .i64, .slice 1 (.slice 1 (.int .i64))] xs → ∃ a0 a1, xs = [I a0, intss a1] := by
  intro xs h
  obtain ⟨x0, u0, rfl, h0, t1⟩ := hasAll_cons h
  obtain ⟨a0, rfl⟩ := has_int h0
  obtain ⟨x1, u1, rfl, h1, t2⟩ := hasAll_cons t1
  obtain ⟨a1, rfl⟩ := has_intss h1
  obtain rfl := hasAll_nil t2
  exact ⟨a0, a1, rfl⟩
set_option maxRecDepth 100000 in
theorem lifted (os : Os) (started : os.Started) (H : Type) (enc : TypeId × Value → H) :
    ReturnsInHanded {} Try.checked os 6 .any (Rows.groupSureSpec.pre6 enc Try.prog Try.f6 Rows.groupSureRow.domain false) (Rows.groupSureSpec.post enc Try.prog Try.f6 false true false false) := by
  refine lift_true (C := Try.checked) (l := [.int .i64, .slice 1 (.slice 1 (.int .i64))]) (tb := 4) (by kernel_rfl) started (by kernel_rfl) Try.func6
    (ChangeSpec.witness6 (enc := enc) (C := Try.checked) false ⟨#[], #[.int .i64 0, .slice none 0 0], []⟩ 8 (by kernel_rfl) (by kernel_rfl) (by kernel_rfl) (by kernel_rfl))
    rfl (by kernel_rfl) (by kernel_rfl) (by kernel_rfl) (by kernel_rfl) (fun ds h => by match ds, h with | [d0, d1], _ => rfl) ?_
  intro xs h
  obtain ⟨a0, a1, rfl⟩ := argsAre xs h
  exact GroupSure_ok a0 a1
theorem over : Rows.groupSureRow.holds Try.pinned (OpenSpec.ofChange Rows.groupSureSpec) :=
  OpenClaim.holds_of_wide 6 Try.f6 rfl rfl rfl rfl rfl rfl rfl ⟨rfl, rfl, rfl, rfl, rfl⟩ rfl rfl rfl rfl rfl (by kernel_rfl) Try.func6 (by kernel_rfl)
    (of_decide_eq_true (by kernel_rfl)) (by unfold Func.isWrapper; first | (rw [if_pos (by decide +kernel)]; kernel_rfl) | (rw [if_neg (by decide +kernel)]; exact ⟨rfl, rfl⟩))
    (fun os started H enc _ => lifted os started H enc)
theorem proved : Rows.GroupSureSaid := over
end Go.Proofs.Ytljickachmdejaa.groupSure
