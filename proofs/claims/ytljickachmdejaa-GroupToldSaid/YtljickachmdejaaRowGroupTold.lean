/- The row of GroupTold: no conditions. -/
import Derived.Test.YtljickachmdejaaLawGroupTold
import Derived.Test.YtljickachmdejaaReadC
import Derived.Test.YtljickachmdejaaRows
namespace Go.Proofs.Ytljickachmdejaa.groupTold
open Go Go.ChangeShapes Go.WideShapes Go.ChangeAt Go.RowKit Go.Proofs.Ytljickachmdejaa.E
set_option linter.unusedSimpArgs false
set_option linter.unusedVariables false
set_option linter.unusedSectionVars false
set_option maxRecDepth 20000
theorem argsAre : ∀ xs, hasAll [.slice 1 .str, .int .i64, .int .i64] xs → ∃ a0 a1 a2, xs = [E.strs a0, I a1, I a2] := by
  intro xs h
  obtain ⟨x0, u0, rfl, h0, t1⟩ := hasAll_cons h
  obtain ⟨a0, rfl⟩ := has_strs h0
  obtain ⟨x1, u1, rfl, h1, t2⟩ := hasAll_cons t1
  obtain ⟨a1, rfl⟩ := has_int h1
  obtain ⟨x2, u2, rfl, h2, t3⟩ := hasAll_cons t2
  obtain ⟨a2, rfl⟩ := has_int h2
  obtain rfl := hasAll_nil t3
  exact ⟨a0, a1, a2, rfl⟩
set_option maxRecDepth 100000 in
theorem lifted (os : Os) (started : os.Started) (H : Type) (enc : TypeId × Value → H) :
    ReturnsInHanded {} Try.checked os 7 .any (Rows.groupToldSpec.pre6 enc Try.prog Try.f7 Rows.groupToldRow.domain false) (Rows.groupToldSpec.post enc Try.prog Try.f7 false true false false) := by
  refine lift_true (C := Try.checked) (l := [.slice 1 .str, .int .i64, .int .i64]) (tb := 4) (by kernel_rfl) started (by kernel_rfl) Try.func7
    (ChangeSpec.witness6 (enc := enc) (C := Try.checked) false ⟨#[], #[.slice none 0 0, .int .i64 0, .int .i64 0], []⟩ 8 (by kernel_rfl) (by kernel_rfl) (by kernel_rfl) (by kernel_rfl))
    rfl (by kernel_rfl) (by kernel_rfl) (by kernel_rfl) (by kernel_rfl) (fun ds h => by match ds, h with | [d0, d1, d2], _ => rfl) ?_
  intro xs h
  obtain ⟨a0, a1, a2, rfl⟩ := argsAre xs h
  exact GroupTold_ok a0 a1 a2
theorem over : Rows.groupToldRow.holds Try.pinned (OpenSpec.ofChange Rows.groupToldSpec) :=
  OpenClaim.holds_of_wide 7 Try.f7 rfl rfl rfl rfl rfl rfl rfl ⟨rfl, rfl, rfl, rfl, rfl⟩ rfl rfl rfl rfl rfl (by kernel_rfl) Try.func7 (by kernel_rfl)
    (of_decide_eq_true (by kernel_rfl)) (by unfold Func.isWrapper; first | (rw [if_pos (by decide +kernel)]; kernel_rfl) | (rw [if_neg (by decide +kernel)]; exact ⟨rfl, rfl⟩))
    (fun os started H enc _ => lifted os started H enc)
theorem proved : Rows.GroupToldSaid := over
end Go.Proofs.Ytljickachmdejaa.groupTold
