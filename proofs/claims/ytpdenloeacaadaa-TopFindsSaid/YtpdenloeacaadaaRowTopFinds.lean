/- The row of TopFinds: no conditions. -/
import Derived.Test.YtpdenloeacaadaaLawTopFinds
import Derived.Test.YtpdenloeacaadaaReadC
import Derived.Test.YtpdenloeacaadaaRows
namespace Go.Proofs.Ytpdenloeacaadaa.topFinds
open Go Go.ChangeShapes Go.WideShapes Go.ChangeAt Go.RowKit Go.Proofs.Ytpdenloeacaadaa.E
set_option linter.unusedSimpArgs false
set_option linter.unusedVariables false
set_option linter.unusedSectionVars false
set_option maxRecDepth 20000
theorem argsAre : ∀ xs, hasAll [.slice 1 (.slice 1 (.int .i64)), .int .i64, .int .i64] xs → ∃ a0 a1 a2, xs = [intss a0, I a1, I a2] := by
 intro xs h
 obtain ⟨x0, u0, rfl, h0, t1⟩ := hasAll_cons h
 obtain ⟨a0, rfl⟩ := has_intss h0
 obtain ⟨x1, u1, rfl, h1, t2⟩ := hasAll_cons t1
 obtain ⟨a1, rfl⟩ := has_int h1
 obtain ⟨x2, u2, rfl, h2, t3⟩ := hasAll_cons t2
 obtain ⟨a2, rfl⟩ := has_int h2
 obtain rfl := hasAll_nil t3
 exact ⟨a0, a1, a2, rfl⟩
set_option maxRecDepth 100000 in
theorem lifted (os : Os) (started : os.Started) (H : Type) (enc : TypeId × Value → H) :
  ReturnsInHanded {} Try.checked os 3 .any (Rows.topFindsSpec.pre6 enc Try.prog Try.f3 Rows.topFindsRow.domain false) (Rows.topFindsSpec.post enc Try.prog Try.f3 false true false false) := by
 refine lift_true (C := Try.checked) (l := [.slice 1 (.slice 1 (.int .i64)), .int .i64, .int .i64]) (tb := 4) (by kernel_rfl) started (by kernel_rfl) Try.func3
  (ChangeSpec.witness6 (enc := enc) (C := Try.checked) false ⟨#[], #[.slice none 0 0, .int .i64 0, .int .i64 0], []⟩ 8 (by kernel_rfl) (by kernel_rfl) (by kernel_rfl) (by kernel_rfl))
  rfl (by kernel_rfl) (by kernel_rfl) (by kernel_rfl) (by kernel_rfl) (fun ds h => by match ds, h with | [d0, d1, d2], _ => rfl) (gl_none rfl (fun _ => trivial) · _) ?_
 intro xs h
 obtain ⟨a0, a1, a2, rfl⟩ := argsAre xs h
 exact TopFinds_ok a0 a1 a2
theorem over : Rows.topFindsRow.holds Try.pinned (OpenSpec.ofChange Rows.topFindsSpec) :=
 OpenClaim.holds_of_wide 3 Try.f3 rfl rfl rfl rfl rfl rfl rfl ⟨rfl, rfl, rfl, rfl, rfl⟩ rfl rfl rfl rfl rfl (by kernel_rfl) Try.func3 (by kernel_rfl)
  (of_decide_eq_true (by kernel_rfl)) (by unfold Func.isWrapper; first | (rw [if_pos (by decide +kernel)]; kernel_rfl) | (rw [if_neg (by decide +kernel)]; exact ⟨rfl, rfl⟩))
  (fun os started H enc _ => lifted os started H enc)
theorem proved : Rows.TopFindsSaid := over
end Go.Proofs.Ytpdenloeacaadaa.topFinds
