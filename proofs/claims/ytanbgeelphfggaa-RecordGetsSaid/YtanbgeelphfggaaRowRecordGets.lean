/- The row of RecordGets: no conditions. -/
import Derived.Test.YtanbgeelphfggaaLawRecordGets
import Derived.Test.YtanbgeelphfggaaReadC
import Derived.Test.YtanbgeelphfggaaRows
namespace Go.Proofs.Ytanbgeelphfggaa.recordGets
open Go Go.ChangeShapes Go.WideShapes Go.ChangeAt Go.RowKit Go.Proofs.Ytanbgeelphfggaa.E
set_option linter.unusedSimpArgs false
set_option linter.unusedVariables false
set_option linter.unusedSectionVars false
set_option maxRecDepth 20000
theorem argsAre : ∀ xs, hasAll [.struct [.str, .int .i64, .slice 2 (.struct [.str, .str]), .slice 1 .str], .str] xs → ∃ a0 a1, xs = [recV a0, S a1] := by
  intro xs h
  obtain ⟨x0, u0, rfl, h0, t1⟩ := hasAll_cons h
  obtain ⟨a0, rfl⟩ := has_record h0
  obtain ⟨x1, u1, rfl, h1, t2⟩ := hasAll_cons t1
  obtain ⟨a1, rfl⟩ := has_str h1
  obtain rfl := hasAll_nil t2
  exact ⟨a0, a1, rfl⟩
set_option maxRecDepth 100000 in
theorem lifted (os : Os) (started : os.Started) (H : Type) (enc : TypeId × Value → H) :
    ReturnsInHanded {} Try.checked os 3 .any (Rows.recordGetsSpec.pre6 enc Try.prog Try.f3 Rows.recordGetsRow.domain false) (Rows.recordGetsSpec.post enc Try.prog Try.f3 false true false false) := by
  refine lift_true (C := Try.checked) (l := [.struct [.str, .int .i64, .slice 2 (.struct [.str, .str]), .slice 1 .str], .str]) (tb := 4) (by kernel_rfl) started (by kernel_rfl) Try.func3
    (ChangeSpec.witness6 (enc := enc) (C := Try.checked) false ⟨#[], #[.agg #[.string ⟨#[]⟩, .int .i64 0, .slice none 0 0, .slice none 0 0], .string ⟨#[]⟩], []⟩ 8 (by kernel_rfl) (by kernel_rfl) (by kernel_rfl) (by kernel_rfl))
    rfl (by kernel_rfl) (by kernel_rfl) (by kernel_rfl) (by kernel_rfl) (fun ds h => by match ds, h with | [d0, d1], _ => rfl) ?_
  intro xs h
  obtain ⟨a0, a1, rfl⟩ := argsAre xs h
  exact RecordGets_ok a0 a1
theorem over : Rows.recordGetsRow.holds Try.pinned (OpenSpec.ofChange Rows.recordGetsSpec) :=
  OpenClaim.holds_of_wide 3 Try.f3 rfl rfl rfl rfl rfl rfl rfl ⟨rfl, rfl, rfl, rfl, rfl⟩ rfl rfl rfl rfl rfl (by kernel_rfl) Try.func3 (by kernel_rfl)
    (of_decide_eq_true (by kernel_rfl)) (by unfold Func.isWrapper; first | (rw [if_pos (by decide +kernel)]; kernel_rfl) | (rw [if_neg (by decide +kernel)]; exact ⟨rfl, rfl⟩))
    (fun os started H enc _ => lifted os started H enc)
theorem proved : Rows.RecordGetsSaid := over
end Go.Proofs.Ytanbgeelphfggaa.recordGets
