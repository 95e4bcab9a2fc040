/- The row of ServerAsks: no conditions. -/
import Derived.Test.YtfglieambpfbfaaLawServerAsks
import Derived.Test.YtfglieambpfbfaaReadC
import Derived.Test.YtfglieambpfbfaaReadO
import Derived.Test.YtfglieambpfbfaaRows
namespace Go.Proofs.Ytfglieambpfbfaa.serverAsks
open Go Go.ChangeShapes Go.WideShapes Go.ChangeAt Go.RowKit Go.Proofs.Ytfglieambpfbfaa.E
set_option linter.unusedSimpArgs false
set_option linter.unusedVariables false
set_option linter.unusedSectionVars false
set_option maxRecDepth 20000
theorem argsAre : ∀ xs, hasAll [.slice 1 (.slice 1 (.int .i64)), .struct [.int .i64, .struct [.int .i64, .int .i64, .int .i64], .slice 6 (.struct [.int .i64, .int .i64, .int .i64, .int .i64, .int .i64, .bool]), .struct [.str, .int .i64, .slice 2 (.struct [.str, .str]), .slice 1 .str], .str, .struct [.str, .str]]] xs → ∃ a0 a1, xs = [intss a0, opV a1] := by
  intro xs h
  obtain ⟨x0, u0, rfl, h0, t1⟩ := hasAll_cons h
  obtain ⟨a0, rfl⟩ := has_intss h0
  obtain ⟨x1, u1, rfl, h1, t2⟩ := hasAll_cons t1
  obtain ⟨a1, rfl⟩ := has_op h1
  obtain rfl := hasAll_nil t2
  exact ⟨a0, a1, rfl⟩
set_option maxRecDepth 100000 in
theorem lifted (os : Os) (started : os.Started) (H : Type) (enc : TypeId × Value → H) :
    ReturnsInHanded {} Try.checked os 11 .any (Rows.serverAsksSpec.pre6 enc Try.prog Try.f11 Rows.serverAsksRow.domain false) (Rows.serverAsksSpec.post enc Try.prog Try.f11 false true false false) := by
  refine lift_true (C := Try.checked) (l := [.slice 1 (.slice 1 (.int .i64)), .struct [.int .i64, .struct [.int .i64, .int .i64, .int .i64], .slice 6 (.struct [.int .i64, .int .i64, .int .i64, .int .i64, .int .i64, .bool]), .struct [.str, .int .i64, .slice 2 (.struct [.str, .str]), .slice 1 .str], .str, .struct [.str, .str]]]) (tb := 4) (by kernel_rfl) started (by kernel_rfl) Try.func11
    (ChangeSpec.witness6 (enc := enc) (C := Try.checked) false ⟨#[], #[.slice none 0 0, .agg #[.int .i64 0, .int .i64 0, .int .i64 0, .int .i64 0, .slice none 0 0, .string ⟨#[]⟩, .int .i64 0, .slice none 0 0, .slice none 0 0, .string ⟨#[]⟩, .string ⟨#[]⟩, .string ⟨#[]⟩]], []⟩ 8 (by kernel_rfl) (by kernel_rfl) (by kernel_rfl) (by kernel_rfl))
    rfl (by kernel_rfl) (by kernel_rfl) (by kernel_rfl) (by kernel_rfl) (fun ds h => by match ds, h with | [d0, d1], _ => rfl) ?_
  intro xs h
  obtain ⟨a0, a1, rfl⟩ := argsAre xs h
  exact ServerAsks_ok a0 a1
theorem over : Rows.serverAsksRow.holds Try.pinned (OpenSpec.ofChange Rows.serverAsksSpec) :=
  OpenClaim.holds_of_wide 11 Try.f11 rfl rfl rfl rfl rfl rfl rfl ⟨rfl, rfl, rfl, rfl, rfl⟩ rfl rfl rfl rfl rfl (by kernel_rfl) Try.func11 (by kernel_rfl)
    (of_decide_eq_true (by kernel_rfl)) (by unfold Func.isWrapper; first | (rw [if_pos (by decide +kernel)]; kernel_rfl) | (rw [if_neg (by decide +kernel)]; exact ⟨rfl, rfl⟩))
    (fun os started H enc _ => lifted os started H enc)
theorem proved : Rows.ServerAsksSaid := over
end Go.Proofs.Ytfglieambpfbfaa.serverAsks
