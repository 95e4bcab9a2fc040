/- The row of FindOnce: no conditions. -/
import Derived.Test.YtljickachmdejaaLawFindOnce
import Derived.Test.YtljickachmdejaaReadRC
import Derived.Test.YtljickachmdejaaRows
namespace Go.Proofs.Ytljickachmdejaa.findOnce
open Go Go.ChangeShapes Go.WideShapes Go.ChangeAt Go.RowKit Go.Proofs.Ytljickachmdejaa.E
set_option linter.unusedSimpArgs false
set_option linter.unusedVariables false
set_option linter.unusedSectionVars false
set_option maxRecDepth 20000
theorem argsAre : ∀ xs, hasRAll [.slice 1 .str, .str] xs → ∃ a0 a1, xs = [E.strs a0, S a1] ∧ strsR a0 ∧ strR a1 := by
  intro xs h
  obtain ⟨x0, u0, rfl, h0, t1⟩ := hasRAll_cons h
  obtain ⟨a0, rfl, b0⟩ := has_strsR h0
  obtain ⟨x1, u1, rfl, h1, t2⟩ := hasRAll_cons t1
  obtain ⟨a1, rfl, b1⟩ := has_strR h1
  obtain rfl := hasRAll_nil t2
  exact ⟨a0, a1, rfl, b0, b1⟩
set_option maxRecDepth 100000 in
theorem lifted (os : Os) (started : os.Started) (H : Type) (enc : TypeId × Value → H) :
    ReturnsInHanded {} Try.checked os 10 .any (Rows.findOnceSpec.pre6 enc Try.prog Try.f10 Rows.findOnceRow.domain false) (Rows.findOnceSpec.post enc Try.prog Try.f10 false true false false) := by
  refine lift_trueR (C := Try.checked) (l := [.slice 1 .str, .str]) (tb := 4) (by kernel_rfl) started (by kernel_rfl) Try.func10
    (ChangeSpec.witness6 (enc := enc) (C := Try.checked) false ⟨#[], #[.slice none 0 0, .string ⟨#[]⟩], []⟩ 8 (by kernel_rfl) (by kernel_rfl) (by kernel_rfl) (by kernel_rfl))
    rfl (by kernel_rfl) (by kernel_rfl) (by kernel_rfl) (by kernel_rfl) (by kernel_rfl) (fun ds h => by match ds, h with | [d0, d1], _ => rfl) ?_
  intro xs h
  obtain ⟨a0, a1, rfl, b0, b1⟩ := argsAre xs h
  exact FindOnce_ok a0 a1 b0 b1
theorem over : Rows.findOnceRow.holds Try.pinned (OpenSpec.ofChange Rows.findOnceSpec) :=
  OpenClaim.holds_of_wide 10 Try.f10 rfl rfl rfl rfl rfl rfl rfl ⟨rfl, rfl, rfl, rfl, rfl⟩ rfl rfl rfl rfl rfl (by kernel_rfl) Try.func10 (by kernel_rfl)
    (of_decide_eq_true (by kernel_rfl)) (by unfold Func.isWrapper; first | (rw [if_pos (by decide +kernel)]; kernel_rfl) | (rw [if_neg (by decide +kernel)]; exact ⟨rfl, rfl⟩))
    (fun os started H enc _ => lifted os started H enc)
theorem proved : Rows.FindOnceSaid := over
end Go.Proofs.Ytljickachmdejaa.findOnce
