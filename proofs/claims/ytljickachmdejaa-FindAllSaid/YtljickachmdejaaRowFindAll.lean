/- The row of FindAll: no conditions. -/
import Derived.Test.YtljickachmdejaaLawFindAll
import Derived.Test.YtljickachmdejaaReadRC
import Derived.Test.YtljickachmdejaaRows
namespace Go.Proofs.Ytljickachmdejaa.findAll
open Go Go.ChangeShapes Go.WideShapes Go.ChangeAt Go.RowKit Go.Proofs.Ytljickachmdejaa.E
set_option linter.unusedSimpArgs false
set_option linter.unusedVariables false
set_option linter.unusedSectionVars false
set_option maxRecDepth 20000
theorem argsAre : ∀ xs, hasRAll [.slice 1 .str, .int .i64] xs → ∃ a0 a1, xs = [E.strs a0, I a1] ∧ strsR a0 := by
  intro xs h
  obtain ⟨x0, u0, rfl, h0, t1⟩ := hasRAll_cons h
  obtain ⟨a0, rfl, b0⟩ := has_strsR h0
  obtain ⟨x1, u1, rfl, h1, t2⟩ := hasRAll_cons t1
  obtain ⟨a1, rfl⟩ := has_intR h1
  obtain rfl := hasRAll_nil t2
  exact ⟨a0, a1, rfl, b0⟩
set_option maxRecDepth 100000 in
theorem lifted (os : Os) (started : os.Started) (H : Type) (enc : TypeId × Value → H) :
    ReturnsInHanded {} Try.checked os 9 .any (Rows.findAllSpec.pre6 enc Try.prog Try.f9 Rows.findAllRow.domain false) (Rows.findAllSpec.post enc Try.prog Try.f9 false true false false) := by
  refine lift_trueR (C := Try.checked) (l := [.slice 1 .str, .int .i64]) (tb := 4) (by kernel_rfl) started (by kernel_rfl) Try.func9
    (ChangeSpec.witness6 (enc := enc) (C := Try.checked) false ⟨#[], #[.slice none 0 0, .int .i64 0], []⟩ 8 (by kernel_rfl) (by kernel_rfl) (by kernel_rfl) (by kernel_rfl))
    rfl (by kernel_rfl) (by kernel_rfl) (by kernel_rfl) (by kernel_rfl) (by kernel_rfl) (fun ds h => by match ds, h with | [d0, d1], _ => rfl) ?_
  intro xs h
  obtain ⟨a0, a1, rfl, b0⟩ := argsAre xs h
  exact FindAll_ok a0 a1 b0
theorem over : Rows.findAllRow.holds Try.pinned (OpenSpec.ofChange Rows.findAllSpec) :=
  OpenClaim.holds_of_wide 9 Try.f9 rfl rfl rfl rfl rfl rfl rfl ⟨rfl, rfl, rfl, rfl, rfl⟩ rfl rfl rfl rfl rfl (by kernel_rfl) Try.func9 (by kernel_rfl)
    (of_decide_eq_true (by kernel_rfl)) (by unfold Func.isWrapper; first | (rw [if_pos (by decide +kernel)]; kernel_rfl) | (rw [if_neg (by decide +kernel)]; exact ⟨rfl, rfl⟩))
    (fun os started H enc _ => lifted os started H enc)
theorem proved : Rows.FindAllSaid := over
end Go.Proofs.Ytljickachmdejaa.findAll
