/- The row of StoreFull: no conditions. -/
import Derived.Test.YtanbgeelphfggaaLawStoreFull
import Derived.Test.YtanbgeelphfggaaReadC
import Derived.Test.YtanbgeelphfggaaRows
namespace Go.Proofs.Ytanbgeelphfggaa.storeFull
open Go Go.ChangeShapes Go.WideShapes Go.ChangeAt Go.RowKit Go.Proofs.Ytanbgeelphfggaa.E
set_option linter.unusedSimpArgs false
set_option linter.unusedVariables false
set_option linter.unusedSectionVars false
set_option maxRecDepth 20000
theorem argsAre : ∀ xs, hasAll [.int .i64, .int .i64, .int .i64, .str] xs → ∃ a0 a1 a2 a3, xs = [I a0, I a1, I a2, S a3] := by
  intro xs h
  obtain ⟨x0, u0, rfl, h0, t1⟩ := hasAll_cons h
  obtain ⟨a0, rfl⟩ := has_int h0
  obtain ⟨x1, u1, rfl, h1, t2⟩ := hasAll_cons t1
  obtain ⟨a1, rfl⟩ := has_int h1
  obtain ⟨x2, u2, rfl, h2, t3⟩ := hasAll_cons t2
  obtain ⟨a2, rfl⟩ := has_int h2
  obtain ⟨x3, u3, rfl, h3, t4⟩ := hasAll_cons t3
  obtain ⟨a3, rfl⟩ := has_str h3
  obtain rfl := hasAll_nil t4
  exact ⟨a0, a1, a2, a3, rfl⟩
set_option maxRecDepth 100000 in
theorem lifted (os : Os) (started : os.Started) (H : Type) (enc : TypeId × Value → H) :
    ReturnsInHanded {} Try.checked os 7 .any (Rows.storeFullSpec.pre6 enc Try.prog Try.f7 Rows.storeFullRow.domain false) (Rows.storeFullSpec.post enc Try.prog Try.f7 false true false false) := by
  refine lift_true (C := Try.checked) (l := [.int .i64, .int .i64, .int .i64, .str]) (tb := 4) (by kernel_rfl) started (by kernel_rfl) Try.func7
    (ChangeSpec.witness6 (enc := enc) (C := Try.checked) false ⟨#[], #[.int .i64 0, .int .i64 0, .int .i64 0, .string ⟨#[]⟩], []⟩ 8 (by kernel_rfl) (by kernel_rfl) (by kernel_rfl) (by kernel_rfl))
    rfl (by kernel_rfl) (by kernel_rfl) (by kernel_rfl) (by kernel_rfl) (fun ds h => by match ds, h with | [d0, d1, d2, d3], _ => rfl) ?_
  intro xs h
  obtain ⟨a0, a1, a2, a3, rfl⟩ := argsAre xs h
  exact StoreFull_ok a0 a1 a2 a3
theorem over : Rows.storeFullRow.holds Try.pinned (OpenSpec.ofChange Rows.storeFullSpec) :=
  OpenClaim.holds_of_wide 7 Try.f7 rfl rfl rfl rfl rfl rfl rfl ⟨rfl, rfl, rfl, rfl, rfl⟩ rfl rfl rfl rfl rfl (by kernel_rfl) Try.func7 (by kernel_rfl)
    (of_decide_eq_true (by kernel_rfl)) (by unfold Func.isWrapper; first | (rw [if_pos (by decide +kernel)]; kernel_rfl) | (rw [if_neg (by decide +kernel)]; exact ⟨rfl, rfl⟩))
    (fun os started H enc _ => lifted os started H enc)
theorem proved : Rows.StoreFullSaid := over
end Go.Proofs.Ytanbgeelphfggaa.storeFull
