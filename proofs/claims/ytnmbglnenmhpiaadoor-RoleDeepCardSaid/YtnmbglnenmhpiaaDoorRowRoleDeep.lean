/- The row of RoleDeep: no conditions. -/
import Derived.Test.YtnmbglnenmhpiaaDoorLawRoleDeep
import Derived.Test.YtnmbglnenmhpiaaDoorReadC
import Derived.Test.YtnmbglnenmhpiaaDoorRows
import Derived.Test.YtnmbglnenmhpiaaDoorCards
import Derived.Test.YtnmbglnenmhpiaaDoorTie
import Derived.Test.YtnmbglnenmhpiaaDoorReadL
import Derived.Test.YtnmbglnenmhpiaaDoorGl64
namespace Go.Proofs.YtnmbglnenmhpiaaDoor.roleDeep
open Go Go.ChangeShapes Go.WideShapes Go.ChangeAt Go.RowKit Go.Proofs.YtnmbglnenmhpiaaDoor.E
set_option linter.unusedSimpArgs false
set_option linter.unusedVariables false
set_option linter.unusedSectionVars false
set_option maxRecDepth 20000
theorem argsAre : ∀ xs, hasAll [.slice 1 (.int .i64), .int .i64, .int .i64] xs → ∃ a0 a1 a2, xs = [ints a0, I a1, I a2] := by
  intro xs h
  obtain ⟨x0, u0, rfl, h0, t1⟩ := hasAll_cons h
  obtain ⟨a0, rfl⟩ := has_ints h0
  obtain ⟨x1, u1, rfl, h1, t2⟩ := hasAll_cons t1
  obtain ⟨a1, rfl⟩ := has_int h1
  obtain ⟨x2, u2, rfl, h2, t3⟩ := hasAll_cons t2
  obtain ⟨a2, rfl⟩ := has_int h2
  obtain rfl := hasAll_nil t3
  exact ⟨a0, a1, a2, rfl⟩
set_option maxRecDepth 100000 in
theorem lifted (os : Os) (started : os.Started) (H : Type) (enc : TypeId × Value → H) :
    ReturnsInHanded {} Tryd.checked os 3 .any (fun w args => (Rows.roleDeepSpec.pre enc Tryd.prog Tryd.f3 [] false w args ∧ laidMetH Tryd.prog Rows.roleDeepRow.laid w) ∧ sizedMet enc Tryd.prog Tryd.f3 (OpenSpec.ofChange Rows.roleDeepSpec) false w args) (Rows.roleDeepSpec.post enc Tryd.prog Tryd.f3 false true false false) := by
  refine lift_true_laid (C := Tryd.checked) (l := [.slice 1 (.int .i64), .int .i64, .int .i64]) (tb := 4) (X := fun w _ => laidMetH Tryd.prog Rows.roleDeepRow.laid w) (fun _ _ _ hh h => h.of_heap hh) (by kernel_rfl) started (by kernel_rfl) Tryd.func3
    (ChangeSpec.witness_shaped (enc := enc) (C := Tryd.checked) (os := os) (X := fun w _ => laidMetH Tryd.prog Rows.roleDeepRow.laid w) false (World.laidAll Tryd.prog os Rows.roleDeepRow.laid) #[.slice none 0 0, .int .i64 0, .int .i64 0] 8 (World.laidAll_os _ _ _) (World.shaped_of_ZipB (by kernel_rfl) (by kernel_rfl)) (by kernel_rfl) (by kernel_rfl) (by kernel_rfl)
      (by rw [MakeChecks.laidMetH_plain _ _ _ (by kernel_rfl)]; exact laidMet_laidAll _ (by kernel_rfl) (by kernel_rfl)))
    rfl (by kernel_rfl) (by kernel_rfl) (by kernel_rfl) (by kernel_rfl) (fun ds h => by match ds, h with | [d0, d1, d2], _ => rfl) ?_
  intro W args xs hL h hr
  obtain ⟨a0, a1, a2, rfl⟩ := argsAre xs h
  exact calls_true (RoleDeep_ok a0 a1 a2) W args (gl_laid (l := Rows.roleDeepRow.laid) (by kernel_rfl) (by unfold Rows.roleDeepRow; simp) hL) hr
theorem over : Rows.roleDeepRow.holds Tryd.pinned (OpenSpec.ofChange Rows.roleDeepSpec) :=
  OpenClaim.holds_of_wide 3 Tryd.f3 rfl rfl rfl rfl rfl rfl rfl ⟨rfl, rfl, rfl, rfl, rfl⟩ rfl rfl rfl rfl rfl (by kernel_rfl) Tryd.func3 (by kernel_rfl)
    (of_decide_eq_true (by kernel_rfl)) (by unfold Func.isWrapper; first | (rw [if_pos (by decide +kernel)]; kernel_rfl) | (rw [if_neg (by decide +kernel)]; exact ⟨rfl, rfl⟩))
    (fun os started H enc _ => lifted os started H enc)
theorem proved : Rows.RoleDeepCardSaid :=
  Claim7.holds_tied_plain_at .later [] [.data, .data] true (true, "b569f1b15d56e7716b7e3498349ff75d88793c3f918325c3270cba104a7b21a9") false over (fun _ h => by cases h) (by kernel_rfl) (fun _ h => by cases h) roleDeep_row_tie rfl ⟨rfl, rfl⟩ (by kernel_rfl) rfl
    (fun f fn hf hfn => by
      obtain rfl : f = 3 := Option.some.inj ((show Tryd.prog.funcNamed "withy/wykeep.RoleDeep" = some 3 by kernel_rfl).symm.trans hf) |>.symm
      obtain rfl : fn = Tryd.f3 := (Option.some.inj (Tryd.func3.symm.trans hfn)).symm
      exact ⟨by kernel_rfl, fun j t ht => by
        have hm : t ∈ Tryd.f3.params.toList := Array.mem_toList_iff.2 (Array.mem_of_getElem? ht)
        have hall : (Tryd.f3.params.toList.all fun u => !Tryd.prog.wantsStandIn u) = true := by kernel_rfl
        exact (show Tryd.prog.wantsStandIn t = false by simpa using List.all_eq_true.1 hall t hm)⟩)
    (by kernel_rfl)
end Go.Proofs.YtnmbglnenmhpiaaDoor.roleDeep
