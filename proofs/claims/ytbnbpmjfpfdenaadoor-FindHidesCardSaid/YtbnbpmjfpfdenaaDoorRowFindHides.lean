/- The row of FindHides: no conditions. -/
import Derived.Test.YtbnbpmjfpfdenaaDoorLawFindHides
import Derived.Test.YtbnbpmjfpfdenaaDoorReadC
import Derived.Test.YtbnbpmjfpfdenaaDoorRows
import Derived.Test.YtbnbpmjfpfdenaaDoorCards
import Derived.Test.YtbnbpmjfpfdenaaDoorTie
import Derived.Test.YtbnbpmjfpfdenaaDoorReadL
namespace Go.Proofs.YtbnbpmjfpfdenaaDoor.findHides
open Go Go.ChangeShapes Go.WideShapes Go.ChangeAt Go.RowKit Go.Proofs.YtbnbpmjfpfdenaaDoor.E
set_option linter.unusedSimpArgs false
set_option linter.unusedVariables false
set_option linter.unusedSectionVars false
set_option maxRecDepth 20000
theorem argsAre : ∀ xs, hasAll [.slice 1 (.slice 1 (.int .i64)), .struct [.str, .str], .slice 1 .str, .int .i64] xs → ∃ a0 a1 a2 a3, xs = [intss a0, fdV a1, strs a2, I a3] := by
  intro xs h
  obtain ⟨x0, u0, rfl, h0, t1⟩ := hasAll_cons h
  obtain ⟨a0, rfl⟩ := has_intss h0
  obtain ⟨x1, u1, rfl, h1, t2⟩ := hasAll_cons t1
  obtain ⟨a1, rfl⟩ := has_field h1
  obtain ⟨x2, u2, rfl, h2, t3⟩ := hasAll_cons t2
  obtain ⟨a2, rfl⟩ := has_strs h2
  obtain ⟨x3, u3, rfl, h3, t4⟩ := hasAll_cons t3
  obtain ⟨a3, rfl⟩ := has_int h3
  obtain rfl := hasAll_nil t4
  exact ⟨a0, a1, a2, a3, rfl⟩
set_option maxRecDepth 100000 in
theorem lifted (os : Os) (started : os.Started) (H : Type) (enc : TypeId × Value → H) :
    ReturnsInHanded {} Tryd.checked os 10 .any (fun w args => (Rows.findHidesSpec.pre enc Tryd.prog Tryd.f10 [] false w args ∧ laidMetH Tryd.prog Rows.findHidesRow.laid w) ∧ sizedMet enc Tryd.prog Tryd.f10 (OpenSpec.ofChange Rows.findHidesSpec) false w args) (Rows.findHidesSpec.post enc Tryd.prog Tryd.f10 false true false false) := by
  refine lift_true_laid (C := Tryd.checked) (l := [.slice 1 (.slice 1 (.int .i64)), .struct [.str, .str], .slice 1 .str, .int .i64]) (tb := 4) (X := fun w _ => laidMetH Tryd.prog Rows.findHidesRow.laid w) (fun _ _ _ hh h => h.of_heap hh) (by kernel_rfl) started (by kernel_rfl) Tryd.func10
    (ChangeSpec.witness_shaped (enc := enc) (C := Tryd.checked) (os := os) (X := fun w _ => laidMetH Tryd.prog Rows.findHidesRow.laid w) false (World.laidAll Tryd.prog os Rows.findHidesRow.laid) #[.slice none 0 0, .agg #[.string ⟨#[]⟩, .string ⟨#[]⟩], .slice none 0 0, .int .i64 0] 8 (World.laidAll_os _ _ _) (World.shaped_of_ZipB (by kernel_rfl) (by kernel_rfl)) (by kernel_rfl) (by kernel_rfl) (by kernel_rfl)
      (by rw [MakeChecks.laidMetH_plain _ _ _ (by kernel_rfl)]; exact laidMet_laidAll _ (by kernel_rfl) (by kernel_rfl)))
    rfl (by kernel_rfl) (by kernel_rfl) (by kernel_rfl) (by kernel_rfl) (fun ds h => by match ds, h with | [d0, d1, d2, d3], _ => rfl) ?_
  intro W args xs _ h hr
  obtain ⟨a0, a1, a2, a3, rfl⟩ := argsAre xs h
  exact calls_true (FindHides_ok a0 a1 a2 a3) W args hr
theorem over : Rows.findHidesRow.holds Tryd.pinned (OpenSpec.ofChange Rows.findHidesSpec) :=
  OpenClaim.holds_of_wide 10 Tryd.f10 rfl rfl rfl rfl rfl rfl rfl ⟨rfl, rfl, rfl, rfl, rfl⟩ rfl rfl rfl rfl rfl (by kernel_rfl) Tryd.func10 (by kernel_rfl)
    (of_decide_eq_true (by kernel_rfl)) (by unfold Func.isWrapper; first | (rw [if_pos (by decide +kernel)]; kernel_rfl) | (rw [if_neg (by decide +kernel)]; exact ⟨rfl, rfl⟩))
    (fun os started H enc _ => lifted os started H enc)
theorem proved : Rows.FindHidesCardSaid :=
  Claim7.holds_tied_plain_at .later [] [.data, .pinned] true (true, "9c96432229f4bc117768ebbdaccd8b3303f7cb548093f6a044a79f0aa5d36ee4") false over (fun _ h => by cases h) (by kernel_rfl) (fun _ h => by cases h) findHides_row_tie rfl ⟨rfl, rfl⟩ (by kernel_rfl) rfl
    (fun f fn hf hfn => by
      obtain rfl : f = 10 := Option.some.inj ((show Tryd.prog.funcNamed "withy/wykeep.FindHides" = some 10 by kernel_rfl).symm.trans hf) |>.symm
      obtain rfl : fn = Tryd.f10 := (Option.some.inj (Tryd.func10.symm.trans hfn)).symm
      exact ⟨by kernel_rfl, fun j t ht => by
        have hm : t ∈ Tryd.f10.params.toList := Array.mem_toList_iff.2 (Array.mem_of_getElem? ht)
        have hall : (Tryd.f10.params.toList.all fun u => !Tryd.prog.wantsStandIn u) = true := by kernel_rfl
        exact (show Tryd.prog.wantsStandIn t = false by simpa using List.all_eq_true.1 hall t hm)⟩)
    (by kernel_rfl)
end Go.Proofs.YtbnbpmjfpfdenaaDoor.findHides
