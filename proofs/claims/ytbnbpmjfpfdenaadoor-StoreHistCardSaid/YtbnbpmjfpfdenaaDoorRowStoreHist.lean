/- The row of StoreHist: no conditions. -/
import Derived.Test.YtbnbpmjfpfdenaaDoorLawStoreHist
import Derived.Test.YtbnbpmjfpfdenaaDoorReadC
import Derived.Test.YtbnbpmjfpfdenaaDoorRows
import Derived.Test.YtbnbpmjfpfdenaaDoorCards
import Derived.Test.YtbnbpmjfpfdenaaDoorTie
import Derived.Test.YtbnbpmjfpfdenaaDoorReadL
namespace Go.Proofs.YtbnbpmjfpfdenaaDoor.storeHist
open Go Go.ChangeShapes Go.WideShapes Go.ChangeAt Go.RowKit Go.Proofs.YtbnbpmjfpfdenaaDoor.E
set_option linter.unusedSimpArgs false
set_option linter.unusedVariables false
set_option linter.unusedSectionVars false
set_option maxRecDepth 20000
theorem argsAre : ∀ xs, hasAll [.slice 1 (.slice 1 (.int .i64))] xs → ∃ a0, xs = [intss a0] := by
  intro xs h
  obtain ⟨x0, u0, rfl, h0, t1⟩ := hasAll_cons h
  obtain ⟨a0, rfl⟩ := has_intss h0
  obtain rfl := hasAll_nil t1
  exact ⟨a0, rfl⟩
set_option maxRecDepth 100000 in
theorem lifted (os : Os) (started : os.Started) (H : Type) (enc : TypeId × Value → H) :
    ReturnsInHanded {} Tryd.checked os 6 .any (fun w args => (Rows.storeHistSpec.pre enc Tryd.prog Tryd.f6 [] false w args ∧ laidMetH Tryd.prog Rows.storeHistRow.laid w) ∧ sizedMet enc Tryd.prog Tryd.f6 (OpenSpec.ofChange Rows.storeHistSpec) false w args) (Rows.storeHistSpec.post enc Tryd.prog Tryd.f6 false true false false) := by
  refine lift_true_laid (C := Tryd.checked) (l := [.slice 1 (.slice 1 (.int .i64))]) (tb := 4) (X := fun w _ => laidMetH Tryd.prog Rows.storeHistRow.laid w) (fun _ _ _ hh h => h.of_heap hh) (by kernel_rfl) started (by kernel_rfl) Tryd.func6
    (ChangeSpec.witness_shaped (enc := enc) (C := Tryd.checked) (os := os) (X := fun w _ => laidMetH Tryd.prog Rows.storeHistRow.laid w) false (World.laidAll Tryd.prog os Rows.storeHistRow.laid) #[.slice none 0 0] 8 (World.laidAll_os _ _ _) (World.shaped_of_ZipB (by kernel_rfl) (by kernel_rfl)) (by kernel_rfl) (by kernel_rfl) (by kernel_rfl)
      (by rw [MakeChecks.laidMetH_plain _ _ _ (by kernel_rfl)]; exact laidMet_laidAll _ (by kernel_rfl) (by kernel_rfl)))
    rfl (by kernel_rfl) (by kernel_rfl) (by kernel_rfl) (by kernel_rfl) (fun ds h => by match ds, h with | [d0], _ => rfl) ?_
  intro W args xs _ h hr
  obtain ⟨a0, rfl⟩ := argsAre xs h
  exact calls_true (StoreHist_ok a0) W args hr
theorem over : Rows.storeHistRow.holds Tryd.pinned (OpenSpec.ofChange Rows.storeHistSpec) :=
  OpenClaim.holds_of_wide 6 Tryd.f6 rfl rfl rfl rfl rfl rfl rfl ⟨rfl, rfl, rfl, rfl, rfl⟩ rfl rfl rfl rfl rfl (by kernel_rfl) Tryd.func6 (by kernel_rfl)
    (of_decide_eq_true (by kernel_rfl)) (by unfold Func.isWrapper; first | (rw [if_pos (by decide +kernel)]; kernel_rfl) | (rw [if_neg (by decide +kernel)]; exact ⟨rfl, rfl⟩))
    (fun os started H enc _ => lifted os started H enc)
theorem proved : Rows.StoreHistCardSaid :=
  Claim7.holds_tied_plain_at .later [] [.data, .pinned] true (true, "9c96432229f4bc117768ebbdaccd8b3303f7cb548093f6a044a79f0aa5d36ee4") false over (fun _ h => by cases h) (by kernel_rfl) (fun _ h => by cases h) storeHist_row_tie rfl ⟨rfl, rfl⟩ (by kernel_rfl) rfl
    (fun f fn hf hfn => by
      obtain rfl : f = 6 := Option.some.inj ((show Tryd.prog.funcNamed "withy/wykeep.StoreHist" = some 6 by kernel_rfl).symm.trans hf) |>.symm
      obtain rfl : fn = Tryd.f6 := (Option.some.inj (Tryd.func6.symm.trans hfn)).symm
      exact ⟨by kernel_rfl, fun j t ht => by
        have hm : t ∈ Tryd.f6.params.toList := Array.mem_toList_iff.2 (Array.mem_of_getElem? ht)
        have hall : (Tryd.f6.params.toList.all fun u => !Tryd.prog.wantsStandIn u) = true := by kernel_rfl
        exact (show Tryd.prog.wantsStandIn t = false by simpa using List.all_eq_true.1 hall t hm)⟩)
    (by kernel_rfl)
end Go.Proofs.YtbnbpmjfpfdenaaDoor.storeHist
