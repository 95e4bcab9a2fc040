/- The row of FindWith: no conditions. -/
import Derived.Test.YtbnbpmjfpfdenaaDoorLawFindWith
import Derived.Test.YtbnbpmjfpfdenaaDoorReadC
import Derived.Test.YtbnbpmjfpfdenaaDoorRows
import Derived.Test.YtbnbpmjfpfdenaaDoorCards
import Derived.Test.YtbnbpmjfpfdenaaDoorTie
import Derived.Test.YtbnbpmjfpfdenaaDoorReadL
namespace Go.Proofs.YtbnbpmjfpfdenaaDoor.findWith
open Go Go.ChangeShapes Go.WideShapes Go.ChangeAt Go.RowKit Go.Proofs.YtbnbpmjfpfdenaaDoor.E
set_option linter.unusedSimpArgs false
set_option linter.unusedVariables false
set_option linter.unusedSectionVars false
set_option maxRecDepth 20000
theorem argsAre : ∀ xs, hasAll [.slice 1 (.slice 1 (.int .i64)), .slice 1 .str, .slice 1 .str] xs → ∃ a0 a1 a2, xs = [intss a0, strs a1, strs a2] := by
  intro xs h
  obtain ⟨x0, u0, rfl, h0, t1⟩ := hasAll_cons h
  obtain ⟨a0, rfl⟩ := has_intss h0
  obtain ⟨x1, u1, rfl, h1, t2⟩ := hasAll_cons t1
  obtain ⟨a1, rfl⟩ := has_strs h1
  obtain ⟨x2, u2, rfl, h2, t3⟩ := hasAll_cons t2
  obtain ⟨a2, rfl⟩ := has_strs h2
  obtain rfl := hasAll_nil t3
  exact ⟨a0, a1, a2, rfl⟩
set_option maxRecDepth 100000 in
theorem lifted (os : Os) (started : os.Started) (H : Type) (enc : TypeId × Value → H) :
    ReturnsInHanded {} Tryd.checked os 9 .any (fun w args => (Rows.findWithSpec.pre enc Tryd.prog Tryd.f9 [] false w args ∧ laidMetH Tryd.prog Rows.findWithRow.laid w) ∧ sizedMet enc Tryd.prog Tryd.f9 (OpenSpec.ofChange Rows.findWithSpec) false w args) (Rows.findWithSpec.post enc Tryd.prog Tryd.f9 false true false false) := by
  refine lift_true_laid (C := Tryd.checked) (l := [.slice 1 (.slice 1 (.int .i64)), .slice 1 .str, .slice 1 .str]) (tb := 4) (X := fun w _ => laidMetH Tryd.prog Rows.findWithRow.laid w) (fun _ _ _ hh h => h.of_heap hh) (by kernel_rfl) started (by kernel_rfl) Tryd.func9
    (ChangeSpec.witness_shaped (enc := enc) (C := Tryd.checked) (os := os) (X := fun w _ => laidMetH Tryd.prog Rows.findWithRow.laid w) false (World.laidAll Tryd.prog os Rows.findWithRow.laid) #[.slice none 0 0, .slice none 0 0, .slice none 0 0] 8 (World.laidAll_os _ _ _) (World.shaped_of_ZipB (by kernel_rfl) (by kernel_rfl)) (by kernel_rfl) (by kernel_rfl) (by kernel_rfl)
      (by rw [MakeChecks.laidMetH_plain _ _ _ (by kernel_rfl)]; exact laidMet_laidAll _ (by kernel_rfl) (by kernel_rfl)))
    rfl (by kernel_rfl) (by kernel_rfl) (by kernel_rfl) (by kernel_rfl) (fun ds h => by match ds, h with | [d0, d1, d2], _ => rfl) ?_
  intro W args xs _ h hr
  obtain ⟨a0, a1, a2, rfl⟩ := argsAre xs h
  exact calls_true (FindWith_ok a0 a1 a2) W args hr
theorem over : Rows.findWithRow.holds Tryd.pinned (OpenSpec.ofChange Rows.findWithSpec) :=
  OpenClaim.holds_of_wide 9 Tryd.f9 rfl rfl rfl rfl rfl rfl rfl ⟨rfl, rfl, rfl, rfl, rfl⟩ rfl rfl rfl rfl rfl (by kernel_rfl) Tryd.func9 (by kernel_rfl)
    (of_decide_eq_true (by kernel_rfl)) (by unfold Func.isWrapper; first | (rw [if_pos (by decide +kernel)]; kernel_rfl) | (rw [if_neg (by decide +kernel)]; exact ⟨rfl, rfl⟩))
    (fun os started H enc _ => lifted os started H enc)
theorem proved : Rows.FindWithCardSaid :=
  Claim7.holds_tied_plain_at .later [] [.data, .pinned] true (true, "9c96432229f4bc117768ebbdaccd8b3303f7cb548093f6a044a79f0aa5d36ee4") false over (fun _ h => by cases h) (by kernel_rfl) (fun _ h => by cases h) findWith_row_tie rfl ⟨rfl, rfl⟩ (by kernel_rfl) rfl
    (fun f fn hf hfn => by
      obtain rfl : f = 9 := Option.some.inj ((show Tryd.prog.funcNamed "withy/wykeep.FindWith" = some 9 by kernel_rfl).symm.trans hf) |>.symm
      obtain rfl : fn = Tryd.f9 := (Option.some.inj (Tryd.func9.symm.trans hfn)).symm
      exact ⟨by kernel_rfl, fun j t ht => by
        have hm : t ∈ Tryd.f9.params.toList := Array.mem_toList_iff.2 (Array.mem_of_getElem? ht)
        have hall : (Tryd.f9.params.toList.all fun u => !Tryd.prog.wantsStandIn u) = true := by kernel_rfl
        exact (show Tryd.prog.wantsStandIn t = false by simpa using List.all_eq_true.1 hall t hm)⟩)
    (by kernel_rfl)
end Go.Proofs.YtbnbpmjfpfdenaaDoor.findWith
