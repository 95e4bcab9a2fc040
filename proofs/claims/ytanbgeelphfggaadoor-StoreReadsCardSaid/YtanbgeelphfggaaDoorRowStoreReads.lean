/- The row of StoreReads: no conditions. -/
import Derived.Test.YtanbgeelphfggaaDoorLawStoreReads
import Derived.Test.YtanbgeelphfggaaDoorReadC
import Derived.Test.YtanbgeelphfggaaDoorRows
import Derived.Test.YtanbgeelphfggaaDoorCards
import Derived.Test.YtanbgeelphfggaaDoorTie
import Derived.Test.YtanbgeelphfggaaDoorReadL
namespace Go.Proofs.YtanbgeelphfggaaDoor.storeReads
open Go Go.ChangeShapes Go.WideShapes Go.ChangeAt Go.RowKit Go.Proofs.YtanbgeelphfggaaDoor.E
set_option linter.unusedSimpArgs false
set_option linter.unusedVariables false
set_option linter.unusedSectionVars false
set_option maxRecDepth 20000
theorem argsAre : ∀ xs, hasAll [.slice 1 (.slice 1 (.int .i64)), .struct [.str, .int .i64, .slice 2 (.struct [.str, .str]), .slice 1 .str]] xs → ∃ a0 a1, xs = [intss a0, recV a1] := by
  intro xs h
  obtain ⟨x0, u0, rfl, h0, t1⟩ := hasAll_cons h
  obtain ⟨a0, rfl⟩ := has_intss h0
  obtain ⟨x1, u1, rfl, h1, t2⟩ := hasAll_cons t1
  obtain ⟨a1, rfl⟩ := has_record h1
  obtain rfl := hasAll_nil t2
  exact ⟨a0, a1, rfl⟩
set_option maxRecDepth 100000 in
theorem lifted (os : Os) (started : os.Started) (H : Type) (enc : TypeId × Value → H) :
    ReturnsInHanded {} Tryd.checked os 4 .any (fun w args => (Rows.storeReadsSpec.pre enc Tryd.prog Tryd.f4 [] false w args ∧ laidMetH Tryd.prog Rows.storeReadsRow.laid w) ∧ sizedMet enc Tryd.prog Tryd.f4 (OpenSpec.ofChange Rows.storeReadsSpec) false w args) (Rows.storeReadsSpec.post enc Tryd.prog Tryd.f4 false true false false) := by
  refine lift_true_laid (C := Tryd.checked) (l := [.slice 1 (.slice 1 (.int .i64)), .struct [.str, .int .i64, .slice 2 (.struct [.str, .str]), .slice 1 .str]]) (tb := 4) (X := fun w _ => laidMetH Tryd.prog Rows.storeReadsRow.laid w) (fun _ _ _ hh h => h.of_heap hh) (by kernel_rfl) started (by kernel_rfl) Tryd.func4
    (ChangeSpec.witness_shaped (enc := enc) (C := Tryd.checked) (os := os) (X := fun w _ => laidMetH Tryd.prog Rows.storeReadsRow.laid w) false (World.laidAll Tryd.prog os Rows.storeReadsRow.laid) #[.slice none 0 0, .agg #[.string ⟨#[]⟩, .int .i64 0, .slice none 0 0, .slice none 0 0]] 8 (World.laidAll_os _ _ _) (World.shaped_of_ZipB (by kernel_rfl) (by kernel_rfl)) (by kernel_rfl) (by kernel_rfl) (by kernel_rfl)
      (by rw [MakeChecks.laidMetH_plain _ _ _ (by kernel_rfl)]; exact laidMet_laidAll _ (by kernel_rfl) (by kernel_rfl)))
    rfl (by kernel_rfl) (by kernel_rfl) (by kernel_rfl) (by kernel_rfl) (fun ds h => by match ds, h with | [d0, d1], _ => rfl) ?_
  intro W args xs _ h hr
  obtain ⟨a0, a1, rfl⟩ := argsAre xs h
  exact calls_true (StoreReads_ok a0 a1) W args hr
theorem over : Rows.storeReadsRow.holds Tryd.pinned (OpenSpec.ofChange Rows.storeReadsSpec) :=
  OpenClaim.holds_of_wide 4 Tryd.f4 rfl rfl rfl rfl rfl rfl rfl ⟨rfl, rfl, rfl, rfl, rfl⟩ rfl rfl rfl rfl rfl (by kernel_rfl) Tryd.func4 (by kernel_rfl)
    (of_decide_eq_true (by kernel_rfl)) (by unfold Func.isWrapper; first | (rw [if_pos (by decide +kernel)]; kernel_rfl) | (rw [if_neg (by decide +kernel)]; exact ⟨rfl, rfl⟩))
    (fun os started H enc _ => lifted os started H enc)
theorem proved : Rows.StoreReadsCardSaid :=
  Claim7.holds_tied_plain_at .later [] [.data, .pinned] true (true, "69cba9f4e0ca9af407a54bf915cd509640b2fee70f695c96468acd99df0862f2") false over (fun _ h => by cases h) (by kernel_rfl) (fun _ h => by cases h) storeReads_row_tie rfl ⟨rfl, rfl⟩ (by kernel_rfl) rfl
    (fun f fn hf hfn => by
      obtain rfl : f = 4 := Option.some.inj ((show Tryd.prog.funcNamed "withy/wykeep.StoreReads" = some 4 by kernel_rfl).symm.trans hf) |>.symm
      obtain rfl : fn = Tryd.f4 := (Option.some.inj (Tryd.func4.symm.trans hfn)).symm
      exact ⟨by kernel_rfl, fun j t ht => by
        have hm : t ∈ Tryd.f4.params.toList := Array.mem_toList_iff.2 (Array.mem_of_getElem? ht)
        have hall : (Tryd.f4.params.toList.all fun u => !Tryd.prog.wantsStandIn u) = true := by kernel_rfl
        exact (show Tryd.prog.wantsStandIn t = false by simpa using List.all_eq_true.1 hall t hm)⟩)
    (by kernel_rfl)
end Go.Proofs.YtanbgeelphfggaaDoor.storeReads
