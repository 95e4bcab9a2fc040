/- The row of IndexFinds: no conditions. -/
import Derived.Test.YtpdenloeacaadaaDoorLawIndexFinds
import Derived.Test.YtpdenloeacaadaaDoorReadC
import Derived.Test.YtpdenloeacaadaaDoorRows
import Derived.Test.YtpdenloeacaadaaDoorCards
import Derived.Test.YtpdenloeacaadaaDoorTie
import Derived.Test.YtpdenloeacaadaaDoorReadL
namespace Go.Proofs.YtpdenloeacaadaaDoor.indexFinds
open Go Go.ChangeShapes Go.WideShapes Go.ChangeAt Go.RowKit Go.Proofs.YtpdenloeacaadaaDoor.E
set_option linter.unusedSimpArgs false
set_option linter.unusedVariables false
set_option linter.unusedSectionVars false
set_option maxRecDepth 20000
theorem argsAre : ∀ xs, hasAll [.slice 1 (.slice 1 (.int .i64)), .struct [.str, .str]] xs → ∃ a0 a1, xs = [intss a0, fdV a1] := by
 intro xs h
 obtain ⟨x0, u0, rfl, h0, t1⟩ := hasAll_cons h
 obtain ⟨a0, rfl⟩ := has_intss h0
 obtain ⟨x1, u1, rfl, h1, t2⟩ := hasAll_cons t1
 obtain ⟨a1, rfl⟩ := has_field h1
 obtain rfl := hasAll_nil t2
 exact ⟨a0, a1, rfl⟩
set_option maxRecDepth 100000 in
theorem lifted (os : Os) (started : os.Started) (H : Type) (enc : TypeId × Value → H) :
  ReturnsInHanded {} Tryd.checked os 3 .any (fun w args => (Rows.indexFindsSpec.pre enc Tryd.prog Tryd.f3 [] false w args ∧ laidMetH Tryd.prog Rows.indexFindsRow.laid w) ∧ sizedMet enc Tryd.prog Tryd.f3 (OpenSpec.ofChange Rows.indexFindsSpec) false w args) (Rows.indexFindsSpec.post enc Tryd.prog Tryd.f3 false true false false) := by
 refine lift_true_laid (C := Tryd.checked) (l := [.slice 1 (.slice 1 (.int .i64)), .struct [.str, .str]]) (tb := 4) (X := fun w _ => laidMetH Tryd.prog Rows.indexFindsRow.laid w) (fun _ _ _ hh h => h.of_heap hh) (by kernel_rfl) started (by kernel_rfl) Tryd.func3
  (ChangeSpec.witness_shaped (enc := enc) (C := Tryd.checked) (os := os) (X := fun w _ => laidMetH Tryd.prog Rows.indexFindsRow.laid w) false (World.laidAll Tryd.prog os Rows.indexFindsRow.laid) #[.slice none 0 0, .agg #[.string ⟨#[]⟩, .string ⟨#[]⟩]] 8 (World.laidAll_os _ _ _) (World.shaped_of_ZipB (by kernel_rfl) (by kernel_rfl)) (by kernel_rfl) (by kernel_rfl) (by kernel_rfl)
   (by rw [MakeChecks.laidMetH_plain _ _ _ (by kernel_rfl)]; exact laidMet_laidAll _ (by kernel_rfl) (by kernel_rfl)))
  rfl (by kernel_rfl) (by kernel_rfl) (by kernel_rfl) (by kernel_rfl) (fun ds h => by match ds, h with | [d0, d1], _ => rfl) ?_
 intro W args xs _ h hr
 obtain ⟨a0, a1, rfl⟩ := argsAre xs h
 exact calls_true (IndexFinds_ok a0 a1) W args (gl_none rfl (fun _ => trivial) _ _) hr
theorem over : Rows.indexFindsRow.holds Tryd.pinned (OpenSpec.ofChange Rows.indexFindsSpec) :=
 OpenClaim.holds_of_wide 3 Tryd.f3 rfl rfl rfl rfl rfl rfl rfl ⟨rfl, rfl, rfl, rfl, rfl⟩ rfl rfl rfl rfl rfl (by kernel_rfl) Tryd.func3 (by kernel_rfl)
  (of_decide_eq_true (by kernel_rfl)) (by unfold Func.isWrapper; first | (rw [if_pos (by decide +kernel)]; kernel_rfl) | (rw [if_neg (by decide +kernel)]; exact ⟨rfl, rfl⟩))
  (fun os started H enc _ => lifted os started H enc)
theorem proved : Rows.IndexFindsCardSaid :=
 Claim7.holds_tied_plain_at .later [] [.data, .pinned] true (true, "94948aa20d3be4aa049a6c2c3c948d479aff4766ce4ad4b9142d019d5316ab88") false over (fun _ h => by cases h) (by kernel_rfl) (fun _ h => by cases h) indexFinds_row_tie rfl ⟨rfl, rfl⟩ (by kernel_rfl) rfl
  (fun f fn hf hfn => by
   obtain rfl : f = 3 := Option.some.inj ((show Tryd.prog.funcNamed "withy/wykeep.IndexFinds" = some 3 by kernel_rfl).symm.trans hf) |>.symm
   obtain rfl : fn = Tryd.f3 := (Option.some.inj (Tryd.func3.symm.trans hfn)).symm
   exact ⟨by kernel_rfl, fun j t ht => by
    have hm : t ∈ Tryd.f3.params.toList := Array.mem_toList_iff.2 (Array.mem_of_getElem? ht)
    have hall : (Tryd.f3.params.toList.all fun u => !Tryd.prog.wantsStandIn u) = true := by kernel_rfl
    exact (show Tryd.prog.wantsStandIn t = false by simpa using List.all_eq_true.1 hall t hm)⟩)
  (by kernel_rfl)
end Go.Proofs.YtpdenloeacaadaaDoor.indexFinds
