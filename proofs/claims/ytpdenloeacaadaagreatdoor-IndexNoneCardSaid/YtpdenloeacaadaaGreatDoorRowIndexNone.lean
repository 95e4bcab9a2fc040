/- The row of IndexNone: no conditions. -/
import Derived.Test.YtpdenloeacaadaaGreatDoorLawIndexNone
import Derived.Test.YtpdenloeacaadaaGreatDoorReadC
import Derived.Test.YtpdenloeacaadaaGreatDoorRows
import Derived.Test.YtpdenloeacaadaaGreatDoorCards
import Derived.Test.YtpdenloeacaadaaGreatDoorTie
import Derived.Test.YtpdenloeacaadaaGreatDoorReadL
namespace Go.Proofs.YtpdenloeacaadaaGreatDoor.indexNone
open Go Go.ChangeShapes Go.WideShapes Go.ChangeAt Go.RowKit Go.Proofs.YtpdenloeacaadaaGreatDoor.E
set_option linter.unusedSimpArgs false
set_option linter.unusedVariables false
set_option linter.unusedSectionVars false
set_option maxRecDepth 20000
theorem argsAre : ∀ xs, hasAll [.slice 1 (.slice 1 (.int .i64)), .str] xs → ∃ a0 a1, xs = [intss a0, S a1] := by
 intro xs h
 obtain ⟨x0, u0, rfl, h0, t1⟩ := hasAll_cons h
 obtain ⟨a0, rfl⟩ := has_intss h0
 obtain ⟨x1, u1, rfl, h1, t2⟩ := hasAll_cons t1
 obtain ⟨a1, rfl⟩ := has_str h1
 obtain rfl := hasAll_nil t2
 exact ⟨a0, a1, rfl⟩
set_option maxRecDepth 100000 in
theorem lifted (os : Os) (started : os.Started) (H : Type) (enc : TypeId × Value → H) :
  ReturnsInHanded {} Tryz.checked os 3 .any (fun w args => (Rows.indexNoneSpec.pre enc Tryz.prog Tryz.f3 [] false w args ∧ laidMetH Tryz.prog Rows.indexNoneRow.laid w) ∧ sizedMet enc Tryz.prog Tryz.f3 (OpenSpec.ofChange Rows.indexNoneSpec) false w args) (Rows.indexNoneSpec.post enc Tryz.prog Tryz.f3 false true false false) := by
 refine lift_true_laid (C := Tryz.checked) (l := [.slice 1 (.slice 1 (.int .i64)), .str]) (tb := 4) (X := fun w _ => laidMetH Tryz.prog Rows.indexNoneRow.laid w) (fun _ _ _ hh h => h.of_heap hh) (by kernel_rfl) started (by kernel_rfl) Tryz.func3
  (ChangeSpec.witness_shaped (enc := enc) (C := Tryz.checked) (os := os) (X := fun w _ => laidMetH Tryz.prog Rows.indexNoneRow.laid w) false (World.laidAll Tryz.prog os Rows.indexNoneRow.laid) #[.slice none 0 0, .string ⟨#[]⟩] 8 (World.laidAll_os _ _ _) (World.shaped_of_ZipB (by kernel_rfl) (by kernel_rfl)) (by kernel_rfl) (by kernel_rfl) (by kernel_rfl)
   (by rw [MakeChecks.laidMetH_plain _ _ _ (by kernel_rfl)]; exact laidMet_laidAll _ (by kernel_rfl) (by kernel_rfl)))
  rfl (by kernel_rfl) (by kernel_rfl) (by kernel_rfl) (by kernel_rfl) (fun ds h => by match ds, h with | [d0, d1], _ => rfl) ?_
 intro W args xs _ h hr
 obtain ⟨a0, a1, rfl⟩ := argsAre xs h
 exact calls_true (IndexNone_ok a0 a1) W args (gl_none rfl (fun _ => trivial) _ _) hr
theorem over : Rows.indexNoneRow.holds Tryz.pinned (OpenSpec.ofChange Rows.indexNoneSpec) :=
 OpenClaim.holds_of_wide 3 Tryz.f3 rfl rfl rfl rfl rfl rfl rfl ⟨rfl, rfl, rfl, rfl, rfl⟩ rfl rfl rfl rfl rfl (by kernel_rfl) Tryz.func3 (by kernel_rfl)
  (of_decide_eq_true (by kernel_rfl)) (by unfold Func.isWrapper; first | (rw [if_pos (by decide +kernel)]; kernel_rfl) | (rw [if_neg (by decide +kernel)]; exact ⟨rfl, rfl⟩))
  (fun os started H enc _ => lifted os started H enc)
theorem proved : Rows.IndexNoneCardSaid :=
 Claim7.holds_tied_plain_at .later [] [.data, .pinned] true (true, "2ca40c71ef77279907edbc2f107f28756776158ac3127e96aa40b2dc4a962bfb") false over (fun _ h => by cases h) (by kernel_rfl) (fun _ h => by cases h) indexNone_row_tie rfl ⟨rfl, rfl⟩ (by kernel_rfl) rfl
  (fun f fn hf hfn => by
   obtain rfl : f = 3 := Option.some.inj ((show Tryz.prog.funcNamed "withy/wykeep.IndexNone" = some 3 by kernel_rfl).symm.trans hf) |>.symm
   obtain rfl : fn = Tryz.f3 := (Option.some.inj (Tryz.func3.symm.trans hfn)).symm
   exact ⟨by kernel_rfl, fun j t ht => by
    have hm : t ∈ Tryz.f3.params.toList := Array.mem_toList_iff.2 (Array.mem_of_getElem? ht)
    have hall : (Tryz.f3.params.toList.all fun u => !Tryz.prog.wantsStandIn u) = true := by kernel_rfl
    exact (show Tryz.prog.wantsStandIn t = false by simpa using List.all_eq_true.1 hall t hm)⟩)
  (by kernel_rfl)
end Go.Proofs.YtpdenloeacaadaaGreatDoor.indexNone
