/- The row of DeskLines: no conditions. -/
import Derived.Test.YtonolfpnidaflaaGreatDoorLawDeskLines
import Derived.Test.YtonolfpnidaflaaGreatDoorReadC
import Derived.Test.YtonolfpnidaflaaGreatDoorRows
import Derived.Test.YtonolfpnidaflaaGreatDoorCards
import Derived.Test.YtonolfpnidaflaaGreatDoorTie
import Derived.Test.YtonolfpnidaflaaGreatDoorGRl
namespace Go.Proofs.YtonolfpnidaflaaGreatDoor.deskLines
open Go Go.ChangeShapes Go.WideShapes Go.ChangeAt Go.RowKit Go.Proofs.YtonolfpnidaflaaGreatDoor.E
set_option linter.unusedSimpArgs false
set_option linter.unusedVariables false
set_option linter.unusedSectionVars false
set_option maxRecDepth 20000
theorem argsAre : ∀ xs, hasAll [.str] xs → ∃ a0, xs = [S a0] := by
 intro xs h
 obtain ⟨x0, u0, rfl, h0, t1⟩ := hasAll_cons h
 obtain ⟨a0, rfl⟩ := has_str h0
 obtain rfl := hasAll_nil t1
 exact ⟨a0, rfl⟩
set_option maxRecDepth 100000 in
theorem wit (os : Os) {H : Type} (enc : TypeId × Value → H) : (Rows.OpenSpec.upto Rows.deskLinesSpec).preRow enc Tryz.prog Tryz.f6 [] false Rows.deskLinesUptoRow.laid ((World.laidAll Tryz.prog os Rows.deskLinesUptoRow.laid).forCall (fun _ _ => 0) ⟨#[], #[.string ⟨#[]⟩], []⟩).memory #[.string ⟨#[]⟩] := by
 have hw : (DataW.whole enc Tryz.prog ((World.laidAll Tryz.prog os Rows.deskLinesUptoRow.laid).forCall (fun _ _ => 0) ⟨#[], #[.string ⟨#[]⟩], []⟩).memory Tryz.f6.params.toList (Rows.OpenSpec.upto Rows.deskLinesSpec).vars false (#[.string ⟨#[]⟩] : Array Value).toList 8).map (fun x => (x.1, x.2.1)) = some ([.lit (.string [])], []) := by kernel_rfl
 obtain ⟨⟨x1, x2, x3⟩, hx, hx1⟩ := Option.map_eq_some_iff.1 hw
 simp only [Prod.mk.injEq] at hx1
 obtain ⟨rfl, rfl⟩ := hx1
 exact OpenSpec.preRow_of_cond 8 hx (by kernel_rfl) (fun k hk => by cases hk; rfl) (by kernel_rfl) (by rw [MakeChecks.laidMetH_plain _ _ _ (by kernel_rfl)]; exact laidMet_laidAll _ (by kernel_rfl) (by kernel_rfl))
set_option maxRecDepth 100000 in
theorem lifted (os : Os) (started : os.Started) (H : Type) (enc : TypeId × Value → H) (F : Stop.Interp) :
  ReturnsInHanded {} Tryz.checked os 6 .any ((Rows.OpenSpec.upto Rows.deskLinesSpec).preRow enc Tryz.prog Tryz.f6 [] false Rows.deskLinesUptoRow.laid) (((Rows.OpenSpec.upto Rows.deskLinesSpec).at F).post enc Tryz.prog Tryz.f6 false true false false) := by
 refine lift_row (C := Tryz.checked) (l := [.str]) (tb := 4) (by kernel_rfl) started (by kernel_rfl) Tryz.func6
  (witness_row (enc := enc) (C := Tryz.checked) false (World.laidAll Tryz.prog os Rows.deskLinesUptoRow.laid) #[.string ⟨#[]⟩] (World.laidAll_os _ _ _) (World.shaped_of_ZipB (by kernel_rfl) (by kernel_rfl)) (by kernel_rfl) (wit os enc))
  rfl (by kernel_rfl) (by kernel_rfl) (by kernel_rfl) (by kernel_rfl) (fun ds h => by match ds, h with | [d0], _ => rfl) ?_
 intro W args xs hL hsh h ⟨ds, hc, ht⟩ hr
 obtain ⟨a0, rfl⟩ := argsAre xs h
 have hsm := hc _ rfl
 exact calls_true (DeskLines_ok a0 (small_text hsm (ht 0 9 a0 rfl (by kernel_rfl) rfl))) W args (gl_txt (l := Rows.deskLinesUptoRow.laid) (by kernel_rfl) (by unfold Rows.deskLinesUptoRow; simp) (by unfold Rows.deskLinesUptoRow; simp) (by unfold Rows.deskLinesUptoRow; simp) hL hsh) hr
theorem over : Rows.deskLinesUptoRow.holds Tryz.pinned (Rows.OpenSpec.upto Rows.deskLinesSpec) :=
 OpenClaim.holds_of_cond 6 Tryz.f6 rfl rfl rfl rfl rfl rfl rfl ⟨rfl, rfl, rfl, rfl, rfl⟩ rfl rfl rfl rfl rfl (by kernel_rfl) Tryz.func6 (by kernel_rfl)
  (of_decide_eq_true (by kernel_rfl)) (by unfold Func.isWrapper; first | (rw [if_pos (by decide +kernel)]; kernel_rfl) | (rw [if_neg (by decide +kernel)]; exact ⟨rfl, rfl⟩))
  (fun os started H enc _ F0 => by rw [OpenClaim.pre_eq_preRow]; exact lifted os started H enc F0)
theorem proved : Rows.DeskLinesUptoCardSaid :=
 Claim7.holds_tied_plain_at .later [] [.data, .data, .data, .data, .sentinel, .sentinel, .pinned] true (true, "f19b0f3b791bc847946333f865216859db50390b3a4d77f76627e1afec1785bd") true over (fun _ h => by cases h) (by kernel_rfl) (fun _ h => by cases h) deskLinesUpto_row_tie rfl ⟨rfl, rfl⟩ (by kernel_rfl) rfl
  (fun f fn hf hfn => by
   obtain rfl : f = 6 := Option.some.inj ((show Tryz.prog.funcNamed "withy/wykeep.DeskLines" = some 6 by kernel_rfl).symm.trans hf) |>.symm
   obtain rfl : fn = Tryz.f6 := (Option.some.inj (Tryz.func6.symm.trans hfn)).symm
   exact ⟨by kernel_rfl, fun j t ht => by
    have hm : t ∈ Tryz.f6.params.toList := Array.mem_toList_iff.2 (Array.mem_of_getElem? ht)
    have hall : (Tryz.f6.params.toList.all fun u => !Tryz.prog.wantsStandIn u) = true := by kernel_rfl
    exact (show Tryz.prog.wantsStandIn t = false by simpa using List.all_eq_true.1 hall t hm)⟩)
  (by kernel_rfl)
end Go.Proofs.YtonolfpnidaflaaGreatDoor.deskLines
