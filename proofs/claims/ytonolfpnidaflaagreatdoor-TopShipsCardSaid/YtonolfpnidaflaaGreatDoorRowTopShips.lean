/- The row of TopShips: no conditions. -/
import Derived.Test.YtonolfpnidaflaaGreatDoorLawTopShips
import Derived.Test.YtonolfpnidaflaaGreatDoorReadC
import Derived.Test.YtonolfpnidaflaaGreatDoorRows
import Derived.Test.YtonolfpnidaflaaGreatDoorCards
import Derived.Test.YtonolfpnidaflaaGreatDoorTie
import Derived.Test.YtonolfpnidaflaaGreatDoorGRl
namespace Go.Proofs.YtonolfpnidaflaaGreatDoor.topShips
open Go Go.ChangeShapes Go.WideShapes Go.ChangeAt Go.RowKit Go.Proofs.YtonolfpnidaflaaGreatDoor.E
set_option linter.unusedSimpArgs false
set_option linter.unusedVariables false
set_option linter.unusedSectionVars false
set_option maxRecDepth 20000
theorem argsAre : ∀ xs, hasAll [.slice 1 (.slice 1 (.int .i64)), .slice 1 (.slice 1 (.int .i64))] xs → ∃ a0 a1, xs = [intss a0, intss a1] := by
 intro xs h
 obtain ⟨x0, u0, rfl, h0, t1⟩ := hasAll_cons h
 obtain ⟨a0, rfl⟩ := has_intss h0
 obtain ⟨x1, u1, rfl, h1, t2⟩ := hasAll_cons t1
 obtain ⟨a1, rfl⟩ := has_intss h1
 obtain rfl := hasAll_nil t2
 exact ⟨a0, a1, rfl⟩
set_option maxRecDepth 100000 in
theorem wit (os : Os) {H : Type} (enc : TypeId × Value → H) : (OpenSpec.ofChange Rows.topShipsSpec).preRow enc Tryz.prog Tryz.f7 [] false Rows.topShipsRow.laid ((World.laidAll Tryz.prog os Rows.topShipsRow.laid).forCall (fun _ _ => 0) ⟨#[], #[.slice none 0 0, .slice none 0 0], []⟩).memory #[.slice none 0 0, .slice none 0 0] := by
 have hw : (DataW.whole enc Tryz.prog ((World.laidAll Tryz.prog os Rows.topShipsRow.laid).forCall (fun _ _ => 0) ⟨#[], #[.slice none 0 0, .slice none 0 0], []⟩).memory Tryz.f7.params.toList (OpenSpec.ofChange Rows.topShipsSpec).vars false (#[.slice none 0 0, .slice none 0 0] : Array Value).toList 8).map (fun x => (x.1, x.2.1)) = some ([.nil, .nil], []) := by kernel_rfl
 obtain ⟨⟨x1, x2, x3⟩, hx, hx1⟩ := Option.map_eq_some_iff.1 hw
 simp only [Prod.mk.injEq] at hx1
 obtain ⟨rfl, rfl⟩ := hx1
 exact OpenSpec.preRow_of_cond 8 hx (by kernel_rfl) (fun k hk => by cases hk) (by kernel_rfl) (by rw [MakeChecks.laidMetH_plain _ _ _ (by kernel_rfl)]; exact laidMet_laidAll _ (by kernel_rfl) (by kernel_rfl))
set_option maxRecDepth 100000 in
theorem lifted (os : Os) (started : os.Started) (H : Type) (enc : TypeId × Value → H) (F : Stop.Interp) :
  ReturnsInHanded {} Tryz.checked os 7 .any ((OpenSpec.ofChange Rows.topShipsSpec).preRow enc Tryz.prog Tryz.f7 [] false Rows.topShipsRow.laid) (((OpenSpec.ofChange Rows.topShipsSpec).at F).post enc Tryz.prog Tryz.f7 false true false false) := by
 refine lift_row (C := Tryz.checked) (l := [.slice 1 (.slice 1 (.int .i64)), .slice 1 (.slice 1 (.int .i64))]) (tb := 4) (by kernel_rfl) started (by kernel_rfl) Tryz.func7
  (witness_row (enc := enc) (C := Tryz.checked) false (World.laidAll Tryz.prog os Rows.topShipsRow.laid) #[.slice none 0 0, .slice none 0 0] (World.laidAll_os _ _ _) (World.shaped_of_ZipB (by kernel_rfl) (by kernel_rfl)) (by kernel_rfl) (wit os enc))
  rfl (by kernel_rfl) (by kernel_rfl) (by kernel_rfl) (by kernel_rfl) (fun ds h => by match ds, h with | [d0, d1], _ => rfl) ?_
 intro W args xs hL hsh h ⟨ds, hc, ht⟩ hr
 obtain ⟨a0, a1, rfl⟩ := argsAre xs h
 exact calls_true (TopShips_ok a0 a1) W args (gl_txt (l := Rows.topShipsRow.laid) (by kernel_rfl) (by unfold Rows.topShipsRow; simp) (by unfold Rows.topShipsRow; simp) (by unfold Rows.topShipsRow; simp) hL hsh) hr
theorem over : Rows.topShipsRow.holds Tryz.pinned (OpenSpec.ofChange Rows.topShipsSpec) :=
 OpenClaim.holds_of_cond 7 Tryz.f7 rfl rfl rfl rfl rfl rfl rfl ⟨rfl, rfl, rfl, rfl, rfl⟩ rfl rfl rfl rfl rfl (by kernel_rfl) Tryz.func7 (by kernel_rfl)
  (of_decide_eq_true (by kernel_rfl)) (by unfold Func.isWrapper; first | (rw [if_pos (by decide +kernel)]; kernel_rfl) | (rw [if_neg (by decide +kernel)]; exact ⟨rfl, rfl⟩))
  (fun os started H enc _ F0 => by rw [OpenClaim.pre_eq_preRow]; exact lifted os started H enc F0)
theorem proved : Rows.TopShipsCardSaid :=
 Claim7.holds_tied_plain_at .later [] [.data, .data, .data, .data, .sentinel, .sentinel, .pinned] true (true, "f19b0f3b791bc847946333f865216859db50390b3a4d77f76627e1afec1785bd") true over (fun _ h => by cases h) (by kernel_rfl) (fun _ h => by cases h) topShips_row_tie rfl ⟨rfl, rfl⟩ (by kernel_rfl) rfl
  (fun f fn hf hfn => by
   obtain rfl : f = 7 := Option.some.inj ((show Tryz.prog.funcNamed "withy/wytop.TopShips" = some 7 by kernel_rfl).symm.trans hf) |>.symm
   obtain rfl : fn = Tryz.f7 := (Option.some.inj (Tryz.func7.symm.trans hfn)).symm
   exact ⟨by kernel_rfl, fun j t ht => by
    have hm : t ∈ Tryz.f7.params.toList := Array.mem_toList_iff.2 (Array.mem_of_getElem? ht)
    have hall : (Tryz.f7.params.toList.all fun u => !Tryz.prog.wantsStandIn u) = true := by kernel_rfl
    exact (show Tryz.prog.wantsStandIn t = false by simpa using List.all_eq_true.1 hall t hm)⟩)
  (by kernel_rfl)
end Go.Proofs.YtonolfpnidaflaaGreatDoor.topShips
