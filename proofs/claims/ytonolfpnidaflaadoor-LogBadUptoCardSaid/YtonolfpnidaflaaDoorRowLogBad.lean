/- The row of LogBad: no conditions. -/
import Derived.Test.YtonolfpnidaflaaDoorLawLogBad
import Derived.Test.YtonolfpnidaflaaDoorReadC
import Derived.Test.YtonolfpnidaflaaDoorReadO
import Derived.Test.YtonolfpnidaflaaDoorRows
import Derived.Test.YtonolfpnidaflaaDoorCards
import Derived.Test.YtonolfpnidaflaaDoorTie
import Derived.Test.YtonolfpnidaflaaDoorReadU
import Derived.Test.YtonolfpnidaflaaDoorGlTxt
namespace Go.Proofs.YtonolfpnidaflaaDoor.logBad
open Go Go.ChangeShapes Go.WideShapes Go.ChangeAt Go.RowKit Go.Proofs.YtonolfpnidaflaaDoor.E
set_option linter.unusedSimpArgs false
set_option linter.unusedVariables false
set_option linter.unusedSectionVars false
set_option maxRecDepth 20000
theorem argsAre : ∀ xs, hasAll [.slice 12 (.struct [.int .i64, .struct [.int .i64, .int .i64, .int .i64], .slice 6 (.struct [.int .i64, .int .i64, .int .i64, .int .i64, .int .i64, .bool]), .struct [.str, .int .i64, .slice 2 (.struct [.str, .str]), .slice 1 .str], .str, .struct [.str, .str]]), .slice 12 (.struct [.int .i64, .struct [.int .i64, .int .i64, .int .i64], .slice 6 (.struct [.int .i64, .int .i64, .int .i64, .int .i64, .int .i64, .bool]), .struct [.str, .int .i64, .slice 2 (.struct [.str, .str]), .slice 1 .str], .str, .struct [.str, .str]]), .str] xs → ∃ a0 a1 a2, xs = [opsV a0, opsV a1, S a2] ∧ ((∀ o ∈ a0, whoI o.who) ∧ a0.length ≤ maxLen) ∧ ((∀ o ∈ a1, whoI o.who) ∧ a1.length ≤ maxLen) := by
  intro xs h
  obtain ⟨x0, u0, rfl, h0, t1⟩ := hasAll_cons h
  obtain ⟨a0, rfl, w0⟩ := has_opsI h0
  obtain ⟨x1, u1, rfl, h1, t2⟩ := hasAll_cons t1
  obtain ⟨a1, rfl, w1⟩ := has_opsI h1
  obtain ⟨x2, u2, rfl, h2, t3⟩ := hasAll_cons t2
  obtain ⟨a2, rfl⟩ := has_str h2
  obtain rfl := hasAll_nil t3
  exact ⟨a0, a1, a2, rfl, w0, w1⟩
set_option maxRecDepth 100000 in
theorem wit (os : Os) {H : Type} (enc : TypeId × Value → H) : (Rows.OpenSpec.upto Rows.logBadSpec).preRow enc Tryd.prog Tryd.f7 [] false Rows.logBadUptoRow.laid ((World.laidAll Tryd.prog os Rows.logBadUptoRow.laid).forCall (fun _ _ => 0) ⟨#[], #[.slice none 0 0, .slice none 0 0, .string ⟨#[]⟩], []⟩).memory #[.slice none 0 0, .slice none 0 0, .string ⟨#[]⟩] := by
  have hw : (DataW.whole enc Tryd.prog ((World.laidAll Tryd.prog os Rows.logBadUptoRow.laid).forCall (fun _ _ => 0) ⟨#[], #[.slice none 0 0, .slice none 0 0, .string ⟨#[]⟩], []⟩).memory Tryd.f7.params.toList (Rows.OpenSpec.upto Rows.logBadSpec).vars false (#[.slice none 0 0, .slice none 0 0, .string ⟨#[]⟩] : Array Value).toList 8).map (fun x => (x.1, x.2.1)) = some ([.nil, .nil, .lit (.string [])], []) := by kernel_rfl
  obtain ⟨⟨x1, x2, x3⟩, hx, hx1⟩ := Option.map_eq_some_iff.1 hw
  simp only [Prod.mk.injEq] at hx1
  obtain ⟨rfl, rfl⟩ := hx1
  exact OpenSpec.preRow_of_cond 8 hx (by kernel_rfl) (fun k hk => by cases hk; rfl) (by kernel_rfl) (by rw [MakeChecks.laidMetH_plain _ _ _ (by kernel_rfl)]; exact laidMet_laidAll _ (by kernel_rfl) (by kernel_rfl))
set_option maxRecDepth 100000 in
theorem lifted (os : Os) (started : os.Started) (H : Type) (enc : TypeId × Value → H) (F : Stop.Interp) :
    ReturnsInHanded {} Tryd.checked os 7 .any ((Rows.OpenSpec.upto Rows.logBadSpec).preRow enc Tryd.prog Tryd.f7 [] false Rows.logBadUptoRow.laid) (((Rows.OpenSpec.upto Rows.logBadSpec).at F).post enc Tryd.prog Tryd.f7 false true false false) := by
  refine lift_row (C := Tryd.checked) (l := [.slice 12 (.struct [.int .i64, .struct [.int .i64, .int .i64, .int .i64], .slice 6 (.struct [.int .i64, .int .i64, .int .i64, .int .i64, .int .i64, .bool]), .struct [.str, .int .i64, .slice 2 (.struct [.str, .str]), .slice 1 .str], .str, .struct [.str, .str]]), .slice 12 (.struct [.int .i64, .struct [.int .i64, .int .i64, .int .i64], .slice 6 (.struct [.int .i64, .int .i64, .int .i64, .int .i64, .int .i64, .bool]), .struct [.str, .int .i64, .slice 2 (.struct [.str, .str]), .slice 1 .str], .str, .struct [.str, .str]]), .str]) (tb := 4) (by kernel_rfl) started (by kernel_rfl) Tryd.func7
    (witness_row (enc := enc) (C := Tryd.checked) false (World.laidAll Tryd.prog os Rows.logBadUptoRow.laid) #[.slice none 0 0, .slice none 0 0, .string ⟨#[]⟩] (World.laidAll_os _ _ _) (World.shaped_of_ZipB (by kernel_rfl) (by kernel_rfl)) (by kernel_rfl) (wit os enc))
    rfl (by kernel_rfl) (by kernel_rfl) (by kernel_rfl) (by kernel_rfl) (fun ds h => by match ds, h with | [d0, d1, d2], _ => rfl) ?_
  intro W args xs hL hsh h ⟨ds, hc, ht⟩ hr
  obtain ⟨a0, a1, a2, rfl, w0, w1⟩ := argsAre xs h
  have hsm := hc _ rfl
  exact calls_true (LogBad_ok a0 a1 a2 w0 w1 (small_text hsm (ht 2 9 a2 rfl (by kernel_rfl) rfl))) W args (gl_txt (l := Rows.logBadUptoRow.laid) (by kernel_rfl) (by unfold Rows.logBadUptoRow; simp) (by unfold Rows.logBadUptoRow; simp) (by unfold Rows.logBadUptoRow; simp) hL hsh) hr
theorem over : Rows.logBadUptoRow.holds Tryd.pinned (Rows.OpenSpec.upto Rows.logBadSpec) :=
  OpenClaim.holds_of_cond 7 Tryd.f7 rfl rfl rfl rfl rfl rfl rfl ⟨rfl, rfl, rfl, rfl, rfl⟩ rfl rfl rfl rfl rfl (by kernel_rfl) Tryd.func7 (by kernel_rfl)
    (of_decide_eq_true (by kernel_rfl)) (by unfold Func.isWrapper; first | (rw [if_pos (by decide +kernel)]; kernel_rfl) | (rw [if_neg (by decide +kernel)]; exact ⟨rfl, rfl⟩))
    (fun os started H enc _ F0 => by rw [OpenClaim.pre_eq_preRow]; exact lifted os started H enc F0)
theorem proved : Rows.LogBadUptoCardSaid :=
  Claim7.holds_tied_plain_at .later [] [.data, .data, .data, .data, .sentinel, .sentinel, .pinned] true (true, "0e840bf9ad131ac59a54be27e3e406451449c29e64e873435fe8a5b7eb3d447c") true over (fun _ h => by cases h) (by kernel_rfl) (fun _ h => by cases h) logBadUpto_row_tie rfl ⟨rfl, rfl⟩ (by kernel_rfl) rfl
    (fun f fn hf hfn => by
      obtain rfl : f = 7 := Option.some.inj ((show Tryd.prog.funcNamed "withy/wykeep.LogBad" = some 7 by kernel_rfl).symm.trans hf) |>.symm
      obtain rfl : fn = Tryd.f7 := (Option.some.inj (Tryd.func7.symm.trans hfn)).symm
      exact ⟨by kernel_rfl, fun j t ht => by
        have hm : t ∈ Tryd.f7.params.toList := Array.mem_toList_iff.2 (Array.mem_of_getElem? ht)
        have hall : (Tryd.f7.params.toList.all fun u => !Tryd.prog.wantsStandIn u) = true := by kernel_rfl
        exact (show Tryd.prog.wantsStandIn t = false by simpa using List.all_eq_true.1 hall t hm)⟩)
    (by kernel_rfl)
end Go.Proofs.YtonolfpnidaflaaDoor.logBad
