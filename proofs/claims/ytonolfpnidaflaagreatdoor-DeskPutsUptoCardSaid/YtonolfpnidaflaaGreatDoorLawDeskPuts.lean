/- Walk: wykeep.DeskPuts. No conditions. -/
import Derived.Test.YtonolfpnidaflaaGreatDoorGDc
namespace Go.Proofs.YtonolfpnidaflaaGreatDoor.E
open Go
set_option linter.unusedSimpArgs false
set_option linter.unusedVariables false
set_option linter.unusedSectionVars false
set_option maxRecDepth 20000
set_option maxHeartbeats 4000000
def rA : Rc := ⟨⟨#[97]⟩, 3, [⟨⟨#[107]⟩, ⟨#[118]⟩⟩], [⟨#[98]⟩]⟩
theorem rA_ok : GoodRc rA := (chkRec_good rA).1 (by decide)
abbrev sA : List UInt8 := [97, 59, 51, 59, 107, 61, 118, 59, 98]
theorem rA_L : recL rA = sA := by
 unfold recL rA
 rw [show Lib.itoa (3 : Int) = [51] from itoa1 (n := 3) (by omega)]
 rfl
theorem sA_read : readC sA = 0 ∧ readR sA = rA := by
 have := readC_recL rA_ok
 rwa [rA_L] at this
abbrev pBegin : ByteArray := ⟨#[114, 111, 108, 101, 32, 48, 10, 97, 108, 108, 111, 119, 32, 48, 32, 45, 49, 32, 48, 32, 57, 32, 50, 53, 53, 10]⟩
abbrev pOne : ByteArray := ⟨#[112, 117, 116, 32, 48, 32, 48, 32, 48, 32, 97, 59, 51, 59, 107, 61, 118, 59, 98, 10, 103, 101, 116, 32, 48, 32, 48, 32, 48, 32, 97, 10]⟩
theorem one_txt : (pBegin ++ pOne).data.toList = scrL [lRole 48, lAllow, lPut sA, lGet (readR sA).id.data.toList] := by
 rw [ba_app, sA_read.2]
 rfl
theorem one_run : bs (runD (pBegin ++ pOne).data.toList) = ⟨#[111, 107, 10, 111, 107, 10, 111, 107, 10, 111, 107, 32, 97, 59, 51, 59, 107, 61, 118, 59, 98, 10]⟩ := by
 rw [one_txt, run_puts sA_read.1]
 rfl
abbrev pPut : ByteArray := ⟨#[112, 117, 116, 32, 48, 32, 48, 32, 48, 32]⟩
abbrev pGet : ByteArray := ⟨#[10, 103, 101, 116, 32, 48, 32, 48, 32, 48, 32]⟩
abbrev pHist : ByteArray := ⟨#[10, 104, 105, 115, 116, 32, 48, 32, 48, 32, 48, 32]⟩
theorem two_txt (s : ByteArray) : (pBegin ++ pPut ++ s ++ pGet ++ (readR s.data.toList).id ++ pHist ++ (readR s.data.toList).id ++ ⟨#[10]⟩).data.toList = scrL [lRole 48, lAllow, lPut s.data.toList, lGet (readR s.data.toList).id.data.toList, lHist (readR s.data.toList).id.data.toList] := by
 simp only [ba_app, scrL, unl, List.map_cons, List.map_nil, List.flatMap_cons, List.flatMap_nil, joinC]
 simp
theorem two_run (s : ByteArray) (h : readC s.data.toList = 0) : bs (runD (pBegin ++ pPut ++ s ++ pGet ++ (readR s.data.toList).id ++ pHist ++ (readR s.data.toList).id ++ ⟨#[10]⟩).data.toList) = ⟨#[111, 107, 10, 111, 107, 10, 111, 107, 10, 111, 107, 32]⟩ ++ s ++ ⟨#[10, 111, 107, 32]⟩ ++ s ++ ⟨#[10]⟩ := by
 rw [two_txt, run_puts2 h]
 refine ba_ext ?_
 simp [ba_app, bs, okB]
theorem DeskPuts_ok (s : ByteArray) (hs : s.size ≤ 1048576) : Ok Tryz.prog 4 [S s] (B true) := by
 have d1 : decide (bs (runD (pBegin ++ pOne).data.toList) = ⟨#[111, 107, 10, 111, 107, 10, 111, 107, 10, 111, 107, 32, 97, 59, 51, 59, 107, 61, 118, 59, 98, 10]⟩) = true := decide_eq_true one_run
 refine Ok.of_wp (rs := [.tmp 2]) (n := 38) Tryz.func4 rfl rfl rfl (by simp) fo (by kernel_rfl) ?_
 simp +decide -implicitDefEqProofs only [S0, simprocAttr]
 refine call_eq (Run_ok (pBegin ++ pOne) (by decide)) ?_
 simp +decide -implicitDefEqProofs only [S0, simprocAttr, toList_beq, d1]
 refine call_eq (recRead_ok s (by omega)) ?_
 by_cases h : readC s.data.toList = 0
 ·obtain ⟨_, _, _, _, _, _, a7, a8⟩ := rec_word h
  have z1 : s.size ≤ 200 := by rw [← size_len s]; exact a7
  have z2 : (readR s.data.toList).id.size ≤ 8 := by rw [← size_len]; exact a8
  have d2 := decide_eq_true (two_run s h)
  have k1 : pBegin.size = 26 := rfl
  have k2 : pPut.size = 10 := rfl
  have k3 : pGet.size = 11 := rfl
  have k4 : pHist.size = 12 := rfl
  have k5 : (⟨#[10]⟩ : ByteArray).size = 1 := rfl
  have k6 : (⟨#[111, 107, 10, 111, 107, 10, 111, 107, 10, 111, 107, 32]⟩ : ByteArray).size = 12 := rfl
  have k7 : (⟨#[10, 111, 107, 32]⟩ : ByteArray).size = 4 := rfl
  simp +decide -implicitDefEqProofs only [S0, simprocAttr, h, ba_size, k1, k2, k3, k4, k5, k6, k7]
  refine ⟨by omega, by omega, by omega, by omega, by omega, by omega, call_eq (Run_ok (pBegin ++ pPut ++ s ++ pGet ++ (readR s.data.toList).id ++ pHist ++ (readR s.data.toList).id ++ ⟨#[10]⟩) (by simp only [ba_size, k1, k2, k3, k4, k5]; omega)) ?_⟩
  simp +decide -implicitDefEqProofs only [S0, simprocAttr, toList_beq, d2, ba_size, k5, k6, k7]
  exact ⟨by omega, by omega, by omega, by omega⟩
 ·simp +decide -implicitDefEqProofs only [S0, simprocAttr, h]
end Go.Proofs.YtonolfpnidaflaaGreatDoor.E
