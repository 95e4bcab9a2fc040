/- Walk: wykeep.DeskBegins. No conditions. -/
import Derived.Test.YtonolfpnidaflaaGreatDoorGDc
namespace Go.Proofs.YtonolfpnidaflaaGreatDoor.E
open Go
set_option linter.unusedSimpArgs false
set_option linter.unusedVariables false
set_option linter.unusedSectionVars false
set_option maxRecDepth 20000
set_option maxHeartbeats 4000000
abbrev pRoles : ByteArray := ⟨#[114, 111, 108, 101, 32, 48, 10, 114, 111, 108, 101, 32, 50, 10]⟩
theorem roles_run : bs (runD pRoles.data.toList) = ⟨#[111, 107, 10, 101, 114, 114, 111, 114, 32, 49, 10]⟩ := by
 rw [show pRoles.data.toList = scrL [lRole 48, lRole 50] from rfl, run_roles]
 rfl
theorem hasPrefix_app (a b : List UInt8) : Lib.hasPrefix (a ++ b) a = true := by
 induction a with
 | nil => cases b <;> rfl
 | cons x a ih => simp [Lib.hasPrefix, ih]
theorem DeskBegins_ok (s : ByteArray) (k : Int) (hs : s.size ≤ 1048576) : Ok Tryz.prog 5 [S s, I k] (B true) := by
 have d1 : decide (bs (runD pRoles.data.toList) = ⟨#[111, 107, 10, 101, 114, 114, 111, 114, 32, 49, 10]⟩) = true := decide_eq_true roles_run
 have hsl := size_len s
 have hA := splitA_len 10 s.data.toList
 have hcn : s.data.toList.count 10 ≤ s.size := by rw [← hsl]; exact List.count_le_length
 have hm : ((splitA 10 s.data.toList).map bs).length = s.data.toList.count 10 + 1 := by rw [List.length_map, hA]
 obtain ⟨m, hmm, hmn⟩ := within_lt k (n := s.data.toList.count 10 + 1) (by omega)
 refine Ok.of_wp (rs := [.tmp 4]) (n := 26) Tryz.func5 rfl rfl rfl (by simp) fo (by kernel_rfl) ?_
 simp +decide -implicitDefEqProofs only [S0, simprocAttr]
 refine call_eq (Run_ok pRoles (by decide)) ?_
 simp +decide -implicitDefEqProofs only [S0, simprocAttr, toList_beq, d1]
 refine call_eq (SplitAfter_ok s 10 (by omega)) ?_
 simp +decide -implicitDefEqProofs only [S0, simprocAttr, hm]
 refine call_eq (Within_ok k ((s.data.toList.count 10 + 1 : Nat) : Int) (by omega) (by omega)) ?_
 simp +decide -implicitDefEqProofs only [S0, simprocAttr]
 refine call_eq (Run_ok s (by omega)) ?_
 by_cases h : runD s.data.toList = err2
 ·have d2 : decide (bs (runD s.data.toList) = ⟨#[101, 114, 114, 111, 114, 32, 50, 10]⟩) = true := decide_eq_true (by rw [h]; rfl)
  simp +decide -implicitDefEqProofs only [S0, simprocAttr, toList_beq, d2]
 ·have d2 : decide (bs (runD s.data.toList) = ⟨#[101, 114, 114, 111, 114, 32, 50, 10]⟩) = false := decide_eq_false (fun e => h (bs_inj.1 (e.trans rfl)))
  simp +decide -implicitDefEqProofs only [S0, simprocAttr, toList_beq, d2, hmm]
  have e1 : List.take m (((splitA 10 s.data.toList).map bs).map fun s => [S s]) = (((splitA 10 s.data.toList).take m).map bs).map fun s => [S s] := by rw [List.map_take, List.map_take]
  have e2 : (((splitA 10 s.data.toList).take m).map bs).map (fun s : ByteArray => s.data.toList) = (splitA 10 s.data.toList).take m := by
   rw [List.map_map]
   exact List.map_id' _
  have hfl := flat_take_len m s.data.toList
  obtain ⟨r, hr⟩ := run_begins s.data.toList m h
  rw [e1]
  refine ⟨by rw [hA]; omega, call_eq (Join0_ok (((splitA 10 s.data.toList).take m).map bs) (by rw [List.length_map, List.length_take]; omega) (by rw [e2]; omega)) ?_⟩
  rw [e2]
  simp +decide -implicitDefEqProofs only [S0, simprocAttr]
  refine call_eq (Run_ok (bs ((splitA 10 s.data.toList).take m).flatten) (by rw [bs_size]; omega)) ?_
  rw [bs_list]
  simp +decide -implicitDefEqProofs only [S0, simprocAttr]
  refine call_eq (HasPrefix_ok (bs (runD s.data.toList)) (bs (runD ((splitA 10 s.data.toList).take m).flatten))) ?_
  rw [bs_list, bs_list, hr, hasPrefix_app]
  simp +decide -implicitDefEqProofs only [S0, simprocAttr]
end Go.Proofs.YtonolfpnidaflaaGreatDoor.E
