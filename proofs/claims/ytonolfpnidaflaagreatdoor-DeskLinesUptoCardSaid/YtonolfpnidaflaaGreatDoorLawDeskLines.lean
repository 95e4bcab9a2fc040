/- Walk: wykeep.DeskLines. No conditions. -/
import Derived.Test.YtonolfpnidaflaaGreatDoorDeskK
namespace Go.Proofs.YtonolfpnidaflaaGreatDoor.E
open Go
set_option linter.unusedSimpArgs false
set_option linter.unusedVariables false
set_option linter.unusedSectionVars false
set_option maxRecDepth 20000
set_option maxHeartbeats 4000000
abbrev pSure : ByteArray := ⟨#[35, 32, 120, 10, 10, 115, 117, 114, 101, 10]⟩
theorem sure_run : bs (runD pSure.data.toList) = ⟨#[111, 107, 32, 48, 10]⟩ := by
 rw [show pSure.data.toList = [35, 32, 120, 10, 10, 115, 117, 114, 101, 10] from rfl, run_sure]
 rfl
theorem hasPrefix_app (a b : List UInt8) : Lib.hasPrefix (a ++ b) a = true := by
 induction a with
 | nil => cases b <;> rfl
 | cons x a ih => simp [Lib.hasPrefix, ih]
theorem flat_le (k : Nat) : ∀ (l : List (List UInt8)), (∀ x ∈ l, x.length ≤ k) → l.flatten.length ≤ l.length * k := by
 intro l
 induction l with
 | nil => intro _; simp
 | cons x l ih =>
  intro h
  rw [List.flatten_cons, List.length_append, List.length_cons, Nat.succ_mul]
  have h1 := h x (by simp)
  have h2 := ih (fun y hy => h y (by simp [hy]))
  omega
theorem runD_len (l : List UInt8) : (runD l).length ≤ 900000000 := by
 unfold runD
 split
 ·exact Nat.le_trans (show err2.length ≤ 8 from Nat.le_refl _) (by omega)
 ·rename_i h
  have h1 := flat_le 4200001 (ansAll dk0 (scriptL l)) (fun x hx => by
   obtain ⟨y, rfl, hy⟩ := ansAll_an (scriptL l) dk0_ok x hx
   have := hy.len
   rw [List.length_append, List.length_singleton]
   omega)
  rw [ansAll_len] at h1
  have h2 : (scriptL l).length ≤ 200 := by
   unfold scriptL
   have := List.length_filter_le keepL ((linesL l).map wordsL)
   rw [List.length_map] at this
   omega
  have h3 := Nat.mul_le_mul_right 4200001 h2
  omega
theorem DeskLines_ok (s : ByteArray) (hs : s.size ≤ 1048576) : Ok Tryz.prog 6 [S s] (B true) := by
 have d1 : decide (bs (runD pSure.data.toList) = ⟨#[111, 107, 32, 48, 10]⟩) = true := decide_eq_true sure_run
 have hrl := runD_len s.data.toList
 refine Ok.of_wp (rs := [.tmp 2]) (n := 58) Tryz.func6 rfl rfl rfl (by simp) fo (by kernel_rfl) ?_
 simp +decide -implicitDefEqProofs only [S0, simprocAttr]
 refine call_eq (Run_ok pSure (by decide)) ?_
 simp +decide -implicitDefEqProofs only [S0, simprocAttr, toList_beq, d1]
 refine call_eq (Run_ok s (by omega)) ?_
 by_cases h : runD s.data.toList = err2
 ·have d2 : decide (bs (runD s.data.toList) = ⟨#[101, 114, 114, 111, 114, 32, 50, 10]⟩) = true := decide_eq_true (by rw [h]; rfl)
  simp +decide -implicitDefEqProofs only [S0, simprocAttr, toList_beq, d2]
 ·have d2 : decide (bs (runD s.data.toList) = ⟨#[101, 114, 114, 111, 114, 32, 50, 10]⟩) = false := decide_eq_false (fun e => h (bs_inj.1 (e.trans rfl)))
  obtain ⟨h200, hsp, hal, hpr⟩ := run_lines s.data.toList h
  simp +decide -implicitDefEqProofs only [S0, simprocAttr, toList_beq, d2]
  refine call_eq (Lines_ok s hs) ?_
  simp +decide -implicitDefEqProofs only [S0, simprocAttr, h200]
  refine call_eq (SplitAfter_ok (bs (runD s.data.toList)) 10 (by rw [bs_size]; omega)) ?_
  rw [bs_list, hsp]
  obtain ⟨A, hA⟩ : ∃ A, A = ansAll dk0 (scriptL s.data.toList) := ⟨_, rfl⟩
  rw [← hA] at hal hpr ⊢
  obtain ⟨M, hM⟩ : ∃ M, M = (scriptL s.data.toList).length := ⟨_, rfl⟩
  have hM2 : M ≤ 200 := by
   rw [hM]
   unfold scriptL
   have := List.length_filter_le keepL ((linesL s.data.toList).map wordsL)
   rw [List.length_map] at this
   omega
  rw [← hM] at hal
  have hlr : (lsR (scriptL s.data.toList)).length = M := by rw [lsR_len, hM]
  have hAl : ((A ++ [[]]).map bs).length = M + 1 := by rw [List.length_map, List.length_append, hal]; rfl
  have hw1 : IntKind.i64.wrap ((M : Int) + 1) = ((M + 1 : Nat) : Int) := by rw [wr_i64 (by omega) (by omega)]; omega
  have hix : ((A ++ [[]]).map bs)[M]? = some ⟨#[]⟩ := by
   rw [List.getElem?_map, List.getElem?_append_right (by omega), hal, Nat.sub_self]
   rfl
  have htk : List.take M (((A ++ [[]]).map bs).map fun s => [S s]) = (A.map bs).map fun s => [S s] := by
   rw [← List.map_take, ← List.map_take, List.take_left' hal]
  have hMl : (M : Int) < ((M + 1 : Nat) : Int) := by omega
  obtain ⟨R, hR⟩ : ∃ R, R = (A ++ [[]]).map bs := ⟨_, rfl⟩
  rw [← hR] at hAl hix htk ⊢
  have dE : decide ((⟨#[]⟩ : ByteArray) = ⟨#[]⟩) = true := rfl
  simp +decide -implicitDefEqProofs only [S0, simprocAttr, hlr, hAl, hw1, hix, htk, hMl, toList_beq, dE]
  refine ⟨by omega, ?_⟩
  refine ALoop.st [43, 44, 45] (fun (i : Nat) => [strs (A.map bs), I M, I i]) (fun _ => []) (fun i => i ≤ M) (fun i => M - i) [] 0 (by simp +decide -implicitDefEqProofs only [S0, simprocAttr, hal]; try rfl) (by simp +decide -implicitDefEqProofs only [S0, simprocAttr]) (by omega) ?_
  intro i hi
  by_cases hlt : i < M
  ·have h' : (i : Int) < M := by omega
   have hwi := wr_add1 h' (by omega)
   obtain ⟨x, hx⟩ := lt_get (show i < A.length by omega)
   have hx2 : (A.map bs)[i]? = some (bs x) := by rw [List.getElem?_map, hx]; rfl
   simp +decide -implicitDefEqProofs only [S0, simprocAttr, h', hx, Option.map_some, List.getElem?_map]
   refine call_eq (HasPrefix_ok (bs x) ⟨#[111, 107]⟩) ?_
   rcases hpr x (List.mem_of_getElem? hx) with ⟨y, rfl⟩ | ⟨y, rfl⟩
   ·rw [show Lib.hasPrefix (bs (okB ++ y)).data.toList (⟨#[111, 107]⟩ : ByteArray).data.toList = true from hasPrefix_app okB y]
    simp +decide -implicitDefEqProofs only [S0, simprocAttr]
    exact Nxt.mk [] (i + 1) (by simp +decide -implicitDefEqProofs only [S0, simprocAttr, hwi]) (by simp +decide -implicitDefEqProofs only [S0, simprocAttr]) (by omega) (by omega)
   ·rw [show Lib.hasPrefix (bs ([101, 114, 114, 111, 114, 32] ++ y)).data.toList (⟨#[111, 107]⟩ : ByteArray).data.toList = false from rfl]
    simp +decide -implicitDefEqProofs only [S0, simprocAttr]
    refine call_eq (HasPrefix_ok (bs ([101, 114, 114, 111, 114, 32] ++ y)) ⟨#[101, 114, 114, 111, 114, 32]⟩) ?_
    rw [show Lib.hasPrefix (bs ([101, 114, 114, 111, 114, 32] ++ y)).data.toList (⟨#[101, 114, 114, 111, 114, 32]⟩ : ByteArray).data.toList = true from hasPrefix_app [101, 114, 114, 111, 114, 32] y]
    simp +decide -implicitDefEqProofs only [S0, simprocAttr]
    exact Nxt.mk [] (i + 1) (by simp +decide -implicitDefEqProofs only [S0, simprocAttr, hwi]) (by simp +decide -implicitDefEqProofs only [S0, simprocAttr]) (by omega) (by omega)
  ·have h' : ¬ (i : Int) < M := by omega
   simp +decide -implicitDefEqProofs only [S0, simprocAttr, h']
end Go.Proofs.YtonolfpnidaflaaGreatDoor.E
