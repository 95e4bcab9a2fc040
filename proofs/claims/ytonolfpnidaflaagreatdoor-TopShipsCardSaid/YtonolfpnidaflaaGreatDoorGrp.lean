/- Walks: package group. No conditions. -/
import Derived.Test.YtonolfpnidaflaaGreatDoorGrpM
import Derived.Test.YtonolfpnidaflaaGreatDoorGLa
namespace Go.Proofs.YtonolfpnidaflaaGreatDoor.E
open Go
set_option linter.unusedSimpArgs false
set_option linter.unusedVariables false
set_option linter.unusedSectionVars false
set_option maxRecDepth 20000
set_option maxHeartbeats 2000000
abbrev ss1 (l : List ByteArray) : List (List AV) := l.map fun s => [S s]
abbrev is1 (l : List Int) : List (List AV) := l.map fun a => [I a]
abbrev grC (g : Gr) (v u : Nat) : List AV := [I g.n, .own (.e 1) v 1 0 g.log.length, .own (.e 2) u 1 0 g.n, .own (.e 4) u 1 0 g.n]
abbrev grHas (g : Gr) (v : Nat) : List AV := .own (.e 3) v 1 0 g.log.length :: fols g.fol
abbrev grH (g : Gr) : List Blk := [.cells 131 (grC g 0 0), .row 9 1 none (ss1 g.log), .cells 33 (grHas g 0), .row 9 1 none (ss1 g.log), .row 3 1 (some g.n) (is1 g.ack)]
abbrev grHv (g : Gr) (v u : Nat) : List (Nat × Blk) := [(u, .cells 131 (grC g v u)), (v, .row 9 1 none (ss1 g.log)), (u, .cells 33 (grHas g v)), (v, .row 9 1 none (ss1 g.log)), (u, .row 3 1 (some g.n) (is1 g.ack))]
theorem nz {j : Nat} {n : Nat} (h : (j : Int) < n) (P : Prop) : (((j : Nat) : Int) < n) = True := eq_true h
theorem grNew_ok {n : Nat} (h1 : 1 ≤ n) (h5 : n ≤ 5) : OkH Tryz.prog 27 [I n] [] (.tup [.ptr (.e 0) 1 0, I 0]) (grHv (gNew n) 1 1) := by
 have e1 : ¬ ((n : Int) < 1) := by omega
 have e2 : ¬ ((n : Int) > 5) := by omega
 have e3 : (0 : Int) ≤ n := by omega
 have e4 : (n : Int) ≤ 9223372036854775807 := by omega
 refine OkH.of_wp (rs := [.tmp 2, .tmp 3]) (n := 17) [some (.l 16), none, some (.l 12), none, some (.l 14)] Tryz.func27 rfl rfl rfl (by simp) fo (by kernel_rfl) ?_
 have hn : n = 1 ∨ n = 2 ∨ n = 3 ∨ n = 4 ∨ n = 5 := by omega
 rcases hn with rfl | rfl | rfl | rfl | rfl
 all_goals simp (decide := true) (maxSteps := 4000000) -implicitDefEqProofs only [S0, ↓reduceIte, Int.reduceAdd, Int.reduceSub, Int.reduceToNat, Int.reduceNeg, Nat.reduceAdd, Nat.reduceMul, Nat.reduceSub, reduceCtorEq]
 all_goals simp [gNew, fols, List.replicate]
 all_goals exact ⟨⟨⟨by decide, rfl⟩, rfl, rfl, rfl⟩, by simp [fols, CvC, Cv]⟩
theorem grIs_ok (g : Gr) (i : Int) : OkH Tryz.prog 68 [.ptr (.e 0) 0 0, I i] (grH g) (B (decide (1 ≤ i ∧ i < g.n))) (grHv g 0 0) := by
 refine OkH.of_wp (rs := [.tmp 4]) (n := 15) [] Tryz.func68 rfl rfl rfl (by simp) fo (by kernel_rfl) ?_
 by_cases h1 : 1 ≤ i
 ·by_cases h2 : i < g.n
  ·simp (decide := true) (maxSteps := 4000000) -implicitDefEqProofs only [S0, ↓reduceIte, Int.reduceAdd, Int.reduceSub, Int.reduceToNat, Int.reduceNeg, Nat.reduceAdd, Nat.reduceMul, Nat.reduceSub, reduceCtorEq, h1, h2, gfs, Option.getD_some, and_self, decide_true]
  ·simp (decide := true) (maxSteps := 4000000) -implicitDefEqProofs only [S0, ↓reduceIte, Int.reduceAdd, Int.reduceSub, Int.reduceToNat, Int.reduceNeg, Nat.reduceAdd, Nat.reduceMul, Nat.reduceSub, reduceCtorEq, h1, h2, gfs, Option.getD_some, and_self, and_false, decide_false]
 ·simp (decide := true) (maxSteps := 4000000) -implicitDefEqProofs only [S0, ↓reduceIte, Int.reduceAdd, Int.reduceSub, Int.reduceToNat, Int.reduceNeg, Nat.reduceAdd, Nat.reduceMul, Nat.reduceSub, reduceCtorEq, h1, gfs, Option.getD_some, false_and, decide_false]
theorem grAdd_ok (g : Gr) (h : g.log.length < 60) (s : ByteArray) (h1 : 1 ≤ g.n) (ha : g.ack.length = g.n) : OkH Tryz.prog 29 [.ptr (.e 0) 0 0, S s] (grH g) (.tup [I ((g.log.length + 1 : Nat) : Int), I 0]) (grHv (gAdd g s) 1 0) := by
 have hn : ¬ ((g.log.length : Int) = 60) := by omega
 have hl : (g.log ++ [s]).length = g.log.length + 1 := by simp
 obtain ⟨a, r, e⟩ : ∃ a r, g.ack = a :: r := by
  cases e : g.ack with
  | nil => rw [e] at ha; simp at ha; omega
  | cons a r => exact ⟨a, r, rfl⟩
 have hp : (0 : Int) < g.n := by omega
 refine OkH.of_wp (rs := [.tmp 4, .tmp 5]) (n := 51) [] Tryz.func29 rfl rfl rfl (by simp) fo (by kernel_rfl) ?_
 unfold gAdd
 simp (decide := true) (maxSteps := 4000000) -implicitDefEqProofs only [S0, ↓reduceIte, Int.reduceAdd, Int.reduceSub, Int.reduceToNat, Int.reduceNeg, Nat.reduceAdd, Nat.reduceMul, Nat.reduceSub, reduceCtorEq, hn, gfs, hl, hp, e, List.map_append, List.set_cons_zero, Option.getD_some, tk1]
 exact ⟨by omega, by omega, by omega⟩
theorem ss1_drop (l : List ByteArray) (off : Nat) : List.take (l.length - off) (List.drop off (ss1 l)) = ss1 (l.drop off) := by
 unfold ss1
 rw [List.take_of_length_le (by simp), List.map_drop]
theorem cloneOwn_ok (l : List ByteArray) (q : Option Nat) (off : Nat) (hl : l.length ≤ 1000000) (ho : off ≤ l.length) : OkH Tryz.prog 67 [.own (.e 0) 0 1 off (l.length - off)] [.row 9 1 q (ss1 l)] (.own (.e 1) 1 1 0 (l.length - off)) [(0, .row 9 1 q (ss1 l)), (1, .row 9 1 none (ss1 (l.drop off)))] := by
 have ho2 : off + (l.length - off) ≤ l.length := by omega
 have hz : (l.drop off).length = l.length - off := List.length_drop
 refine OkH.of_wpX (rs := [.tmp 2]) (n := 8) Tryz.func67 rfl rfl rfl (by simp) fo (by kernel_rfl) ?_
 simp (decide := true) (maxSteps := 4000000) -implicitDefEqProofs only [S0, ↓reduceIte, Int.reduceAdd, Int.reduceSub, Int.reduceToNat, Int.reduceNeg, Nat.reduceAdd, Nat.reduceMul, Nat.reduceSub, reduceCtorEq, ho2, ss1_drop]
 refine ⟨fun h => ⟨[none], ?_⟩, by rw [hz]; omega, ⟨[some (.l 5)], ?_⟩⟩
 ·have e : l.length - off = 0 := by omega
  have e2 : l.drop off = [] := List.drop_eq_nil_of_le (by omega)
  simp (decide := true) (maxSteps := 4000000) -implicitDefEqProofs only [S0, ↓reduceIte, Int.reduceAdd, Int.reduceSub, Int.reduceToNat, Int.reduceNeg, Nat.reduceAdd, Nat.reduceMul, Nat.reduceSub, reduceCtorEq, e, e2, or_true]
 ·simp (decide := true) (maxSteps := 4000000) -implicitDefEqProofs only [S0, ↓reduceIte, Int.reduceAdd, Int.reduceSub, Int.reduceToNat, Int.reduceNeg, Nat.reduceAdd, Nat.reduceMul, Nat.reduceSub, reduceCtorEq, hz, or_true]
theorem cloneStrsH_ok (l : List ByteArray) (hl : l.length ≤ 1000000) : OkH Tryz.prog 67 [strs l] [] (.own (.e 0) 1 1 0 l.length) [(1, .row 9 1 none (ss1 l))] := by
 refine OkH.of_wpX (rs := [.tmp 2]) (n := 8) Tryz.func67 rfl rfl rfl (by simp) fo (by kernel_rfl) ?_
 simp (decide := true) (maxSteps := 4000000) -implicitDefEqProofs only [S0, ↓reduceIte, Int.reduceAdd, Int.reduceSub, Int.reduceToNat, Int.reduceNeg, Nat.reduceAdd, Nat.reduceMul, Nat.reduceSub, reduceCtorEq]
 refine ⟨fun e => ⟨[none], ?_⟩, by omega, ⟨[some (.l 5)], ?_⟩⟩
 ·obtain rfl := List.map_eq_nil_iff.1 e
  simp (decide := true) (maxSteps := 4000000) -implicitDefEqProofs only [S0, ↓reduceIte, Int.reduceAdd, Int.reduceSub, Int.reduceToNat, Int.reduceNeg, Nat.reduceAdd, Nat.reduceMul, Nat.reduceSub, reduceCtorEq]
 ·simp (decide := true) (maxSteps := 4000000) -implicitDefEqProofs only [S0, ↓reduceIte, Int.reduceAdd, Int.reduceSub, Int.reduceToNat, Int.reduceNeg, Nat.reduceAdd, Nat.reduceMul, Nat.reduceSub, reduceCtorEq]
theorem grSend_ok {g : Gr} (h : grOk g) {i m : Nat} (hi : i + 1 < g.n) (hm : m ≤ g.log.length) : OkH Tryz.prog 31 [.ptr (.e 0) 0 0, I ((i + 1 : Nat) : Int), I m] (grH g) (.tup [strs (g.log.drop m), I 0]) (grHv g 0 0) := by
 have hd : decide (1 ≤ ((i + 1 : Nat) : Int) ∧ ((i + 1 : Nat) : Int) < g.n) = true := by rw [decide_eq_true_iff]; omega
 have h1 : ¬ ((m : Int) < 0) := by omega
 have h2 : ¬ ((m : Int) > g.log.length) := by omega
 have h3 := h.2.2.2.2.1
 have h4 : List.take (g.log.length - m) (ss1 (g.log.drop m)) = ss1 (g.log.drop m) := List.take_of_length_le (by simp)
 have h6 : g.log.length - m ≤ (g.log.drop m).length := by rw [List.length_drop]; omega
 refine OkH.of_wp (rs := [.tmp 6, .tmp 7]) (n := 30) [] Tryz.func31 rfl rfl rfl (by simp) fo (by kernel_rfl) ?_
 simp (decide := true) (maxSteps := 4000000) -implicitDefEqProofs only [S0, ↓reduceIte, Int.reduceAdd, Int.reduceSub, Int.reduceToNat, Int.reduceNeg, Nat.reduceAdd, Nat.reduceMul, Nat.reduceSub, reduceCtorEq]
 refine callH (grIs_ok g ((i + 1 : Nat) : Int)) [.e 0, .e 1, .e 2, .e 3, .e 4] ?_
 rw [hd]
 simp (decide := true) (maxSteps := 4000000) -implicitDefEqProofs only [S0, ↓reduceIte, Int.reduceAdd, Int.reduceSub, Int.reduceToNat, Int.reduceNeg, Nat.reduceAdd, Nat.reduceMul, Nat.reduceSub, reduceCtorEq, gfs, h1, h2]
 refine ⟨by omega, .inr trivial, ?_⟩
 refine callH (cloneOwn_ok g.log none m (by omega) hm) [.e 1, .l 29] ?_
 simp (decide := true) (maxSteps := 4000000) -implicitDefEqProofs only [S0, ↓reduceIte, Int.reduceAdd, Int.reduceSub, Int.reduceToNat, Int.reduceNeg, Nat.reduceAdd, Nat.reduceMul, Nat.reduceSub, reduceCtorEq, gfs, h4, h6, Option.getD_some, ss1_drop]
theorem grSend_none (g : Gr) (m : Int) : OkH Tryz.prog 31 [.ptr (.e 0) 0 0, I 0, I m] (grH g) (.tup [strs [], I 4]) (grHv g 0 0) := by
 refine OkH.of_wp (rs := [.tmp 6, .tmp 7]) (n := 30) [] Tryz.func31 rfl rfl rfl (by simp) fo (by kernel_rfl) ?_
 simp (decide := true) (maxSteps := 4000000) -implicitDefEqProofs only [S0, ↓reduceIte, Int.reduceAdd, Int.reduceSub, Int.reduceToNat, Int.reduceNeg, Nat.reduceAdd, Nat.reduceMul, Nat.reduceSub, reduceCtorEq]
 refine callH (grIs_ok g 0) [.e 0, .e 1, .e 2, .e 3, .e 4] ?_
 simp (decide := true) (maxSteps := 4000000) -implicitDefEqProofs only [S0, ↓reduceIte, Int.reduceAdd, Int.reduceSub, Int.reduceToNat, Int.reduceNeg, Nat.reduceAdd, Nat.reduceMul, Nat.reduceSub, reduceCtorEq, gfs, Option.getD_some]
theorem ghasF {g : Gr} {i : Nat} (h : grOk g) (hi : i + 1 < g.n) : g.fol[i]? = some (gHas g i) := by
 unfold gHas
 rw [List.getElem?_eq_getElem (by have := h.2.2.1; omega), Option.getD_some]
theorem grLog_ok {g : Gr} (h : grOk g) {i : Nat} (hi : i < g.n) : OkH Tryz.prog 30 [.ptr (.e 0) 0 0, I i] (grH g) (.tup [strs (gLog g i), I 0]) (grHv g 0 0) := by
 have h1 : ¬ ((i : Int) < 0) := by omega
 have h2 : ¬ ((i : Int) ≥ g.n) := by omega
 have h2' : ((i : Int) < g.n) := by omega
 have h3 := h.2.2.2.2.1
 cases i with
 | zero =>
  have e0 := cloneOwn_ok g.log none 0 (by omega) (by omega)
  rw [Nat.sub_zero] at e0
  refine OkH.of_wp (rs := [.tmp 4, .tmp 5]) (n := 24) [] Tryz.func30 rfl rfl rfl (by simp) fo (by kernel_rfl) ?_
  simp (decide := true) (maxSteps := 4000000) -implicitDefEqProofs only [S0, ↓reduceIte, Int.reduceAdd, Int.reduceSub, Int.reduceToNat, Int.reduceNeg, Nat.reduceAdd, Nat.reduceMul, Nat.reduceSub, reduceCtorEq, gfs, h1, h2, h2']
  refine callH e0 [.e 3, .l 23] ?_
  simp (decide := true) (maxSteps := 4000000) -implicitDefEqProofs only [S0, ↓reduceIte, Int.reduceAdd, Int.reduceSub, Int.reduceToNat, Int.reduceNeg, Nat.reduceAdd, Nat.reduceMul, Nat.reduceSub, reduceCtorEq, gfs, Option.getD_some, tk1]
  rfl
 | succ i =>
  have hx := ghasF h hi
  have h5 := gHas_len h i
  refine OkH.of_wp (rs := [.tmp 4, .tmp 5]) (n := 24) [] Tryz.func30 rfl rfl rfl (by simp) fo (by kernel_rfl) ?_
  simp (decide := true) (maxSteps := 4000000) -implicitDefEqProofs only [S0, ↓reduceIte, Int.reduceAdd, Int.reduceSub, Int.reduceToNat, Int.reduceNeg, Nat.reduceAdd, Nat.reduceMul, Nat.reduceSub, reduceCtorEq, gfs, h1, h2, h2', Nat.mul_one, List.drop_succ_cons, fols_drop hx]
  refine call_eq (cloneStrs_ok (l := gHas g i) (by omega)) ?_
  simp (decide := true) (maxSteps := 4000000) -implicitDefEqProofs only [S0, ↓reduceIte, Int.reduceAdd, Int.reduceSub, Int.reduceToNat, Int.reduceNeg, Nat.reduceAdd, Nat.reduceMul, Nat.reduceSub, reduceCtorEq, gfs, Option.getD_some]
  try rfl
theorem ackF {g : Gr} {i : Nat} (h : grOk g) (hi : i + 1 < g.n) : g.ack[i + 1]? = some ((g.ack[i + 1]?).getD 0) := by
 rw [List.getElem?_eq_getElem (by have := h.2.2.2.1; omega), Option.getD_some]
abbrev grL (g : Gr) : Hp := [(.e 0, 0, .cells 131 (grC g 0 0)), (.e 1, 0, .row 9 1 none (ss1 g.log)), (.e 2, 0, .cells 33 (grHas g 0)), (.e 3, 0, .row 9 1 none (ss1 g.log)), (.e 4, 0, .row 3 1 (some g.n) (is1 g.ack))]
theorem agr_nil (l : List ByteArray) : agr [] l = true := by cases l <;> rfl
theorem agr_nil2 (l : List ByteArray) : agr l [] = true := by cases l <;> rfl
theorem grTake_ok {g : Gr} (h : grOk g) {i fr : Nat} (hi : i + 1 < g.n) (l : List ByteArray) (hl : l.length ≤ 60) : OkH Tryz.prog 32 [.ptr (.e 0) 0 0, I ((i + 1 : Nat) : Int), I fr, strs l] (grH g) (.tup [I (if tkE g i fr l = 0 then (((tkL g i fr l).length : Nat) : Int) else 0), I (tkE g i fr l)]) (grHv (gTake g i fr l) 0 0) := by
 have hd : decide (1 ≤ ((i + 1 : Nat) : Int) ∧ ((i + 1 : Nat) : Int) < g.n) = true := by rw [decide_eq_true_iff]; omega
 have h4 : ((i + 1 : Nat) : Int) < g.n := by omega
 have hx := ghasF h hi
 have hj : i < g.fol.length := by have := h.2.2.1; omega
 have h5 := gHas_len h i
 have h1 : ¬ ((fr : Int) < 0) := by omega
 have h2 : ¬ ((l.length : Int) > 60) := by omega
 refine OkH.of_wp (rs := [.tmp 8, .tmp 9]) (n := 92) [] Tryz.func32 rfl rfl rfl (by simp) fo (by kernel_rfl) ?_
 simp (decide := true) (maxSteps := 4000000) -implicitDefEqProofs only [S0, ↓reduceIte, Int.reduceAdd, Int.reduceSub, Int.reduceToNat, Int.reduceNeg, Nat.reduceAdd, Nat.reduceMul, Nat.reduceSub, reduceCtorEq]
 refine callH (grIs_ok g ((i + 1 : Nat) : Int)) [.e 0, .e 1, .e 2, .e 3, .e 4] ?_
 rw [hd]
 have ps := gPut_same g hj
 generalize hF : gHas g i = F at hx h5 ps
 by_cases h3 : F.length < fr
 ·have e : tkE g i fr l = 9 := by unfold tkE; rw [hF, if_pos h3]
  have h3' : (fr : Int) > F.length := by omega
  unfold gTake
  rw [e]
  simp (decide := true) (maxSteps := 4000000) -implicitDefEqProofs only [S0, ↓reduceIte, Int.reduceAdd, Int.reduceSub, Int.reduceToNat, Int.reduceNeg, Nat.reduceAdd, Nat.reduceMul, Nat.reduceSub, reduceCtorEq, gfs, h1, h2, h3', h4, Nat.mul_one, List.drop_succ_cons, fols_drop hx, Option.getD_some]
 have h3' : ¬ ((fr : Int) > F.length) := by omega
 simp (decide := true) (maxSteps := 4000000) -implicitDefEqProofs only [S0, ↓reduceIte, Int.reduceAdd, Int.reduceSub, Int.reduceToNat, Int.reduceNeg, Nat.reduceAdd, Nat.reduceMul, Nat.reduceSub, reduceCtorEq, gfs, h1, h2, h3', h4, Nat.mul_one, List.drop_succ_cons, fols_drop hx, Option.getD_some]
 refine ALoop.st [0, 1, 2, 3, 10, 36, 37, 38] (fun (k : Nat) => [.ptr (.e 0) 0 0, I ((i + 1 : Nat) : Int), I fr, strs l, strs F, strs l, I l.length, I k]) (fun _ => grL g) (fun k => k ≤ l.length ∧ agr (F.drop fr) l = agr (F.drop (fr + k)) (l.drop k)) (fun k => l.length - k) [] 0 (by simp (decide := true) (maxSteps := 4000000) -implicitDefEqProofs only [S0, ↓reduceIte, Int.reduceAdd, Int.reduceSub, Int.reduceToNat, Int.reduceNeg, Nat.reduceAdd, Nat.reduceMul, Nat.reduceSub, reduceCtorEq, gfs]) (by simp (decide := true) (maxSteps := 4000000) -implicitDefEqProofs only [S0, ↓reduceIte, Int.reduceAdd, Int.reduceSub, Int.reduceToNat, Int.reduceNeg, Nat.reduceAdd, Nat.reduceMul, Nat.reduceSub, reduceCtorEq, gfs]) ⟨by omega, rfl⟩ ?_
 rintro k ⟨hk, ha⟩
 by_cases hk2 : (k : Int) < l.length
 ·obtain ⟨s, hs⟩ := lt_get (l := l) (i := k) (by omega)
  have hw := wr_add1 hk2 (by omega)
  have hs2 : l.drop k = s :: l.drop (k + 1) := by
   obtain ⟨q, e⟩ := List.getElem?_eq_some_iff.1 hs
   rw [List.drop_eq_getElem_cons q, e]
  have hw2 : IntKind.i64.wrap ((fr : Int) + k) = ((fr + k : Nat) : Int) := by rw [wr_i64 (by omega) (by omega)]; omega
  by_cases hq : fr + k < F.length
  ·obtain ⟨x, hx2⟩ := lt_get (l := F) (i := fr + k) hq
   have hF2 : F.drop (fr + k) = x :: F.drop (fr + k + 1) := by
    obtain ⟨q, e⟩ := List.getElem?_eq_some_iff.1 hx2
    rw [List.drop_eq_getElem_cons q, e]
   have hq' : ((fr + k : Nat) : Int) < F.length := by omega
   rw [hs2, hF2, agr] at ha
   by_cases hxs : x = s
   ·rw [decide_eq_true hxs, Bool.true_and] at ha
    simp (decide := true) (maxSteps := 4000000) -implicitDefEqProofs only [S0, ↓reduceIte, Int.reduceAdd, Int.reduceSub, Int.reduceToNat, Int.reduceNeg, Nat.reduceAdd, Nat.reduceMul, Nat.reduceSub, reduceCtorEq, gfs, hs, hk2, hw2, hq', hx2, hxs]
    exact Nxt.mk [] (k + 1) (by simp (decide := true) (maxSteps := 4000000) -implicitDefEqProofs only [S0, ↓reduceIte, Int.reduceAdd, Int.reduceSub, Int.reduceToNat, Int.reduceNeg, Nat.reduceAdd, Nat.reduceMul, Nat.reduceSub, reduceCtorEq, hw]) (by simp (decide := true) (maxSteps := 4000000) -implicitDefEqProofs only [S0, ↓reduceIte, Int.reduceAdd, Int.reduceSub, Int.reduceToNat, Int.reduceNeg, Nat.reduceAdd, Nat.reduceMul, Nat.reduceSub, reduceCtorEq, gfs]) ⟨by omega, ha⟩ (by omega)
   ·rw [decide_eq_false hxs, Bool.false_and] at ha
    have e : tkE g i fr l = 3 := by unfold tkE; rw [hF, if_neg h3, ha]; rfl
    have hxs' : decide (x = s) = false := decide_eq_false hxs
    unfold gTake
    rw [e]
    simp (decide := true) (maxSteps := 4000000) -implicitDefEqProofs only [S0, ↓reduceIte, Int.reduceAdd, Int.reduceSub, Int.reduceToNat, Int.reduceNeg, Nat.reduceAdd, Nat.reduceMul, Nat.reduceSub, reduceCtorEq, gfs, hs, hk2, hw2, hq', hx2, toList_beq, hxs', Option.getD_some]
  ·have hq' : ¬ (((fr + k : Nat) : Int) < F.length) := by omega
   rw [List.drop_eq_nil_of_le (show F.length ≤ fr + k by omega), agr_nil] at ha
   simp (decide := true) (maxSteps := 4000000) -implicitDefEqProofs only [S0, ↓reduceIte, Int.reduceAdd, Int.reduceSub, Int.reduceToNat, Int.reduceNeg, Nat.reduceAdd, Nat.reduceMul, Nat.reduceSub, reduceCtorEq, gfs, hs, hk2, hw2, hq']
   exact Nxt.mk [] (k + 1) (by simp (decide := true) (maxSteps := 4000000) -implicitDefEqProofs only [S0, ↓reduceIte, Int.reduceAdd, Int.reduceSub, Int.reduceToNat, Int.reduceNeg, Nat.reduceAdd, Nat.reduceMul, Nat.reduceSub, reduceCtorEq, hw]) (by simp (decide := true) (maxSteps := 4000000) -implicitDefEqProofs only [S0, ↓reduceIte, Int.reduceAdd, Int.reduceSub, Int.reduceToNat, Int.reduceNeg, Nat.reduceAdd, Nat.reduceMul, Nat.reduceSub, reduceCtorEq, gfs]) ⟨by omega, by rw [ha, List.drop_eq_nil_of_le (by omega), agr_nil]⟩ (by omega)
 ·obtain rfl : k = l.length := by omega
  rw [List.drop_eq_nil_of_le (Nat.le_refl l.length), agr_nil2] at ha
  have hw3 : IntKind.i64.wrap ((fr : Int) + l.length) = ((fr + l.length : Nat) : Int) := by rw [wr_i64 (by omega) (by omega)]; omega
  by_cases h60 : 60 < fr + l.length
  ·have e : tkE g i fr l = 2 := by unfold tkE; rw [hF, if_neg h3, ha, if_pos rfl, if_pos h60]
   have h60' : ((fr + l.length : Nat) : Int) > 60 := by omega
   unfold gTake
   rw [e]
   simp (decide := true) (maxSteps := 4000000) -implicitDefEqProofs only [S0, ↓reduceIte, Int.reduceAdd, Int.reduceSub, Int.reduceToNat, Int.reduceNeg, Nat.reduceAdd, Nat.reduceMul, Nat.reduceSub, reduceCtorEq, gfs, hk2, hw3, h60', Option.getD_some]
  ·have e : tkE g i fr l = 0 := by unfold tkE; rw [hF, if_neg h3, ha, if_pos rfl, if_neg h60]
   have h60' : ¬ (((fr + l.length : Nat) : Int) > 60) := by omega
   have e2 : tkL g i fr l = F ++ l.drop (F.length - fr) := by unfold tkL; rw [hF]
   unfold gTake
   rw [e, if_pos rfl, if_pos rfl, e2]
   by_cases hlt : F.length < fr + l.length
   ·have hlt' : ((fr + l.length : Nat) : Int) > F.length := by omega
    have hw4 : IntKind.i64.wrap ((F.length : Int) - fr) = ((F.length - fr : Nat) : Int) := by rw [wr_i64 (by omega) (by omega)]; omega
    have q1 : List.drop (F.length - fr) (List.map (fun s => [S s]) l) = ss1 (l.drop (F.length - fr)) := List.map_drop.symm
    have q2 : (l.drop (F.length - fr)).length = l.length - (F.length - fr) := List.length_drop
    have q3 : List.take (F.length + (l.length - (F.length - fr))) (ss1 F ++ ss1 (l.drop (F.length - fr))) = ss1 (F ++ l.drop (F.length - fr)) := by
     rw [List.take_of_length_le (by simp)]
     exact List.map_append.symm
    have q4 : (F ++ l.drop (F.length - fr)).length = F.length + (l.length - (F.length - fr)) := by rw [List.length_append, q2]
    rw [q4]
    unfold gPut
    simp (decide := true) (maxSteps := 4000000) -implicitDefEqProofs only [S0, ↓reduceIte, Int.reduceAdd, Int.reduceSub, Int.reduceToNat, Int.reduceNeg, Nat.reduceAdd, Nat.reduceMul, Nat.reduceSub, reduceCtorEq, gfs, hk2, hw3, hw4, h60', hlt', h4, Nat.mul_one, List.drop_succ_cons, fols_drop hx, Option.getD_some]
    refine callH (cloneStrsH_ok F (by omega)) [.l 75] ?_
    simp (decide := true) (maxSteps := 4000000) -implicitDefEqProofs only [S0, ↓reduceIte, Int.reduceAdd, Int.reduceSub, Int.reduceToNat, Int.reduceNeg, Nat.reduceAdd, Nat.reduceMul, Nat.reduceSub, reduceCtorEq, gfs, hw4, Option.getD_some, tk1, q1, q2, q3, h4, Nat.mul_one, List.take_succ_cons, List.drop_succ_cons, List.append_assoc, List.cons_append, List.nil_append, fols_mid hj, fols_put _ hj]
    exact ⟨by omega, by omega, by omega, by omega⟩
   ·have hlt' : ¬ (((fr + l.length : Nat) : Int) > F.length) := by omega
    have e3 : l.drop (F.length - fr) = [] := List.drop_eq_nil_of_le (by omega)
    rw [e3, List.append_nil, ps]
    simp (decide := true) (maxSteps := 4000000) -implicitDefEqProofs only [S0, ↓reduceIte, Int.reduceAdd, Int.reduceSub, Int.reduceToNat, Int.reduceNeg, Nat.reduceAdd, Nat.reduceMul, Nat.reduceSub, reduceCtorEq, gfs, hk2, hw3, h60', hlt', h4, Nat.mul_one, List.drop_succ_cons, fols_drop hx, Option.getD_some]
theorem grH_len {g : Gr} (h : grOk g) : g.ack ≠ [] := by
 intro e
 have := h.1
 have h2 := h.2.2.2.1
 rw [e] at h2
 simp at h2
 omega
end Go.Proofs.YtonolfpnidaflaaGreatDoor.E
