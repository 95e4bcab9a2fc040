/- Walks: an index's Keys, Same, Note. No conditions. -/
import Derived.Test.YtpdenloeacaadaaDoorIdxG
namespace Go.Proofs.YtpdenloeacaadaaDoor.E
open Go
set_option linter.unusedSimpArgs false
set_option linter.unusedVariables false
set_option linter.unusedSectionVars false
set_option maxRecDepth 20000
set_option maxHeartbeats 2000000
def keysL (es : Es) : List ByteArray := es.map fun e => e.1.key
def eqE (a b : Fd × List ByteArray) : Bool := decide (a.1 = b.1) && decide (a.2 = b.2)
theorem eqE_iff (a b : Fd × List ByteArray) : eqE a b = true ↔ a = b := by
 unfold eqE
 rw [Bool.and_eq_true, decide_eq_true_eq, decide_eq_true_eq]
 constructor
 ·rintro ⟨h1, h2⟩; exact Prod.ext h1 h2
 ·rintro rfl; exact ⟨rfl, rfl⟩
theorem fd_ext (a b : Fd) : (a = b) ↔ (a.key = b.key ∧ a.val = b.val) := by
 constructor
 ·rintro rfl; exact ⟨rfl, rfl⟩
 ·rintro ⟨h1, h2⟩; cases a; cases b; simp only at h1 h2; rw [h1, h2]
theorem eqE_ok (a b : Fd × List ByteArray) (hl : a.2.length ≤ 1000000) : Ok Tryd.prog 24 [.agg (rowE a), .agg (rowE b)] (B (eqE a b)) := by
 refine Ok.of_wp (rs := [.tmp 4]) (n := 17) Tryd.func24 rfl rfl rfl (by simp) fo (by kernel_rfl) ?_
 by_cases h1 : a.1 = b.1
 ·have e0 : eqE a b = decide (a.2 = b.2) := by unfold eqE; rw [decide_eq_true h1]; rfl
  obtain ⟨q1, q2⟩ := (fd_ext _ _).1 h1
  have h2 : decide (a.1.key = b.1.key) = true := decide_eq_true q1
  have h3 : decide (a.1.val = b.1.val) = true := decide_eq_true q2
  rw [e0]
  simp (decide := true) (maxSteps := 4000000) -implicitDefEqProofs only [S0, ↓reduceIte, Int.reduceAdd, Int.reduceSub, Int.reduceToNat, Int.reduceNeg, Nat.reduceAdd, Nat.reduceMul, Nat.reduceSub, reduceCtorEq, toList_beq, h2, h3]
  refine call_eq (eqStrs_ok a.2 b.2 (by omega)) ?_
  simp (decide := true) (maxSteps := 4000000) -implicitDefEqProofs only [S0, ↓reduceIte, Int.reduceAdd, Int.reduceSub, Int.reduceToNat, Int.reduceNeg, Nat.reduceAdd, Nat.reduceMul, Nat.reduceSub, reduceCtorEq]
 ·have e0 : eqE a b = false := by unfold eqE; rw [decide_eq_false h1]; rfl
  have h2 : (decide (a.1.key = b.1.key) && decide (a.1.val = b.1.val)) = false := by
   rw [Bool.eq_false_iff]
   intro h
   rw [Bool.and_eq_true, decide_eq_true_eq, decide_eq_true_eq] at h
   exact h1 ((fd_ext _ _).2 h)
  rw [e0]
  simp (decide := true) (maxSteps := 4000000) -implicitDefEqProofs only [S0, ↓reduceIte, Int.reduceAdd, Int.reduceSub, Int.reduceToNat, Int.reduceNeg, Nat.reduceAdd, Nat.reduceMul, Nat.reduceSub, reduceCtorEq, toList_beq, h2]
def eqL : Es → Es → Bool
 | [], [] => true
 | a :: l, b :: m => eqE a b && eqL l m
 | _, _ => false
theorem eqL_iff : ∀ (a b : Es), eqL a b = true ↔ a = b
 | [], [] => by simp [eqL]
 | [], _ :: _ => by simp [eqL]
 | _ :: _, [] => by simp [eqL]
 | a :: l, b :: m => by rw [eqL, Bool.and_eq_true, eqE_iff, eqL_iff l m, List.cons.injEq]
theorem eqL_len {a b : Es} (h : a.length ≠ b.length) : eqL a b = false := by
 rw [Bool.eq_false_iff, Ne, eqL_iff]
 intro e
 exact h (by rw [e])
theorem eqL_drop {a b : Es} {i : Nat} {x y : Fd × List ByteArray} (hx : a[i]? = some x) (hy : b[i]? = some y) : eqL (a.drop i) (b.drop i) = (eqE x y && eqL (a.drop (i + 1)) (b.drop (i + 1))) := by
 obtain ⟨h1, h2⟩ := List.getElem?_eq_some_iff.1 hx
 obtain ⟨h3, h4⟩ := List.getElem?_eq_some_iff.1 hy
 rw [List.drop_eq_getElem_cons h1, List.drop_eq_getElem_cons h3, h2, h4, eqL]
theorem eqF_ok (a b : Es) (ha : EsB 45000 9000 a) : Ok Tryd.prog 23 [.list 3 (rowsE a), .list 3 (rowsE b), .func 24 []] (B (eqL a b)) := by
 refine Ok.of_wp (rs := [.tmp 6]) (n := 32) Tryd.func23 rfl rfl rfl (by simp) fo (by kernel_rfl) ?_
 by_cases hn : a.length = b.length
 ·have hn' : ((a.length : Int) != (b.length : Int)) = false := by rw [hn]; simp
  simp (decide := true) (maxSteps := 4000000) -implicitDefEqProofs only [S0, ↓reduceIte, Int.reduceAdd, Int.reduceSub, Int.reduceToNat, Int.reduceNeg, Nat.reduceAdd, Nat.reduceMul, Nat.reduceSub, reduceCtorEq, hn']
  refine ALoop.st [1, 2, 15, 16, 17] (fun (i : Nat) => [.list 3 (rowsE b), .func 24 [], .list 3 (rowsE a), I a.length, I i]) (fun _ => []) (fun i => i ≤ a.length ∧ eqL (a.drop i) (b.drop i) = eqL a b) (fun i => a.length - i) [] 0 (by simp (decide := true) (maxSteps := 4000000) -implicitDefEqProofs only [S0, ↓reduceIte, Int.reduceAdd, Int.reduceSub, Int.reduceToNat, Int.reduceNeg, Nat.reduceAdd, Nat.reduceMul, Nat.reduceSub, reduceCtorEq]; try rfl) (by simp (decide := true) (maxSteps := 4000000) -implicitDefEqProofs only [S0, ↓reduceIte, Int.reduceAdd, Int.reduceSub, Int.reduceToNat, Int.reduceNeg, Nat.reduceAdd, Nat.reduceMul, Nat.reduceSub, reduceCtorEq]) ⟨Nat.zero_le _, rfl⟩ ?_
  rintro i ⟨hi, hu⟩
  have hl := ha.1
  by_cases h : (i : Int) < a.length
  ·obtain ⟨x, hx⟩ := lt_get (l := a) (i := i) (by omega)
   obtain ⟨y, hy⟩ := lt_get (l := b) (i := i) (by omega)
   have hw := wr_add1 h (by omega)
   have hib : (i : Int) < b.length := by omega
   have hx2 := ha.2 x (List.mem_of_getElem? hx)
   rw [eqL_drop hx hy] at hu
   simp (decide := true) (maxSteps := 4000000) -implicitDefEqProofs only [S0, ↓reduceIte, Int.reduceAdd, Int.reduceSub, Int.reduceToNat, Int.reduceNeg, Nat.reduceAdd, Nat.reduceMul, Nat.reduceSub, reduceCtorEq, h, hx, hy, hib]
   refine call_eq (eqE_ok x y (by omega)) ?_
   cases hE : eqE x y with
   | false =>
    rw [hE, Bool.false_and] at hu
    rw [← hu]
    simp (decide := true) (maxSteps := 4000000) -implicitDefEqProofs only [S0, ↓reduceIte, Int.reduceAdd, Int.reduceSub, Int.reduceToNat, Int.reduceNeg, Nat.reduceAdd, Nat.reduceMul, Nat.reduceSub, reduceCtorEq]
   | true =>
    rw [hE, Bool.true_and] at hu
    simp (decide := true) (maxSteps := 4000000) -implicitDefEqProofs only [S0, ↓reduceIte, Int.reduceAdd, Int.reduceSub, Int.reduceToNat, Int.reduceNeg, Nat.reduceAdd, Nat.reduceMul, Nat.reduceSub, reduceCtorEq]
    exact Nxt.mk [] (i + 1) (by simp (decide := true) (maxSteps := 4000000) -implicitDefEqProofs only [S0, ↓reduceIte, Int.reduceAdd, Int.reduceSub, Int.reduceToNat, Int.reduceNeg, Nat.reduceAdd, Nat.reduceMul, Nat.reduceSub, reduceCtorEq, hw]) (by simp (decide := true) (maxSteps := 4000000) -implicitDefEqProofs only [S0, ↓reduceIte, Int.reduceAdd, Int.reduceSub, Int.reduceToNat, Int.reduceNeg, Nat.reduceAdd, Nat.reduceMul, Nat.reduceSub, reduceCtorEq]) ⟨by omega, hu⟩ (by omega)
  ·obtain rfl : i = a.length := by omega
   rw [List.drop_eq_nil_of_le (Nat.le_refl _), List.drop_eq_nil_of_le (by omega)] at hu
   rw [← hu]
   simp (decide := true) (maxSteps := 4000000) -implicitDefEqProofs only [S0, ↓reduceIte, Int.reduceAdd, Int.reduceSub, Int.reduceToNat, Int.reduceNeg, Nat.reduceAdd, Nat.reduceMul, Nat.reduceSub, reduceCtorEq, h]
   rfl
 ·have hn' : ((a.length : Int) != (b.length : Int)) = true := by rw [bne_iff_ne]; omega
  have e0 := eqL_len hn
  simp (decide := true) (maxSteps := 4000000) -implicitDefEqProofs only [S0, ↓reduceIte, Int.reduceAdd, Int.reduceSub, Int.reduceToNat, Int.reduceNeg, Nat.reduceAdd, Nat.reduceMul, Nat.reduceSub, reduceCtorEq, hn', e0]
def sameAll (l : List Vn) (es : Es) : Bool := es.all fun e => decide ((if byOk e.1 then byL l e.1 else []) = e.2)
theorem newL_B {l : List Vn} (h : chkSt l = 0) (hl : l.length ≤ 1000) : EsB 6000 6000 (newL l) := by
 have := newN_B h _ (idsL l) rfl
 have h2 := idsL_len l
 exact this.mono (by omega) (by omega)
theorem SameF_ok (es : Es) (l : List Vn) (h : chkSt l = 0) (hl : l.length ≤ 1000) (hb : EsB 45000 9000 es) : Ok Tryd.prog 9 [ixV es, vers l] (.tup [B (eqL es (newL l) && sameAll l (newL l)), I 0]) := by
 refine Ok.of_wp (rs := [.tmp 4, .tmp 5]) (n := 55) Tryd.func9 rfl rfl rfl (by simp) fo (by kernel_rfl) ?_
 simp (decide := true) (maxSteps := 4000000) -implicitDefEqProofs only [S0, ↓reduceIte, Int.reduceAdd, Int.reduceSub, Int.reduceToNat, Int.reduceNeg, Nat.reduceAdd, Nat.reduceMul, Nat.reduceSub, reduceCtorEq]
 refine call_eq (Ok.frozen (New_ok l h hl)) ?_
 simp (decide := true) (maxSteps := 4000000) -implicitDefEqProofs only [S0, ↓reduceIte, Int.reduceAdd, Int.reduceSub, Int.reduceToNat, Int.reduceNeg, Nat.reduceAdd, Nat.reduceMul, Nat.reduceSub, reduceCtorEq]
 refine call_eq (eqF_ok es (newL l) hb) ?_
 have hB := newL_B h hl
 obtain ⟨n, hn⟩ : ∃ n, n = newL l := ⟨_, rfl⟩
 rw [← hn] at hB ⊢
 simp (decide := true) (maxSteps := 4000000) -implicitDefEqProofs only [S0, ↓reduceIte, Int.reduceAdd, Int.reduceSub, Int.reduceToNat, Int.reduceNeg, Nat.reduceAdd, Nat.reduceMul, Nat.reduceSub, reduceCtorEq]
 refine ALoop.st [1, 8, 33, 34, 35] (fun (i : Nat) => [vers l, B (eqL es n && sameAll l (n.take i)), .list 3 (rowsE n), I n.length, I i]) (fun _ => []) (fun i => i ≤ n.length) (fun i => n.length - i) [] 0 (by simp (decide := true) (maxSteps := 4000000) -implicitDefEqProofs only [S0, ↓reduceIte, Int.reduceAdd, Int.reduceSub, Int.reduceToNat, Int.reduceNeg, Nat.reduceAdd, Nat.reduceMul, Nat.reduceSub, reduceCtorEq, List.take_zero, sameAll, List.all_nil, Bool.and_true]; try rfl) (by simp (decide := true) (maxSteps := 4000000) -implicitDefEqProofs only [S0, ↓reduceIte, Int.reduceAdd, Int.reduceSub, Int.reduceToNat, Int.reduceNeg, Nat.reduceAdd, Nat.reduceMul, Nat.reduceSub, reduceCtorEq]) (Nat.zero_le _) ?_
 intro i hi
 have hl2 := hB.1
 by_cases hlt : (i : Int) < n.length
 ·obtain ⟨e, he⟩ := lt_get (l := n) (i := i) (by omega)
  have hw := wr_add1 hlt (by omega)
  have sn : sameAll l (n.take (i + 1)) = (sameAll l (n.take i) && decide ((if byOk e.1 then byL l e.1 else []) = e.2)) := by
   unfold sameAll
   rw [take_get he, List.all_append]; simp
  simp (decide := true) (maxSteps := 4000000) -implicitDefEqProofs only [S0, ↓reduceIte, Int.reduceAdd, Int.reduceSub, Int.reduceToNat, Int.reduceNeg, Nat.reduceAdd, Nat.reduceMul, Nat.reduceSub, reduceCtorEq, hlt, he]
  refine call_eq (By_okS h e.1) ?_
  cases hq : (eqL es n && sameAll l (n.take i)) with
  | false =>
   have hq2 : (eqL es n && sameAll l (n.take (i + 1))) = false := by rw [sn, ← Bool.and_assoc, hq]; rfl
   simp (decide := true) (maxSteps := 4000000) -implicitDefEqProofs only [S0, ↓reduceIte, Int.reduceAdd, Int.reduceSub, Int.reduceToNat, Int.reduceNeg, Nat.reduceAdd, Nat.reduceMul, Nat.reduceSub, reduceCtorEq]
   exact Nxt.mk [] (i + 1) (by simp (decide := true) (maxSteps := 4000000) -implicitDefEqProofs only [S0, ↓reduceIte, Int.reduceAdd, Int.reduceSub, Int.reduceToNat, Int.reduceNeg, Nat.reduceAdd, Nat.reduceMul, Nat.reduceSub, reduceCtorEq, hw, hq2]) (by simp (decide := true) (maxSteps := 4000000) -implicitDefEqProofs only [S0, ↓reduceIte, Int.reduceAdd, Int.reduceSub, Int.reduceToNat, Int.reduceNeg, Nat.reduceAdd, Nat.reduceMul, Nat.reduceSub, reduceCtorEq]) (by omega) (by omega)
  | true =>
   have hq2 : (eqL es n && sameAll l (n.take (i + 1))) = decide ((if byOk e.1 then byL l e.1 else []) = e.2) := by rw [sn, ← Bool.and_assoc, hq]; rfl
   simp (decide := true) (maxSteps := 4000000) -implicitDefEqProofs only [S0, ↓reduceIte, Int.reduceAdd, Int.reduceSub, Int.reduceToNat, Int.reduceNeg, Nat.reduceAdd, Nat.reduceMul, Nat.reduceSub, reduceCtorEq]
   refine call_eq (eqStrs_ok _ e.2 ?_) ?_
   ·have hil := idsL_len l
    have : (byL l e.1).length ≤ (idsL l).length := List.length_filter_le _ _
    split
    ·omega
    ·simp
   simp (decide := true) (maxSteps := 4000000) -implicitDefEqProofs only [S0, ↓reduceIte, Int.reduceAdd, Int.reduceSub, Int.reduceToNat, Int.reduceNeg, Nat.reduceAdd, Nat.reduceMul, Nat.reduceSub, reduceCtorEq]
   exact Nxt.mk [] (i + 1) (by simp (decide := true) (maxSteps := 4000000) -implicitDefEqProofs only [S0, ↓reduceIte, Int.reduceAdd, Int.reduceSub, Int.reduceToNat, Int.reduceNeg, Nat.reduceAdd, Nat.reduceMul, Nat.reduceSub, reduceCtorEq, hw, hq2]) (by simp (decide := true) (maxSteps := 4000000) -implicitDefEqProofs only [S0, ↓reduceIte, Int.reduceAdd, Int.reduceSub, Int.reduceToNat, Int.reduceNeg, Nat.reduceAdd, Nat.reduceMul, Nat.reduceSub, reduceCtorEq]) (by omega) (by omega)
 ·obtain rfl : i = n.length := by omega
  simp (decide := true) (maxSteps := 4000000) -implicitDefEqProofs only [S0, ↓reduceIte, Int.reduceAdd, Int.reduceSub, Int.reduceToNat, Int.reduceNeg, Nat.reduceAdd, Nat.reduceMul, Nat.reduceSub, reduceCtorEq, hlt, List.take_length]
end Go.Proofs.YtpdenloeacaadaaDoor.E
