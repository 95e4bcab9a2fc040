/- Walks: GroupTold. No conditions. -/
import Derived.Test.YtljickachmdejaaGrpB
namespace Go.Proofs.Ytljickachmdejaa.E
open Go
set_option linter.unusedSimpArgs false
set_option linter.unusedVariables false
set_option linter.unusedSectionVars false
set_option maxRecDepth 20000
set_option maxHeartbeats 4000000
/-- What is so of the group once the third node has what the leader has. -/
theorem told_take {q : List ByteArray} (hq : q.length ≤ 20) : tkE (gFull 2 q) 1 0 q = 0 ∧ gTake (gFull 2 q) 1 0 q = ⟨3, q, [[], q], [(q.length : Int), 0, 0]⟩ := by
  have h0 : gHas (gFull 2 q) 1 = [] := rfl
  have e : tkE (gFull 2 q) 1 0 q = 0 := by
    unfold tkE
    rw [h0, if_neg (by simp), List.drop_nil, agr_nil, if_pos rfl, if_neg (by omega)]
  refine ⟨e, ?_⟩
  unfold gTake tkL
  rw [if_pos e, h0]
  rfl
def gTold (q : List ByteArray) (x : List ByteArray) (k : Int) : Gr := ⟨3, q, [[], x], [(q.length : Int), 0, k]⟩
theorem gTold_ok {q x : List ByteArray} {k : Int} (hq : q.length ≤ 20) (hx : x.length ≤ 20) : grOk (gTold q x k) := by
  refine ⟨by simp [gTold], by simp [gTold], rfl, rfl, by simp only [gTold]; omega, fun y hy => ?_⟩
  simp only [gTold, List.mem_cons, List.not_mem_nil, or_false] at hy
  rcases hy with rfl | rfl
  · simp
  · omega
theorem gTold_sure {q x : List ByteArray} {k : Nat} (hq : q.length ≤ 20) (hx : x.length ≤ 20) (hk : k ≤ q.length) : gSure (gTold q x k) = k := by
  have e1 : (gTold q x k).ack = [(q.length : Int), 0, (k : Int)] := rfl
  have e2 : ((gTold q x k).n - 1) / 2 = 1 := by simp [gTold]
  have e3 : (gTold q x k).n = 3 := rfl
  have d1 : decide ((q.length : Int) < k) = false := decide_eq_false (by omega)
  have d2 : decide ((k : Int) < k) = false := decide_eq_false (by omega)
  have d3 : decide ((k : Int) < 0) = false := decide_eq_false (by omega)
  refine gSure_eq (gTold_ok hq hx) ?_ ?_
  · rw [e1, e2]
    simp only [List.countP_cons, List.countP_nil, d1, d2, Bool.false_eq_true, if_false]
    split <;> omega
  · rw [e1, e2, e3]
    simp only [List.countP_cons, List.countP_nil, d3, d2, Bool.false_eq_true, if_false]
    split <;> omega
theorem GroupTold_ok (l : List ByteArray) (k0 m0 : Int) : Ok Try.prog 7 [strs l, I k0, I m0] (B true) := by
  obtain ⟨q, hq⟩ : ∃ q, q = l.take 20 := ⟨_, rfl⟩
  have hql : q.length ≤ 20 := by rw [hq, List.length_take]; omega
  have hm : (if (20 : Int) < l.length then 20 else (l.length : Int)) = (q.length : Int) := by rw [hq, List.length_take]; split <;> omega
  have ht : List.take q.length (List.map (fun s => [S s]) l) = q.map (fun s => [S s]) := by rw [← List.map_take, hq, List.length_take, ← List.take_eq_take_min]
  have hle : (q.length : Int) ≤ l.length := by rw [hq, List.length_take]; omega
  have h0 : (0 : Int) ≤ q.length := by omega
  refine Ok.of_wp (rs := [.tmp 6]) (n := 135) Try.func7 rfl rfl rfl (by simp) fo (by kernel_rfl) ?_
  simp (decide := true) (maxSteps := 4000000) -implicitDefEqProofs only [evs, tabs, puts, siteD, gget, tget, tset, initT, dstAt, ev, evC, plain, Hp.get, Hp.set, bnd, isCells, isRow, SubA, SubC, Sub, SubL, CvA, Cv, dis, ordB, ite_self, exists_eq', List.mem_cons, List.not_mem_nil, Site.m.injEq, bne_self_eq_false, beq_iff_eq, bne_iff_ne, ↓reduceIte, Int.reduceAdd, Int.reduceSub, Int.reduceToNat, Int.reduceNeg, Nat.reduceAdd, Nat.reduceMul, Nat.reduceSub, exists_eq_left', exists_eq_left, implies_true, forall_const, Site.l.injEq, Site.e.injEq, reduceCtorEq, beq_self_eq_true, ne_eq]
  refine call_eq groupBegun_ok ?_
  simp (decide := true) (maxSteps := 4000000) -implicitDefEqProofs only [evs, tabs, puts, siteD, gget, tget, tset, initT, dstAt, ev, evC, plain, Hp.get, Hp.set, bnd, isCells, isRow, SubA, SubC, Sub, SubL, CvA, Cv, dis, ordB, ite_self, exists_eq', List.mem_cons, List.not_mem_nil, Site.m.injEq, bne_self_eq_false, beq_iff_eq, bne_iff_ne, ↓reduceIte, Int.reduceAdd, Int.reduceSub, Int.reduceToNat, Int.reduceNeg, Nat.reduceAdd, Nat.reduceMul, Nat.reduceSub, exists_eq_left', exists_eq_left, implies_true, forall_const, Site.l.injEq, Site.e.injEq, reduceCtorEq, beq_self_eq_true, ne_eq]
  refine callH (grNewF (n := 2) (by omega) 3 rfl) [.l 21, .m 21 1, .m 21 2, .m 21 3, .m 21 4] ?_
  simp (decide := true) (maxSteps := 4000000) -implicitDefEqProofs only [evs, tabs, puts, siteD, gget, tget, tset, initT, dstAt, ev, evC, plain, Hp.get, Hp.set, bnd, isCells, isRow, SubA, SubC, Sub, SubL, CvA, Cv, dis, ordB, ite_self, exists_eq', List.mem_cons, List.not_mem_nil, Site.m.injEq, bne_self_eq_false, beq_iff_eq, bne_iff_ne, ↓reduceIte, Int.reduceAdd, Int.reduceSub, Int.reduceToNat, Int.reduceNeg, Nat.reduceAdd, Nat.reduceMul, Nat.reduceSub, exists_eq_left', exists_eq_left, implies_true, forall_const, Site.l.injEq, Site.e.injEq, reduceCtorEq, beq_self_eq_true, ne_eq, gfs, hm, ht, hle, h0]
  clear hm ht hle hq
  refine ALoop.st [0, 1, 2, 7, 31, 32, 33] (fun (i : Nat) => [strs q, I k0, I m0, .ptr (.l 21) 1 0, strs q, I q.length, I i]) (fun i => gAt 21 (gFull 2 (q.take i))) (fun i => i ≤ q.length) (fun i => q.length - i) [] 0 (by simp (decide := true) (maxSteps := 4000000) -implicitDefEqProofs only [evs, tabs, puts, siteD, gget, tget, tset, initT, dstAt, ev, evC, plain, Hp.get, Hp.set, bnd, isCells, isRow, SubA, SubC, Sub, SubL, CvA, Cv, dis, ordB, ite_self, exists_eq', List.mem_cons, List.not_mem_nil, Site.m.injEq, bne_self_eq_false, beq_iff_eq, bne_iff_ne, ↓reduceIte, Int.reduceAdd, Int.reduceSub, Int.reduceToNat, Int.reduceNeg, Nat.reduceAdd, Nat.reduceMul, Nat.reduceSub, exists_eq_left', exists_eq_left, implies_true, forall_const, Site.l.injEq, Site.e.injEq, reduceCtorEq, beq_self_eq_true, ne_eq, gfs]) (by simp (decide := true) (maxSteps := 4000000) -implicitDefEqProofs only [evs, tabs, puts, siteD, gget, tget, tset, initT, dstAt, ev, evC, plain, Hp.get, Hp.set, bnd, isCells, isRow, SubA, SubC, Sub, SubL, CvA, Cv, dis, ordB, ite_self, exists_eq', List.mem_cons, List.not_mem_nil, Site.m.injEq, bne_self_eq_false, beq_iff_eq, bne_iff_ne, ↓reduceIte, Int.reduceAdd, Int.reduceSub, Int.reduceToNat, Int.reduceNeg, Nat.reduceAdd, Nat.reduceMul, Nat.reduceSub, exists_eq_left', exists_eq_left, implies_true, forall_const, Site.l.injEq, Site.e.injEq, reduceCtorEq, beq_self_eq_true, ne_eq, gfs, List.take_zero]) (by omega) ?_
  intro i hi
  by_cases h : (i : Int) < q.length
  · obtain ⟨x, hx⟩ := lt_get (l := q) (i := i) (by omega)
    have hw := wr_add1 h (by omega)
    have hl : (q.take i).length = i := by rw [List.length_take]; omega
    have ht := take_get hx
    generalize hp : q.take i = p at hl ht ⊢
    have c2 := grAddF (n := 2) (l := p) (by omega) (by omega) x
    simp (decide := true) (maxSteps := 4000000) -implicitDefEqProofs only [evs, tabs, puts, siteD, gget, tget, tset, initT, dstAt, ev, evC, plain, Hp.get, Hp.set, bnd, isCells, isRow, SubA, SubC, Sub, SubL, CvA, Cv, dis, ordB, ite_self, exists_eq', List.mem_cons, List.not_mem_nil, Site.m.injEq, bne_self_eq_false, beq_iff_eq, bne_iff_ne, ↓reduceIte, Int.reduceAdd, Int.reduceSub, Int.reduceToNat, Int.reduceNeg, Nat.reduceAdd, Nat.reduceMul, Nat.reduceSub, exists_eq_left', exists_eq_left, implies_true, forall_const, Site.l.injEq, Site.e.injEq, reduceCtorEq, beq_self_eq_true, ne_eq, gfs, hx, h]
    refine callH c2 [.l 21, .m 21 1, .m 21 2, .m 21 3, .m 21 4] ?_
    simp (decide := true) (maxSteps := 4000000) -implicitDefEqProofs only [evs, tabs, puts, siteD, gget, tget, tset, initT, dstAt, ev, evC, plain, Hp.get, Hp.set, bnd, isCells, isRow, SubA, SubC, Sub, SubL, CvA, Cv, dis, ordB, ite_self, exists_eq', List.mem_cons, List.not_mem_nil, Site.m.injEq, bne_self_eq_false, beq_iff_eq, bne_iff_ne, ↓reduceIte, Int.reduceAdd, Int.reduceSub, Int.reduceToNat, Int.reduceNeg, Nat.reduceAdd, Nat.reduceMul, Nat.reduceSub, exists_eq_left', exists_eq_left, implies_true, forall_const, Site.l.injEq, Site.e.injEq, reduceCtorEq, beq_self_eq_true, ne_eq, gfs]
    exact Nxt.mk [] (i + 1) (by simp (decide := true) (maxSteps := 4000000) -implicitDefEqProofs only [evs, tabs, puts, siteD, gget, tget, tset, initT, dstAt, ev, evC, plain, Hp.get, Hp.set, bnd, isCells, isRow, SubA, SubC, Sub, SubL, CvA, Cv, dis, ordB, ite_self, exists_eq', List.mem_cons, List.not_mem_nil, Site.m.injEq, bne_self_eq_false, beq_iff_eq, bne_iff_ne, ↓reduceIte, Int.reduceAdd, Int.reduceSub, Int.reduceToNat, Int.reduceNeg, Nat.reduceAdd, Nat.reduceMul, Nat.reduceSub, exists_eq_left', exists_eq_left, implies_true, forall_const, Site.l.injEq, Site.e.injEq, reduceCtorEq, beq_self_eq_true, ne_eq, gfs, hw]) (by simp (decide := true) (maxSteps := 4000000) -implicitDefEqProofs only [evs, tabs, puts, siteD, gget, tget, tset, initT, dstAt, ev, evC, plain, Hp.get, Hp.set, bnd, isCells, isRow, SubA, SubC, Sub, SubL, CvA, Cv, dis, ordB, ite_self, exists_eq', List.mem_cons, List.not_mem_nil, Site.m.injEq, bne_self_eq_false, beq_iff_eq, bne_iff_ne, ↓reduceIte, Int.reduceAdd, Int.reduceSub, Int.reduceToNat, Int.reduceNeg, Nat.reduceAdd, Nat.reduceMul, Nat.reduceSub, exists_eq_left', exists_eq_left, implies_true, forall_const, Site.l.injEq, Site.e.injEq, reduceCtorEq, beq_self_eq_true, ne_eq, gfs, ht, or_true]) (by omega) (by omega)
  · obtain rfl : i = q.length := by omega
    rw [List.take_of_length_le (Nat.le_refl _)]
    have hw2 : IntKind.i64.wrap ((q.length : Int) + 1) = ((q.length + 1 : Nat) : Int) := by rw [wr_i64 (by omega) (by omega)]; omega
    obtain ⟨ek, hk⟩ := wN_eq k0 (show 0 < q.length + 1 by omega)
    obtain ⟨em, hmo⟩ := wN_eq m0 (show 0 < q.length + 1 by omega)
    generalize wN k0 (q.length + 1) = k at ek hk
    generalize wN m0 (q.length + 1) = m at em hmo
    have i2 : ((1 + 1 : Nat) : Int) = 2 := rfl
    have i0 : ((0 : Nat) : Int) = 0 := rfl
    have hg := gFull_ok (n := 2) (by omega) (l := q) (by omega)
    have cS := grSend_ok hg (i := 1) (m := 0) (by simp [gFull]) (by simp)
    have cT := grTake_ok hg (i := 1) (fr := 0) (by simp [gFull]) q (by omega)
    obtain ⟨e1, e2⟩ := told_take hql
    rw [e1, if_pos rfl, e2] at cT
    rw [i2, i0] at cS cT
    have cS : OkH Try.prog 16 [.ptr (.e 0) 0 0, I 2, I 0] (grH (gFull 2 q)) (.tup [E.strs q, I 0]) (grHv (gFull 2 q) 0 0) := cS
    have cT : OkH Try.prog 17 [.ptr (.e 0) 0 0, I 2, I 0, E.strs q] (grH (gFull 2 q)) (.tup [I q.length, I 0]) (grHv (gTold q q 0) 0 0) := cT
    have hg1 := gTold_ok (x := q) (k := 0) hql hql
    have cB := grAck_bad hg1 (i := 1) (m := ((q.length + 1 : Nat) : Int)) (by simp [gTold]) (by simp only [gTold]; omega)
    have cA : OkH Try.prog 20 [.ptr (.e 0) 0 0, I ((1 + 1 : Nat) : Int), I k] (grH (gTold q q 0)) (I 0) (grHv (gTold q q k) 0 0) := by
      have := grAck_ok hg1 (i := 1) (m := (k : Int)) (by simp [gTold]) (by omega) (by simp only [gTold]; omega) (by show (k : Int) ≤ q.length; omega)
      have e : gAck (gTold q q 0) 1 k = gTold q q k := by
        unfold gAck gTold
        have : max (0 : Int) k = k := by omega
        simp [this]
      rwa [e] at this
    have hg2 := gTold_ok (x := q) (k := (k : Int)) hql hql
    have cSu := grSure_ok hg2
    rw [gTold_sure hql hql (by omega)] at cSu
    have cL := grLose_ok hg2 (i := 1) (m := m) (by simp [gTold])
    rw [i2] at cB cA cL
    simp (decide := true) (maxSteps := 4000000) -implicitDefEqProofs only [evs, tabs, puts, siteD, gget, tget, tset, initT, dstAt, ev, evC, plain, Hp.get, Hp.set, bnd, isCells, isRow, SubA, SubC, Sub, SubL, CvA, Cv, dis, ordB, ite_self, exists_eq', List.mem_cons, List.not_mem_nil, Site.m.injEq, bne_self_eq_false, beq_iff_eq, bne_iff_ne, ↓reduceIte, Int.reduceAdd, Int.reduceSub, Int.reduceToNat, Int.reduceNeg, Nat.reduceAdd, Nat.reduceMul, Nat.reduceSub, exists_eq_left', exists_eq_left, implies_true, forall_const, Site.l.injEq, Site.e.injEq, reduceCtorEq, beq_self_eq_true, ne_eq, h]
    refine callH cS [.l 21, .m 21 1, .m 21 2, .m 21 3, .m 21 4] ?_
    simp (decide := true) (maxSteps := 4000000) -implicitDefEqProofs only [evs, tabs, puts, siteD, gget, tget, tset, initT, dstAt, ev, evC, plain, Hp.get, Hp.set, bnd, isCells, isRow, SubA, SubC, Sub, SubL, CvA, Cv, dis, ordB, ite_self, exists_eq', List.mem_cons, List.not_mem_nil, Site.m.injEq, bne_self_eq_false, beq_iff_eq, bne_iff_ne, ↓reduceIte, Int.reduceAdd, Int.reduceSub, Int.reduceToNat, Int.reduceNeg, Nat.reduceAdd, Nat.reduceMul, Nat.reduceSub, exists_eq_left', exists_eq_left, implies_true, forall_const, Site.l.injEq, Site.e.injEq, reduceCtorEq, beq_self_eq_true, ne_eq, gfs]
    refine callH cT [.l 21, .m 21 1, .m 21 2, .m 21 3, .m 21 4] ?_
    simp (decide := true) (maxSteps := 4000000) -implicitDefEqProofs only [evs, tabs, puts, siteD, gget, tget, tset, initT, dstAt, ev, evC, plain, Hp.get, Hp.set, bnd, isCells, isRow, SubA, SubC, Sub, SubL, CvA, Cv, dis, ordB, ite_self, exists_eq', List.mem_cons, List.not_mem_nil, Site.m.injEq, bne_self_eq_false, beq_iff_eq, bne_iff_ne, ↓reduceIte, Int.reduceAdd, Int.reduceSub, Int.reduceToNat, Int.reduceNeg, Nat.reduceAdd, Nat.reduceMul, Nat.reduceSub, exists_eq_left', exists_eq_left, implies_true, forall_const, Site.l.injEq, Site.e.injEq, reduceCtorEq, beq_self_eq_true, ne_eq, gfs, hw2]
    refine call_eq (Within_ok k0 ((q.length + 1 : Nat) : Int) (by omega) (by omega)) ?_
    rw [ek]
    simp (decide := true) (maxSteps := 4000000) -implicitDefEqProofs only [evs, tabs, puts, siteD, gget, tget, tset, initT, dstAt, ev, evC, plain, Hp.get, Hp.set, bnd, isCells, isRow, SubA, SubC, Sub, SubL, CvA, Cv, dis, ordB, ite_self, exists_eq', List.mem_cons, List.not_mem_nil, Site.m.injEq, bne_self_eq_false, beq_iff_eq, bne_iff_ne, ↓reduceIte, Int.reduceAdd, Int.reduceSub, Int.reduceToNat, Int.reduceNeg, Nat.reduceAdd, Nat.reduceMul, Nat.reduceSub, exists_eq_left', exists_eq_left, implies_true, forall_const, Site.l.injEq, Site.e.injEq, reduceCtorEq, beq_self_eq_true, ne_eq, hw2]
    refine call_eq (Within_ok m0 ((q.length + 1 : Nat) : Int) (by omega) (by omega)) ?_
    rw [em]
    simp (decide := true) (maxSteps := 4000000) -implicitDefEqProofs only [evs, tabs, puts, siteD, gget, tget, tset, initT, dstAt, ev, evC, plain, Hp.get, Hp.set, bnd, isCells, isRow, SubA, SubC, Sub, SubL, CvA, Cv, dis, ordB, ite_self, exists_eq', List.mem_cons, List.not_mem_nil, Site.m.injEq, bne_self_eq_false, beq_iff_eq, bne_iff_ne, ↓reduceIte, Int.reduceAdd, Int.reduceSub, Int.reduceToNat, Int.reduceNeg, Nat.reduceAdd, Nat.reduceMul, Nat.reduceSub, exists_eq_left', exists_eq_left, implies_true, forall_const, Site.l.injEq, Site.e.injEq, reduceCtorEq, beq_self_eq_true, ne_eq, hw2]
    refine callH cB [.l 21, .m 21 1, .m 21 2, .m 21 3, .m 21 4] ?_
    simp (decide := true) (maxSteps := 4000000) -implicitDefEqProofs only [evs, tabs, puts, siteD, gget, tget, tset, initT, dstAt, ev, evC, plain, Hp.get, Hp.set, bnd, isCells, isRow, SubA, SubC, Sub, SubL, CvA, Cv, dis, ordB, ite_self, exists_eq', List.mem_cons, List.not_mem_nil, Site.m.injEq, bne_self_eq_false, beq_iff_eq, bne_iff_ne, ↓reduceIte, Int.reduceAdd, Int.reduceSub, Int.reduceToNat, Int.reduceNeg, Nat.reduceAdd, Nat.reduceMul, Nat.reduceSub, exists_eq_left', exists_eq_left, implies_true, forall_const, Site.l.injEq, Site.e.injEq, reduceCtorEq, beq_self_eq_true, ne_eq, gfs]
    refine callH cA [.l 21, .m 21 1, .m 21 2, .m 21 3, .m 21 4] ?_
    simp (decide := true) (maxSteps := 4000000) -implicitDefEqProofs only [evs, tabs, puts, siteD, gget, tget, tset, initT, dstAt, ev, evC, plain, Hp.get, Hp.set, bnd, isCells, isRow, SubA, SubC, Sub, SubL, CvA, Cv, dis, ordB, ite_self, exists_eq', List.mem_cons, List.not_mem_nil, Site.m.injEq, bne_self_eq_false, beq_iff_eq, bne_iff_ne, ↓reduceIte, Int.reduceAdd, Int.reduceSub, Int.reduceToNat, Int.reduceNeg, Nat.reduceAdd, Nat.reduceMul, Nat.reduceSub, exists_eq_left', exists_eq_left, implies_true, forall_const, Site.l.injEq, Site.e.injEq, reduceCtorEq, beq_self_eq_true, ne_eq, gfs]
    refine callH cSu [.l 21, .m 21 1, .m 21 2, .m 21 3, .m 21 4] ?_
    simp (decide := true) (maxSteps := 4000000) -implicitDefEqProofs only [evs, tabs, puts, siteD, gget, tget, tset, initT, dstAt, ev, evC, plain, Hp.get, Hp.set, bnd, isCells, isRow, SubA, SubC, Sub, SubL, CvA, Cv, dis, ordB, ite_self, exists_eq', List.mem_cons, List.not_mem_nil, Site.m.injEq, bne_self_eq_false, beq_iff_eq, bne_iff_ne, ↓reduceIte, Int.reduceAdd, Int.reduceSub, Int.reduceToNat, Int.reduceNeg, Nat.reduceAdd, Nat.reduceMul, Nat.reduceSub, exists_eq_left', exists_eq_left, implies_true, forall_const, Site.l.injEq, Site.e.injEq, reduceCtorEq, beq_self_eq_true, ne_eq, gfs]
    refine callH cL [.l 21, .m 21 1, .m 21 2, .m 21 3, .m 21 4] ?_
    have hc : ((gTold q q k).ack[1 + 1]?).getD 0 = (k : Int) := rfl
    have hh : gHas (gTold q q k) 1 = q := rfl
    rw [hc, hh]
    by_cases hkm : k ≤ m
    · have hkm' : (m : Int) ≥ k := by omega
      have eL : gLose (gTold q q k) 1 m = gTold q (q.take m) k := by
        unfold gLose
        rw [hc, hh, if_pos ⟨by omega, by omega⟩]
        rfl
      have hg3 := gTold_ok (q := q) (x := q.take m) (k := (k : Int)) hql (by rw [List.length_take]; omega)
      have cG := grLog_ok hg3 (i := 2) (by simp [gTold])
      have hgl : gLog (gTold q (q.take m) k) 2 = q.take m := rfl
      rw [hgl] at cG
      have hml : (q.take m).length = m := by rw [List.length_take]; omega
      have cSu2 := grSure_ok hg3
      rw [gTold_sure hql (by rw [hml]; omega) (by omega)] at cSu2
      have cA2 : OkH Try.prog 20 [.ptr (.e 0) 0 0, I ((1 + 1 : Nat) : Int), I 0] (grH (gTold q (q.take m) k)) (I 0) (grHv (gTold q (q.take m) k) 0 0) := by
        have := grAck_ok hg3 (i := 1) (m := 0) (by simp [gTold]) (by omega) (by omega) (by omega)
        have e : gAck (gTold q (q.take m) k) 1 0 = gTold q (q.take m) k := by
          unfold gAck gTold
          have : max (k : Int) 0 = k := by omega
          simp [this]
        rwa [e] at this
      rw [i2] at cA2
      have cG : OkH Try.prog 18 [.ptr (.e 0) 0 0, I 2] (grH (gTold q (q.take m) k)) (.tup [E.strs (q.take m), I 0]) (grHv (gTold q (q.take m) k) 0 0) := cG
      have hif : (k : Int) ≤ (m : Int) ∧ m ≤ q.length := ⟨by omega, by omega⟩
      rw [if_pos hif, eL]
      simp (decide := true) (maxSteps := 4000000) -implicitDefEqProofs only [evs, tabs, puts, siteD, gget, tget, tset, initT, dstAt, ev, evC, plain, Hp.get, Hp.set, bnd, isCells, isRow, SubA, SubC, Sub, SubL, CvA, Cv, dis, ordB, ite_self, exists_eq', List.mem_cons, List.not_mem_nil, Site.m.injEq, bne_self_eq_false, beq_iff_eq, bne_iff_ne, ↓reduceIte, Int.reduceAdd, Int.reduceSub, Int.reduceToNat, Int.reduceNeg, Nat.reduceAdd, Nat.reduceMul, Nat.reduceSub, exists_eq_left', exists_eq_left, implies_true, forall_const, Site.l.injEq, Site.e.injEq, reduceCtorEq, beq_self_eq_true, ne_eq, gfs, hkm']
      refine callH cG [.l 21, .m 21 1, .m 21 2, .m 21 3, .m 21 4] ?_
      simp (decide := true) (maxSteps := 4000000) -implicitDefEqProofs only [evs, tabs, puts, siteD, gget, tget, tset, initT, dstAt, ev, evC, plain, Hp.get, Hp.set, bnd, isCells, isRow, SubA, SubC, Sub, SubL, CvA, Cv, dis, ordB, ite_self, exists_eq', List.mem_cons, List.not_mem_nil, Site.m.injEq, bne_self_eq_false, beq_iff_eq, bne_iff_ne, ↓reduceIte, Int.reduceAdd, Int.reduceSub, Int.reduceToNat, Int.reduceNeg, Nat.reduceAdd, Nat.reduceMul, Nat.reduceSub, exists_eq_left', exists_eq_left, implies_true, forall_const, Site.l.injEq, Site.e.injEq, reduceCtorEq, beq_self_eq_true, ne_eq, gfs, hml]
      refine callH cA2 [.l 21, .m 21 1, .m 21 2, .m 21 3, .m 21 4] ?_
      simp (decide := true) (maxSteps := 4000000) -implicitDefEqProofs only [evs, tabs, puts, siteD, gget, tget, tset, initT, dstAt, ev, evC, plain, Hp.get, Hp.set, bnd, isCells, isRow, SubA, SubC, Sub, SubL, CvA, Cv, dis, ordB, ite_self, exists_eq', List.mem_cons, List.not_mem_nil, Site.m.injEq, bne_self_eq_false, beq_iff_eq, bne_iff_ne, ↓reduceIte, Int.reduceAdd, Int.reduceSub, Int.reduceToNat, Int.reduceNeg, Nat.reduceAdd, Nat.reduceMul, Nat.reduceSub, exists_eq_left', exists_eq_left, implies_true, forall_const, Site.l.injEq, Site.e.injEq, reduceCtorEq, beq_self_eq_true, ne_eq, gfs]
      refine callH cSu2 [.l 21, .m 21 1, .m 21 2, .m 21 3, .m 21 4] ?_
      simp (decide := true) (maxSteps := 4000000) -implicitDefEqProofs only [evs, tabs, puts, siteD, gget, tget, tset, initT, dstAt, ev, evC, plain, Hp.get, Hp.set, bnd, isCells, isRow, SubA, SubC, Sub, SubL, CvA, Cv, dis, ordB, ite_self, exists_eq', List.mem_cons, List.not_mem_nil, Site.m.injEq, bne_self_eq_false, beq_iff_eq, bne_iff_ne, ↓reduceIte, Int.reduceAdd, Int.reduceSub, Int.reduceToNat, Int.reduceNeg, Nat.reduceAdd, Nat.reduceMul, Nat.reduceSub, exists_eq_left', exists_eq_left, implies_true, forall_const, Site.l.injEq, Site.e.injEq, reduceCtorEq, beq_self_eq_true, ne_eq, gfs]
    · have hkm' : ¬ ((m : Int) ≥ k) := by omega
      have eL : gLose (gTold q q k) 1 m = gTold q q k := by
        unfold gLose
        rw [hc, hh, if_neg (by omega)]
      have cG := grLog_ok hg2 (i := 2) (by simp [gTold])
      have hgl : gLog (gTold q q k) 2 = q := rfl
      rw [hgl] at cG
      have cA2 : OkH Try.prog 20 [.ptr (.e 0) 0 0, I ((1 + 1 : Nat) : Int), I 0] (grH (gTold q q k)) (I 0) (grHv (gTold q q k) 0 0) := by
        have := grAck_ok hg2 (i := 1) (m := 0) (by simp [gTold]) (by omega) (by omega) (by omega)
        have e : gAck (gTold q q k) 1 0 = gTold q q k := by
          unfold gAck gTold
          have : max (k : Int) 0 = k := by omega
          simp [this]
        rwa [e] at this
      rw [i2] at cA2
      have cG : OkH Try.prog 18 [.ptr (.e 0) 0 0, I 2] (grH (gTold q q k)) (.tup [E.strs q, I 0]) (grHv (gTold q q k) 0 0) := cG
      have hif : ¬ ((k : Int) ≤ (m : Int) ∧ m ≤ q.length) := by omega
      rw [if_neg hif, eL]
      simp (decide := true) (maxSteps := 4000000) -implicitDefEqProofs only [evs, tabs, puts, siteD, gget, tget, tset, initT, dstAt, ev, evC, plain, Hp.get, Hp.set, bnd, isCells, isRow, SubA, SubC, Sub, SubL, CvA, Cv, dis, ordB, ite_self, exists_eq', List.mem_cons, List.not_mem_nil, Site.m.injEq, bne_self_eq_false, beq_iff_eq, bne_iff_ne, ↓reduceIte, Int.reduceAdd, Int.reduceSub, Int.reduceToNat, Int.reduceNeg, Nat.reduceAdd, Nat.reduceMul, Nat.reduceSub, exists_eq_left', exists_eq_left, implies_true, forall_const, Site.l.injEq, Site.e.injEq, reduceCtorEq, beq_self_eq_true, ne_eq, gfs, hkm']
      refine callH cG [.l 21, .m 21 1, .m 21 2, .m 21 3, .m 21 4] ?_
      simp (decide := true) (maxSteps := 4000000) -implicitDefEqProofs only [evs, tabs, puts, siteD, gget, tget, tset, initT, dstAt, ev, evC, plain, Hp.get, Hp.set, bnd, isCells, isRow, SubA, SubC, Sub, SubL, CvA, Cv, dis, ordB, ite_self, exists_eq', List.mem_cons, List.not_mem_nil, Site.m.injEq, bne_self_eq_false, beq_iff_eq, bne_iff_ne, ↓reduceIte, Int.reduceAdd, Int.reduceSub, Int.reduceToNat, Int.reduceNeg, Nat.reduceAdd, Nat.reduceMul, Nat.reduceSub, exists_eq_left', exists_eq_left, implies_true, forall_const, Site.l.injEq, Site.e.injEq, reduceCtorEq, beq_self_eq_true, ne_eq, gfs]
      refine callH cA2 [.l 21, .m 21 1, .m 21 2, .m 21 3, .m 21 4] ?_
      simp (decide := true) (maxSteps := 4000000) -implicitDefEqProofs only [evs, tabs, puts, siteD, gget, tget, tset, initT, dstAt, ev, evC, plain, Hp.get, Hp.set, bnd, isCells, isRow, SubA, SubC, Sub, SubL, CvA, Cv, dis, ordB, ite_self, exists_eq', List.mem_cons, List.not_mem_nil, Site.m.injEq, bne_self_eq_false, beq_iff_eq, bne_iff_ne, ↓reduceIte, Int.reduceAdd, Int.reduceSub, Int.reduceToNat, Int.reduceNeg, Nat.reduceAdd, Nat.reduceMul, Nat.reduceSub, exists_eq_left', exists_eq_left, implies_true, forall_const, Site.l.injEq, Site.e.injEq, reduceCtorEq, beq_self_eq_true, ne_eq, gfs]
      refine callH cSu [.l 21, .m 21 1, .m 21 2, .m 21 3, .m 21 4] ?_
      simp (decide := true) (maxSteps := 4000000) -implicitDefEqProofs only [evs, tabs, puts, siteD, gget, tget, tset, initT, dstAt, ev, evC, plain, Hp.get, Hp.set, bnd, isCells, isRow, SubA, SubC, Sub, SubL, CvA, Cv, dis, ordB, ite_self, exists_eq', List.mem_cons, List.not_mem_nil, Site.m.injEq, bne_self_eq_false, beq_iff_eq, bne_iff_ne, ↓reduceIte, Int.reduceAdd, Int.reduceSub, Int.reduceToNat, Int.reduceNeg, Nat.reduceAdd, Nat.reduceMul, Nat.reduceSub, exists_eq_left', exists_eq_left, implies_true, forall_const, Site.l.injEq, Site.e.injEq, reduceCtorEq, beq_self_eq_true, ne_eq, gfs]
end Go.Proofs.Ytljickachmdejaa.E
