/- Walks: LabelRanks. No conditions. -/
import Derived.Test.YthpfjigkhbabnabPop
namespace Go.Proofs.Ythpfjigkhbabnab.E
open Go
set_option linter.unusedSimpArgs false
set_option linter.unusedVariables false
set_option linter.unusedSectionVars false
set_option maxRecDepth 20000
set_option maxHeartbeats 1000000
theorem count_le {a b m n : Nat} (h : a ≤ b) (k : m ≤ n) : (a + 1) * 2 ^ m ≤ (b + 1) * 2 ^ n := Nat.mul_le_mul (by omega) (Nat.pow_le_pow_right (by omega) k)
theorem count_eq {a b m n : Nat} (h : a ≤ b) (k : m ≤ n) (e : (a + 1) * 2 ^ m = (b + 1) * 2 ^ n) : a = b ∧ m = n := by
  have h1 : 2 ^ m ≤ 2 ^ n := Nat.pow_le_pow_right (by omega) k
  have h0 := Nat.two_pow_pos m
  have h2 : (a + 1) * 2 ^ m ≤ (b + 1) * 2 ^ m := Nat.mul_le_mul (by omega) (Nat.le_refl _)
  have h3 : (b + 1) * 2 ^ m ≤ (b + 1) * 2 ^ n := Nat.mul_le_mul (Nat.le_refl _) h1
  have e1 : (a + 1) * 2 ^ m = (b + 1) * 2 ^ m := by omega
  have e2 : (b + 1) * 2 ^ m = (b + 1) * 2 ^ n := by omega
  have e3 := Nat.eq_of_mul_eq_mul_right h0 e1
  have e4 := Nat.eq_of_mul_eq_mul_left (by omega) e2
  refine ⟨by omega, ?_⟩
  rcases Nat.lt_or_ge m n with h5 | h5
  · have := Nat.pow_lt_pow_right (show 1 < 2 by omega) h5
    omega
  · omega
theorem LabelRanks_ok (a b : Int) : Ok Try.prog 5 [I a, I b] (B true) := by
  refine Ok.of_wp (rs := [.tmp 4]) (n := 138) Try.func5 rfl rfl rfl (by simp) fo (by kernel_rfl) ?_
  simp (decide := true) (maxSteps := 4000000) -implicitDefEqProofs only [evs, tabs, puts, siteD, gget, tget, tset, initT, dstAt, ev, evC, plain, Hp.get, Hp.set, bnd, isCells, isRow, SubA, SubC, Sub, SubL, CvA, Cv, dis, ordB, List.mem_cons, List.not_mem_nil, Site.m.injEq, bne_self_eq_false, beq_iff_eq, bne_iff_ne, ↓reduceIte, Int.reduceAdd, Int.reduceSub, Int.reduceToNat, Int.reduceNeg, Nat.reduceAdd, Nat.reduceMul, Nat.reduceSub, exists_eq_left', exists_eq_left, implies_true, forall_const, Site.l.injEq, Site.e.injEq, reduceCtorEq, beq_self_eq_true, ne_eq]
  refine call_eq (Count_ok (x := 1) (p := 3) (by decide) (by decide)) ?_
  have e0 : (((1 + 1) * 2 ^ pop 3 : Nat) : Int) = 8 := by decide
  simp (decide := true) (maxSteps := 4000000) -implicitDefEqProofs only [evs, tabs, puts, siteD, gget, tget, tset, initT, dstAt, ev, evC, plain, Hp.get, Hp.set, bnd, isCells, isRow, SubA, SubC, Sub, SubL, CvA, Cv, dis, ordB, List.mem_cons, List.not_mem_nil, Site.m.injEq, bne_self_eq_false, beq_iff_eq, bne_iff_ne, ↓reduceIte, Int.reduceAdd, Int.reduceSub, Int.reduceToNat, Int.reduceNeg, Nat.reduceAdd, Nat.reduceMul, Nat.reduceSub, exists_eq_left', exists_eq_left, implies_true, forall_const, Site.l.injEq, Site.e.injEq, reduceCtorEq, beq_self_eq_true, ne_eq, e0]
  obtain ⟨x1, x2, hx, hX⟩ := sec a
  obtain ⟨y1, y2, hy, hY⟩ := sec b
  obtain ⟨x, p, hx1, hp, rfl, rfl⟩ := lab_nat hx
  obtain ⟨y, q, hy1, hq, rfl, rfl⟩ := lab_nat hy
  refine call_eq hX ?_
  simp (decide := true) (maxSteps := 4000000) -implicitDefEqProofs only [evs, tabs, puts, siteD, gget, tget, tset, initT, dstAt, ev, evC, plain, Hp.get, Hp.set, bnd, isCells, isRow, SubA, SubC, Sub, SubL, CvA, Cv, dis, ordB, List.mem_cons, List.not_mem_nil, Site.m.injEq, bne_self_eq_false, beq_iff_eq, bne_iff_ne, ↓reduceIte, Int.reduceAdd, Int.reduceSub, Int.reduceToNat, Int.reduceNeg, Nat.reduceAdd, Nat.reduceMul, Nat.reduceSub, exists_eq_left', exists_eq_left, implies_true, forall_const, Site.l.injEq, Site.e.injEq, reduceCtorEq, beq_self_eq_true, ne_eq]
  refine call_eq hY ?_
  simp (decide := true) (maxSteps := 4000000) -implicitDefEqProofs only [evs, tabs, puts, siteD, gget, tget, tset, initT, dstAt, ev, evC, plain, Hp.get, Hp.set, bnd, isCells, isRow, SubA, SubC, Sub, SubL, CvA, Cv, dis, ordB, List.mem_cons, List.not_mem_nil, Site.m.injEq, bne_self_eq_false, beq_iff_eq, bne_iff_ne, ↓reduceIte, Int.reduceAdd, Int.reduceSub, Int.reduceToNat, Int.reduceNeg, Nat.reduceAdd, Nat.reduceMul, Nat.reduceSub, exists_eq_left', exists_eq_left, implies_true, forall_const, Site.l.injEq, Site.e.injEq, reduceCtorEq, beq_self_eq_true, ne_eq]
  refine call_eq (Join_ok' hx hy) ?_
  rw [c1 hp hq, show max (x : Int) y = ((max x y : Nat) : Int) by omega]
  simp (decide := true) (maxSteps := 4000000) -implicitDefEqProofs only [evs, tabs, puts, siteD, gget, tget, tset, initT, dstAt, ev, evC, plain, Hp.get, Hp.set, bnd, isCells, isRow, SubA, SubC, Sub, SubL, CvA, Cv, dis, ordB, List.mem_cons, List.not_mem_nil, Site.m.injEq, bne_self_eq_false, beq_iff_eq, bne_iff_ne, ↓reduceIte, Int.reduceAdd, Int.reduceSub, Int.reduceToNat, Int.reduceNeg, Nat.reduceAdd, Nat.reduceMul, Nat.reduceSub, exists_eq_left', exists_eq_left, implies_true, forall_const, Site.l.injEq, Site.e.injEq, reduceCtorEq, beq_self_eq_true, ne_eq]
  refine call_eq (Meet_ok' hx hy) ?_
  rw [c2 hp hq, show min (x : Int) y = ((min x y : Nat) : Int) by omega]
  simp (decide := true) (maxSteps := 4000000) -implicitDefEqProofs only [evs, tabs, puts, siteD, gget, tget, tset, initT, dstAt, ev, evC, plain, Hp.get, Hp.set, bnd, isCells, isRow, SubA, SubC, Sub, SubL, CvA, Cv, dis, ordB, List.mem_cons, List.not_mem_nil, Site.m.injEq, bne_self_eq_false, beq_iff_eq, bne_iff_ne, ↓reduceIte, Int.reduceAdd, Int.reduceSub, Int.reduceToNat, Int.reduceNeg, Nat.reduceAdd, Nat.reduceMul, Nat.reduceSub, exists_eq_left', exists_eq_left, implies_true, forall_const, Site.l.injEq, Site.e.injEq, reduceCtorEq, beq_self_eq_true, ne_eq]
  refine call_eq (Rank_ok hx1 hp) ?_
  simp (decide := true) (maxSteps := 4000000) -implicitDefEqProofs only [evs, tabs, puts, siteD, gget, tget, tset, initT, dstAt, ev, evC, plain, Hp.get, Hp.set, bnd, isCells, isRow, SubA, SubC, Sub, SubL, CvA, Cv, dis, ordB, List.mem_cons, List.not_mem_nil, Site.m.injEq, bne_self_eq_false, beq_iff_eq, bne_iff_ne, ↓reduceIte, Int.reduceAdd, Int.reduceSub, Int.reduceToNat, Int.reduceNeg, Nat.reduceAdd, Nat.reduceMul, Nat.reduceSub, exists_eq_left', exists_eq_left, implies_true, forall_const, Site.l.injEq, Site.e.injEq, reduceCtorEq, beq_self_eq_true, ne_eq]
  refine call_eq (Rank_ok hy1 hq) ?_
  simp (decide := true) (maxSteps := 4000000) -implicitDefEqProofs only [evs, tabs, puts, siteD, gget, tget, tset, initT, dstAt, ev, evC, plain, Hp.get, Hp.set, bnd, isCells, isRow, SubA, SubC, Sub, SubL, CvA, Cv, dis, ordB, List.mem_cons, List.not_mem_nil, Site.m.injEq, bne_self_eq_false, beq_iff_eq, bne_iff_ne, ↓reduceIte, Int.reduceAdd, Int.reduceSub, Int.reduceToNat, Int.reduceNeg, Nat.reduceAdd, Nat.reduceMul, Nat.reduceSub, exists_eq_left', exists_eq_left, implies_true, forall_const, Site.l.injEq, Site.e.injEq, reduceCtorEq, beq_self_eq_true, ne_eq]
  refine call_eq (Rank_ok (show max x y < 4 by omega) (d1 hp hq)) ?_
  simp (decide := true) (maxSteps := 4000000) -implicitDefEqProofs only [evs, tabs, puts, siteD, gget, tget, tset, initT, dstAt, ev, evC, plain, Hp.get, Hp.set, bnd, isCells, isRow, SubA, SubC, Sub, SubL, CvA, Cv, dis, ordB, List.mem_cons, List.not_mem_nil, Site.m.injEq, bne_self_eq_false, beq_iff_eq, bne_iff_ne, ↓reduceIte, Int.reduceAdd, Int.reduceSub, Int.reduceToNat, Int.reduceNeg, Nat.reduceAdd, Nat.reduceMul, Nat.reduceSub, exists_eq_left', exists_eq_left, implies_true, forall_const, Site.l.injEq, Site.e.injEq, reduceCtorEq, beq_self_eq_true, ne_eq]
  refine call_eq (Rank_ok (show min x y < 4 by omega) (d2 hp)) ?_
  simp (decide := true) (maxSteps := 4000000) -implicitDefEqProofs only [evs, tabs, puts, siteD, gget, tget, tset, initT, dstAt, ev, evC, plain, Hp.get, Hp.set, bnd, isCells, isRow, SubA, SubC, Sub, SubL, CvA, Cv, dis, ordB, List.mem_cons, List.not_mem_nil, Site.m.injEq, bne_self_eq_false, beq_iff_eq, bne_iff_ne, ↓reduceIte, Int.reduceAdd, Int.reduceSub, Int.reduceToNat, Int.reduceNeg, Nat.reduceAdd, Nat.reduceMul, Nat.reduceSub, exists_eq_left', exists_eq_left, implies_true, forall_const, Site.l.injEq, Site.e.injEq, reduceCtorEq, beq_self_eq_true, ne_eq]
  refine call_eq (Count_ok hx1 hp) ?_
  simp (decide := true) (maxSteps := 4000000) -implicitDefEqProofs only [evs, tabs, puts, siteD, gget, tget, tset, initT, dstAt, ev, evC, plain, Hp.get, Hp.set, bnd, isCells, isRow, SubA, SubC, Sub, SubL, CvA, Cv, dis, ordB, List.mem_cons, List.not_mem_nil, Site.m.injEq, bne_self_eq_false, beq_iff_eq, bne_iff_ne, ↓reduceIte, Int.reduceAdd, Int.reduceSub, Int.reduceToNat, Int.reduceNeg, Nat.reduceAdd, Nat.reduceMul, Nat.reduceSub, exists_eq_left', exists_eq_left, implies_true, forall_const, Site.l.injEq, Site.e.injEq, reduceCtorEq, beq_self_eq_true, ne_eq]
  refine call_eq (Count_ok (show max x y < 4 by omega) (d1 hp hq)) ?_
  simp (decide := true) (maxSteps := 4000000) -implicitDefEqProofs only [evs, tabs, puts, siteD, gget, tget, tset, initT, dstAt, ev, evC, plain, Hp.get, Hp.set, bnd, isCells, isRow, SubA, SubC, Sub, SubL, CvA, Cv, dis, ordB, List.mem_cons, List.not_mem_nil, Site.m.injEq, bne_self_eq_false, beq_iff_eq, bne_iff_ne, ↓reduceIte, Int.reduceAdd, Int.reduceSub, Int.reduceToNat, Int.reduceNeg, Nat.reduceAdd, Nat.reduceMul, Nat.reduceSub, exists_eq_left', exists_eq_left, implies_true, forall_const, Site.l.injEq, Site.e.injEq, reduceCtorEq, beq_self_eq_true, ne_eq]
  refine call_eq (Below_ok2 hx hy) ?_
  simp (decide := true) (maxSteps := 4000000) -implicitDefEqProofs only [evs, tabs, puts, siteD, gget, tget, tset, initT, dstAt, ev, evC, plain, Hp.get, Hp.set, bnd, isCells, isRow, SubA, SubC, Sub, SubL, CvA, Cv, dis, ordB, List.mem_cons, List.not_mem_nil, Site.m.injEq, bne_self_eq_false, beq_iff_eq, bne_iff_ne, ↓reduceIte, Int.reduceAdd, Int.reduceSub, Int.reduceToNat, Int.reduceNeg, Nat.reduceAdd, Nat.reduceMul, Nat.reduceSub, exists_eq_left', exists_eq_left, implies_true, forall_const, Site.l.injEq, Site.e.injEq, reduceCtorEq, beq_self_eq_true, ne_eq]
  refine ALoop.unrollK [4, 101, 102, 103, 7, 9, 11, 13, 15, 17, 19, 21, 23, 25] 10 ?_
  have hs := pop_sum p q
  have b1 := pop_le p
  have b2 := pop_le q
  have b3 := pop_le (p ||| q)
  have b4 := pop_le (p &&& q)
  have w1 : IntKind.i64.wrap (((x + pop p : Nat) : Int) + ((y + pop q : Nat) : Int)) = ((x + y + (pop p + pop q) : Nat) : Int) := by rw [wr_i64 (by omega) (by omega)]; omega
  have w2 : IntKind.i64.wrap (((max x y + pop (p ||| q) : Nat) : Int) + ((min x y + pop (p &&& q) : Nat) : Int)) = ((x + y + (pop p + pop q) : Nat) : Int) := by rw [wr_i64 (by omega) (by omega)]; omega
  have w3 : (((x + 1) * 2 ^ pop p : Nat) : Int) ≤ (((max x y + 1) * 2 ^ pop (p ||| q) : Nat) : Int) := by
    have := count_le (show x ≤ max x y by omega) (pop_mono (p := p) (q := q)); omega
  have w4 : ((((x + 1) * 2 ^ pop p : Nat) : Int) == (((max x y + 1) * 2 ^ pop (p ||| q) : Nat) : Int)) = (((x : Int) == ((max x y : Nat) : Int)) && ((p : Int) == ((p ||| q : Nat) : Int))) := by
    rw [Bool.eq_iff_iff, Bool.and_eq_true, beq_iff_eq, beq_iff_eq, beq_iff_eq]
    constructor
    · intro e
      have e1 := count_eq (show x ≤ max x y by omega) (pop_mono (p := p) (q := q)) (by omega)
      have := pop_eq hp hq e1.2.symm
      exact ⟨by omega, by omega⟩
    · rintro ⟨e1, e2⟩
      have e1' : max x y = x := by omega
      have e2' : p ||| q = p := by omega
      rw [e1', e2']
  have w5 : leL x p y q = (((x : Int) == ((min x y : Nat) : Int)) && ((p : Int) == ((p &&& q : Nat) : Int))) := by
    rw [Bool.eq_iff_iff, Bool.and_eq_true, beq_iff_eq, beq_iff_eq, leL_iff hp hq]
    constructor
    · rintro ⟨h1, h2⟩
      have : p &&& q = p := by
        apply Nat.eq_of_testBit_eq; intro i
        rw [Nat.testBit_and]
        have := h2 i
        cases hb : p.testBit i
        · rfl
        · rw [this hb]; rfl
      exact ⟨by omega, by omega⟩
    · rintro ⟨h1, h2⟩
      have h2 : p = p &&& q := by omega
      refine ⟨by omega, fun i hi => ?_⟩
      rw [h2, Nat.testBit_and, Bool.and_eq_true] at hi
      exact hi.2
  simp (decide := true) (maxSteps := 4000000) -implicitDefEqProofs only [evs, tabs, puts, siteD, gget, tget, tset, initT, dstAt, ev, evC, plain, Hp.get, Hp.set, bnd, isCells, isRow, SubA, SubC, Sub, SubL, CvA, Cv, dis, ordB, List.mem_cons, List.not_mem_nil, Site.m.injEq, bne_self_eq_false, beq_iff_eq, bne_iff_ne, ↓reduceIte, Int.reduceAdd, Int.reduceSub, Int.reduceToNat, Int.reduceNeg, Nat.reduceAdd, Nat.reduceMul, Nat.reduceSub, exists_eq_left', exists_eq_left, implies_true, forall_const, Site.l.injEq, Site.e.injEq, reduceCtorEq, beq_self_eq_true, ne_eq, w1, w2, w3, w4, w5]
end Go.Proofs.Ythpfjigkhbabnab.E
