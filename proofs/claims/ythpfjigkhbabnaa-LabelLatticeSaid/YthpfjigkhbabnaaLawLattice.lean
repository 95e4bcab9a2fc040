/- Walks: labels' laws. No conditions. -/
import Derived.Test.YthpfjigkhbabnaaLabel
namespace Go.Proofs.Ythpfjigkhbabnaa.E
open Go
set_option linter.unusedSimpArgs false
set_option linter.unusedVariables false
set_option maxRecDepth 8000
set_option maxHeartbeats 1000000
theorem Join_ok' {a b c d : Int} (h : okLab a b = true) (k : okLab c d = true) : Ok Try.prog 9 [lab a b, lab c d] (.tup [lab (max a c) (bor b d), I 0]) := by
  have := Join_ok a b c d
  rwa [h, k] at this
theorem Meet_ok' {a b c d : Int} (h : okLab a b = true) (k : okLab c d = true) : Ok Try.prog 11 [lab a b, lab c d] (.tup [lab (min a c) (band b d), I 0]) := by
  have := Meet_ok a b c d
  rwa [h, k] at this
theorem Below_ok' {a b c d : Int} (h : okLab a b = true) (k : okLab c d = true) : Ok Try.prog 15 [lab a b, lab c d] (.tup [B (decide (a ≤ c) && bnot b d == 0), I 0]) := by
  have := Below_ok a b c d
  rwa [h, k] at this
theorem lab_nat {a b : Int} (h : okLab a b = true) : ∃ n m : Nat, n < 4 ∧ m < 256 ∧ a = n ∧ b = m := by
  simp only [okLab, decide_eq_true_eq] at h
  exact ⟨a.toNat, b.toNat, by omega, by omega, by omega, by omega⟩
theorem okJ {a b c d : Int} (h : okLab a b = true) (k : okLab c d = true) : okLab (max a c) (bor b d) = true := by
  obtain ⟨n, m, h1, h2, rfl, rfl⟩ := lab_nat h
  obtain ⟨n', m', k1, k2, rfl, rfl⟩ := lab_nat k
  rw [bor_nat (by omega) (by omega)]
  have := Nat.or_lt_two_pow (n := 8) h2 k2
  simp only [okLab, decide_eq_true_eq]
  omega
theorem okM {a b c d : Int} (h : okLab a b = true) (k : okLab c d = true) : okLab (min a c) (band b d) = true := by
  obtain ⟨n, m, h1, h2, rfl, rfl⟩ := lab_nat h
  obtain ⟨n', m', k1, k2, rfl, rfl⟩ := lab_nat k
  rw [band_nat (by omega) (by omega)]
  have : m &&& m' ≤ m := Nat.and_le_left
  simp only [okLab, decide_eq_true_eq]
  omega
theorem okS (k : Int) : okLab (band (k.fdiv 256) 3) (band k 255) = true := by
  obtain ⟨n, h1, e1⟩ := band_low (k.fdiv 256) 2 (by omega)
  obtain ⟨m, h2, e2⟩ := band_low k 8 (by omega)
  have e1' : band (k.fdiv 256) 3 = n := e1
  have e2' : band k 255 = m := e2
  rw [e1', e2']
  simp only [okLab, decide_eq_true_eq]
  omega
theorem sec (k : Int) : ∃ l c, okLab l c = true ∧ Ok Try.prog 10 [I k] (lab l c) := ⟨_, _, okS k, secret_ok k⟩
theorem LabelLattice_ok (a b c : Int) : Ok Try.prog 3 [I a, I b, I c] (B true) := by
  refine Ok.of_wp (rs := [.tmp 6]) (n := 164) Try.func3 rfl rfl rfl (by simp) ?_
  simp (decide := true) (maxSteps := 4000000) -implicitDefEqProofs only [evs, tabs, puts, siteD, gget, tget, tset, initT, dstAt, ev, evC, plain, Hp.get, Hp.set, bnd, isCells, SubA, SubC, Sub, SubL, ↓reduceIte, Int.reduceAdd, Int.reduceSub, Int.reduceToNat, Int.reduceNeg, Nat.reduceAdd, Nat.reduceMul, Nat.reduceSub, exists_eq_left', exists_eq_left, implies_true, forall_const, Site.l.injEq, Site.e.injEq, reduceCtorEq, beq_self_eq_true, ne_eq]
  refine call_eq (Join_ok' (by decide) (by decide)) ?_
  simp (decide := true) (maxSteps := 4000000) -implicitDefEqProofs only [evs, tabs, puts, siteD, gget, tget, tset, initT, dstAt, ev, evC, plain, Hp.get, Hp.set, bnd, isCells, SubA, SubC, Sub, SubL, ↓reduceIte, Int.reduceAdd, Int.reduceSub, Int.reduceToNat, Int.reduceNeg, Nat.reduceAdd, Nat.reduceMul, Nat.reduceSub, exists_eq_left', exists_eq_left, implies_true, forall_const, Site.l.injEq, Site.e.injEq, reduceCtorEq, beq_self_eq_true, ne_eq]
  obtain ⟨x1, x2, hx, hX⟩ := sec a
  obtain ⟨y1, y2, hy, hY⟩ := sec b
  obtain ⟨z1, z2, hz, hZ⟩ := sec c
  refine call_eq hX ?_
  simp (decide := true) (maxSteps := 4000000) -implicitDefEqProofs only [evs, tabs, puts, siteD, gget, tget, tset, initT, dstAt, ev, evC, plain, Hp.get, Hp.set, bnd, isCells, SubA, SubC, Sub, SubL, ↓reduceIte, Int.reduceAdd, Int.reduceSub, Int.reduceToNat, Int.reduceNeg, Nat.reduceAdd, Nat.reduceMul, Nat.reduceSub, exists_eq_left', exists_eq_left, implies_true, forall_const, Site.l.injEq, Site.e.injEq, reduceCtorEq, beq_self_eq_true, ne_eq]
  refine call_eq hY ?_
  simp (decide := true) (maxSteps := 4000000) -implicitDefEqProofs only [evs, tabs, puts, siteD, gget, tget, tset, initT, dstAt, ev, evC, plain, Hp.get, Hp.set, bnd, isCells, SubA, SubC, Sub, SubL, ↓reduceIte, Int.reduceAdd, Int.reduceSub, Int.reduceToNat, Int.reduceNeg, Nat.reduceAdd, Nat.reduceMul, Nat.reduceSub, exists_eq_left', exists_eq_left, implies_true, forall_const, Site.l.injEq, Site.e.injEq, reduceCtorEq, beq_self_eq_true, ne_eq]
  refine call_eq hZ ?_
  simp (decide := true) (maxSteps := 4000000) -implicitDefEqProofs only [evs, tabs, puts, siteD, gget, tget, tset, initT, dstAt, ev, evC, plain, Hp.get, Hp.set, bnd, isCells, SubA, SubC, Sub, SubL, ↓reduceIte, Int.reduceAdd, Int.reduceSub, Int.reduceToNat, Int.reduceNeg, Nat.reduceAdd, Nat.reduceMul, Nat.reduceSub, exists_eq_left', exists_eq_left, implies_true, forall_const, Site.l.injEq, Site.e.injEq, reduceCtorEq, beq_self_eq_true, ne_eq]
  refine call_eq (Join_ok' hx hy) ?_
  simp (decide := true) (maxSteps := 4000000) -implicitDefEqProofs only [evs, tabs, puts, siteD, gget, tget, tset, initT, dstAt, ev, evC, plain, Hp.get, Hp.set, bnd, isCells, SubA, SubC, Sub, SubL, ↓reduceIte, Int.reduceAdd, Int.reduceSub, Int.reduceToNat, Int.reduceNeg, Nat.reduceAdd, Nat.reduceMul, Nat.reduceSub, exists_eq_left', exists_eq_left, implies_true, forall_const, Site.l.injEq, Site.e.injEq, reduceCtorEq, beq_self_eq_true, ne_eq]
  refine call_eq (Join_ok' hy hx) ?_
  simp (decide := true) (maxSteps := 4000000) -implicitDefEqProofs only [evs, tabs, puts, siteD, gget, tget, tset, initT, dstAt, ev, evC, plain, Hp.get, Hp.set, bnd, isCells, SubA, SubC, Sub, SubL, ↓reduceIte, Int.reduceAdd, Int.reduceSub, Int.reduceToNat, Int.reduceNeg, Nat.reduceAdd, Nat.reduceMul, Nat.reduceSub, exists_eq_left', exists_eq_left, implies_true, forall_const, Site.l.injEq, Site.e.injEq, reduceCtorEq, beq_self_eq_true, ne_eq]
  refine call_eq (Join_ok' (okJ hx hy) hz) ?_
  simp (decide := true) (maxSteps := 4000000) -implicitDefEqProofs only [evs, tabs, puts, siteD, gget, tget, tset, initT, dstAt, ev, evC, plain, Hp.get, Hp.set, bnd, isCells, SubA, SubC, Sub, SubL, ↓reduceIte, Int.reduceAdd, Int.reduceSub, Int.reduceToNat, Int.reduceNeg, Nat.reduceAdd, Nat.reduceMul, Nat.reduceSub, exists_eq_left', exists_eq_left, implies_true, forall_const, Site.l.injEq, Site.e.injEq, reduceCtorEq, beq_self_eq_true, ne_eq]
  refine call_eq (Join_ok' hy hz) ?_
  simp (decide := true) (maxSteps := 4000000) -implicitDefEqProofs only [evs, tabs, puts, siteD, gget, tget, tset, initT, dstAt, ev, evC, plain, Hp.get, Hp.set, bnd, isCells, SubA, SubC, Sub, SubL, ↓reduceIte, Int.reduceAdd, Int.reduceSub, Int.reduceToNat, Int.reduceNeg, Nat.reduceAdd, Nat.reduceMul, Nat.reduceSub, exists_eq_left', exists_eq_left, implies_true, forall_const, Site.l.injEq, Site.e.injEq, reduceCtorEq, beq_self_eq_true, ne_eq]
  refine call_eq (Join_ok' hx (okJ hy hz)) ?_
  simp (decide := true) (maxSteps := 4000000) -implicitDefEqProofs only [evs, tabs, puts, siteD, gget, tget, tset, initT, dstAt, ev, evC, plain, Hp.get, Hp.set, bnd, isCells, SubA, SubC, Sub, SubL, ↓reduceIte, Int.reduceAdd, Int.reduceSub, Int.reduceToNat, Int.reduceNeg, Nat.reduceAdd, Nat.reduceMul, Nat.reduceSub, exists_eq_left', exists_eq_left, implies_true, forall_const, Site.l.injEq, Site.e.injEq, reduceCtorEq, beq_self_eq_true, ne_eq]
  refine call_eq (Meet_ok' hx (okJ hy hz)) ?_
  simp (decide := true) (maxSteps := 4000000) -implicitDefEqProofs only [evs, tabs, puts, siteD, gget, tget, tset, initT, dstAt, ev, evC, plain, Hp.get, Hp.set, bnd, isCells, SubA, SubC, Sub, SubL, ↓reduceIte, Int.reduceAdd, Int.reduceSub, Int.reduceToNat, Int.reduceNeg, Nat.reduceAdd, Nat.reduceMul, Nat.reduceSub, exists_eq_left', exists_eq_left, implies_true, forall_const, Site.l.injEq, Site.e.injEq, reduceCtorEq, beq_self_eq_true, ne_eq]
  refine call_eq (Meet_ok' hx hy) ?_
  simp (decide := true) (maxSteps := 4000000) -implicitDefEqProofs only [evs, tabs, puts, siteD, gget, tget, tset, initT, dstAt, ev, evC, plain, Hp.get, Hp.set, bnd, isCells, SubA, SubC, Sub, SubL, ↓reduceIte, Int.reduceAdd, Int.reduceSub, Int.reduceToNat, Int.reduceNeg, Nat.reduceAdd, Nat.reduceMul, Nat.reduceSub, exists_eq_left', exists_eq_left, implies_true, forall_const, Site.l.injEq, Site.e.injEq, reduceCtorEq, beq_self_eq_true, ne_eq]
  refine call_eq (Meet_ok' hx hz) ?_
  simp (decide := true) (maxSteps := 4000000) -implicitDefEqProofs only [evs, tabs, puts, siteD, gget, tget, tset, initT, dstAt, ev, evC, plain, Hp.get, Hp.set, bnd, isCells, SubA, SubC, Sub, SubL, ↓reduceIte, Int.reduceAdd, Int.reduceSub, Int.reduceToNat, Int.reduceNeg, Nat.reduceAdd, Nat.reduceMul, Nat.reduceSub, exists_eq_left', exists_eq_left, implies_true, forall_const, Site.l.injEq, Site.e.injEq, reduceCtorEq, beq_self_eq_true, ne_eq]
  refine call_eq (Join_ok' (okM hx hy) (okM hx hz)) ?_
  simp (decide := true) (maxSteps := 4000000) -implicitDefEqProofs only [evs, tabs, puts, siteD, gget, tget, tset, initT, dstAt, ev, evC, plain, Hp.get, Hp.set, bnd, isCells, SubA, SubC, Sub, SubL, ↓reduceIte, Int.reduceAdd, Int.reduceSub, Int.reduceToNat, Int.reduceNeg, Nat.reduceAdd, Nat.reduceMul, Nat.reduceSub, exists_eq_left', exists_eq_left, implies_true, forall_const, Site.l.injEq, Site.e.injEq, reduceCtorEq, beq_self_eq_true, ne_eq]
  refine call_eq (Join_ok' hx (okM hx hy)) ?_
  simp (decide := true) (maxSteps := 4000000) -implicitDefEqProofs only [evs, tabs, puts, siteD, gget, tget, tset, initT, dstAt, ev, evC, plain, Hp.get, Hp.set, bnd, isCells, SubA, SubC, Sub, SubL, ↓reduceIte, Int.reduceAdd, Int.reduceSub, Int.reduceToNat, Int.reduceNeg, Nat.reduceAdd, Nat.reduceMul, Nat.reduceSub, exists_eq_left', exists_eq_left, implies_true, forall_const, Site.l.injEq, Site.e.injEq, reduceCtorEq, beq_self_eq_true, ne_eq]
  refine call_eq (Meet_ok' hx (okJ hx hy)) ?_
  simp (decide := true) (maxSteps := 4000000) -implicitDefEqProofs only [evs, tabs, puts, siteD, gget, tget, tset, initT, dstAt, ev, evC, plain, Hp.get, Hp.set, bnd, isCells, SubA, SubC, Sub, SubL, ↓reduceIte, Int.reduceAdd, Int.reduceSub, Int.reduceToNat, Int.reduceNeg, Nat.reduceAdd, Nat.reduceMul, Nat.reduceSub, exists_eq_left', exists_eq_left, implies_true, forall_const, Site.l.injEq, Site.e.injEq, reduceCtorEq, beq_self_eq_true, ne_eq]
  refine ALoop.unrollK [6, 132, 133, 134, 12, 14, 16, 20, 22, 28, 30, 32, 9] 12 ?_
  simp (decide := true) (maxSteps := 4000000) -implicitDefEqProofs only [evs, tabs, puts, siteD, gget, tget, tset, initT, dstAt, ev, evC, plain, Hp.get, Hp.set, bnd, isCells, SubA, SubC, Sub, SubL, ↓reduceIte, Int.reduceAdd, Int.reduceSub, Int.reduceToNat, Int.reduceNeg, Nat.reduceAdd, Nat.reduceMul, Nat.reduceSub, exists_eq_left', exists_eq_left, implies_true, forall_const, Site.l.injEq, Site.e.injEq, reduceCtorEq, beq_self_eq_true, ne_eq]
  obtain ⟨x, p, hx1, hp, rfl, rfl⟩ := lab_nat hx
  obtain ⟨y, q, hy1, hq, rfl, rfl⟩ := lab_nat hy
  obtain ⟨z, r, hz1, hr, rfl, rfl⟩ := lab_nat hz
  have l63 : ∀ {n : Nat}, n < 256 → n < 9223372036854775808 := fun h => by omega
  have c1 : ∀ n m : Nat, n < 256 → m < 256 → bor n m = ((n ||| m : Nat) : Int) := fun n m h k => bor_nat (l63 h) (l63 k)
  have c2 : ∀ n m : Nat, n < 256 → m < 256 → band n m = ((n &&& m : Nat) : Int) := fun n m h k => band_nat (l63 h) (l63 k)
  have d1 : ∀ {n m : Nat}, n < 256 → m < 256 → n ||| m < 256 := fun h k => Nat.or_lt_two_pow (n := 8) h k
  have d2 : ∀ {n m : Nat}, n < 256 → m < 256 → n &&& m < 256 := fun h k => Nat.lt_of_le_of_lt Nat.and_le_left h
  have e1 : (max (x : Int) y == max (y : Int) x && bor p q == bor q p) = true := by
    rw [c1 p q hp hq, c1 q p hq hp, Nat.or_comm q p]; simp <;> omega
  have e2 : (max (max (x : Int) y) z == max (x : Int) (max y z) && bor (bor p q) r == bor p (bor q r)) = true := by
    rw [c1 p q hp hq, c1 q r hq hr, c1 _ r (d1 hp hq) hr, c1 p _ hp (d1 hq hr), Nat.or_assoc]; simp <;> omega
  have e3 : (min (x : Int) (max y z) == max (min (x : Int) y) (min (x : Int) z) && band p (bor q r) == bor (band p q) (band p r)) = true := by
    rw [c1 q r hq hr, c2 p _ hp (d1 hq hr), c2 p q hp hq, c2 p r hp hr, c1 _ _ (d2 hp hq) (d2 hp hr), Nat.and_or_distrib_left]; simp <;> omega
  have e4 : (max (x : Int) (min (x : Int) y) == x && bor p (band p q) == p) = true := by
    rw [c2 p q hp hq, c1 _ _ hp (d2 hp hq)]
    have : p ||| p &&& q = p := by
      apply Nat.eq_of_testBit_eq; intro i
      simp only [Nat.testBit_or, Nat.testBit_and]
      cases p.testBit i <;> simp
    rw [this]; simp <;> omega
  have e5 : (min (x : Int) (max (x : Int) y) == x && band p (bor p q) == p) = true := by
    rw [c1 p q hp hq, c2 _ _ hp (d1 hp hq)]
    have : p &&& (p ||| q) = p := by
      apply Nat.eq_of_testBit_eq; intro i
      simp only [Nat.testBit_or, Nat.testBit_and]
      cases p.testBit i <;> simp
    rw [this]; simp <;> omega
  rw [e1, e2, e3, e4, e5]
  rfl
end Go.Proofs.Ythpfjigkhbabnaa.E
