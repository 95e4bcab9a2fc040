/- Walks: LabelModular. No conditions. -/
import Derived.Test.YthpfjigkhbabnaaLabelB
namespace Go.Proofs.Ythpfjigkhbabnaa.E
open Go
set_option linter.unusedSimpArgs false
set_option linter.unusedVariables false
set_option maxRecDepth 8000
set_option maxHeartbeats 1000000
theorem LabelModular_ok (a b c : Int) : Ok Try.prog 4 [I a, I b, I c] (B true) := by
  refine Ok.of_wp (rs := [.tmp 6]) (n := 93) Try.func4 rfl rfl rfl (by simp) ?_
  simp (decide := true) (maxSteps := 4000000) -implicitDefEqProofs only [evs, tabs, puts, siteD, gget, tget, tset, initT, dstAt, ev, evC, plain, Hp.get, Hp.set, bnd, isCells, SubA, SubC, Sub, SubL, ↓reduceIte, Int.reduceAdd, Int.reduceSub, Int.reduceToNat, Int.reduceNeg, Nat.reduceAdd, Nat.reduceMul, Nat.reduceSub, exists_eq_left', exists_eq_left, implies_true, forall_const, Site.l.injEq, Site.e.injEq, reduceCtorEq, beq_self_eq_true, ne_eq]
  refine call_eq (Meet_ok' (by decide) (by decide)) ?_
  simp (decide := true) (maxSteps := 4000000) -implicitDefEqProofs only [evs, tabs, puts, siteD, gget, tget, tset, initT, dstAt, ev, evC, plain, Hp.get, Hp.set, bnd, isCells, SubA, SubC, Sub, SubL, ↓reduceIte, Int.reduceAdd, Int.reduceSub, Int.reduceToNat, Int.reduceNeg, Nat.reduceAdd, Nat.reduceMul, Nat.reduceSub, exists_eq_left', exists_eq_left, implies_true, forall_const, Site.l.injEq, Site.e.injEq, reduceCtorEq, beq_self_eq_true, ne_eq]
  obtain ⟨x1, x2, hx, hX⟩ := sec a
  obtain ⟨y1, y2, hy, hY⟩ := sec b
  obtain ⟨z1, z2, hz, hZ⟩ := sec c
  refine call_eq hX ?_
  simp (decide := true) (maxSteps := 4000000) -implicitDefEqProofs only [evs, tabs, puts, siteD, gget, tget, tset, initT, dstAt, ev, evC, plain, Hp.get, Hp.set, bnd, isCells, SubA, SubC, Sub, SubL, ↓reduceIte, Int.reduceAdd, Int.reduceSub, Int.reduceToNat, Int.reduceNeg, Nat.reduceAdd, Nat.reduceMul, Nat.reduceSub, exists_eq_left', exists_eq_left, implies_true, forall_const, Site.l.injEq, Site.e.injEq, reduceCtorEq, beq_self_eq_true, ne_eq]
  refine call_eq hY ?_
  simp (decide := true) (maxSteps := 4000000) -implicitDefEqProofs only [evs, tabs, puts, siteD, gget, tget, tset, initT, dstAt, ev, evC, plain, Hp.get, Hp.set, bnd, isCells, SubA, SubC, Sub, SubL, ↓reduceIte, Int.reduceAdd, Int.reduceSub, Int.reduceToNat, Int.reduceNeg, Nat.reduceAdd, Nat.reduceMul, Nat.reduceSub, exists_eq_left', exists_eq_left, implies_true, forall_const, Site.l.injEq, Site.e.injEq, reduceCtorEq, beq_self_eq_true, ne_eq]
  refine call_eq hZ ?_
  simp (decide := true) (maxSteps := 4000000) -implicitDefEqProofs only [evs, tabs, puts, siteD, gget, tget, tset, initT, dstAt, ev, evC, plain, Hp.get, Hp.set, bnd, isCells, SubA, SubC, Sub, SubL, ↓reduceIte, Int.reduceAdd, Int.reduceSub, Int.reduceToNat, Int.reduceNeg, Nat.reduceAdd, Nat.reduceMul, Nat.reduceSub, exists_eq_left', exists_eq_left, implies_true, forall_const, Site.l.injEq, Site.e.injEq, reduceCtorEq, beq_self_eq_true, ne_eq]
  refine call_eq (Join_ok' hx hz) ?_
  simp (decide := true) (maxSteps := 4000000) -implicitDefEqProofs only [evs, tabs, puts, siteD, gget, tget, tset, initT, dstAt, ev, evC, plain, Hp.get, Hp.set, bnd, isCells, SubA, SubC, Sub, SubL, ↓reduceIte, Int.reduceAdd, Int.reduceSub, Int.reduceToNat, Int.reduceNeg, Nat.reduceAdd, Nat.reduceMul, Nat.reduceSub, exists_eq_left', exists_eq_left, implies_true, forall_const, Site.l.injEq, Site.e.injEq, reduceCtorEq, beq_self_eq_true, ne_eq]
  refine call_eq (Meet_ok' hy (okJ hx hz)) ?_
  simp (decide := true) (maxSteps := 4000000) -implicitDefEqProofs only [evs, tabs, puts, siteD, gget, tget, tset, initT, dstAt, ev, evC, plain, Hp.get, Hp.set, bnd, isCells, SubA, SubC, Sub, SubL, ↓reduceIte, Int.reduceAdd, Int.reduceSub, Int.reduceToNat, Int.reduceNeg, Nat.reduceAdd, Nat.reduceMul, Nat.reduceSub, exists_eq_left', exists_eq_left, implies_true, forall_const, Site.l.injEq, Site.e.injEq, reduceCtorEq, beq_self_eq_true, ne_eq]
  refine call_eq (Join_ok' hx (okM hy (okJ hx hz))) ?_
  simp (decide := true) (maxSteps := 4000000) -implicitDefEqProofs only [evs, tabs, puts, siteD, gget, tget, tset, initT, dstAt, ev, evC, plain, Hp.get, Hp.set, bnd, isCells, SubA, SubC, Sub, SubL, ↓reduceIte, Int.reduceAdd, Int.reduceSub, Int.reduceToNat, Int.reduceNeg, Nat.reduceAdd, Nat.reduceMul, Nat.reduceSub, exists_eq_left', exists_eq_left, implies_true, forall_const, Site.l.injEq, Site.e.injEq, reduceCtorEq, beq_self_eq_true, ne_eq]
  refine call_eq (Join_ok' hx hy) ?_
  simp (decide := true) (maxSteps := 4000000) -implicitDefEqProofs only [evs, tabs, puts, siteD, gget, tget, tset, initT, dstAt, ev, evC, plain, Hp.get, Hp.set, bnd, isCells, SubA, SubC, Sub, SubL, ↓reduceIte, Int.reduceAdd, Int.reduceSub, Int.reduceToNat, Int.reduceNeg, Nat.reduceAdd, Nat.reduceMul, Nat.reduceSub, exists_eq_left', exists_eq_left, implies_true, forall_const, Site.l.injEq, Site.e.injEq, reduceCtorEq, beq_self_eq_true, ne_eq]
  refine call_eq (Meet_ok' (okJ hx hy) (okJ hx hz)) ?_
  simp (decide := true) (maxSteps := 4000000) -implicitDefEqProofs only [evs, tabs, puts, siteD, gget, tget, tset, initT, dstAt, ev, evC, plain, Hp.get, Hp.set, bnd, isCells, SubA, SubC, Sub, SubL, ↓reduceIte, Int.reduceAdd, Int.reduceSub, Int.reduceToNat, Int.reduceNeg, Nat.reduceAdd, Nat.reduceMul, Nat.reduceSub, exists_eq_left', exists_eq_left, implies_true, forall_const, Site.l.injEq, Site.e.injEq, reduceCtorEq, beq_self_eq_true, ne_eq]
  obtain ⟨x, p, hx1, hp, rfl, rfl⟩ := lab_nat hx
  obtain ⟨y, q, hy1, hq, rfl, rfl⟩ := lab_nat hy
  obtain ⟨z, r, hz1, hr, rfl, rfl⟩ := lab_nat hz
  have l63 : ∀ {n : Nat}, n < 256 → n < 9223372036854775808 := fun h => by omega
  have c1 : ∀ n m : Nat, n < 256 → m < 256 → bor n m = ((n ||| m : Nat) : Int) := fun n m h k => bor_nat (l63 h) (l63 k)
  have c2 : ∀ n m : Nat, n < 256 → m < 256 → band n m = ((n &&& m : Nat) : Int) := fun n m h k => band_nat (l63 h) (l63 k)
  have d1 : ∀ {n m : Nat}, n < 256 → m < 256 → n ||| m < 256 := fun h k => Nat.or_lt_two_pow (n := 8) h k
  have d2 : ∀ {n m : Nat}, n < 256 → m < 256 → n &&& m < 256 := fun h k => Nat.lt_of_le_of_lt Nat.and_le_left h
  refine B_eq ?_
  rw [c1 p r hp hr, c2 q _ hq (d1 hp hr), c1 p _ hp (d2 hq (d1 hp hr)), c1 p q hp hq, c2 _ _ (d1 hp hq) (d1 hp hr)]
  have : p ||| q &&& (p ||| r) = (p ||| q) &&& (p ||| r) := by
    apply Nat.eq_of_testBit_eq; intro i
    simp only [Nat.testBit_or, Nat.testBit_and]
    cases p.testBit i <;> simp
  rw [this]
  simp <;> omega
end Go.Proofs.Ythpfjigkhbabnaa.E
