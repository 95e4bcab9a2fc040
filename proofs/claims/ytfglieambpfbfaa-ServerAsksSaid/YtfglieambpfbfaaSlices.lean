/- Walks: package slices, at the types in use. No conditions. -/
import Derived.Test.YtfglieambpfbfaaTab
import Derived.Test.YtfglieambpfbfaaBase
namespace Go.Proofs.Ytfglieambpfbfaa.E
open Go
set_option linter.unusedSimpArgs false
set_option linter.unusedVariables false
set_option linter.unusedSectionVars false
set_option maxRecDepth 20000
theorem cloneInts_ok (l : List Int) (hl : l.length * 8 ≤ 140737488355328) : OkH Try.prog 59 [ints l] [] (.own (.e 0) 1 1 0 l.length) [(1, .row 3 1 none (l.map fun n => [I n]))] := by
  refine OkH.of_wpX (rs := [.tmp 2]) (n := 8) Try.func59 rfl rfl rfl (by simp) fo (by kernel_rfl) ?_
  simp (decide := true) (maxSteps := 4000000) -implicitDefEqProofs only [evs, tabs, puts, siteD, gget, tget, tset, initT, dstAt, ev, evC, plain, Hp.get, Hp.set, bnd, isCells, isRow, SubA, SubC, Sub, SubL, CvA, Cv, dis, ordB, ite_self, exists_eq', List.mem_cons, List.not_mem_nil, Site.m.injEq, bne_self_eq_false, beq_iff_eq, bne_iff_ne, ↓reduceIte, Int.reduceAdd, Int.reduceSub, Int.reduceToNat, Int.reduceNeg, Nat.reduceAdd, Nat.reduceMul, Nat.reduceSub, exists_eq_left', exists_eq_left, implies_true, forall_const, Site.l.injEq, Site.e.injEq, reduceCtorEq, beq_self_eq_true, ne_eq]
  refine ⟨fun h => ⟨[none], ?_⟩, hl, ⟨[some (.l 5)], ?_⟩⟩
  · obtain rfl := List.map_eq_nil_iff.1 h
    simp (decide := true) (maxSteps := 4000000) -implicitDefEqProofs only [evs, tabs, puts, siteD, gget, tget, tset, initT, dstAt, ev, evC, plain, Hp.get, Hp.set, bnd, isCells, isRow, SubA, SubC, Sub, SubL, CvA, Cv, dis, ordB, ite_self, exists_eq', List.mem_cons, List.not_mem_nil, Site.m.injEq, bne_self_eq_false, beq_iff_eq, bne_iff_ne, ↓reduceIte, Int.reduceAdd, Int.reduceSub, Int.reduceToNat, Int.reduceNeg, Nat.reduceAdd, Nat.reduceMul, Nat.reduceSub, exists_eq_left', exists_eq_left, implies_true, forall_const, Site.l.injEq, Site.e.injEq, reduceCtorEq, beq_self_eq_true, ne_eq]
  · simp (decide := true) (maxSteps := 4000000) -implicitDefEqProofs only [evs, tabs, puts, siteD, gget, tget, tset, initT, dstAt, ev, evC, plain, Hp.get, Hp.set, bnd, isCells, isRow, SubA, SubC, Sub, SubL, CvA, Cv, dis, ordB, ite_self, exists_eq', List.mem_cons, List.not_mem_nil, Site.m.injEq, bne_self_eq_false, beq_iff_eq, bne_iff_ne, ↓reduceIte, Int.reduceAdd, Int.reduceSub, Int.reduceToNat, Int.reduceNeg, Nat.reduceAdd, Nat.reduceMul, Nat.reduceSub, exists_eq_left', exists_eq_left, implies_true, forall_const, Site.l.injEq, Site.e.injEq, reduceCtorEq, beq_self_eq_true, ne_eq]
end Go.Proofs.Ytfglieambpfbfaa.E
