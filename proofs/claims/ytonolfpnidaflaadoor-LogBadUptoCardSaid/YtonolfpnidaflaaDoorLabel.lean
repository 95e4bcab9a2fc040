/- Walks: package label. No conditions. -/
import Derived.Test.YtonolfpnidaflaaDoorTab
import Derived.Test.YtonolfpnidaflaaDoorBase
namespace Go.Proofs.YtonolfpnidaflaaDoor.E
open Go
set_option linter.unusedSimpArgs false
set_option linter.unusedVariables false
set_option linter.unusedSectionVars false
set_option maxRecDepth 20000
abbrev lab (l c : Int) : AV := .agg [I l, I c]
def okLab (l c : Int) : Bool := decide (0 ≤ l ∧ l ≤ 3 ∧ 0 ≤ c ∧ c < 256)
theorem Cats_ok (n : Int) : Ok Tryd.prog 42 [I n] (B (decide (0 ≤ n ∧ n < 256))) := by
  refine Ok.of_wp (rs := [.tmp 2]) (n := 9) Tryd.func42 rfl rfl rfl (by simp) fo (by kernel_rfl) ?_
  simp (decide := true) (maxSteps := 4000000) -implicitDefEqProofs only [evs, tabs, puts, siteD, gget, tget, tset, initT, dstAt, ev, evC, plain, Hp.get, Hp.set, bnd, isCells, isRow, SubA, SubC, Sub, SubL, CvA, Cv, dis, ordB, ite_self, exists_eq', List.mem_cons, List.not_mem_nil, Site.m.injEq, bne_self_eq_false, beq_iff_eq, bne_iff_ne, ↓reduceIte, Int.reduceAdd, Int.reduceSub, Int.reduceToNat, Int.reduceNeg, Nat.reduceAdd, Nat.reduceMul, Nat.reduceSub, exists_eq_left', exists_eq_left, implies_true, forall_const, Site.l.injEq, Site.e.injEq, reduceCtorEq, beq_self_eq_true, ne_eq]
  split <;> refine B_eq ?_ <;> simp <;> omega
end Go.Proofs.YtonolfpnidaflaaDoor.E
