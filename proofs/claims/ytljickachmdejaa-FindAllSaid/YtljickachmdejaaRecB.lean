/- Walks: package record: copies; what is told of a record. No conditions. -/
import Derived.Test.YtljickachmdejaaRec
namespace Go.Proofs.Ytljickachmdejaa.E
open Go
set_option linter.unusedSimpArgs false
set_option linter.unusedVariables false
set_option linter.unusedSectionVars false
set_option maxRecDepth 20000
def getV (k : ByteArray) : List Fd → Option ByteArray
  | [] => none
  | f :: l => if f.key = k then some f.val else getV k l
theorem cloneStrs_ok {l : List ByteArray} (h : l.length ≤ 1000000) : Ok Try.prog 30 [strs l] (strs l) := by
  refine Ok.of_wp (rs := [.tmp 2]) (n := 8) Try.func30 rfl rfl rfl (by simp) fo (by kernel_rfl) ?_
  simp (decide := true) (maxSteps := 4000000) -implicitDefEqProofs only [evs, tabs, puts, siteD, gget, tget, tset, initT, dstAt, ev, evC, plain, Hp.get, Hp.set, bnd, isCells, isRow, SubA, SubC, Sub, SubL, CvA, Cv, dis, ordB, ite_self, exists_eq', List.mem_cons, List.not_mem_nil, Site.m.injEq, bne_self_eq_false, beq_iff_eq, bne_iff_ne, ↓reduceIte, Int.reduceAdd, Int.reduceSub, Int.reduceToNat, Int.reduceNeg, Nat.reduceAdd, Nat.reduceMul, Nat.reduceSub, exists_eq_left', exists_eq_left, implies_true, forall_const, Site.l.injEq, Site.e.injEq, reduceCtorEq, beq_self_eq_true, ne_eq]
  refine ⟨fun e => ?_, by omega, ?_⟩
  · obtain rfl := List.map_eq_nil_iff.1 e
    rfl
  · simp (decide := true) (maxSteps := 4000000) -implicitDefEqProofs only [evs, tabs, puts, siteD, gget, tget, tset, initT, dstAt, ev, evC, plain, Hp.get, Hp.set, bnd, isCells, isRow, SubA, SubC, Sub, SubL, CvA, Cv, dis, ordB, ite_self, exists_eq', List.mem_cons, List.not_mem_nil, Site.m.injEq, bne_self_eq_false, beq_iff_eq, bne_iff_ne, ↓reduceIte, Int.reduceAdd, Int.reduceSub, Int.reduceToNat, Int.reduceNeg, Nat.reduceAdd, Nat.reduceMul, Nat.reduceSub, exists_eq_left', exists_eq_left, implies_true, forall_const, Site.l.injEq, Site.e.injEq, reduceCtorEq, beq_self_eq_true, ne_eq, List.take_of_length_le, List.length_map]
theorem chkRec_len {r : Rc} (h : chkRec r = 0) : r.fields.length ≤ 6 ∧ r.refs.length ≤ 4 := by
  unfold chkRec at h
  repeat' split at h
  all_goals first | contradiction | omega
end Go.Proofs.Ytljickachmdejaa.E
