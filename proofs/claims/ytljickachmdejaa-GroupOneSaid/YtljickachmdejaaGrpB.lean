/- Walks: groups in the laws. No conditions. -/
import Derived.Test.YtljickachmdejaaGrpL
namespace Go.Proofs.Ytljickachmdejaa.E
open Go
set_option linter.unusedSimpArgs false
set_option linter.unusedVariables false
set_option linter.unusedSectionVars false
set_option maxRecDepth 20000
set_option maxHeartbeats 2000000
abbrev gAt (T : Nat) (g : Gr) : Hp := [(.l T, 1, .cells 57 [I g.n, .own (.m T 1) 1 1 0 g.log.length, .own (.m T 2) 1 1 0 g.n, .own (.m T 4) 1 1 0 g.n]), (.m T 1, 1, .row 9 1 none (ss1 g.log)), (.m T 2, 1, .cells 22 (.own (.m T 3) 1 1 0 g.log.length :: fols g.fol)), (.m T 3, 1, .row 9 1 none (ss1 g.log)), (.m T 4, 1, .row 3 1 (some g.n) (is1 g.ack))]
abbrev gS (T : Nat) : List Site := [.l T, .m T 1, .m T 2, .m T 3, .m T 4]
theorem grNewF {n : Nat} (h : n < 5) (m : Int) (hm : m = ((n + 1 : Nat) : Int)) : OkH Try.prog 12 [I m] [] (.tup [.ptr (.e 0) 1 0, I 0]) (grHv (gFull n []) 1 1) := by
  subst hm
  have := grNew_ok (n := n + 1) (by omega) (by omega)
  rwa [gNew_full] at this
theorem grAddF {n : Nat} (hn : n < 5) {l : List ByteArray} (hl : l.length < 60) (s : ByteArray) : OkH Try.prog 13 [.ptr (.e 0) 0 0, S s] (grH (gFull n l)) (.tup [I ((l.length + 1 : Nat) : Int), I 0]) (grHv (gFull n (l ++ [s])) 1 0) := by
  have := grAdd_ok (gFull n l) hl s (by simp [gFull]) (by simp [gFull])
  rwa [gAdd_full] at this
theorem groupBegun_ok : Ok Try.prog 11 [] (B true) := by
  have e := gFull_more (n := 2) (by omega) (by omega) (l := [⟨#[97]⟩]) (by simp)
  have c := grSure_ok (gFull_ok (n := 2) (by omega) (l := [⟨#[97]⟩]) (by simp))
  rw [e] at c
  refine Ok.of_wp (rs := [.tmp 0]) (n := 30) Try.func11 rfl rfl rfl (by simp) fo (by kernel_rfl) ?_
  simp (decide := true) (maxSteps := 4000000) -implicitDefEqProofs only [evs, tabs, puts, siteD, gget, tget, tset, initT, dstAt, ev, evC, plain, Hp.get, Hp.set, bnd, isCells, isRow, SubA, SubC, Sub, SubL, CvA, Cv, dis, ordB, ite_self, exists_eq', List.mem_cons, List.not_mem_nil, Site.m.injEq, bne_self_eq_false, beq_iff_eq, bne_iff_ne, ↓reduceIte, Int.reduceAdd, Int.reduceSub, Int.reduceToNat, Int.reduceNeg, Nat.reduceAdd, Nat.reduceMul, Nat.reduceSub, exists_eq_left', exists_eq_left, implies_true, forall_const, Site.l.injEq, Site.e.injEq, reduceCtorEq, beq_self_eq_true, ne_eq]
  refine callH (grNewF (n := 2) (by omega) 3 rfl) [.l 5, .m 5 1, .m 5 2, .m 5 3, .m 5 4] ?_
  simp (decide := true) (maxSteps := 4000000) -implicitDefEqProofs only [evs, tabs, puts, siteD, gget, tget, tset, initT, dstAt, ev, evC, plain, Hp.get, Hp.set, bnd, isCells, isRow, SubA, SubC, Sub, SubL, CvA, Cv, dis, ordB, ite_self, exists_eq', List.mem_cons, List.not_mem_nil, Site.m.injEq, bne_self_eq_false, beq_iff_eq, bne_iff_ne, ↓reduceIte, Int.reduceAdd, Int.reduceSub, Int.reduceToNat, Int.reduceNeg, Nat.reduceAdd, Nat.reduceMul, Nat.reduceSub, exists_eq_left', exists_eq_left, implies_true, forall_const, Site.l.injEq, Site.e.injEq, reduceCtorEq, beq_self_eq_true, ne_eq, gfs]
  refine callH (grAddF (n := 2) (by omega) (l := []) (by simp) ⟨#[97]⟩) [.l 5, .m 5 1, .m 5 2, .m 5 3, .m 5 4] ?_
  simp (decide := true) (maxSteps := 4000000) -implicitDefEqProofs only [evs, tabs, puts, siteD, gget, tget, tset, initT, dstAt, ev, evC, plain, Hp.get, Hp.set, bnd, isCells, isRow, SubA, SubC, Sub, SubL, CvA, Cv, dis, ordB, ite_self, exists_eq', List.mem_cons, List.not_mem_nil, Site.m.injEq, bne_self_eq_false, beq_iff_eq, bne_iff_ne, ↓reduceIte, Int.reduceAdd, Int.reduceSub, Int.reduceToNat, Int.reduceNeg, Nat.reduceAdd, Nat.reduceMul, Nat.reduceSub, exists_eq_left', exists_eq_left, implies_true, forall_const, Site.l.injEq, Site.e.injEq, reduceCtorEq, beq_self_eq_true, ne_eq, gfs]
  refine callH c [.l 5, .m 5 1, .m 5 2, .m 5 3, .m 5 4] ?_
  simp (decide := true) (maxSteps := 4000000) -implicitDefEqProofs only [evs, tabs, puts, siteD, gget, tget, tset, initT, dstAt, ev, evC, plain, Hp.get, Hp.set, bnd, isCells, isRow, SubA, SubC, Sub, SubL, CvA, Cv, dis, ordB, ite_self, exists_eq', List.mem_cons, List.not_mem_nil, Site.m.injEq, bne_self_eq_false, beq_iff_eq, bne_iff_ne, ↓reduceIte, Int.reduceAdd, Int.reduceSub, Int.reduceToNat, Int.reduceNeg, Nat.reduceAdd, Nat.reduceMul, Nat.reduceSub, exists_eq_left', exists_eq_left, implies_true, forall_const, Site.l.injEq, Site.e.injEq, reduceCtorEq, beq_self_eq_true, ne_eq, gfs]
end Go.Proofs.Ytljickachmdejaa.E
