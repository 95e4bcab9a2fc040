/- Walks: groups in the laws. No conditions. -/
import Derived.Test.YtljickachmdejaaGrpL
import Derived.Test.YtljickachmdejaaStoreC
namespace Go.Proofs.Ytljickachmdejaa.E
open Go
set_option linter.unusedSimpArgs false
set_option linter.unusedVariables false
set_option linter.unusedSectionVars false
set_option maxRecDepth 20000
set_option maxHeartbeats 2000000
abbrev gAt (T : Nat) (g : Gr) : Hp := [(.l T, 1, .cells 57 [I g.n, .own (.m T 1) 1 1 0 g.log.length, .own (.m T 2) 1 1 0 g.n, .own (.m T 4) 1 1 0 g.n]), (.m T 1, 1, .row 9 1 none (ss1 g.log)), (.m T 2, 1, .cells 22 (.own (.m T 3) 1 1 0 g.log.length :: fols g.fol)), (.m T 3, 1, .row 9 1 none (ss1 g.log)), (.m T 4, 1, .row 3 1 (some g.n) (is1 g.ack))]
abbrev gS (T : Nat) : List Site := [.l T, .m T 1, .m T 2, .m T 3, .m T 4]
theorem grNewF {n : Nat} (h : n < 5) (m : Int) (hm : m = ((n + 1 : Nat) : Int)) : OkH Try.prog 12 [I m] [] (.tup [.ptr (.e 0) 1 0, I 0]) (grHv (gFull n []) 1 1) := by
  subst hm
  have := grNew_ok (n := n + 1) (by omega) (by omega)
  rwa [gNew_full] at this
theorem grAddF {n : Nat} (hn : n < 5) {l : List ByteArray} (hl : l.length < 60) (s : ByteArray) : OkH Try.prog 13 [.ptr (.e 0) 0 0, S s] (grH (gFull n l)) (.tup [I ((l.length + 1 : Nat) : Int), I 0]) (grHv (gFull n (l ++ [s])) 1 0) := by
  have := grAdd_ok (gFull n l) hl s (by simp [gFull]) (by simp [gFull])
  rwa [gAdd_full] at this
theorem groupBegun_ok : Ok Try.prog 11 [] (B true) := by
  have e := gFull_more (n := 2) (by omega) (by omega) (l := [⟨#[97]⟩]) (by simp)
  have c := grSure_ok (gFull_ok (n := 2) (by omega) (l := [⟨#[97]⟩]) (by simp))
  rw [e] at c
  refine Ok.of_wp (rs := [.tmp 0]) (n := 30) Try.func11 rfl rfl rfl (by simp) fo (by kernel_rfl) ?_
  simp (decide := true) (maxSteps := 4000000) -implicitDefEqProofs only [evs, tabs, puts, siteD, gget, tget, tset, initT, dstAt, ev, evC, plain, Hp.get, Hp.set, bnd, isCells, isRow, SubA, SubC, Sub, SubL, CvA, Cv, dis, ordB, ite_self, exists_eq', List.mem_cons, List.not_mem_nil, Site.m.injEq, bne_self_eq_false, beq_iff_eq, bne_iff_ne, ↓reduceIte, Int.reduceAdd, Int.reduceSub, Int.reduceToNat, Int.reduceNeg, Nat.reduceAdd, Nat.reduceMul, Nat.reduceSub, exists_eq_left', exists_eq_left, implies_true, forall_const, Site.l.injEq, Site.e.injEq, reduceCtorEq, beq_self_eq_true, ne_eq]
  refine callH (grNewF (n := 2) (by omega) 3 rfl) [.l 5, .m 5 1, .m 5 2, .m 5 3, .m 5 4] ?_
  simp (decide := true) (maxSteps := 4000000) -implicitDefEqProofs only [evs, tabs, puts, siteD, gget, tget, tset, initT, dstAt, ev, evC, plain, Hp.get, Hp.set, bnd, isCells, isRow, SubA, SubC, Sub, SubL, CvA, Cv, dis, ordB, ite_self, exists_eq', List.mem_cons, List.not_mem_nil, Site.m.injEq, bne_self_eq_false, beq_iff_eq, bne_iff_ne, ↓reduceIte, Int.reduceAdd, Int.reduceSub, Int.reduceToNat, Int.reduceNeg, Nat.reduceAdd, Nat.reduceMul, Nat.reduceSub, exists_eq_left', exists_eq_left, implies_true, forall_const, Site.l.injEq, Site.e.injEq, reduceCtorEq, beq_self_eq_true, ne_eq, gfs]
  refine callH (grAddF (n := 2) (by omega) (l := []) (by simp) ⟨#[97]⟩) [.l 5, .m 5 1, .m 5 2, .m 5 3, .m 5 4] ?_
  simp (decide := true) (maxSteps := 4000000) -implicitDefEqProofs only [evs, tabs, puts, siteD, gget, tget, tset, initT, dstAt, ev, evC, plain, Hp.get, Hp.set, bnd, isCells, isRow, SubA, SubC, Sub, SubL, CvA, Cv, dis, ordB, ite_self, exists_eq', List.mem_cons, List.not_mem_nil, Site.m.injEq, bne_self_eq_false, beq_iff_eq, bne_iff_ne, ↓reduceIte, Int.reduceAdd, Int.reduceSub, Int.reduceToNat, Int.reduceNeg, Nat.reduceAdd, Nat.reduceMul, Nat.reduceSub, exists_eq_left', exists_eq_left, implies_true, forall_const, Site.l.injEq, Site.e.injEq, reduceCtorEq, beq_self_eq_true, ne_eq, gfs]
  refine callH c [.l 5, .m 5 1, .m 5 2, .m 5 3, .m 5 4] ?_
  simp (decide := true) (maxSteps := 4000000) -implicitDefEqProofs only [evs, tabs, puts, siteD, gget, tget, tset, initT, dstAt, ev, evC, plain, Hp.get, Hp.set, bnd, isCells, isRow, SubA, SubC, Sub, SubL, CvA, Cv, dis, ordB, ite_self, exists_eq', List.mem_cons, List.not_mem_nil, Site.m.injEq, bne_self_eq_false, beq_iff_eq, bne_iff_ne, ↓reduceIte, Int.reduceAdd, Int.reduceSub, Int.reduceToNat, Int.reduceNeg, Nat.reduceAdd, Nat.reduceMul, Nat.reduceSub, exists_eq_left', exists_eq_left, implies_true, forall_const, Site.l.injEq, Site.e.injEq, reduceCtorEq, beq_self_eq_true, ne_eq, gfs]
theorem grTakeGap_ok {g : Gr} (h : grOk g) {i fr : Nat} (hi : i + 1 < g.n) (l : List ByteArray) (hl : l.length ≤ 60) (hgap : (gHas g i).length < fr) : OkH Try.prog 17 [.ptr (.e 0) 0 0, I ((i + 1 : Nat) : Int), I fr, .own (.e 5) 0 1 0 l.length] (grH g ++ [.row 9 1 none (ss1 l)]) (.tup [I 0, I 9]) (grHv g 0 0 ++ [(0, .row 9 1 none (ss1 l))]) := by
  have hd : decide (1 ≤ ((i + 1 : Nat) : Int) ∧ ((i + 1 : Nat) : Int) < g.n) = true := by rw [decide_eq_true_iff]; omega
  have h4 : ((i + 1 : Nat) : Int) < g.n := by omega
  have hx := hasF h hi
  have h1 : ¬ ((fr : Int) < 0) := by omega
  have h2 : ¬ ((l.length : Int) > 60) := by omega
  have h3 : (fr : Int) > (gHas g i).length := by omega
  refine OkH.of_wp (rs := [.tmp 8, .tmp 9]) (n := 92) [] Try.func17 rfl rfl rfl (by simp) fo (by kernel_rfl) ?_
  simp (decide := true) (maxSteps := 4000000) -implicitDefEqProofs only [evs, tabs, puts, siteD, gget, tget, tset, initT, dstAt, ev, evC, plain, Hp.get, Hp.set, bnd, isCells, isRow, SubA, SubC, Sub, SubL, CvA, Cv, dis, ordB, ite_self, exists_eq', List.mem_cons, List.not_mem_nil, Site.m.injEq, bne_self_eq_false, beq_iff_eq, bne_iff_ne, ↓reduceIte, Int.reduceAdd, Int.reduceSub, Int.reduceToNat, Int.reduceNeg, Nat.reduceAdd, Nat.reduceMul, Nat.reduceSub, exists_eq_left', exists_eq_left, implies_true, forall_const, Site.l.injEq, Site.e.injEq, reduceCtorEq, beq_self_eq_true, ne_eq, List.cons_append, List.nil_append]
  refine callH (grIs_ok g ((i + 1 : Nat) : Int)) [.e 0, .e 1, .e 2, .e 3, .e 4] ?_
  rw [hd]
  simp (decide := true) (maxSteps := 4000000) -implicitDefEqProofs only [evs, tabs, puts, siteD, gget, tget, tset, initT, dstAt, ev, evC, plain, Hp.get, Hp.set, bnd, isCells, isRow, SubA, SubC, Sub, SubL, CvA, Cv, dis, ordB, ite_self, exists_eq', List.mem_cons, List.not_mem_nil, Site.m.injEq, bne_self_eq_false, beq_iff_eq, bne_iff_ne, ↓reduceIte, Int.reduceAdd, Int.reduceSub, Int.reduceToNat, Int.reduceNeg, Nat.reduceAdd, Nat.reduceMul, Nat.reduceSub, exists_eq_left', exists_eq_left, implies_true, forall_const, Site.l.injEq, Site.e.injEq, reduceCtorEq, beq_self_eq_true, ne_eq, gfs, h1, h2, h3, h4, Nat.mul_one, List.drop_succ_cons, fols_drop hx, Option.getD_some, List.cons_append, List.nil_append]
theorem grTakeForm_ok {g : Gr} (h : grOk g) {i fr : Nat} (hi : i + 1 < g.n) {s : ByteArray} (L : List ByteArray) (hl : L.length ≤ 60) (hs : L[0]? = some s) {x : ByteArray} (hf : (gHas g i)[fr]? = some x) (hne : ¬ x = s) : OkH Try.prog 17 [.ptr (.e 0) 0 0, I ((i + 1 : Nat) : Int), I fr, .own (.e 5) 0 1 0 L.length] (grH g ++ [.row 9 1 none (ss1 L)]) (.tup [I 0, I 3]) (grHv g 0 0 ++ [(0, .row 9 1 none (ss1 L))]) := by
  have hd : decide (1 ≤ ((i + 1 : Nat) : Int) ∧ ((i + 1 : Nat) : Int) < g.n) = true := by rw [decide_eq_true_iff]; omega
  have h4 : ((i + 1 : Nat) : Int) < g.n := by omega
  have hx := hasF h hi
  have h5 := gHas_len h i
  have hlt := (List.getElem?_eq_some_iff.1 hf).1
  have h1 : ¬ ((fr : Int) < 0) := by omega
  have h2 : ¬ (((L.length : Nat) : Int) > 60) := by omega
  have h3 : ¬ ((fr : Int) > (gHas g i).length) := by omega
  have h6 : (fr : Int) < (gHas g i).length := by omega
  have h7 : (0 : Int) < ((L.length : Nat) : Int) := by have := (List.getElem?_eq_some_iff.1 hs).1; omega
  have hw : IntKind.i64.wrap ((fr : Int) + 0) = (fr : Int) := by rw [wr_i64 (by omega) (by omega)]; omega
  have hxs : decide (x = s) = false := decide_eq_false hne
  refine OkH.of_wp (rs := [.tmp 8, .tmp 9]) (n := 92) [] Try.func17 rfl rfl rfl (by simp) fo (by kernel_rfl) ?_
  simp (decide := true) (maxSteps := 4000000) -implicitDefEqProofs only [evs, tabs, puts, siteD, gget, tget, tset, initT, dstAt, ev, evC, plain, Hp.get, Hp.set, bnd, isCells, isRow, SubA, SubC, Sub, SubL, CvA, Cv, dis, ordB, ite_self, exists_eq', List.mem_cons, List.not_mem_nil, Site.m.injEq, bne_self_eq_false, beq_iff_eq, bne_iff_ne, ↓reduceIte, Int.reduceAdd, Int.reduceSub, Int.reduceToNat, Int.reduceNeg, Nat.reduceAdd, Nat.reduceMul, Nat.reduceSub, exists_eq_left', exists_eq_left, implies_true, forall_const, Site.l.injEq, Site.e.injEq, reduceCtorEq, beq_self_eq_true, ne_eq, List.cons_append, List.nil_append]
  refine callH (grIs_ok g ((i + 1 : Nat) : Int)) [.e 0, .e 1, .e 2, .e 3, .e 4] ?_
  rw [hd]
  generalize hF : gHas g i = F at hx h5 h3 h6 hf hlt
  have hL0 : (ss1 L)[0]? = some [S s] := by rw [List.getElem?_map, hs]; rfl
  simp (decide := true) (maxSteps := 4000000) -implicitDefEqProofs only [evs, tabs, puts, siteD, gget, tget, tset, initT, dstAt, ev, evC, plain, Hp.get, Hp.set, bnd, isCells, isRow, SubA, SubC, Sub, SubL, CvA, Cv, dis, ordB, ite_self, exists_eq', List.mem_cons, List.not_mem_nil, Site.m.injEq, bne_self_eq_false, beq_iff_eq, bne_iff_ne, ↓reduceIte, Int.reduceAdd, Int.reduceSub, Int.reduceToNat, Int.reduceNeg, Nat.reduceAdd, Nat.reduceMul, Nat.reduceSub, exists_eq_left', exists_eq_left, implies_true, forall_const, Site.l.injEq, Site.e.injEq, reduceCtorEq, beq_self_eq_true, ne_eq, gfs, h1, h2, h3, h4, Nat.mul_one, List.drop_succ_cons, fols_drop hx, Option.getD_some, List.cons_append, List.nil_append]
  refine ALoop.st [0, 1, 2, 3, 10, 36, 37, 38] (fun (_ : Unit) => [.ptr (.e 0) 0 0, I ((i + 1 : Nat) : Int), I fr, .own (.e 5) 0 1 0 L.length, strs F, .own (.e 5) 0 1 0 L.length, I L.length, I 0]) (fun _ => grL g ++ [(.e 5, 0, .row 9 1 none (ss1 L))]) (fun _ => True) (fun _ => 0) [] () (by simp (decide := true) (maxSteps := 4000000) -implicitDefEqProofs only [evs, tabs, puts, siteD, gget, tget, tset, initT, dstAt, ev, evC, plain, Hp.get, Hp.set, bnd, isCells, isRow, SubA, SubC, Sub, SubL, CvA, Cv, dis, ordB, ite_self, exists_eq', List.mem_cons, List.not_mem_nil, Site.m.injEq, bne_self_eq_false, beq_iff_eq, bne_iff_ne, ↓reduceIte, Int.reduceAdd, Int.reduceSub, Int.reduceToNat, Int.reduceNeg, Nat.reduceAdd, Nat.reduceMul, Nat.reduceSub, exists_eq_left', exists_eq_left, implies_true, forall_const, Site.l.injEq, Site.e.injEq, reduceCtorEq, beq_self_eq_true, ne_eq, gfs]) (by simp (decide := true) (maxSteps := 4000000) -implicitDefEqProofs only [evs, tabs, puts, siteD, gget, tget, tset, initT, dstAt, ev, evC, plain, Hp.get, Hp.set, bnd, isCells, isRow, SubA, SubC, Sub, SubL, CvA, Cv, dis, ordB, ite_self, exists_eq', List.mem_cons, List.not_mem_nil, Site.m.injEq, bne_self_eq_false, beq_iff_eq, bne_iff_ne, ↓reduceIte, Int.reduceAdd, Int.reduceSub, Int.reduceToNat, Int.reduceNeg, Nat.reduceAdd, Nat.reduceMul, Nat.reduceSub, exists_eq_left', exists_eq_left, implies_true, forall_const, Site.l.injEq, Site.e.injEq, reduceCtorEq, beq_self_eq_true, ne_eq, gfs, List.cons_append, List.nil_append]) trivial ?_
  rintro ⟨⟩ -
  simp (decide := true) (maxSteps := 4000000) -implicitDefEqProofs only [evs, tabs, puts, siteD, gget, tget, tset, initT, dstAt, ev, evC, plain, Hp.get, Hp.set, bnd, isCells, isRow, SubA, SubC, Sub, SubL, CvA, Cv, dis, ordB, ite_self, exists_eq', List.mem_cons, List.not_mem_nil, Site.m.injEq, bne_self_eq_false, beq_iff_eq, bne_iff_ne, ↓reduceIte, Int.reduceAdd, Int.reduceSub, Int.reduceToNat, Int.reduceNeg, Nat.reduceAdd, Nat.reduceMul, Nat.reduceSub, exists_eq_left', exists_eq_left, implies_true, forall_const, Site.l.injEq, Site.e.injEq, reduceCtorEq, beq_self_eq_true, ne_eq, gfs, h7, hL0, hw, h6, hf, toList_beq, hxs, Option.getD_some, List.cons_append, List.nil_append]
end Go.Proofs.Ytljickachmdejaa.E
