/- Walks: StoreLife. No conditions. -/
import Derived.Test.YtanbgeelphfggaaDoorStoreP
namespace Go.Proofs.YtanbgeelphfggaaDoor.E
open Go
set_option linter.unusedSimpArgs false
set_option linter.unusedVariables false
set_option linter.unusedSectionVars false
set_option maxRecDepth 20000
theorem StoreLife_ok (l : List (List Int)) (r : Rc) : Ok Tryd.prog 5 [.list 1 (l.map fun c => [ints c]), recV r] (B true) := by
  refine Ok.of_wp (rs := [.tmp 4]) (n := 94) Tryd.func5 rfl rfl rfl (by simp) fo (by kernel_rfl) ?_
  simp (decide := true) (maxSteps := 4000000) -implicitDefEqProofs only [evs, tabs, puts, siteD, gget, tget, tset, initT, dstAt, ev, evC, plain, Hp.get, Hp.set, bnd, isCells, isRow, SubA, SubC, Sub, SubL, CvA, Cv, dis, ordB, ite_self, exists_eq', List.mem_cons, List.not_mem_nil, Site.m.injEq, bne_self_eq_false, beq_iff_eq, bne_iff_ne, ↓reduceIte, Int.reduceAdd, Int.reduceSub, Int.reduceToNat, Int.reduceNeg, Nat.reduceAdd, Nat.reduceMul, Nat.reduceSub, exists_eq_left', exists_eq_left, implies_true, forall_const, Site.l.injEq, Site.e.injEq, reduceCtorEq, beq_self_eq_true, ne_eq]
  refine call_eq storeBegun_ok ?_
  simp (decide := true) (maxSteps := 4000000) -implicitDefEqProofs only [evs, tabs, puts, siteD, gget, tget, tset, initT, dstAt, ev, evC, plain, Hp.get, Hp.set, bnd, isCells, isRow, SubA, SubC, Sub, SubL, CvA, Cv, dis, ordB, ite_self, exists_eq', List.mem_cons, List.not_mem_nil, Site.m.injEq, bne_self_eq_false, beq_iff_eq, bne_iff_ne, ↓reduceIte, Int.reduceAdd, Int.reduceSub, Int.reduceToNat, Int.reduceNeg, Nat.reduceAdd, Nat.reduceMul, Nat.reduceSub, exists_eq_left', exists_eq_left, implies_true, forall_const, Site.l.injEq, Site.e.injEq, reduceCtorEq, beq_self_eq_true, ne_eq]
  refine call_eq (grown_ok l) ?_
  obtain ⟨hs, hl⟩ := grown_st l
  generalize grownL l = s at hs hl
  simp (decide := true) (maxSteps := 4000000) -implicitDefEqProofs only [evs, tabs, puts, siteD, gget, tget, tset, initT, dstAt, ev, evC, plain, Hp.get, Hp.set, bnd, isCells, isRow, SubA, SubC, Sub, SubL, CvA, Cv, dis, ordB, ite_self, exists_eq', List.mem_cons, List.not_mem_nil, Site.m.injEq, bne_self_eq_false, beq_iff_eq, bne_iff_ne, ↓reduceIte, Int.reduceAdd, Int.reduceSub, Int.reduceToNat, Int.reduceNeg, Nat.reduceAdd, Nat.reduceMul, Nat.reduceSub, exists_eq_left', exists_eq_left, implies_true, forall_const, Site.l.injEq, Site.e.injEq, reduceCtorEq, beq_self_eq_true, ne_eq]
  refine call_eq (Put_ok s r) ?_
  by_cases hp : putE s r = 0
  · obtain ⟨_, hr⟩ := putE_inv hp
    obtain ⟨hi, hc, hf, hrf, _⟩ := chkRec_iff.1 hr
    have n0 := cnt_le s r.cats
    have hx : chkSt (s ++ [⟨r, false⟩]) = 0 := by rw [chkSt_add hs (by omega)]; exact stepE_put hr (by omega)
    have nx : cnt (s ++ [⟨r, false⟩]) r.cats = cnt s r.cats + 1 := by rw [cnt_add, if_pos rfl]
    have lx : lives (s ++ [⟨r, false⟩]) r.id r.cats = true := by rw [lives_add, lStep, if_pos ⟨rfl, rfl⟩]; rfl
    have c1 : cutE (s ++ [⟨r, false⟩]) r.id r.cats = 0 := cutE_zero hx hi hc lx (by omega)
    have hy : chkSt (s ++ [⟨r, false⟩] ++ [⟨⟨r.id, r.cats, [], []⟩, true⟩]) = 0 := by rw [chkSt_add hx (by simp; omega)]; exact stepE_cut hi hc lx (by omega)
    have ny : cnt (s ++ [⟨r, false⟩] ++ [⟨⟨r.id, r.cats, [], []⟩, true⟩]) r.cats = cnt s r.cats + 2 := by rw [cnt_add, nx, if_pos rfl]
    have ly : lives (s ++ [⟨r, false⟩] ++ [⟨⟨r.id, r.cats, [], []⟩, true⟩]) r.id r.cats = false := by rw [lives_add, lStep, if_pos ⟨rfl, rfl⟩]; rfl
    have c2 := cutE_none hy hi hc ly
    have p2 : putE (s ++ [⟨r, false⟩] ++ [⟨⟨r.id, r.cats, [], []⟩, true⟩]) r = 0 := putE_zero hy hr (by omega)
    have hw : chkSt (s ++ [⟨r, false⟩] ++ [⟨⟨r.id, r.cats, [], []⟩, true⟩] ++ [⟨r, false⟩]) = 0 := by rw [chkSt_add hy (by simp; omega)]; exact stepE_put hr (by omega)
    have gw := getN_put (s ++ [⟨r, false⟩] ++ [⟨⟨r.id, r.cats, [], []⟩, true⟩]) r
    have ge : getE (s ++ [⟨r, false⟩] ++ [⟨⟨r.id, r.cats, [], []⟩, true⟩] ++ [⟨r, false⟩]) r.id = 0 := by rw [getE, if_pos hw, gw]; rfl
    rw [hp, if_pos rfl]
    simp (decide := true) (maxSteps := 4000000) -implicitDefEqProofs only [evs, tabs, puts, siteD, gget, tget, tset, initT, dstAt, ev, evC, plain, Hp.get, Hp.set, bnd, isCells, isRow, SubA, SubC, Sub, SubL, CvA, Cv, dis, ordB, ite_self, exists_eq', List.mem_cons, List.not_mem_nil, Site.m.injEq, bne_self_eq_false, beq_iff_eq, bne_iff_ne, ↓reduceIte, Int.reduceAdd, Int.reduceSub, Int.reduceToNat, Int.reduceNeg, Nat.reduceAdd, Nat.reduceMul, Nat.reduceSub, exists_eq_left', exists_eq_left, implies_true, forall_const, Site.l.injEq, Site.e.injEq, reduceCtorEq, beq_self_eq_true, ne_eq]
    refine call_eq (Cut_ok (s ++ [⟨r, false⟩]) r.id r.cats) ?_
    rw [c1, if_pos rfl]
    simp (decide := true) (maxSteps := 4000000) -implicitDefEqProofs only [evs, tabs, puts, siteD, gget, tget, tset, initT, dstAt, ev, evC, plain, Hp.get, Hp.set, bnd, isCells, isRow, SubA, SubC, Sub, SubL, CvA, Cv, dis, ordB, ite_self, exists_eq', List.mem_cons, List.not_mem_nil, Site.m.injEq, bne_self_eq_false, beq_iff_eq, bne_iff_ne, ↓reduceIte, Int.reduceAdd, Int.reduceSub, Int.reduceToNat, Int.reduceNeg, Nat.reduceAdd, Nat.reduceMul, Nat.reduceSub, exists_eq_left', exists_eq_left, implies_true, forall_const, Site.l.injEq, Site.e.injEq, reduceCtorEq, beq_self_eq_true, ne_eq]
    refine call_eq (Cut_ok (s ++ [⟨r, false⟩] ++ [⟨⟨r.id, r.cats, [], []⟩, true⟩]) r.id r.cats) ?_
    rw [c2, if_neg (by decide)]
    simp (decide := true) (maxSteps := 4000000) -implicitDefEqProofs only [evs, tabs, puts, siteD, gget, tget, tset, initT, dstAt, ev, evC, plain, Hp.get, Hp.set, bnd, isCells, isRow, SubA, SubC, Sub, SubL, CvA, Cv, dis, ordB, ite_self, exists_eq', List.mem_cons, List.not_mem_nil, Site.m.injEq, bne_self_eq_false, beq_iff_eq, bne_iff_ne, ↓reduceIte, Int.reduceAdd, Int.reduceSub, Int.reduceToNat, Int.reduceNeg, Nat.reduceAdd, Nat.reduceMul, Nat.reduceSub, exists_eq_left', exists_eq_left, implies_true, forall_const, Site.l.injEq, Site.e.injEq, reduceCtorEq, beq_self_eq_true, ne_eq]
    refine call_eq (Put_ok (s ++ [⟨r, false⟩] ++ [⟨⟨r.id, r.cats, [], []⟩, true⟩]) r) ?_
    rw [p2, if_pos rfl]
    simp (decide := true) (maxSteps := 4000000) -implicitDefEqProofs only [evs, tabs, puts, siteD, gget, tget, tset, initT, dstAt, ev, evC, plain, Hp.get, Hp.set, bnd, isCells, isRow, SubA, SubC, Sub, SubL, CvA, Cv, dis, ordB, ite_self, exists_eq', List.mem_cons, List.not_mem_nil, Site.m.injEq, bne_self_eq_false, beq_iff_eq, bne_iff_ne, ↓reduceIte, Int.reduceAdd, Int.reduceSub, Int.reduceToNat, Int.reduceNeg, Nat.reduceAdd, Nat.reduceMul, Nat.reduceSub, exists_eq_left', exists_eq_left, implies_true, forall_const, Site.l.injEq, Site.e.injEq, reduceCtorEq, beq_self_eq_true, ne_eq]
    refine call_eq (Get_ok (s ++ [⟨r, false⟩] ++ [⟨⟨r.id, r.cats, [], []⟩, true⟩] ++ [⟨r, false⟩]) r.id) ?_
    rw [ge, if_pos hw, gw]
    simp only [Option.getD_some]
    simp (decide := true) (maxSteps := 4000000) -implicitDefEqProofs only [evs, tabs, puts, siteD, gget, tget, tset, initT, dstAt, ev, evC, plain, Hp.get, Hp.set, bnd, isCells, isRow, SubA, SubC, Sub, SubL, CvA, Cv, dis, ordB, ite_self, exists_eq', List.mem_cons, List.not_mem_nil, Site.m.injEq, bne_self_eq_false, beq_iff_eq, bne_iff_ne, ↓reduceIte, Int.reduceAdd, Int.reduceSub, Int.reduceToNat, Int.reduceNeg, Nat.reduceAdd, Nat.reduceMul, Nat.reduceSub, exists_eq_left', exists_eq_left, implies_true, forall_const, Site.l.injEq, Site.e.injEq, reduceCtorEq, beq_self_eq_true, ne_eq]
    refine call_eq (SameRec_ok r r (by omega) (by omega)) ?_
    have ew : IntKind.i64.wrap ((s.length : Int) + 3) = ((s.length + 1 + 1 + 1 : Nat) : Int) := by rw [wr_i64 (by omega) (by omega)]; omega
    simp (decide := true) (maxSteps := 4000000) -implicitDefEqProofs only [evs, tabs, puts, siteD, gget, tget, tset, initT, dstAt, ev, evC, plain, Hp.get, Hp.set, bnd, isCells, isRow, SubA, SubC, Sub, SubL, CvA, Cv, dis, ordB, ite_self, exists_eq', List.mem_cons, List.not_mem_nil, Site.m.injEq, bne_self_eq_false, beq_iff_eq, bne_iff_ne, ↓reduceIte, Int.reduceAdd, Int.reduceSub, Int.reduceToNat, Int.reduceNeg, Nat.reduceAdd, Nat.reduceMul, Nat.reduceSub, exists_eq_left', exists_eq_left, implies_true, forall_const, Site.l.injEq, Site.e.injEq, reduceCtorEq, beq_self_eq_true, ne_eq, ew]
  · simp (decide := true) (maxSteps := 4000000) -implicitDefEqProofs only [evs, tabs, puts, siteD, gget, tget, tset, initT, dstAt, ev, evC, plain, Hp.get, Hp.set, bnd, isCells, isRow, SubA, SubC, Sub, SubL, CvA, Cv, dis, ordB, ite_self, exists_eq', List.mem_cons, List.not_mem_nil, Site.m.injEq, bne_self_eq_false, beq_iff_eq, bne_iff_ne, ↓reduceIte, Int.reduceAdd, Int.reduceSub, Int.reduceToNat, Int.reduceNeg, Nat.reduceAdd, Nat.reduceMul, Nat.reduceSub, exists_eq_left', exists_eq_left, implies_true, forall_const, Site.l.injEq, Site.e.injEq, reduceCtorEq, beq_self_eq_true, ne_eq, hp]
    rfl
end Go.Proofs.YtanbgeelphfggaaDoor.E
