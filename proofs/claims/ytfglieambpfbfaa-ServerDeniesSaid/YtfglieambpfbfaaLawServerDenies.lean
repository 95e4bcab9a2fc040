/- Walks: ServerDenies. No conditions. -/
import Derived.Test.YtfglieambpfbfaaSrvB
import Derived.Test.YtfglieambpfbfaaAskd
import Derived.Test.YtfglieambpfbfaaSrvQ
namespace Go.Proofs.Ytfglieambpfbfaa.E
open Go
set_option linter.unusedSimpArgs false
set_option linter.unusedVariables false
set_option linter.unusedSectionVars false
set_option maxRecDepth 20000
theorem bnot0 {c : Int} (h : 0 ≤ c ∧ c < 256) : bnot c 0 = c := by
  have key : ∀ n : Fin 256, bnot ((n.1 : Nat) : Int) 0 = ((n.1 : Nat) : Int) := by decide +kernel
  have := key ⟨c.toNat, by omega⟩
  have e : ((c.toNat : Nat) : Int) = c := by omega
  simp only [e] at this
  exact this
theorem denies_put {w : Wh} {r : Rc} {o : OpS} (hw : whoOk3 w) (hr : chkRec r = 0) (k : o.kind = 2) (k2 : o.who = w) (k4 : o.rcd = r) : doS sv0 o = if r.cats = 0 then (⟨[0, 1, 2], [], [⟨r, false⟩], []⟩, tdE 0) else (sv0, tdE 6) := by
  have hc := (chkRec_iff.1 hr).2.1
  have e1 : sErr sv0 w = 0 := sErr3 sv0_ok rfl hw
  have e2 : sSees sv0 w = 0 := by simp [sSees, sv0, seesF, yesN, noN]
  unfold doS
  rw [if_neg (by omega), if_pos k]
  unfold doPut
  rw [k4, k2, if_pos hr]
  have e3 : sMay sv0 w r.cats = if r.cats = 0 then 0 else 6 := by
    unfold sMay
    rw [if_pos e1, if_pos hc, e2]
    show (if bnot r.cats 0 = 0 then (0 : Int) else 6) = _
    rw [bnot0 hc]
  rw [e3]
  by_cases h : r.cats = 0
  · rw [if_pos h, if_pos h, if_pos rfl]
    have hp : putE sv0.l r = 0 := putE_zero (by decide +kernel) hr (by show cnt [] _ < 20; rw [cnt_nil]; omega)
    rw [if_pos hp]
    rfl
  · rw [if_neg h, if_neg h, if_neg (by decide)]
theorem denies_get {w : Wh} {r : Rc} {o : OpS} (hw : whoOk3 w) (hr : chkRec r = 0) (h0 : r.cats = 0) (k : o.kind = 4) (k2 : o.who = w) (k4 : o.id = r.id) : (doS ⟨[0, 1, 2], [], [⟨r, false⟩], []⟩ o).2 = ⟨0, [⟨r, false⟩], [], []⟩ := by
  have hz : chkSt [⟨r, false⟩] = 0 := by
    have := chkSt_add (l := []) (by decide +kernel) (by decide) ⟨r, false⟩
    rw [List.nil_append] at this
    rw [this]
    exact stepE_put hr (by rw [cnt_nil]; omega)
  have ho : svOk ⟨[0, 1, 2], [], [⟨r, false⟩], []⟩ := ⟨up012, (by decide +kernel : chkRs [] = 0), hz, Nat.zero_le _⟩
  have e1 : sErr ⟨[0, 1, 2], [], [⟨r, false⟩], []⟩ w = 0 := sErr3 ho rfl hw
  have e2 : sSees ⟨[0, 1, 2], [], [⟨r, false⟩], []⟩ w = 0 := by simp [sSees, seesF, yesN, noN]
  unfold doS
  rw [if_neg (by omega), if_neg (by omega), if_neg (by omega), if_neg (by omega), if_neg (by omega), if_pos (.inl k)]
  unfold doAsk
  rw [k2, k4, if_pos e1, if_pos k, e2]
  have e3 : partL ((0 : Nat) : Int) [⟨r, false⟩] = [⟨r, false⟩] := by
    unfold partL hid
    have : bnot r.cats 0 = 0 := by rw [h0]; decide +kernel
    simp [this]
  have e4 : getN [⟨r, false⟩] r.id = some r := getN_put [] r
  show oneG (partL ((0 : Nat) : Int) [⟨r, false⟩]) r.id = _
  unfold oneG
  rw [e3, e4]
set_option maxHeartbeats 4000000
theorem ServerDenies_ok (w : Wh) (r : Rc) : Ok Try.prog 7 [whoV w, recV r] (B true) := by
  refine Ok.of_wp (rs := [.tmp 4]) (n := 76) Try.func7 rfl rfl rfl (by simp) fo (by kernel_rfl) ?_
  simp (decide := true) (maxSteps := 4000000) -implicitDefEqProofs only [evs, tabs, puts, siteD, gget, tget, tset, initT, dstAt, ev, evC, plain, Hp.get, Hp.set, bnd, isCells, isRow, SubA, SubC, Sub, SubL, CvA, Cv, dis, ordB, ite_self, exists_eq', List.mem_cons, List.not_mem_nil, Site.m.injEq, bne_self_eq_false, beq_iff_eq, bne_iff_ne, ↓reduceIte, Int.reduceAdd, Int.reduceSub, Int.reduceToNat, Int.reduceNeg, Nat.reduceAdd, Nat.reduceMul, Nat.reduceSub, exists_eq_left', exists_eq_left, implies_true, forall_const, Site.l.injEq, Site.e.injEq, reduceCtorEq, beq_self_eq_true, ne_eq]
  refine call_eq serverBegun_ok ?_
  simp (decide := true) (maxSteps := 4000000) -implicitDefEqProofs only [evs, tabs, puts, siteD, gget, tget, tset, initT, dstAt, ev, evC, plain, Hp.get, Hp.set, bnd, isCells, isRow, SubA, SubC, Sub, SubL, CvA, Cv, dis, ordB, ite_self, exists_eq', List.mem_cons, List.not_mem_nil, Site.m.injEq, bne_self_eq_false, beq_iff_eq, bne_iff_ne, ↓reduceIte, Int.reduceAdd, Int.reduceSub, Int.reduceToNat, Int.reduceNeg, Nat.reduceAdd, Nat.reduceMul, Nat.reduceSub, exists_eq_left', exists_eq_left, implies_true, forall_const, Site.l.injEq, Site.e.injEq, reduceCtorEq, beq_self_eq_true, ne_eq]
  refine callH ruled_ok [.l 12, .m 12 1] ?_
  simp (decide := true) (maxSteps := 4000000) -implicitDefEqProofs only [evs, tabs, puts, siteD, gget, tget, tset, initT, dstAt, ev, evC, plain, Hp.get, Hp.set, bnd, isCells, isRow, SubA, SubC, Sub, SubL, CvA, Cv, dis, ordB, ite_self, exists_eq', List.mem_cons, List.not_mem_nil, Site.m.injEq, bne_self_eq_false, beq_iff_eq, bne_iff_ne, ↓reduceIte, Int.reduceAdd, Int.reduceSub, Int.reduceToNat, Int.reduceNeg, Nat.reduceAdd, Nat.reduceMul, Nat.reduceSub, exists_eq_left', exists_eq_left, implies_true, forall_const, Site.l.injEq, Site.e.injEq, reduceCtorEq, beq_self_eq_true, ne_eq]
  refine call_eq (recCheck_ok r) ?_
  by_cases h1 : chkRec r = 0
  · have hl := chkRec_iff.1 h1
    simp (decide := true) (maxSteps := 4000000) -implicitDefEqProofs only [evs, tabs, puts, siteD, gget, tget, tset, initT, dstAt, ev, evC, plain, Hp.get, Hp.set, bnd, isCells, isRow, SubA, SubC, Sub, SubL, CvA, Cv, dis, ordB, ite_self, exists_eq', List.mem_cons, List.not_mem_nil, Site.m.injEq, bne_self_eq_false, beq_iff_eq, bne_iff_ne, ↓reduceIte, Int.reduceAdd, Int.reduceSub, Int.reduceToNat, Int.reduceNeg, Nat.reduceAdd, Nat.reduceMul, Nat.reduceSub, exists_eq_left', exists_eq_left, implies_true, forall_const, Site.l.injEq, Site.e.injEq, reduceCtorEq, beq_self_eq_true, ne_eq, h1]
    refine call_eq (Who_ok w) ?_
    by_cases h2 : whoOk w = true
    · by_cases h3 : 2 < w.role
      · simp (decide := true) (maxSteps := 4000000) -implicitDefEqProofs only [evs, tabs, puts, siteD, gget, tget, tset, initT, dstAt, ev, evC, plain, Hp.get, Hp.set, bnd, isCells, isRow, SubA, SubC, Sub, SubL, CvA, Cv, dis, ordB, ite_self, exists_eq', List.mem_cons, List.not_mem_nil, Site.m.injEq, bne_self_eq_false, beq_iff_eq, bne_iff_ne, ↓reduceIte, Int.reduceAdd, Int.reduceSub, Int.reduceToNat, Int.reduceNeg, Nat.reduceAdd, Nat.reduceMul, Nat.reduceSub, exists_eq_left', exists_eq_left, implies_true, forall_const, Site.l.injEq, Site.e.injEq, reduceCtorEq, beq_self_eq_true, ne_eq, h2, h3]
      · have hw : whoOk3 w := ⟨h2, by unfold whoOk at h2; rw [decide_eq_true_eq] at h2; omega, by omega⟩
        obtain ⟨o1, a1, a2, a3, a4, a5, a6⟩ := mkOp 2 w [] r ⟨#[]⟩ ⟨⟨#[]⟩, ⟨#[]⟩⟩
        obtain ⟨o2, b1, b2, b3, b4, b5, b6⟩ := mkOp 4 w [] ⟨⟨#[]⟩, 0, [], []⟩ r.id ⟨⟨#[]⟩, ⟨#[]⟩⟩
        have e := denies_put hw h1 a1 a2 a4
        have v1 : vD sv0 o1 = 0 := by unfold vD; rw [if_neg (by omega)]
        have hs1 := doS_ok (o := o1) sv0_ok
        simp (decide := true) (maxSteps := 4000000) -implicitDefEqProofs only [evs, tabs, puts, siteD, gget, tget, tset, initT, dstAt, ev, evC, plain, Hp.get, Hp.set, bnd, isCells, isRow, SubA, SubC, Sub, SubL, CvA, Cv, dis, ordB, ite_self, exists_eq', List.mem_cons, List.not_mem_nil, Site.m.injEq, bne_self_eq_false, beq_iff_eq, bne_iff_ne, ↓reduceIte, Int.reduceAdd, Int.reduceSub, Int.reduceToNat, Int.reduceNeg, Nat.reduceAdd, Nat.reduceMul, Nat.reduceSub, exists_eq_left', exists_eq_left, implies_true, forall_const, Site.l.injEq, Site.e.injEq, reduceCtorEq, beq_self_eq_true, ne_eq, h2, h3]
        refine callH (srvDo_ok sv0_ok o1) [.l 12, .m 12 1] ?_
        by_cases h4 : r.cats = 0
        · rw [if_pos h4] at e
          have e2 := denies_get hw h1 h4 b1 b2 b5
          rw [e] at hs1
          have v2 : vD ⟨[0, 1, 2], [], [⟨r, false⟩], []⟩ o2 = 0 := by unfold vD; rw [if_neg (by omega)]
          generalize (⟨[0, 1, 2], [], [⟨r, false⟩], []⟩ : Sv) = s1 at e e2 hs1 v2
          have h5 : (r.cats != 0) = false := by simp [h4]
          simp (decide := true) (maxSteps := 4000000) -implicitDefEqProofs only [evs, tabs, puts, siteD, gget, tget, tset, initT, dstAt, ev, evC, plain, Hp.get, Hp.set, bnd, isCells, isRow, SubA, SubC, Sub, SubL, CvA, Cv, dis, ordB, ite_self, exists_eq', List.mem_cons, List.not_mem_nil, Site.m.injEq, bne_self_eq_false, beq_iff_eq, bne_iff_ne, ↓reduceIte, Int.reduceAdd, Int.reduceSub, Int.reduceToNat, Int.reduceNeg, Nat.reduceAdd, Nat.reduceMul, Nat.reduceSub, exists_eq_left', exists_eq_left, implies_true, forall_const, Site.l.injEq, Site.e.injEq, reduceCtorEq, beq_self_eq_true, ne_eq, e, v1, a1, a2, a3, a4, a5, a6, h5, tdE]
          refine callH (srvDo_ok hs1 o2) [.l 12, .m 12 1] ?_
          simp (decide := true) (maxSteps := 4000000) -implicitDefEqProofs only [evs, tabs, puts, siteD, gget, tget, tset, initT, dstAt, ev, evC, plain, Hp.get, Hp.set, bnd, isCells, isRow, SubA, SubC, Sub, SubL, CvA, Cv, dis, ordB, ite_self, exists_eq', List.mem_cons, List.not_mem_nil, Site.m.injEq, bne_self_eq_false, beq_iff_eq, bne_iff_ne, ↓reduceIte, Int.reduceAdd, Int.reduceSub, Int.reduceToNat, Int.reduceNeg, Nat.reduceAdd, Nat.reduceMul, Nat.reduceSub, exists_eq_left', exists_eq_left, implies_true, forall_const, Site.l.injEq, Site.e.injEq, reduceCtorEq, beq_self_eq_true, ne_eq, e2, v2, b1, b2, b3, b4, b5, b6]
          refine call_eq (SameRec_ok r r (by omega) (by omega)) ?_
          rw [decide_eq_true rfl]
          simp (decide := true) (maxSteps := 4000000) -implicitDefEqProofs only [evs, tabs, puts, siteD, gget, tget, tset, initT, dstAt, ev, evC, plain, Hp.get, Hp.set, bnd, isCells, isRow, SubA, SubC, Sub, SubL, CvA, Cv, dis, ordB, ite_self, exists_eq', List.mem_cons, List.not_mem_nil, Site.m.injEq, bne_self_eq_false, beq_iff_eq, bne_iff_ne, ↓reduceIte, Int.reduceAdd, Int.reduceSub, Int.reduceToNat, Int.reduceNeg, Nat.reduceAdd, Nat.reduceMul, Nat.reduceSub, exists_eq_left', exists_eq_left, implies_true, forall_const, Site.l.injEq, Site.e.injEq, reduceCtorEq, beq_self_eq_true, ne_eq]
        · rw [if_neg h4] at e
          simp (decide := true) (maxSteps := 4000000) -implicitDefEqProofs only [evs, tabs, puts, siteD, gget, tget, tset, initT, dstAt, ev, evC, plain, Hp.get, Hp.set, bnd, isCells, isRow, SubA, SubC, Sub, SubL, CvA, Cv, dis, ordB, ite_self, exists_eq', List.mem_cons, List.not_mem_nil, Site.m.injEq, bne_self_eq_false, beq_iff_eq, bne_iff_ne, ↓reduceIte, Int.reduceAdd, Int.reduceSub, Int.reduceToNat, Int.reduceNeg, Nat.reduceAdd, Nat.reduceMul, Nat.reduceSub, exists_eq_left', exists_eq_left, implies_true, forall_const, Site.l.injEq, Site.e.injEq, reduceCtorEq, beq_self_eq_true, ne_eq, e, v1, a1, a2, a3, a4, a5, a6, h4, tdE]
          refine callH (srvVersions_ok sv0_ok) [.l 12, .m 12 1] ?_
          simp (decide := true) (maxSteps := 4000000) -implicitDefEqProofs only [evs, tabs, puts, siteD, gget, tget, tset, initT, dstAt, ev, evC, plain, Hp.get, Hp.set, bnd, isCells, isRow, SubA, SubC, Sub, SubL, CvA, Cv, dis, ordB, ite_self, exists_eq', List.mem_cons, List.not_mem_nil, Site.m.injEq, bne_self_eq_false, beq_iff_eq, bne_iff_ne, ↓reduceIte, Int.reduceAdd, Int.reduceSub, Int.reduceToNat, Int.reduceNeg, Nat.reduceAdd, Nat.reduceMul, Nat.reduceSub, exists_eq_left', exists_eq_left, implies_true, forall_const, Site.l.injEq, Site.e.injEq, reduceCtorEq, beq_self_eq_true, ne_eq]
          rfl
    · have h2' : whoOk w = false := by simpa using h2
      simp (decide := true) (maxSteps := 4000000) -implicitDefEqProofs only [evs, tabs, puts, siteD, gget, tget, tset, initT, dstAt, ev, evC, plain, Hp.get, Hp.set, bnd, isCells, isRow, SubA, SubC, Sub, SubL, CvA, Cv, dis, ordB, ite_self, exists_eq', List.mem_cons, List.not_mem_nil, Site.m.injEq, bne_self_eq_false, beq_iff_eq, bne_iff_ne, ↓reduceIte, Int.reduceAdd, Int.reduceSub, Int.reduceToNat, Int.reduceNeg, Nat.reduceAdd, Nat.reduceMul, Nat.reduceSub, exists_eq_left', exists_eq_left, implies_true, forall_const, Site.l.injEq, Site.e.injEq, reduceCtorEq, beq_self_eq_true, ne_eq, h2']
  · simp (decide := true) (maxSteps := 4000000) -implicitDefEqProofs only [evs, tabs, puts, siteD, gget, tget, tset, initT, dstAt, ev, evC, plain, Hp.get, Hp.set, bnd, isCells, isRow, SubA, SubC, Sub, SubL, CvA, Cv, dis, ordB, ite_self, exists_eq', List.mem_cons, List.not_mem_nil, Site.m.injEq, bne_self_eq_false, beq_iff_eq, bne_iff_ne, ↓reduceIte, Int.reduceAdd, Int.reduceSub, Int.reduceToNat, Int.reduceNeg, Nat.reduceAdd, Nat.reduceMul, Nat.reduceSub, exists_eq_left', exists_eq_left, implies_true, forall_const, Site.l.injEq, Site.e.injEq, reduceCtorEq, beq_self_eq_true, ne_eq, h1]
end Go.Proofs.Ytfglieambpfbfaa.E
