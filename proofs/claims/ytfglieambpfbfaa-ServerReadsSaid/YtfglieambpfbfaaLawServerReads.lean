/- Walks: ServerReads. No conditions. -/
import Derived.Test.YtfglieambpfbfaaSrvB
import Derived.Test.YtfglieambpfbfaaAskd
import Derived.Test.YtfglieambpfbfaaSrvQ
namespace Go.Proofs.Ytfglieambpfbfaa.E
open Go
set_option linter.unusedSimpArgs false
set_option linter.unusedVariables false
set_option linter.unusedSectionVars false
set_option maxRecDepth 20000
theorem doPut_yes {s : Sv} {o : OpS} (k : o.kind = 2) (h : (doS s o).2.code = 0) : (doS s o).1 = { s with l := s.l ++ [⟨o.rcd, false⟩] } ∧ sMay s o.who o.rcd.cats = 0 ∧ chkRec o.rcd = 0 ∧ putE s.l o.rcd = 0 := by
  have e : doS s o = doPut s o := by unfold doS; rw [if_neg (by omega), if_pos k]
  rw [e] at h ⊢
  unfold doPut tdE at h ⊢
  by_cases g1 : chkRec o.rcd = 0
  · rw [if_pos g1] at h ⊢
    by_cases g2 : sMay s o.who o.rcd.cats = 0
    · rw [if_pos g2] at h ⊢
      by_cases g3 : putE s.l o.rcd = 0
      · rw [if_pos g3]
        exact ⟨rfl, g2, g1, g3⟩
      · rw [if_neg g3] at h; exact absurd h g3
    · rw [if_neg g2] at h; exact absurd h g2
  · rw [if_neg g1] at h; exact absurd h g1
theorem hid_of {a : Int} {v : Vn} (h : bnot v.r.cats a = 0) : hid a v = false := by unfold hid; simp [h]
theorem reads_get {s : Sv} {l : List Vn} {r : Rc} {w : Wh} {o : OpS} (k : o.kind = 4) (k2 : o.who = w) (k5 : o.id = r.id) (h1 : sErr s w = 0) (h2 : bnot r.cats (sSees s w : Nat) = 0) : doS { s with l := l ++ [⟨r, false⟩] } o = ({ s with l := l ++ [⟨r, false⟩] }, ⟨0, [⟨r, false⟩], [], []⟩) := by
  unfold doS
  rw [if_neg (by omega), if_neg (by omega), if_neg (by omega), if_neg (by omega), if_neg (by omega), if_pos (.inl k)]
  unfold doAsk
  rw [k2, k5, if_pos (show sErr { s with l := l ++ [⟨r, false⟩] } w = 0 from h1), if_pos k]
  show (_, oneG (partL (sSees s w : Nat) (l ++ [⟨r, false⟩])) r.id) = _
  rw [partL_add, hid_of (v := ⟨r, false⟩) h2, if_neg (by simp)]
  unfold oneG
  rw [getN_put]
theorem reads_hist {s : Sv} {l : List Vn} {r : Rc} {w : Wh} {o : OpS} (k : o.kind = 6) (k2 : o.who = w) (k5 : o.id = r.id) (h1 : sErr s w = 0) (h2 : bnot r.cats (sSees s w : Nat) = 0) : ∃ H : List Vn, doS { s with l := l ++ [⟨r, false⟩] } o = ({ s with l := l ++ [⟨r, false⟩] }, ⟨0, H ++ [⟨r, false⟩], [], []⟩) ∧ H.length ≤ l.length := by
  refine ⟨histL r.id (partL (sSees s w : Nat) l), ?_, Nat.le_trans (histL_len _ _) (partL_len _ _)⟩
  unfold doS
  rw [if_neg (by omega), if_neg (by omega), if_neg (by omega), if_neg (by omega), if_neg (by omega), if_pos (.inr (.inr k))]
  unfold doAsk
  rw [k2, k5, if_pos (show sErr { s with l := l ++ [⟨r, false⟩] } w = 0 from h1), if_neg (by omega), if_pos k]
  show (_, if (histL r.id (partL (sSees s w : Nat) (l ++ [⟨r, false⟩]))).length = 0 then tdE 4 else ⟨0, histL r.id (partL (sSees s w : Nat) (l ++ [⟨r, false⟩])), [], []⟩) = _
  have hi : hidI r.id ⟨r, false⟩ = false := by unfold hidI; simp
  have hp : partL (sSees s w : Nat) (l ++ [⟨r, false⟩]) = partL (sSees s w : Nat) l ++ [⟨r, false⟩] := by rw [partL_add, hid_of (v := ⟨r, false⟩) h2]; rfl
  have hh : histL r.id (partL (sSees s w : Nat) l ++ [⟨r, false⟩]) = histL r.id (partL (sSees s w : Nat) l) ++ [⟨r, false⟩] := by rw [histL_add, hi]; rfl
  rw [hp, hh, if_neg (by simp)]
theorem reads_cut {s : Sv} {l : List Vn} {r : Rc} {w : Wh} {o : OpS} (k : o.kind = 3) (k2 : o.who = w) (k4 : o.rcd = ⟨⟨#[]⟩, r.cats, [], []⟩) (k5 : o.id = r.id) (h1 : sMay s w r.cats = 0) (hr : chkRec r = 0) (hs : chkSt (l ++ [⟨r, false⟩]) = 0) :
    doS { s with l := l ++ [⟨r, false⟩] } o = ({ s with l := l ++ [⟨r, false⟩] ++ [⟨⟨r.id, r.cats, [], []⟩, true⟩] }, tdE 0) ∨ doS { s with l := l ++ [⟨r, false⟩] } o = ({ s with l := l ++ [⟨r, false⟩] }, tdE 2) := by
  have hc := chkRec_iff.1 hr
  have hl : lives (l ++ [⟨r, false⟩]) r.id r.cats = true := by rw [lives_add]; simp [lStep]
  unfold doS
  rw [if_neg (by omega), if_neg (by omega), if_pos k]
  unfold doCut
  rw [k2, k4, k5]
  have h1' : sMay { s with l := l ++ [⟨r, false⟩] } w r.cats = 0 := h1
  simp only [h1', if_true]
  have e : cutE (l ++ [⟨r, false⟩]) r.id r.cats = if cnt (l ++ [⟨r, false⟩]) r.cats = 20 then 2 else 0 := by
    rw [cutE, if_pos hs, if_pos hc.1, if_pos hc.2.1, if_pos hl]
  rw [e]
  split
  · right; simp
  · left; simp
theorem reads_none {s : Sv} {l : List Vn} {r : Rc} {w : Wh} {o : OpS} (k : o.kind = 4) (k2 : o.who = w) (k5 : o.id = r.id) (h1 : sErr s w = 0) (h2 : bnot r.cats (sSees s w : Nat) = 0) :
    (doS { s with l := l ++ [⟨⟨r.id, r.cats, [], []⟩, true⟩] } o).2 = tdE 4 ∨ ∃ r' : Rc, r'.cats ≠ r.cats ∧ (doS { s with l := l ++ [⟨⟨r.id, r.cats, [], []⟩, true⟩] } o).2 = ⟨0, [⟨r', false⟩], [], []⟩ := by
  have e : (doS { s with l := l ++ [⟨⟨r.id, r.cats, [], []⟩, true⟩] } o).2 = oneG (partL (sSees s w : Nat) (l ++ [⟨⟨r.id, r.cats, [], []⟩, true⟩])) r.id := by
    unfold doS
    rw [if_neg (by omega), if_neg (by omega), if_neg (by omega), if_neg (by omega), if_neg (by omega), if_pos (.inl k)]
    unfold doAsk
    rw [k2, k5, if_pos (show sErr { s with l := l ++ [⟨⟨r.id, r.cats, [], []⟩, true⟩] } w = 0 from h1), if_pos k]
    rfl
  rw [e, partL_add, hid_of (v := (⟨⟨r.id, r.cats, [], []⟩, true⟩ : Vn)) h2, if_neg (by simp)]
  unfold oneG
  cases g : getN (partL (sSees s w : Nat) l ++ [⟨⟨r.id, r.cats, [], []⟩, true⟩]) r.id with
  | none => exact .inl rfl
  | some r' =>
    refine .inr ⟨r', ?_, rfl⟩
    rw [getN_add, if_pos rfl, if_neg (by simp)] at g
    have := (getRev_some g).1
    intro e
    simp [e] at this
set_option maxHeartbeats 4000000
theorem ServerReads_ok (l : List (List Int)) (w : Wh) (r : Rc) : Ok Try.prog 6 [.list 1 (l.map fun c => [ints c]), whoV w, recV r] (B true) := by
  refine Ok.of_wp (rs := [.tmp 6]) (n := 136) Try.func6 rfl rfl rfl (by simp) fo (by kernel_rfl) ?_
  simp (decide := true) (maxSteps := 4000000) -implicitDefEqProofs only [evs, tabs, puts, siteD, gget, tget, tset, initT, dstAt, ev, evC, plain, Hp.get, Hp.set, bnd, isCells, isRow, SubA, SubC, Sub, SubL, CvA, Cv, dis, ordB, ite_self, exists_eq', List.mem_cons, List.not_mem_nil, Site.m.injEq, bne_self_eq_false, beq_iff_eq, bne_iff_ne, ↓reduceIte, Int.reduceAdd, Int.reduceSub, Int.reduceToNat, Int.reduceNeg, Nat.reduceAdd, Nat.reduceMul, Nat.reduceSub, exists_eq_left', exists_eq_left, implies_true, forall_const, Site.l.injEq, Site.e.injEq, reduceCtorEq, beq_self_eq_true, ne_eq]
  refine call_eq serverBegun_ok ?_
  simp (decide := true) (maxSteps := 4000000) -implicitDefEqProofs only [evs, tabs, puts, siteD, gget, tget, tset, initT, dstAt, ev, evC, plain, Hp.get, Hp.set, bnd, isCells, isRow, SubA, SubC, Sub, SubL, CvA, Cv, dis, ordB, ite_self, exists_eq', List.mem_cons, List.not_mem_nil, Site.m.injEq, bne_self_eq_false, beq_iff_eq, bne_iff_ne, ↓reduceIte, Int.reduceAdd, Int.reduceSub, Int.reduceToNat, Int.reduceNeg, Nat.reduceAdd, Nat.reduceMul, Nat.reduceSub, exists_eq_left', exists_eq_left, implies_true, forall_const, Site.l.injEq, Site.e.injEq, reduceCtorEq, beq_self_eq_true, ne_eq]
  refine callH ruled_ok [.l 17, .m 17 1] ?_
  simp (decide := true) (maxSteps := 4000000) -implicitDefEqProofs only [evs, tabs, puts, siteD, gget, tget, tset, initT, dstAt, ev, evC, plain, Hp.get, Hp.set, bnd, isCells, isRow, SubA, SubC, Sub, SubL, CvA, Cv, dis, ordB, ite_self, exists_eq', List.mem_cons, List.not_mem_nil, Site.m.injEq, bne_self_eq_false, beq_iff_eq, bne_iff_ne, ↓reduceIte, Int.reduceAdd, Int.reduceSub, Int.reduceToNat, Int.reduceNeg, Nat.reduceAdd, Nat.reduceMul, Nat.reduceSub, exists_eq_left', exists_eq_left, implies_true, forall_const, Site.l.injEq, Site.e.injEq, reduceCtorEq, beq_self_eq_true, ne_eq]
  refine call_eq (asked_ok l) ?_
  have hq : (askL l).length ≤ 30 := askL_len l
  have hq2 : ∀ x ∈ askL l, whoOk3 x.who := fun x hx => askL_who hx
  generalize askL l = q at hq hq2
  simp (decide := true) (maxSteps := 4000000) -implicitDefEqProofs only [evs, tabs, puts, siteD, gget, tget, tset, initT, dstAt, ev, evC, plain, Hp.get, Hp.set, bnd, isCells, isRow, SubA, SubC, Sub, SubL, CvA, Cv, dis, ordB, ite_self, exists_eq', List.mem_cons, List.not_mem_nil, Site.m.injEq, bne_self_eq_false, beq_iff_eq, bne_iff_ne, ↓reduceIte, Int.reduceAdd, Int.reduceSub, Int.reduceToNat, Int.reduceNeg, Nat.reduceAdd, Nat.reduceMul, Nat.reduceSub, exists_eq_left', exists_eq_left, implies_true, forall_const, Site.l.injEq, Site.e.injEq, reduceCtorEq, beq_self_eq_true, ne_eq]
  refine ALoop.st [4, 5, 7, 23, 24, 25] (fun (i : Nat) => [.ptr (.l 4) 1 0, .ptr (.l 5) 1 0, .ptr (.l 17) 1 0, opsA q, I q.length, I i]) (fun i => [(.l 4, 1, .cells 30 [I w.role, I w.why, I w.time]), (.l 5, 1, .cells 35 [S r.id, I r.cats, fds r.fields, strs r.refs]), (.l 17, 1, .cells 81 (svAt (.m 17 1) 1 (runL sv0 (q.take i)))), (.m 17 1, 1, .row 62 4 none ((runL sv0 (q.take i)).notes.map ntC))]) (fun i => i ≤ q.length) (fun i => q.length - i) [] 0 (by simp (decide := true) (maxSteps := 4000000) -implicitDefEqProofs only [evs, tabs, puts, siteD, gget, tget, tset, initT, dstAt, ev, evC, plain, Hp.get, Hp.set, bnd, isCells, isRow, SubA, SubC, Sub, SubL, CvA, Cv, dis, ordB, ite_self, exists_eq', List.mem_cons, List.not_mem_nil, Site.m.injEq, bne_self_eq_false, beq_iff_eq, bne_iff_ne, ↓reduceIte, Int.reduceAdd, Int.reduceSub, Int.reduceToNat, Int.reduceNeg, Nat.reduceAdd, Nat.reduceMul, Nat.reduceSub, exists_eq_left', exists_eq_left, implies_true, forall_const, Site.l.injEq, Site.e.injEq, reduceCtorEq, beq_self_eq_true, ne_eq]; try rfl) (by simp (decide := true) (maxSteps := 4000000) -implicitDefEqProofs only [evs, tabs, puts, siteD, gget, tget, tset, initT, dstAt, ev, evC, plain, Hp.get, Hp.set, bnd, isCells, isRow, SubA, SubC, Sub, SubL, CvA, Cv, dis, ordB, ite_self, exists_eq', List.mem_cons, List.not_mem_nil, Site.m.injEq, bne_self_eq_false, beq_iff_eq, bne_iff_ne, ↓reduceIte, Int.reduceAdd, Int.reduceSub, Int.reduceToNat, Int.reduceNeg, Nat.reduceAdd, Nat.reduceMul, Nat.reduceSub, exists_eq_left', exists_eq_left, implies_true, forall_const, Site.l.injEq, Site.e.injEq, reduceCtorEq, beq_self_eq_true, ne_eq, List.take_zero, run_nil, and_self]; try rfl) (by omega) ?_
  intro i hi
  by_cases h : (i : Int) < q.length
  · obtain ⟨x, hx⟩ := lt_get (l := q) (i := i) (by omega)
    have hw := wr_add1 h (by omega)
    obtain ⟨hs, hu⟩ := runL_ok sv0_ok (q.take i)
    have hr := run_snoc (s := sv0) hx
    have hx3 := hq2 x (List.mem_of_getElem? hx)
    generalize runL sv0 (q.take i) = s at hs hu hr ⊢
    have hu : s.up = [0, 1, 2] := hu
    simp (decide := true) (maxSteps := 4000000) -implicitDefEqProofs only [evs, tabs, puts, siteD, gget, tget, tset, initT, dstAt, ev, evC, plain, Hp.get, Hp.set, bnd, isCells, isRow, SubA, SubC, Sub, SubL, CvA, Cv, dis, ordB, ite_self, exists_eq', List.mem_cons, List.not_mem_nil, Site.m.injEq, bne_self_eq_false, beq_iff_eq, bne_iff_ne, ↓reduceIte, Int.reduceAdd, Int.reduceSub, Int.reduceToNat, Int.reduceNeg, Nat.reduceAdd, Nat.reduceMul, Nat.reduceSub, exists_eq_left', exists_eq_left, implies_true, forall_const, Site.l.injEq, Site.e.injEq, reduceCtorEq, beq_self_eq_true, ne_eq, h, hx]
    refine callH (srvDo_ok hs x) [.l 17, .m 17 1] ?_
    simp (decide := true) (maxSteps := 4000000) -implicitDefEqProofs only [evs, tabs, puts, siteD, gget, tget, tset, initT, dstAt, ev, evC, plain, Hp.get, Hp.set, bnd, isCells, isRow, SubA, SubC, Sub, SubL, CvA, Cv, dis, ordB, ite_self, exists_eq', List.mem_cons, List.not_mem_nil, Site.m.injEq, bne_self_eq_false, beq_iff_eq, bne_iff_ne, ↓reduceIte, Int.reduceAdd, Int.reduceSub, Int.reduceToNat, Int.reduceNeg, Nat.reduceAdd, Nat.reduceMul, Nat.reduceSub, exists_eq_left', exists_eq_left, implies_true, forall_const, Site.l.injEq, Site.e.injEq, reduceCtorEq, beq_self_eq_true, ne_eq]
    exact Nxt.mk [] (i + 1) (by simp (decide := true) (maxSteps := 4000000) -implicitDefEqProofs only [evs, tabs, puts, siteD, gget, tget, tset, initT, dstAt, ev, evC, plain, Hp.get, Hp.set, bnd, isCells, isRow, SubA, SubC, Sub, SubL, CvA, Cv, dis, ordB, ite_self, exists_eq', List.mem_cons, List.not_mem_nil, Site.m.injEq, bne_self_eq_false, beq_iff_eq, bne_iff_ne, ↓reduceIte, Int.reduceAdd, Int.reduceSub, Int.reduceToNat, Int.reduceNeg, Nat.reduceAdd, Nat.reduceMul, Nat.reduceSub, exists_eq_left', exists_eq_left, implies_true, forall_const, Site.l.injEq, Site.e.injEq, reduceCtorEq, beq_self_eq_true, ne_eq, hw]) (by simp (decide := true) (maxSteps := 4000000) -implicitDefEqProofs only [evs, tabs, puts, siteD, gget, tget, tset, initT, dstAt, ev, evC, plain, Hp.get, Hp.set, bnd, isCells, isRow, SubA, SubC, Sub, SubL, CvA, Cv, dis, ordB, ite_self, exists_eq', List.mem_cons, List.not_mem_nil, Site.m.injEq, bne_self_eq_false, beq_iff_eq, bne_iff_ne, ↓reduceIte, Int.reduceAdd, Int.reduceSub, Int.reduceToNat, Int.reduceNeg, Nat.reduceAdd, Nat.reduceMul, Nat.reduceSub, exists_eq_left', exists_eq_left, implies_true, forall_const, Site.l.injEq, Site.e.injEq, reduceCtorEq, beq_self_eq_true, ne_eq, hr, or_true]) (by omega) (by omega)
  · obtain rfl : i = q.length := by omega
    obtain ⟨hs, hu⟩ := runL_ok sv0_ok q
    rw [List.take_of_length_le (Nat.le_refl _)]
    generalize runL sv0 q = s at hs hu ⊢
    have hu : s.up = [0, 1, 2] := hu
    obtain ⟨o1, a1, a2, a3, a4, a5, a6⟩ := mkOp 2 w [] r ⟨#[]⟩ ⟨⟨#[]⟩, ⟨#[]⟩⟩
    obtain ⟨o2, b1, b2, b3, b4, b5, b6⟩ := mkOp 4 w [] ⟨⟨#[]⟩, 0, [], []⟩ r.id ⟨⟨#[]⟩, ⟨#[]⟩⟩
    obtain ⟨o3, c1, c2, c3, c4, c5, c6⟩ := mkOp 6 w [] ⟨⟨#[]⟩, 0, [], []⟩ r.id ⟨⟨#[]⟩, ⟨#[]⟩⟩
    obtain ⟨o4, d1, d2, d3, d4, d5, d6⟩ := mkOp 3 w [] ⟨⟨#[]⟩, r.cats, [], []⟩ r.id ⟨⟨#[]⟩, ⟨#[]⟩⟩
    have v1 : ∀ s, vD s o1 = 0 := fun s => by unfold vD; rw [if_neg (by omega)]
    have v2 : ∀ s, vD s o2 = 0 := fun s => by unfold vD; rw [if_neg (by omega)]
    have v3 : ∀ s, vD s o3 = 0 := fun s => by unfold vD; rw [if_neg (by omega)]
    have v4 : ∀ s, vD s o4 = 0 := fun s => by unfold vD; rw [if_neg (by omega)]
    have hs1 := doS_ok (o := o1) hs
    simp (decide := true) (maxSteps := 4000000) -implicitDefEqProofs only [evs, tabs, puts, siteD, gget, tget, tset, initT, dstAt, ev, evC, plain, Hp.get, Hp.set, bnd, isCells, isRow, SubA, SubC, Sub, SubL, CvA, Cv, dis, ordB, ite_self, exists_eq', List.mem_cons, List.not_mem_nil, Site.m.injEq, bne_self_eq_false, beq_iff_eq, bne_iff_ne, ↓reduceIte, Int.reduceAdd, Int.reduceSub, Int.reduceToNat, Int.reduceNeg, Nat.reduceAdd, Nat.reduceMul, Nat.reduceSub, exists_eq_left', exists_eq_left, implies_true, forall_const, Site.l.injEq, Site.e.injEq, reduceCtorEq, beq_self_eq_true, ne_eq, h]
    refine callH (srvDo_ok hs o1) [.l 17, .m 17 1] ?_
    by_cases hc : (doS s o1).2.code = 0
    · obtain ⟨e1, e2, e3, e4⟩ := doPut_yes a1 hc
      rw [a4, a2] at e2
      rw [a4] at e1 e3
      obtain ⟨f1, f2, f3⟩ := sMay_zero e2
      have hl := chkRec_iff.1 e3
      rw [e1] at hs1
      have g2 := reads_get (l := s.l) (o := o2) b1 b2 b5 f1 f3
      obtain ⟨H, g3, hH⟩ := reads_hist (l := s.l) (o := o3) c1 c2 c5 f1 f3
      have hH2 := (chkSt_len hs.2.2.1).1
      have g4 := reads_cut (o := o4) d1 d2 d4 d5 e2 e3 hs1.2.2.1
      have g5 := reads_none (l := s.l ++ [⟨r, false⟩]) (o := o2) b1 b2 b5 f1 f3
      have hs2 := doS_ok (o := o4) hs1
      generalize hS1 : ({ s with l := s.l ++ [⟨r, false⟩] } : Sv) = s1 at e1 hs1 g2 g3 g4 hs2
      have i1 : (H ++ [⟨r, false⟩] : List Vn)[H.length]? = some ⟨r, false⟩ := by simp
      have i2 : IntKind.i64.wrap (((H.length + 1 : Nat) : Int) - 1) = (H.length : Nat) := by rw [wr_i64 (by omega) (by omega)]; omega
      have i3 : ((H.length : Nat) : Int) < ((H.length + 1 : Nat) : Int) := by omega
      have i4 : (((H.length + 1 : Nat) : Int) == 0) = false := by simp; omega
      simp (decide := true) (maxSteps := 4000000) -implicitDefEqProofs only [evs, tabs, puts, siteD, gget, tget, tset, initT, dstAt, ev, evC, plain, Hp.get, Hp.set, bnd, isCells, isRow, SubA, SubC, Sub, SubL, CvA, Cv, dis, ordB, ite_self, exists_eq', List.mem_cons, List.not_mem_nil, Site.m.injEq, bne_self_eq_false, beq_iff_eq, bne_iff_ne, ↓reduceIte, Int.reduceAdd, Int.reduceSub, Int.reduceToNat, Int.reduceNeg, Nat.reduceAdd, Nat.reduceMul, Nat.reduceSub, exists_eq_left', exists_eq_left, implies_true, forall_const, Site.l.injEq, Site.e.injEq, reduceCtorEq, beq_self_eq_true, ne_eq, hc, e1, v1, a1, a2, a3, a4, a5, a6]
      refine callH (srvDo_ok hs1 o2) [.l 17, .m 17 1] ?_
      simp (decide := true) (maxSteps := 4000000) -implicitDefEqProofs only [evs, tabs, puts, siteD, gget, tget, tset, initT, dstAt, ev, evC, plain, Hp.get, Hp.set, bnd, isCells, isRow, SubA, SubC, Sub, SubL, CvA, Cv, dis, ordB, ite_self, exists_eq', List.mem_cons, List.not_mem_nil, Site.m.injEq, bne_self_eq_false, beq_iff_eq, bne_iff_ne, ↓reduceIte, Int.reduceAdd, Int.reduceSub, Int.reduceToNat, Int.reduceNeg, Nat.reduceAdd, Nat.reduceMul, Nat.reduceSub, exists_eq_left', exists_eq_left, implies_true, forall_const, Site.l.injEq, Site.e.injEq, reduceCtorEq, beq_self_eq_true, ne_eq, g2, v2, b1, b2, b3, b4, b5, b6]
      refine callH (srvDo_ok hs1 o3) [.l 17, .m 17 1] ?_
      simp (decide := true) (maxSteps := 4000000) -implicitDefEqProofs only [evs, tabs, puts, siteD, gget, tget, tset, initT, dstAt, ev, evC, plain, Hp.get, Hp.set, bnd, isCells, isRow, SubA, SubC, Sub, SubL, CvA, Cv, dis, ordB, ite_self, exists_eq', List.mem_cons, List.not_mem_nil, Site.m.injEq, bne_self_eq_false, beq_iff_eq, bne_iff_ne, ↓reduceIte, Int.reduceAdd, Int.reduceSub, Int.reduceToNat, Int.reduceNeg, Nat.reduceAdd, Nat.reduceMul, Nat.reduceSub, exists_eq_left', exists_eq_left, implies_true, forall_const, Site.l.injEq, Site.e.injEq, reduceCtorEq, beq_self_eq_true, ne_eq, g3, v3, c1, c2, c3, c4, c5, c6]
      refine call_eq (SameRec_ok r r (by omega) (by omega)) ?_
      rw [decide_eq_true rfl]
      simp (decide := true) (maxSteps := 4000000) -implicitDefEqProofs only [evs, tabs, puts, siteD, gget, tget, tset, initT, dstAt, ev, evC, plain, Hp.get, Hp.set, bnd, isCells, isRow, SubA, SubC, Sub, SubL, CvA, Cv, dis, ordB, ite_self, exists_eq', List.mem_cons, List.not_mem_nil, Site.m.injEq, bne_self_eq_false, beq_iff_eq, bne_iff_ne, ↓reduceIte, Int.reduceAdd, Int.reduceSub, Int.reduceToNat, Int.reduceNeg, Nat.reduceAdd, Nat.reduceMul, Nat.reduceSub, exists_eq_left', exists_eq_left, implies_true, forall_const, Site.l.injEq, Site.e.injEq, reduceCtorEq, beq_self_eq_true, ne_eq, i1, i2, i3, i4, List.length_append, List.length_singleton]
      refine call_eq (SameRec_ok r r (by omega) (by omega)) ?_
      rw [decide_eq_true rfl]
      simp (decide := true) (maxSteps := 4000000) -implicitDefEqProofs only [evs, tabs, puts, siteD, gget, tget, tset, initT, dstAt, ev, evC, plain, Hp.get, Hp.set, bnd, isCells, isRow, SubA, SubC, Sub, SubL, CvA, Cv, dis, ordB, ite_self, exists_eq', List.mem_cons, List.not_mem_nil, Site.m.injEq, bne_self_eq_false, beq_iff_eq, bne_iff_ne, ↓reduceIte, Int.reduceAdd, Int.reduceSub, Int.reduceToNat, Int.reduceNeg, Nat.reduceAdd, Nat.reduceMul, Nat.reduceSub, exists_eq_left', exists_eq_left, implies_true, forall_const, Site.l.injEq, Site.e.injEq, reduceCtorEq, beq_self_eq_true, ne_eq]
      refine callH (srvDo_ok hs1 o4) [.l 17, .m 17 1] ?_
      generalize ({ s with l := s.l ++ [⟨r, false⟩] ++ [⟨⟨r.id, r.cats, [], []⟩, true⟩] } : Sv) = s2 at g4 g5
      rcases g4 with g4 | g4
      · rw [g4] at hs2
        simp (decide := true) (maxSteps := 4000000) -implicitDefEqProofs only [evs, tabs, puts, siteD, gget, tget, tset, initT, dstAt, ev, evC, plain, Hp.get, Hp.set, bnd, isCells, isRow, SubA, SubC, Sub, SubL, CvA, Cv, dis, ordB, ite_self, exists_eq', List.mem_cons, List.not_mem_nil, Site.m.injEq, bne_self_eq_false, beq_iff_eq, bne_iff_ne, ↓reduceIte, Int.reduceAdd, Int.reduceSub, Int.reduceToNat, Int.reduceNeg, Nat.reduceAdd, Nat.reduceMul, Nat.reduceSub, exists_eq_left', exists_eq_left, implies_true, forall_const, Site.l.injEq, Site.e.injEq, reduceCtorEq, beq_self_eq_true, ne_eq, g4, v4, d1, d2, d3, d4, d5, d6, tdE]
        refine callH (srvDo_ok hs2 o2) [.l 17, .m 17 1] ?_
        rcases g5 with g5 | ⟨r', ne, g5⟩
        · simp (decide := true) (maxSteps := 4000000) -implicitDefEqProofs only [evs, tabs, puts, siteD, gget, tget, tset, initT, dstAt, ev, evC, plain, Hp.get, Hp.set, bnd, isCells, isRow, SubA, SubC, Sub, SubL, CvA, Cv, dis, ordB, ite_self, exists_eq', List.mem_cons, List.not_mem_nil, Site.m.injEq, bne_self_eq_false, beq_iff_eq, bne_iff_ne, ↓reduceIte, Int.reduceAdd, Int.reduceSub, Int.reduceToNat, Int.reduceNeg, Nat.reduceAdd, Nat.reduceMul, Nat.reduceSub, exists_eq_left', exists_eq_left, implies_true, forall_const, Site.l.injEq, Site.e.injEq, reduceCtorEq, beq_self_eq_true, ne_eq, g5, v2, b1, b2, b3, b4, b5, b6, tdE]
        · have ne' : (r'.cats != r.cats) = true := by simp [ne]
          simp (decide := true) (maxSteps := 4000000) -implicitDefEqProofs only [evs, tabs, puts, siteD, gget, tget, tset, initT, dstAt, ev, evC, plain, Hp.get, Hp.set, bnd, isCells, isRow, SubA, SubC, Sub, SubL, CvA, Cv, dis, ordB, ite_self, exists_eq', List.mem_cons, List.not_mem_nil, Site.m.injEq, bne_self_eq_false, beq_iff_eq, bne_iff_ne, ↓reduceIte, Int.reduceAdd, Int.reduceSub, Int.reduceToNat, Int.reduceNeg, Nat.reduceAdd, Nat.reduceMul, Nat.reduceSub, exists_eq_left', exists_eq_left, implies_true, forall_const, Site.l.injEq, Site.e.injEq, reduceCtorEq, beq_self_eq_true, ne_eq, g5, v2, b1, b2, b3, b4, b5, b6, ne']
      · simp (decide := true) (maxSteps := 4000000) -implicitDefEqProofs only [evs, tabs, puts, siteD, gget, tget, tset, initT, dstAt, ev, evC, plain, Hp.get, Hp.set, bnd, isCells, isRow, SubA, SubC, Sub, SubL, CvA, Cv, dis, ordB, ite_self, exists_eq', List.mem_cons, List.not_mem_nil, Site.m.injEq, bne_self_eq_false, beq_iff_eq, bne_iff_ne, ↓reduceIte, Int.reduceAdd, Int.reduceSub, Int.reduceToNat, Int.reduceNeg, Nat.reduceAdd, Nat.reduceMul, Nat.reduceSub, exists_eq_left', exists_eq_left, implies_true, forall_const, Site.l.injEq, Site.e.injEq, reduceCtorEq, beq_self_eq_true, ne_eq, g4, v4, d1, d2, d3, d4, d5, d6, tdE]
    · simp (decide := true) (maxSteps := 4000000) -implicitDefEqProofs only [evs, tabs, puts, siteD, gget, tget, tset, initT, dstAt, ev, evC, plain, Hp.get, Hp.set, bnd, isCells, isRow, SubA, SubC, Sub, SubL, CvA, Cv, dis, ordB, ite_self, exists_eq', List.mem_cons, List.not_mem_nil, Site.m.injEq, bne_self_eq_false, beq_iff_eq, bne_iff_ne, ↓reduceIte, Int.reduceAdd, Int.reduceSub, Int.reduceToNat, Int.reduceNeg, Nat.reduceAdd, Nat.reduceMul, Nat.reduceSub, exists_eq_left', exists_eq_left, implies_true, forall_const, Site.l.injEq, Site.e.injEq, reduceCtorEq, beq_self_eq_true, ne_eq, hc, v1, a1, a2, a3, a4, a5, a6]
end Go.Proofs.Ytfglieambpfbfaa.E
