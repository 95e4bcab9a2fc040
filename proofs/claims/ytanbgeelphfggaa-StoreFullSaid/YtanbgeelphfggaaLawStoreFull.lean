/- Walks: StoreFull. No conditions. -/
import Derived.Test.YtanbgeelphfggaaStoreP
namespace Go.Proofs.Ytanbgeelphfggaa.E
open Go
set_option linter.unusedSimpArgs false
set_option linter.unusedVariables false
set_option linter.unusedSectionVars false
set_option maxRecDepth 20000
set_option maxHeartbeats 1000000
theorem low255 (k : Int) : ∃ n : Nat, n < 256 ∧ bits .and .i64 k 255 = n := band_low k 8 (by omega)
def repV (id : ByteArray) (c : Int) (i : Nat) : List Vn := List.replicate i ⟨⟨id, c, [], []⟩, false⟩
theorem repV_add (id : ByteArray) (c : Int) (i : Nat) : repV id c i ++ [⟨⟨id, c, [], []⟩, false⟩] = repV id c (i + 1) := by
  unfold repV
  rw [List.replicate_succ']
theorem cnt_rep (id : ByteArray) (c d : Int) (i : Nat) : cnt (repV id c i) d = if c = d then i else 0 := by
  induction i with
  | zero => simp [repV, cnt]
  | succ i ih =>
    rw [← repV_add, cnt_add, ih]
    split <;> rfl
theorem rep_ok {id : ByteArray} {c : Int} (h : idOk id = true) (hc : 0 ≤ c ∧ c < 256) (i : Nat) (hi : i ≤ 20) : chkSt (repV id c i) = 0 := by
  induction i with
  | zero => rfl
  | succ i ih =>
    rw [← repV_add, chkSt_add (ih (by omega)) (by simp [repV]; omega)]
    exact stepE_put (chkRec_bare h hc) (by rw [cnt_rep]; split <;> omega)
theorem StoreFull_ok (n a b : Int) (id : ByteArray) : Ok Try.prog 7 [I n, I a, I b, S id] (B true) := by
  refine Ok.of_wp (rs := [.tmp 8]) (n := 103) Try.func7 rfl rfl rfl (by simp) fo (by kernel_rfl) ?_
  obtain ⟨p, hp, ep⟩ := low255 a
  obtain ⟨q, hq, eq⟩ := low255 b
  obtain ⟨em, hm⟩ := wN_eq n (show 0 < 21 by omega)
  have em' : within n 21 = wN n 21 := em
  generalize wN n 21 = m at *
  simp (decide := true) (maxSteps := 4000000) -implicitDefEqProofs only [evs, tabs, puts, siteD, gget, tget, tset, initT, dstAt, ev, evC, plain, Hp.get, Hp.set, bnd, isCells, isRow, SubA, SubC, Sub, SubL, CvA, Cv, dis, ordB, ite_self, exists_eq', List.mem_cons, List.not_mem_nil, Site.m.injEq, bne_self_eq_false, beq_iff_eq, bne_iff_ne, ↓reduceIte, Int.reduceAdd, Int.reduceSub, Int.reduceToNat, Int.reduceNeg, Nat.reduceAdd, Nat.reduceMul, Nat.reduceSub, exists_eq_left', exists_eq_left, implies_true, forall_const, Site.l.injEq, Site.e.injEq, reduceCtorEq, beq_self_eq_true, ne_eq]
  refine call_eq storeBegun_ok ?_
  simp (decide := true) (maxSteps := 4000000) -implicitDefEqProofs only [evs, tabs, puts, siteD, gget, tget, tset, initT, dstAt, ev, evC, plain, Hp.get, Hp.set, bnd, isCells, isRow, SubA, SubC, Sub, SubL, CvA, Cv, dis, ordB, ite_self, exists_eq', List.mem_cons, List.not_mem_nil, Site.m.injEq, bne_self_eq_false, beq_iff_eq, bne_iff_ne, ↓reduceIte, Int.reduceAdd, Int.reduceSub, Int.reduceToNat, Int.reduceNeg, Nat.reduceAdd, Nat.reduceMul, Nat.reduceSub, exists_eq_left', exists_eq_left, implies_true, forall_const, Site.l.injEq, Site.e.injEq, reduceCtorEq, beq_self_eq_true, ne_eq, ep, eq]
  refine call_eq (Id_ok id) ?_
  have hpc : (0 : Int) ≤ (p : Int) ∧ (p : Int) < 256 := by omega
  have hqc : (0 : Int) ≤ (q : Int) ∧ (q : Int) < 256 := by omega
  have hB : idOk ⟨#[98]⟩ = true := by decide +kernel
  by_cases hid0 : idOk id = true
  · have hid := hid0
    simp (decide := true) (maxSteps := 4000000) -implicitDefEqProofs only [evs, tabs, puts, siteD, gget, tget, tset, initT, dstAt, ev, evC, plain, Hp.get, Hp.set, bnd, isCells, isRow, SubA, SubC, Sub, SubL, CvA, Cv, dis, ordB, ite_self, exists_eq', List.mem_cons, List.not_mem_nil, Site.m.injEq, bne_self_eq_false, beq_iff_eq, bne_iff_ne, ↓reduceIte, Int.reduceAdd, Int.reduceSub, Int.reduceToNat, Int.reduceNeg, Nat.reduceAdd, Nat.reduceMul, Nat.reduceSub, exists_eq_left', exists_eq_left, implies_true, forall_const, Site.l.injEq, Site.e.injEq, reduceCtorEq, beq_self_eq_true, ne_eq, hid0]
    refine call_eq (Within_ok n 21 (by omega) (by omega)) ?_
    rw [em']
    simp (decide := true) (maxSteps := 4000000) -implicitDefEqProofs only [evs, tabs, puts, siteD, gget, tget, tset, initT, dstAt, ev, evC, plain, Hp.get, Hp.set, bnd, isCells, isRow, SubA, SubC, Sub, SubL, CvA, Cv, dis, ordB, ite_self, exists_eq', List.mem_cons, List.not_mem_nil, Site.m.injEq, bne_self_eq_false, beq_iff_eq, bne_iff_ne, ↓reduceIte, Int.reduceAdd, Int.reduceSub, Int.reduceToNat, Int.reduceNeg, Nat.reduceAdd, Nat.reduceMul, Nat.reduceSub, exists_eq_left', exists_eq_left, implies_true, forall_const, Site.l.injEq, Site.e.injEq, reduceCtorEq, beq_self_eq_true, ne_eq]
    refine ALoop.st [1, 2, 3, 9, 26, 27] (fun (i : Nat) => [I p, I q, S id, vers (repV id p i), I m, I i]) (fun _ => []) (fun i => i ≤ m) (fun i => m - i) [] 0 (by simp (decide := true) (maxSteps := 4000000) -implicitDefEqProofs only [evs, tabs, puts, siteD, gget, tget, tset, initT, dstAt, ev, evC, plain, Hp.get, Hp.set, bnd, isCells, isRow, SubA, SubC, Sub, SubL, CvA, Cv, dis, ordB, ite_self, exists_eq', List.mem_cons, List.not_mem_nil, Site.m.injEq, bne_self_eq_false, beq_iff_eq, bne_iff_ne, ↓reduceIte, Int.reduceAdd, Int.reduceSub, Int.reduceToNat, Int.reduceNeg, Nat.reduceAdd, Nat.reduceMul, Nat.reduceSub, exists_eq_left', exists_eq_left, implies_true, forall_const, Site.l.injEq, Site.e.injEq, reduceCtorEq, beq_self_eq_true, ne_eq]; try rfl) (by simp (decide := true) (maxSteps := 4000000) -implicitDefEqProofs only [evs, tabs, puts, siteD, gget, tget, tset, initT, dstAt, ev, evC, plain, Hp.get, Hp.set, bnd, isCells, isRow, SubA, SubC, Sub, SubL, CvA, Cv, dis, ordB, ite_self, exists_eq', List.mem_cons, List.not_mem_nil, Site.m.injEq, bne_self_eq_false, beq_iff_eq, bne_iff_ne, ↓reduceIte, Int.reduceAdd, Int.reduceSub, Int.reduceToNat, Int.reduceNeg, Nat.reduceAdd, Nat.reduceMul, Nat.reduceSub, exists_eq_left', exists_eq_left, implies_true, forall_const, Site.l.injEq, Site.e.injEq, reduceCtorEq, beq_self_eq_true, ne_eq]) (by omega) ?_
    intro i hi
    have st := rep_ok hid hpc i (by omega)
    by_cases h : (i : Int) < m
    · have hw := wr_add1 h (by omega)
      have pe : putE (repV id p i) ⟨id, p, [], []⟩ = 0 := putE_zero st (chkRec_bare hid hpc) (by rw [cnt_rep]; split <;> omega)
      simp (decide := true) (maxSteps := 4000000) -implicitDefEqProofs only [evs, tabs, puts, siteD, gget, tget, tset, initT, dstAt, ev, evC, plain, Hp.get, Hp.set, bnd, isCells, isRow, SubA, SubC, Sub, SubL, CvA, Cv, dis, ordB, ite_self, exists_eq', List.mem_cons, List.not_mem_nil, Site.m.injEq, bne_self_eq_false, beq_iff_eq, bne_iff_ne, ↓reduceIte, Int.reduceAdd, Int.reduceSub, Int.reduceToNat, Int.reduceNeg, Nat.reduceAdd, Nat.reduceMul, Nat.reduceSub, exists_eq_left', exists_eq_left, implies_true, forall_const, Site.l.injEq, Site.e.injEq, reduceCtorEq, beq_self_eq_true, ne_eq, h]
      refine call_ok (Put_ok (repV id p i) ⟨id, p, [], []⟩) (by simp (decide := true) (maxSteps := 4000000) -implicitDefEqProofs only [evs, tabs, puts, siteD, gget, tget, tset, initT, dstAt, ev, evC, plain, Hp.get, Hp.set, bnd, isCells, isRow, SubA, SubC, Sub, SubL, CvA, Cv, dis, ordB, ite_self, exists_eq', List.mem_cons, List.not_mem_nil, Site.m.injEq, bne_self_eq_false, beq_iff_eq, bne_iff_ne, ↓reduceIte, Int.reduceAdd, Int.reduceSub, Int.reduceToNat, Int.reduceNeg, Nat.reduceAdd, Nat.reduceMul, Nat.reduceSub, exists_eq_left', exists_eq_left, implies_true, forall_const, Site.l.injEq, Site.e.injEq, reduceCtorEq, beq_self_eq_true, ne_eq]) ?_
      rw [pe, if_pos rfl, repV_add]
      simp (decide := true) (maxSteps := 4000000) -implicitDefEqProofs only [evs, tabs, puts, siteD, gget, tget, tset, initT, dstAt, ev, evC, plain, Hp.get, Hp.set, bnd, isCells, isRow, SubA, SubC, Sub, SubL, CvA, Cv, dis, ordB, ite_self, exists_eq', List.mem_cons, List.not_mem_nil, Site.m.injEq, bne_self_eq_false, beq_iff_eq, bne_iff_ne, ↓reduceIte, Int.reduceAdd, Int.reduceSub, Int.reduceToNat, Int.reduceNeg, Nat.reduceAdd, Nat.reduceMul, Nat.reduceSub, exists_eq_left', exists_eq_left, implies_true, forall_const, Site.l.injEq, Site.e.injEq, reduceCtorEq, beq_self_eq_true, ne_eq]
      exact Nxt.mk [] (i + 1) (by simp (decide := true) (maxSteps := 4000000) -implicitDefEqProofs only [evs, tabs, puts, siteD, gget, tget, tset, initT, dstAt, ev, evC, plain, Hp.get, Hp.set, bnd, isCells, isRow, SubA, SubC, Sub, SubL, CvA, Cv, dis, ordB, ite_self, exists_eq', List.mem_cons, List.not_mem_nil, Site.m.injEq, bne_self_eq_false, beq_iff_eq, bne_iff_ne, ↓reduceIte, Int.reduceAdd, Int.reduceSub, Int.reduceToNat, Int.reduceNeg, Nat.reduceAdd, Nat.reduceMul, Nat.reduceSub, exists_eq_left', exists_eq_left, implies_true, forall_const, Site.l.injEq, Site.e.injEq, reduceCtorEq, beq_self_eq_true, ne_eq, hw]) (by simp (decide := true) (maxSteps := 4000000) -implicitDefEqProofs only [evs, tabs, puts, siteD, gget, tget, tset, initT, dstAt, ev, evC, plain, Hp.get, Hp.set, bnd, isCells, isRow, SubA, SubC, Sub, SubL, CvA, Cv, dis, ordB, ite_self, exists_eq', List.mem_cons, List.not_mem_nil, Site.m.injEq, bne_self_eq_false, beq_iff_eq, bne_iff_ne, ↓reduceIte, Int.reduceAdd, Int.reduceSub, Int.reduceToNat, Int.reduceNeg, Nat.reduceAdd, Nat.reduceMul, Nat.reduceSub, exists_eq_left', exists_eq_left, implies_true, forall_const, Site.l.injEq, Site.e.injEq, reduceCtorEq, beq_self_eq_true, ne_eq]) (by omega) (by omega)
    · obtain rfl : i = m := by omega
      have lenE : (repV id p i).length = i := by simp [repV]
      have ca := cnt_rep id p p i
      have cb := cnt_rep id p q i
      rw [if_pos rfl] at ca
      have e1 : putE (repV id p i) ⟨⟨#[98]⟩, p, [], []⟩ = if i = 20 then 2 else 0 := by rw [putE, if_pos st, if_pos (chkRec_bare hB hpc)]; simp only [ca]
      have e2 : putE (repV id p i) ⟨⟨#[98]⟩, q, [], []⟩ = if p = q ∧ i = 20 then 2 else 0 := by
        rw [putE, if_pos st, if_pos (chkRec_bare hB hqc)]
        simp only [cb]
        by_cases hpq : p = q
        · simp [hpq]
        · have : ¬ (p : Int) = q := by omega
          simp [hpq, this]
      have ew : IntKind.i64.wrap ((i : Int) + 1) = ((i + 1 : Nat) : Int) := by rw [wr_i64 (by omega) (by omega)]; omega
      simp (decide := true) (maxSteps := 4000000) -implicitDefEqProofs only [evs, tabs, puts, siteD, gget, tget, tset, initT, dstAt, ev, evC, plain, Hp.get, Hp.set, bnd, isCells, isRow, SubA, SubC, Sub, SubL, CvA, Cv, dis, ordB, ite_self, exists_eq', List.mem_cons, List.not_mem_nil, Site.m.injEq, bne_self_eq_false, beq_iff_eq, bne_iff_ne, ↓reduceIte, Int.reduceAdd, Int.reduceSub, Int.reduceToNat, Int.reduceNeg, Nat.reduceAdd, Nat.reduceMul, Nat.reduceSub, exists_eq_left', exists_eq_left, implies_true, forall_const, Site.l.injEq, Site.e.injEq, reduceCtorEq, beq_self_eq_true, ne_eq, h, lenE]
      refine call_ok (Put_ok (repV id p i) ⟨⟨#[98]⟩, p, [], []⟩) (by simp (decide := true) (maxSteps := 4000000) -implicitDefEqProofs only [evs, tabs, puts, siteD, gget, tget, tset, initT, dstAt, ev, evC, plain, Hp.get, Hp.set, bnd, isCells, isRow, SubA, SubC, Sub, SubL, CvA, Cv, dis, ordB, ite_self, exists_eq', List.mem_cons, List.not_mem_nil, Site.m.injEq, bne_self_eq_false, beq_iff_eq, bne_iff_ne, ↓reduceIte, Int.reduceAdd, Int.reduceSub, Int.reduceToNat, Int.reduceNeg, Nat.reduceAdd, Nat.reduceMul, Nat.reduceSub, exists_eq_left', exists_eq_left, implies_true, forall_const, Site.l.injEq, Site.e.injEq, reduceCtorEq, beq_self_eq_true, ne_eq]) ?_
      by_cases h20 : i = 20
      · have h20' : (i : Int) = 20 := by omega
        rw [if_pos h20] at e1
        rw [e1, if_neg (by decide)]
        simp (decide := true) (maxSteps := 4000000) -implicitDefEqProofs only [evs, tabs, puts, siteD, gget, tget, tset, initT, dstAt, ev, evC, plain, Hp.get, Hp.set, bnd, isCells, isRow, SubA, SubC, Sub, SubL, CvA, Cv, dis, ordB, ite_self, exists_eq', List.mem_cons, List.not_mem_nil, Site.m.injEq, bne_self_eq_false, beq_iff_eq, bne_iff_ne, ↓reduceIte, Int.reduceAdd, Int.reduceSub, Int.reduceToNat, Int.reduceNeg, Nat.reduceAdd, Nat.reduceMul, Nat.reduceSub, exists_eq_left', exists_eq_left, implies_true, forall_const, Site.l.injEq, Site.e.injEq, reduceCtorEq, beq_self_eq_true, ne_eq, h20', lenE]
        refine call_ok (Put_ok (repV id p i) ⟨⟨#[98]⟩, q, [], []⟩) (by simp (decide := true) (maxSteps := 4000000) -implicitDefEqProofs only [evs, tabs, puts, siteD, gget, tget, tset, initT, dstAt, ev, evC, plain, Hp.get, Hp.set, bnd, isCells, isRow, SubA, SubC, Sub, SubL, CvA, Cv, dis, ordB, ite_self, exists_eq', List.mem_cons, List.not_mem_nil, Site.m.injEq, bne_self_eq_false, beq_iff_eq, bne_iff_ne, ↓reduceIte, Int.reduceAdd, Int.reduceSub, Int.reduceToNat, Int.reduceNeg, Nat.reduceAdd, Nat.reduceMul, Nat.reduceSub, exists_eq_left', exists_eq_left, implies_true, forall_const, Site.l.injEq, Site.e.injEq, reduceCtorEq, beq_self_eq_true, ne_eq]) ?_
        by_cases hpq : p = q
        · rw [if_pos ⟨hpq, h20⟩] at e2
          rw [e2, if_neg (by decide)]
          simp (decide := true) (maxSteps := 4000000) -implicitDefEqProofs only [evs, tabs, puts, siteD, gget, tget, tset, initT, dstAt, ev, evC, plain, Hp.get, Hp.set, bnd, isCells, isRow, SubA, SubC, Sub, SubL, CvA, Cv, dis, ordB, ite_self, exists_eq', List.mem_cons, List.not_mem_nil, Site.m.injEq, bne_self_eq_false, beq_iff_eq, bne_iff_ne, ↓reduceIte, Int.reduceAdd, Int.reduceSub, Int.reduceToNat, Int.reduceNeg, Nat.reduceAdd, Nat.reduceMul, Nat.reduceSub, exists_eq_left', exists_eq_left, implies_true, forall_const, Site.l.injEq, Site.e.injEq, reduceCtorEq, beq_self_eq_true, ne_eq, hpq]
        · have hpq' : ¬ (p : Int) = q := by omega
          rw [if_neg (fun h => hpq h.1)] at e2
          rw [e2, if_pos rfl]
          simp (decide := true) (maxSteps := 4000000) -implicitDefEqProofs only [evs, tabs, puts, siteD, gget, tget, tset, initT, dstAt, ev, evC, plain, Hp.get, Hp.set, bnd, isCells, isRow, SubA, SubC, Sub, SubL, CvA, Cv, dis, ordB, ite_self, exists_eq', List.mem_cons, List.not_mem_nil, Site.m.injEq, bne_self_eq_false, beq_iff_eq, bne_iff_ne, ↓reduceIte, Int.reduceAdd, Int.reduceSub, Int.reduceToNat, Int.reduceNeg, Nat.reduceAdd, Nat.reduceMul, Nat.reduceSub, exists_eq_left', exists_eq_left, implies_true, forall_const, Site.l.injEq, Site.e.injEq, reduceCtorEq, beq_self_eq_true, ne_eq, hpq', lenE, ew]
      · have h20' : ((i : Int) == 20) = false := by simpa using (show ¬ (i : Int) = 20 by omega)
        rw [if_neg h20] at e1
        rw [e1, if_pos rfl]
        simp (decide := true) (maxSteps := 4000000) -implicitDefEqProofs only [evs, tabs, puts, siteD, gget, tget, tset, initT, dstAt, ev, evC, plain, Hp.get, Hp.set, bnd, isCells, isRow, SubA, SubC, Sub, SubL, CvA, Cv, dis, ordB, ite_self, exists_eq', List.mem_cons, List.not_mem_nil, Site.m.injEq, bne_self_eq_false, beq_iff_eq, bne_iff_ne, ↓reduceIte, Int.reduceAdd, Int.reduceSub, Int.reduceToNat, Int.reduceNeg, Nat.reduceAdd, Nat.reduceMul, Nat.reduceSub, exists_eq_left', exists_eq_left, implies_true, forall_const, Site.l.injEq, Site.e.injEq, reduceCtorEq, beq_self_eq_true, ne_eq, h20', lenE, ew]
        refine call_ok (Put_ok (repV id p i) ⟨⟨#[98]⟩, q, [], []⟩) (by simp (decide := true) (maxSteps := 4000000) -implicitDefEqProofs only [evs, tabs, puts, siteD, gget, tget, tset, initT, dstAt, ev, evC, plain, Hp.get, Hp.set, bnd, isCells, isRow, SubA, SubC, Sub, SubL, CvA, Cv, dis, ordB, ite_self, exists_eq', List.mem_cons, List.not_mem_nil, Site.m.injEq, bne_self_eq_false, beq_iff_eq, bne_iff_ne, ↓reduceIte, Int.reduceAdd, Int.reduceSub, Int.reduceToNat, Int.reduceNeg, Nat.reduceAdd, Nat.reduceMul, Nat.reduceSub, exists_eq_left', exists_eq_left, implies_true, forall_const, Site.l.injEq, Site.e.injEq, reduceCtorEq, beq_self_eq_true, ne_eq]) ?_
        rw [if_neg (fun h => h20 h.2)] at e2
        rw [e2, if_pos rfl]
        by_cases hpq : p = q
        · subst hpq
          simp (decide := true) (maxSteps := 4000000) -implicitDefEqProofs only [evs, tabs, puts, siteD, gget, tget, tset, initT, dstAt, ev, evC, plain, Hp.get, Hp.set, bnd, isCells, isRow, SubA, SubC, Sub, SubL, CvA, Cv, dis, ordB, ite_self, exists_eq', List.mem_cons, List.not_mem_nil, Site.m.injEq, bne_self_eq_false, beq_iff_eq, bne_iff_ne, ↓reduceIte, Int.reduceAdd, Int.reduceSub, Int.reduceToNat, Int.reduceNeg, Nat.reduceAdd, Nat.reduceMul, Nat.reduceSub, exists_eq_left', exists_eq_left, implies_true, forall_const, Site.l.injEq, Site.e.injEq, reduceCtorEq, beq_self_eq_true, ne_eq, lenE, ew]
        · have hpq' : ¬ (p : Int) = q := by omega
          simp (decide := true) (maxSteps := 4000000) -implicitDefEqProofs only [evs, tabs, puts, siteD, gget, tget, tset, initT, dstAt, ev, evC, plain, Hp.get, Hp.set, bnd, isCells, isRow, SubA, SubC, Sub, SubL, CvA, Cv, dis, ordB, ite_self, exists_eq', List.mem_cons, List.not_mem_nil, Site.m.injEq, bne_self_eq_false, beq_iff_eq, bne_iff_ne, ↓reduceIte, Int.reduceAdd, Int.reduceSub, Int.reduceToNat, Int.reduceNeg, Nat.reduceAdd, Nat.reduceMul, Nat.reduceSub, exists_eq_left', exists_eq_left, implies_true, forall_const, Site.l.injEq, Site.e.injEq, reduceCtorEq, beq_self_eq_true, ne_eq, hpq', lenE, ew]
  · have hid : idOk ⟨#[97]⟩ = true := by decide +kernel
    simp (decide := true) (maxSteps := 4000000) -implicitDefEqProofs only [evs, tabs, puts, siteD, gget, tget, tset, initT, dstAt, ev, evC, plain, Hp.get, Hp.set, bnd, isCells, isRow, SubA, SubC, Sub, SubL, CvA, Cv, dis, ordB, ite_self, exists_eq', List.mem_cons, List.not_mem_nil, Site.m.injEq, bne_self_eq_false, beq_iff_eq, bne_iff_ne, ↓reduceIte, Int.reduceAdd, Int.reduceSub, Int.reduceToNat, Int.reduceNeg, Nat.reduceAdd, Nat.reduceMul, Nat.reduceSub, exists_eq_left', exists_eq_left, implies_true, forall_const, Site.l.injEq, Site.e.injEq, reduceCtorEq, beq_self_eq_true, ne_eq, hid0]
    refine call_eq (Within_ok n 21 (by omega) (by omega)) ?_
    rw [em']
    simp (decide := true) (maxSteps := 4000000) -implicitDefEqProofs only [evs, tabs, puts, siteD, gget, tget, tset, initT, dstAt, ev, evC, plain, Hp.get, Hp.set, bnd, isCells, isRow, SubA, SubC, Sub, SubL, CvA, Cv, dis, ordB, ite_self, exists_eq', List.mem_cons, List.not_mem_nil, Site.m.injEq, bne_self_eq_false, beq_iff_eq, bne_iff_ne, ↓reduceIte, Int.reduceAdd, Int.reduceSub, Int.reduceToNat, Int.reduceNeg, Nat.reduceAdd, Nat.reduceMul, Nat.reduceSub, exists_eq_left', exists_eq_left, implies_true, forall_const, Site.l.injEq, Site.e.injEq, reduceCtorEq, beq_self_eq_true, ne_eq]
    refine ALoop.st [1, 2, 3, 9, 26, 27] (fun (i : Nat) => [I p, I q, S (⟨#[97]⟩ : ByteArray), vers (repV (⟨#[97]⟩ : ByteArray) p i), I m, I i]) (fun _ => []) (fun i => i ≤ m) (fun i => m - i) [] 0 (by simp (decide := true) (maxSteps := 4000000) -implicitDefEqProofs only [evs, tabs, puts, siteD, gget, tget, tset, initT, dstAt, ev, evC, plain, Hp.get, Hp.set, bnd, isCells, isRow, SubA, SubC, Sub, SubL, CvA, Cv, dis, ordB, ite_self, exists_eq', List.mem_cons, List.not_mem_nil, Site.m.injEq, bne_self_eq_false, beq_iff_eq, bne_iff_ne, ↓reduceIte, Int.reduceAdd, Int.reduceSub, Int.reduceToNat, Int.reduceNeg, Nat.reduceAdd, Nat.reduceMul, Nat.reduceSub, exists_eq_left', exists_eq_left, implies_true, forall_const, Site.l.injEq, Site.e.injEq, reduceCtorEq, beq_self_eq_true, ne_eq]; try rfl) (by simp (decide := true) (maxSteps := 4000000) -implicitDefEqProofs only [evs, tabs, puts, siteD, gget, tget, tset, initT, dstAt, ev, evC, plain, Hp.get, Hp.set, bnd, isCells, isRow, SubA, SubC, Sub, SubL, CvA, Cv, dis, ordB, ite_self, exists_eq', List.mem_cons, List.not_mem_nil, Site.m.injEq, bne_self_eq_false, beq_iff_eq, bne_iff_ne, ↓reduceIte, Int.reduceAdd, Int.reduceSub, Int.reduceToNat, Int.reduceNeg, Nat.reduceAdd, Nat.reduceMul, Nat.reduceSub, exists_eq_left', exists_eq_left, implies_true, forall_const, Site.l.injEq, Site.e.injEq, reduceCtorEq, beq_self_eq_true, ne_eq]) (by omega) ?_
    intro i hi
    have st := rep_ok hid hpc i (by omega)
    by_cases h : (i : Int) < m
    · have hw := wr_add1 h (by omega)
      have pe : putE (repV (⟨#[97]⟩ : ByteArray) p i) ⟨(⟨#[97]⟩ : ByteArray), p, [], []⟩ = 0 := putE_zero st (chkRec_bare hid hpc) (by rw [cnt_rep]; split <;> omega)
      simp (decide := true) (maxSteps := 4000000) -implicitDefEqProofs only [evs, tabs, puts, siteD, gget, tget, tset, initT, dstAt, ev, evC, plain, Hp.get, Hp.set, bnd, isCells, isRow, SubA, SubC, Sub, SubL, CvA, Cv, dis, ordB, ite_self, exists_eq', List.mem_cons, List.not_mem_nil, Site.m.injEq, bne_self_eq_false, beq_iff_eq, bne_iff_ne, ↓reduceIte, Int.reduceAdd, Int.reduceSub, Int.reduceToNat, Int.reduceNeg, Nat.reduceAdd, Nat.reduceMul, Nat.reduceSub, exists_eq_left', exists_eq_left, implies_true, forall_const, Site.l.injEq, Site.e.injEq, reduceCtorEq, beq_self_eq_true, ne_eq, h]
      refine call_ok (Put_ok (repV (⟨#[97]⟩ : ByteArray) p i) ⟨(⟨#[97]⟩ : ByteArray), p, [], []⟩) (by simp (decide := true) (maxSteps := 4000000) -implicitDefEqProofs only [evs, tabs, puts, siteD, gget, tget, tset, initT, dstAt, ev, evC, plain, Hp.get, Hp.set, bnd, isCells, isRow, SubA, SubC, Sub, SubL, CvA, Cv, dis, ordB, ite_self, exists_eq', List.mem_cons, List.not_mem_nil, Site.m.injEq, bne_self_eq_false, beq_iff_eq, bne_iff_ne, ↓reduceIte, Int.reduceAdd, Int.reduceSub, Int.reduceToNat, Int.reduceNeg, Nat.reduceAdd, Nat.reduceMul, Nat.reduceSub, exists_eq_left', exists_eq_left, implies_true, forall_const, Site.l.injEq, Site.e.injEq, reduceCtorEq, beq_self_eq_true, ne_eq]) ?_
      rw [pe, if_pos rfl, repV_add]
      simp (decide := true) (maxSteps := 4000000) -implicitDefEqProofs only [evs, tabs, puts, siteD, gget, tget, tset, initT, dstAt, ev, evC, plain, Hp.get, Hp.set, bnd, isCells, isRow, SubA, SubC, Sub, SubL, CvA, Cv, dis, ordB, ite_self, exists_eq', List.mem_cons, List.not_mem_nil, Site.m.injEq, bne_self_eq_false, beq_iff_eq, bne_iff_ne, ↓reduceIte, Int.reduceAdd, Int.reduceSub, Int.reduceToNat, Int.reduceNeg, Nat.reduceAdd, Nat.reduceMul, Nat.reduceSub, exists_eq_left', exists_eq_left, implies_true, forall_const, Site.l.injEq, Site.e.injEq, reduceCtorEq, beq_self_eq_true, ne_eq]
      exact Nxt.mk [] (i + 1) (by simp (decide := true) (maxSteps := 4000000) -implicitDefEqProofs only [evs, tabs, puts, siteD, gget, tget, tset, initT, dstAt, ev, evC, plain, Hp.get, Hp.set, bnd, isCells, isRow, SubA, SubC, Sub, SubL, CvA, Cv, dis, ordB, ite_self, exists_eq', List.mem_cons, List.not_mem_nil, Site.m.injEq, bne_self_eq_false, beq_iff_eq, bne_iff_ne, ↓reduceIte, Int.reduceAdd, Int.reduceSub, Int.reduceToNat, Int.reduceNeg, Nat.reduceAdd, Nat.reduceMul, Nat.reduceSub, exists_eq_left', exists_eq_left, implies_true, forall_const, Site.l.injEq, Site.e.injEq, reduceCtorEq, beq_self_eq_true, ne_eq, hw]) (by simp (decide := true) (maxSteps := 4000000) -implicitDefEqProofs only [evs, tabs, puts, siteD, gget, tget, tset, initT, dstAt, ev, evC, plain, Hp.get, Hp.set, bnd, isCells, isRow, SubA, SubC, Sub, SubL, CvA, Cv, dis, ordB, ite_self, exists_eq', List.mem_cons, List.not_mem_nil, Site.m.injEq, bne_self_eq_false, beq_iff_eq, bne_iff_ne, ↓reduceIte, Int.reduceAdd, Int.reduceSub, Int.reduceToNat, Int.reduceNeg, Nat.reduceAdd, Nat.reduceMul, Nat.reduceSub, exists_eq_left', exists_eq_left, implies_true, forall_const, Site.l.injEq, Site.e.injEq, reduceCtorEq, beq_self_eq_true, ne_eq]) (by omega) (by omega)
    · obtain rfl : i = m := by omega
      have lenE : (repV (⟨#[97]⟩ : ByteArray) p i).length = i := by simp [repV]
      have ca := cnt_rep (⟨#[97]⟩ : ByteArray) p p i
      have cb := cnt_rep (⟨#[97]⟩ : ByteArray) p q i
      rw [if_pos rfl] at ca
      have e1 : putE (repV (⟨#[97]⟩ : ByteArray) p i) ⟨⟨#[98]⟩, p, [], []⟩ = if i = 20 then 2 else 0 := by rw [putE, if_pos st, if_pos (chkRec_bare hB hpc)]; simp only [ca]
      have e2 : putE (repV (⟨#[97]⟩ : ByteArray) p i) ⟨⟨#[98]⟩, q, [], []⟩ = if p = q ∧ i = 20 then 2 else 0 := by
        rw [putE, if_pos st, if_pos (chkRec_bare hB hqc)]
        simp only [cb]
        by_cases hpq : p = q
        · simp [hpq]
        · have : ¬ (p : Int) = q := by omega
          simp [hpq, this]
      have ew : IntKind.i64.wrap ((i : Int) + 1) = ((i + 1 : Nat) : Int) := by rw [wr_i64 (by omega) (by omega)]; omega
      simp (decide := true) (maxSteps := 4000000) -implicitDefEqProofs only [evs, tabs, puts, siteD, gget, tget, tset, initT, dstAt, ev, evC, plain, Hp.get, Hp.set, bnd, isCells, isRow, SubA, SubC, Sub, SubL, CvA, Cv, dis, ordB, ite_self, exists_eq', List.mem_cons, List.not_mem_nil, Site.m.injEq, bne_self_eq_false, beq_iff_eq, bne_iff_ne, ↓reduceIte, Int.reduceAdd, Int.reduceSub, Int.reduceToNat, Int.reduceNeg, Nat.reduceAdd, Nat.reduceMul, Nat.reduceSub, exists_eq_left', exists_eq_left, implies_true, forall_const, Site.l.injEq, Site.e.injEq, reduceCtorEq, beq_self_eq_true, ne_eq, h, lenE]
      refine call_ok (Put_ok (repV (⟨#[97]⟩ : ByteArray) p i) ⟨⟨#[98]⟩, p, [], []⟩) (by simp (decide := true) (maxSteps := 4000000) -implicitDefEqProofs only [evs, tabs, puts, siteD, gget, tget, tset, initT, dstAt, ev, evC, plain, Hp.get, Hp.set, bnd, isCells, isRow, SubA, SubC, Sub, SubL, CvA, Cv, dis, ordB, ite_self, exists_eq', List.mem_cons, List.not_mem_nil, Site.m.injEq, bne_self_eq_false, beq_iff_eq, bne_iff_ne, ↓reduceIte, Int.reduceAdd, Int.reduceSub, Int.reduceToNat, Int.reduceNeg, Nat.reduceAdd, Nat.reduceMul, Nat.reduceSub, exists_eq_left', exists_eq_left, implies_true, forall_const, Site.l.injEq, Site.e.injEq, reduceCtorEq, beq_self_eq_true, ne_eq]) ?_
      by_cases h20 : i = 20
      · have h20' : (i : Int) = 20 := by omega
        rw [if_pos h20] at e1
        rw [e1, if_neg (by decide)]
        simp (decide := true) (maxSteps := 4000000) -implicitDefEqProofs only [evs, tabs, puts, siteD, gget, tget, tset, initT, dstAt, ev, evC, plain, Hp.get, Hp.set, bnd, isCells, isRow, SubA, SubC, Sub, SubL, CvA, Cv, dis, ordB, ite_self, exists_eq', List.mem_cons, List.not_mem_nil, Site.m.injEq, bne_self_eq_false, beq_iff_eq, bne_iff_ne, ↓reduceIte, Int.reduceAdd, Int.reduceSub, Int.reduceToNat, Int.reduceNeg, Nat.reduceAdd, Nat.reduceMul, Nat.reduceSub, exists_eq_left', exists_eq_left, implies_true, forall_const, Site.l.injEq, Site.e.injEq, reduceCtorEq, beq_self_eq_true, ne_eq, h20', lenE]
        refine call_ok (Put_ok (repV (⟨#[97]⟩ : ByteArray) p i) ⟨⟨#[98]⟩, q, [], []⟩) (by simp (decide := true) (maxSteps := 4000000) -implicitDefEqProofs only [evs, tabs, puts, siteD, gget, tget, tset, initT, dstAt, ev, evC, plain, Hp.get, Hp.set, bnd, isCells, isRow, SubA, SubC, Sub, SubL, CvA, Cv, dis, ordB, ite_self, exists_eq', List.mem_cons, List.not_mem_nil, Site.m.injEq, bne_self_eq_false, beq_iff_eq, bne_iff_ne, ↓reduceIte, Int.reduceAdd, Int.reduceSub, Int.reduceToNat, Int.reduceNeg, Nat.reduceAdd, Nat.reduceMul, Nat.reduceSub, exists_eq_left', exists_eq_left, implies_true, forall_const, Site.l.injEq, Site.e.injEq, reduceCtorEq, beq_self_eq_true, ne_eq]) ?_
        by_cases hpq : p = q
        · rw [if_pos ⟨hpq, h20⟩] at e2
          rw [e2, if_neg (by decide)]
          simp (decide := true) (maxSteps := 4000000) -implicitDefEqProofs only [evs, tabs, puts, siteD, gget, tget, tset, initT, dstAt, ev, evC, plain, Hp.get, Hp.set, bnd, isCells, isRow, SubA, SubC, Sub, SubL, CvA, Cv, dis, ordB, ite_self, exists_eq', List.mem_cons, List.not_mem_nil, Site.m.injEq, bne_self_eq_false, beq_iff_eq, bne_iff_ne, ↓reduceIte, Int.reduceAdd, Int.reduceSub, Int.reduceToNat, Int.reduceNeg, Nat.reduceAdd, Nat.reduceMul, Nat.reduceSub, exists_eq_left', exists_eq_left, implies_true, forall_const, Site.l.injEq, Site.e.injEq, reduceCtorEq, beq_self_eq_true, ne_eq, hpq]
        · have hpq' : ¬ (p : Int) = q := by omega
          rw [if_neg (fun h => hpq h.1)] at e2
          rw [e2, if_pos rfl]
          simp (decide := true) (maxSteps := 4000000) -implicitDefEqProofs only [evs, tabs, puts, siteD, gget, tget, tset, initT, dstAt, ev, evC, plain, Hp.get, Hp.set, bnd, isCells, isRow, SubA, SubC, Sub, SubL, CvA, Cv, dis, ordB, ite_self, exists_eq', List.mem_cons, List.not_mem_nil, Site.m.injEq, bne_self_eq_false, beq_iff_eq, bne_iff_ne, ↓reduceIte, Int.reduceAdd, Int.reduceSub, Int.reduceToNat, Int.reduceNeg, Nat.reduceAdd, Nat.reduceMul, Nat.reduceSub, exists_eq_left', exists_eq_left, implies_true, forall_const, Site.l.injEq, Site.e.injEq, reduceCtorEq, beq_self_eq_true, ne_eq, hpq', lenE, ew]
      · have h20' : ((i : Int) == 20) = false := by simpa using (show ¬ (i : Int) = 20 by omega)
        rw [if_neg h20] at e1
        rw [e1, if_pos rfl]
        simp (decide := true) (maxSteps := 4000000) -implicitDefEqProofs only [evs, tabs, puts, siteD, gget, tget, tset, initT, dstAt, ev, evC, plain, Hp.get, Hp.set, bnd, isCells, isRow, SubA, SubC, Sub, SubL, CvA, Cv, dis, ordB, ite_self, exists_eq', List.mem_cons, List.not_mem_nil, Site.m.injEq, bne_self_eq_false, beq_iff_eq, bne_iff_ne, ↓reduceIte, Int.reduceAdd, Int.reduceSub, Int.reduceToNat, Int.reduceNeg, Nat.reduceAdd, Nat.reduceMul, Nat.reduceSub, exists_eq_left', exists_eq_left, implies_true, forall_const, Site.l.injEq, Site.e.injEq, reduceCtorEq, beq_self_eq_true, ne_eq, h20', lenE, ew]
        refine call_ok (Put_ok (repV (⟨#[97]⟩ : ByteArray) p i) ⟨⟨#[98]⟩, q, [], []⟩) (by simp (decide := true) (maxSteps := 4000000) -implicitDefEqProofs only [evs, tabs, puts, siteD, gget, tget, tset, initT, dstAt, ev, evC, plain, Hp.get, Hp.set, bnd, isCells, isRow, SubA, SubC, Sub, SubL, CvA, Cv, dis, ordB, ite_self, exists_eq', List.mem_cons, List.not_mem_nil, Site.m.injEq, bne_self_eq_false, beq_iff_eq, bne_iff_ne, ↓reduceIte, Int.reduceAdd, Int.reduceSub, Int.reduceToNat, Int.reduceNeg, Nat.reduceAdd, Nat.reduceMul, Nat.reduceSub, exists_eq_left', exists_eq_left, implies_true, forall_const, Site.l.injEq, Site.e.injEq, reduceCtorEq, beq_self_eq_true, ne_eq]) ?_
        rw [if_neg (fun h => h20 h.2)] at e2
        rw [e2, if_pos rfl]
        by_cases hpq : p = q
        · subst hpq
          simp (decide := true) (maxSteps := 4000000) -implicitDefEqProofs only [evs, tabs, puts, siteD, gget, tget, tset, initT, dstAt, ev, evC, plain, Hp.get, Hp.set, bnd, isCells, isRow, SubA, SubC, Sub, SubL, CvA, Cv, dis, ordB, ite_self, exists_eq', List.mem_cons, List.not_mem_nil, Site.m.injEq, bne_self_eq_false, beq_iff_eq, bne_iff_ne, ↓reduceIte, Int.reduceAdd, Int.reduceSub, Int.reduceToNat, Int.reduceNeg, Nat.reduceAdd, Nat.reduceMul, Nat.reduceSub, exists_eq_left', exists_eq_left, implies_true, forall_const, Site.l.injEq, Site.e.injEq, reduceCtorEq, beq_self_eq_true, ne_eq, lenE, ew]
        · have hpq' : ¬ (p : Int) = q := by omega
          simp (decide := true) (maxSteps := 4000000) -implicitDefEqProofs only [evs, tabs, puts, siteD, gget, tget, tset, initT, dstAt, ev, evC, plain, Hp.get, Hp.set, bnd, isCells, isRow, SubA, SubC, Sub, SubL, CvA, Cv, dis, ordB, ite_self, exists_eq', List.mem_cons, List.not_mem_nil, Site.m.injEq, bne_self_eq_false, beq_iff_eq, bne_iff_ne, ↓reduceIte, Int.reduceAdd, Int.reduceSub, Int.reduceToNat, Int.reduceNeg, Nat.reduceAdd, Nat.reduceMul, Nat.reduceSub, exists_eq_left', exists_eq_left, implies_true, forall_const, Site.l.injEq, Site.e.injEq, reduceCtorEq, beq_self_eq_true, ne_eq, hpq', lenE, ew]
end Go.Proofs.Ytanbgeelphfggaa.E
