/- Walks: GroupSure. No conditions. -/
import Derived.Test.YtljickachmdejaaShip
namespace Go.Proofs.Ytljickachmdejaa.E
open Go
set_option linter.unusedSimpArgs false
set_option linter.unusedVariables false
set_option linter.unusedSectionVars false
set_option maxRecDepth 20000
set_option maxHeartbeats 4000000
def suStep (g : Gr) (c : List Int) : Gr := (shRun ⟨g, [], []⟩ [c]).g
def suRun (g : Gr) (l : List (List Int)) : Gr := l.foldl suStep g
theorem suRun_snoc {g : Gr} {l : List (List Int)} {i : Nat} {c : List Int} (h : l[i]? = some c) : suRun g (l.take (i + 1)) = suStep (suRun g (l.take i)) c := by
  unfold suRun
  rw [take_get h, List.foldl_append]
  rfl
theorem suStep_inv {g : Gr} (h : gInv g) (hl : g.log.length < 60) (c : List Int) : gInv (suStep g c) ∧ (suStep g c).n = g.n ∧ (suStep g c).log.length ≤ g.log.length + 1 ∧ gSure g ≤ gSure (suStep g c) := by
  obtain ⟨si, sa, sn, sl, _⟩ := shRun_inv (st := ⟨g, [], []⟩) ⟨h, by simp⟩ [c] (by simp only [List.length_singleton]; omega)
  exact ⟨si.g, sn, sl, sure_mono h.ok si.g.ok sn sa⟩
theorem suRun_inv {g : Gr} (h : gInv g) (l : List (List Int)) (hl : g.log.length + l.length ≤ 60) : gInv (suRun g l) ∧ (suRun g l).n = g.n ∧ (suRun g l).log.length ≤ g.log.length + l.length := by
  induction l generalizing g with
  | nil => exact ⟨h, rfl, by simp [suRun]⟩
  | cons c l ih =>
    rw [List.length_cons] at hl ⊢
    obtain ⟨s1, s3, s4, _⟩ := suStep_inv h (by omega) c
    obtain ⟨t1, t3, t4⟩ := ih s1 (by omega)
    have e : suRun g (c :: l) = suRun (suStep g c) l := rfl
    rw [e]
    exact ⟨t1, t3.trans s3, by omega⟩
/-- How many of the first j nodes have as many. -/
def cntH (g : Gr) (s : Int) : Nat → Nat
  | 0 => 0
  | j + 1 => cntH g s j + (if s ≤ ((gLog g j).length : Int) then 1 else 0)
theorem cntH_le (g : Gr) (s : Int) (j : Nat) : cntH g s j ≤ j := by
  induction j with
  | zero => exact Nat.le_refl _
  | succ j ih =>
    unfold cntH
    split <;> omega
theorem ack_log {g : Gr} (h : gInv g) {i : Nat} {x : Int} (hx : g.ack[i]? = some x) : x ≤ ((gLog g i).length : Int) := by
  cases i with
  | zero =>
    have := h.lead
    rw [hx] at this
    cases this
    exact Int.le_refl _
  | succ j =>
    have hj := (List.getElem?_eq_some_iff.1 hx).1
    have h1 := h.ok.2.2.1
    have h2 := h.ok.2.2.2.1
    have := (h.told j (by omega)).2
    rw [hx] at this
    exact this
theorem cntH_ack {g : Gr} (h : gInv g) (s : Int) : ∀ j, (g.ack.take j).countP (fun y => decide (s ≤ y)) ≤ cntH g s j := by
  intro j
  induction j with
  | zero => simp
  | succ j ih =>
    unfold cntH
    by_cases hj : j < g.ack.length
    · obtain ⟨x, hx⟩ := lt_get hj
      have hl := ack_log h hx
      rw [take_get hx, List.countP_append, List.countP_singleton]
      by_cases e : s ≤ x
      · rw [if_pos (decide_eq_true e), if_pos (by omega)]; omega
      · rw [if_neg (by rw [decide_eq_true_iff]; exact e)]
        omega
    · rw [List.take_of_length_le (by omega)] at ih ⊢
      omega
theorem cnt_two (s : Int) (l : List Int) : l.countP (fun y => decide (s ≤ y)) + l.countP (fun y => decide (y < s)) = l.length := by
  induction l with
  | nil => rfl
  | cons x l ih =>
    rw [List.countP_cons, List.countP_cons, List.length_cons]
    by_cases e : s ≤ x
    · rw [if_pos (decide_eq_true e), if_neg (by rw [decide_eq_true_iff]; omega)]; omega
    · rw [if_neg (by rw [decide_eq_true_iff]; exact e), if_pos (decide_eq_true (by omega))]; omega
theorem sure_most {g : Gr} (h : gInv g) : g.n < 2 * cntH g (gSure g) g.n := by
  have e := gSure_at h.ok
  have c1 := cnt_lt e
  have c2 := cnt_two (gSure g) g.ack
  have c3 := cntH_ack h (gSure g) g.n
  have hn := h.ok.2.2.2.1
  have hn1 := h.ok.1
  rw [← hn, List.take_length, hn] at c3
  omega
theorem sure_zero {n : Nat} (hn : n < 5) : gSure (gFull n []) = 0 := by
  cases n with
  | zero => exact gFull_one (by simp)
  | succ n => exact gFull_more (by omega) hn (by simp)
theorem sure_small {g : Gr} (h : gInv g) : 0 ≤ gSure g ∧ gSure g ≤ 60 := by
  have e := gSure_at h.ok
  have hp := (sortI_perm g.ack).mem_iff.1 (List.mem_of_getElem? e)
  obtain ⟨i, hi⟩ := List.getElem?_of_mem hp
  refine ⟨?_, Int.le_trans (ack_log h hi) ?_⟩
  · cases i with
    | zero =>
      have := h.lead
      rw [hi] at this
      have e2 := Option.some.inj this
      omega
    | succ j =>
      have hj := (List.getElem?_eq_some_iff.1 hi).1
      have h1 := h.ok.2.2.1
      have h2 := h.ok.2.2.2.1
      have := (h.told j (by omega)).1
      rw [hi] at this
      exact this
  · have h5 := h.ok.2.2.2.2.1
    cases i with
    | zero => exact Int.ofNat_le.2 h5
    | succ j => exact Int.ofNat_le.2 (gHas_len h.ok j)
theorem GroupSure_ok (n0 : Int) (l : List (List Int)) : Ok Try.prog 6 [I n0, intss l] (B true) := by
  obtain ⟨q, hq⟩ : ∃ q, q = l.take 60 := ⟨_, rfl⟩
  have hql : q.length ≤ 60 := by rw [hq, List.length_take]; omega
  have hm : (if (60 : Int) < l.length then 60 else (l.length : Int)) = (q.length : Int) := by rw [hq, List.length_take]; split <;> omega
  have ht : List.take q.length (List.map (fun c => [ints c]) l) = q.map (fun c => [ints c]) := by rw [← List.map_take, hq, List.length_take, ← List.take_eq_take_min]
  have hle : (q.length : Int) ≤ l.length := by rw [hq, List.length_take]; omega
  have h0 : (0 : Int) ≤ q.length := by omega
  have hqg : ∀ i c, q[i]? = some c → l[i]? = some c := fun i c hc => by
    rw [hq, List.getElem?_take] at hc
    split at hc
    · exact hc
    · cases hc
  obtain ⟨en, hn⟩ := wN_eq n0 (show 0 < 5 by omega)
  generalize wN n0 5 = n at en hn
  have hnw : IntKind.i64.wrap (1 + (n : Int)) = ((n + 1 : Nat) : Int) := by rw [wr_i64 (by omega) (by omega)]; omega
  have g0 := gNew_inv hn
  have gn : (gFull n []).n = n + 1 := rfl
  have gl : (gFull n []).log.length = 0 := rfl
  have gz := sure_zero hn
  refine Ok.of_wp (rs := [.tmp 4]) (n := 80) Try.func6 rfl rfl rfl (by simp) fo (by kernel_rfl) ?_
  simp (decide := true) (maxSteps := 4000000) -implicitDefEqProofs only [evs, tabs, puts, siteD, gget, tget, tset, initT, dstAt, ev, evC, plain, Hp.get, Hp.set, bnd, isCells, isRow, SubA, SubC, Sub, SubL, CvA, Cv, dis, ordB, ite_self, exists_eq', List.mem_cons, List.not_mem_nil, Site.m.injEq, bne_self_eq_false, beq_iff_eq, bne_iff_ne, ↓reduceIte, Int.reduceAdd, Int.reduceSub, Int.reduceToNat, Int.reduceNeg, Nat.reduceAdd, Nat.reduceMul, Nat.reduceSub, exists_eq_left', exists_eq_left, implies_true, forall_const, Site.l.injEq, Site.e.injEq, reduceCtorEq, beq_self_eq_true, ne_eq]
  refine call_eq groupBegun_ok ?_
  simp (decide := true) (maxSteps := 4000000) -implicitDefEqProofs only [evs, tabs, puts, siteD, gget, tget, tset, initT, dstAt, ev, evC, plain, Hp.get, Hp.set, bnd, isCells, isRow, SubA, SubC, Sub, SubL, CvA, Cv, dis, ordB, ite_self, exists_eq', List.mem_cons, List.not_mem_nil, Site.m.injEq, bne_self_eq_false, beq_iff_eq, bne_iff_ne, ↓reduceIte, Int.reduceAdd, Int.reduceSub, Int.reduceToNat, Int.reduceNeg, Nat.reduceAdd, Nat.reduceMul, Nat.reduceSub, exists_eq_left', exists_eq_left, implies_true, forall_const, Site.l.injEq, Site.e.injEq, reduceCtorEq, beq_self_eq_true, ne_eq]
  refine call_eq (Within_ok n0 5 (by omega) (by omega)) ?_
  rw [show within n0 5 = n from en]
  simp (decide := true) (maxSteps := 4000000) -implicitDefEqProofs only [evs, tabs, puts, siteD, gget, tget, tset, initT, dstAt, ev, evC, plain, Hp.get, Hp.set, bnd, isCells, isRow, SubA, SubC, Sub, SubL, CvA, Cv, dis, ordB, ite_self, exists_eq', List.mem_cons, List.not_mem_nil, Site.m.injEq, bne_self_eq_false, beq_iff_eq, bne_iff_ne, ↓reduceIte, Int.reduceAdd, Int.reduceSub, Int.reduceToNat, Int.reduceNeg, Nat.reduceAdd, Nat.reduceMul, Nat.reduceSub, exists_eq_left', exists_eq_left, implies_true, forall_const, Site.l.injEq, Site.e.injEq, reduceCtorEq, beq_self_eq_true, ne_eq, hnw]
  refine callH (grNewF hn _ rfl) [.l 23, .m 23 1, .m 23 2, .m 23 3, .m 23 4] ?_
  simp (decide := true) (maxSteps := 4000000) -implicitDefEqProofs only [evs, tabs, puts, siteD, gget, tget, tset, initT, dstAt, ev, evC, plain, Hp.get, Hp.set, bnd, isCells, isRow, SubA, SubC, Sub, SubL, CvA, Cv, dis, ordB, ite_self, exists_eq', List.mem_cons, List.not_mem_nil, Site.m.injEq, bne_self_eq_false, beq_iff_eq, bne_iff_ne, ↓reduceIte, Int.reduceAdd, Int.reduceSub, Int.reduceToNat, Int.reduceNeg, Nat.reduceAdd, Nat.reduceMul, Nat.reduceSub, exists_eq_left', exists_eq_left, implies_true, forall_const, Site.l.injEq, Site.e.injEq, reduceCtorEq, beq_self_eq_true, ne_eq, gfs, hm, ht, hle, h0]
  clear hm ht hq
  generalize gFull n [] = g0' at g0 gn gl gz
  refine ALoop.st [0, 1, 5, 7, 33, 34] (fun (i : Nat) => [I ((n + 1 : Nat) : Int), intss l, .ptr (.l 23) 1 0, I (gSure (suRun g0' (q.take i))), I q.length, I i]) (fun i => gAt 23 (suRun g0' (q.take i))) (fun i => i ≤ q.length) (fun i => q.length - i) [] 0 (by simp (decide := true) (maxSteps := 4000000) -implicitDefEqProofs only [evs, tabs, puts, siteD, gget, tget, tset, initT, dstAt, ev, evC, plain, Hp.get, Hp.set, bnd, isCells, isRow, SubA, SubC, Sub, SubL, CvA, Cv, dis, ordB, ite_self, exists_eq', List.mem_cons, List.not_mem_nil, Site.m.injEq, bne_self_eq_false, beq_iff_eq, bne_iff_ne, ↓reduceIte, Int.reduceAdd, Int.reduceSub, Int.reduceToNat, Int.reduceNeg, Nat.reduceAdd, Nat.reduceMul, Nat.reduceSub, exists_eq_left', exists_eq_left, implies_true, forall_const, Site.l.injEq, Site.e.injEq, reduceCtorEq, beq_self_eq_true, ne_eq, gfs, List.take_zero, suRun, List.foldl_nil, gz]) (by simp (decide := true) (maxSteps := 4000000) -implicitDefEqProofs only [evs, tabs, puts, siteD, gget, tget, tset, initT, dstAt, ev, evC, plain, Hp.get, Hp.set, bnd, isCells, isRow, SubA, SubC, Sub, SubL, CvA, Cv, dis, ordB, ite_self, exists_eq', List.mem_cons, List.not_mem_nil, Site.m.injEq, bne_self_eq_false, beq_iff_eq, bne_iff_ne, ↓reduceIte, Int.reduceAdd, Int.reduceSub, Int.reduceToNat, Int.reduceNeg, Nat.reduceAdd, Nat.reduceMul, Nat.reduceSub, exists_eq_left', exists_eq_left, implies_true, forall_const, Site.l.injEq, Site.e.injEq, reduceCtorEq, beq_self_eq_true, ne_eq, gfs, List.take_zero, suRun, List.foldl_nil]) (by omega) ?_
  intro i hi
  by_cases h : (i : Int) < q.length
  · obtain ⟨c, hc⟩ := lt_get (l := q) (i := i) (by omega)
    have hw := wr_add1 h (by omega)
    have hc2 := hqg i c hc
    obtain ⟨s1, s2, s3⟩ := suRun_inv g0 (q.take i) (by rw [List.length_take]; omega)
    rw [List.length_take, gl] at s3
    rw [gn] at s2
    have hs := suRun_snoc (g := g0') hc
    generalize suRun g0' (q.take i) = g at s1 s2 s3 hs ⊢
    obtain ⟨t1, t2, t3, t4⟩ := suStep_inv s1 (by omega) c
    have cSh := shipped_ok s1 [c] (by simp only [List.take_succ_cons, List.take_zero, List.take_nil, List.length_singleton]; omega)
    have e60 : List.take 60 [c] = [c] := rfl
    rw [e60, show (shRun ⟨g, [], []⟩ [c]).g = suStep g c from rfl, s2] at cSh
    rw [s2] at t2
    have cSh : OkH Try.prog 21 [.ptr (.e 0) 0 0, I ((n + 1 : Nat) : Int), .list 1 [[ints c]]] (grH g) (.tup [E.strs (shRun ⟨g, [], []⟩ [c]).news, B true]) (grHv (suStep g c) (shRun ⟨g, [], []⟩ [c]).news.length 0) := cSh
    generalize (shRun ⟨g, [], []⟩ [c]).news = nw at cSh
    obtain ⟨z1, z2⟩ := sure_small t1
    have cU := grSure_ok t1.ok
    have hmost := sure_most t1
    rw [t2] at hmost
    generalize suStep g c = g' at *
    have hl2 : List.drop i (List.take (i + 1) (l.map fun c => [ints c])) = [[ints c]] := by
      rw [← List.map_take, ← List.map_drop, take_get hc2, List.drop_append_of_le_length (by rw [List.length_take]; have := (List.getElem?_eq_some_iff.1 hc2).1; omega), List.drop_eq_nil_of_le (by rw [List.length_take]; omega)]
      rfl
    have hq1 : (0 : Int) ≤ i := by omega
    have hq2 : (i : Int) ≤ ((i + 1 : Nat) : Int) := by omega
    have hq3 : ((i + 1 : Nat) : Int) ≤ l.length := by omega
    have ht4 : ¬ (gSure g' < gSure g) := by omega
    simp (decide := true) (maxSteps := 4000000) -implicitDefEqProofs only [evs, tabs, puts, siteD, gget, tget, tset, initT, dstAt, ev, evC, plain, Hp.get, Hp.set, bnd, isCells, isRow, SubA, SubC, Sub, SubL, CvA, Cv, dis, ordB, ite_self, exists_eq', List.mem_cons, List.not_mem_nil, Site.m.injEq, bne_self_eq_false, beq_iff_eq, bne_iff_ne, ↓reduceIte, Int.reduceAdd, Int.reduceSub, Int.reduceToNat, Int.reduceNeg, Nat.reduceAdd, Nat.reduceMul, Nat.reduceSub, exists_eq_left', exists_eq_left, implies_true, forall_const, Site.l.injEq, Site.e.injEq, reduceCtorEq, beq_self_eq_true, ne_eq, h, hw, hq1, hq2, hq3, hl2]
    refine callH cSh [.l 23, .m 23 1, .m 23 2, .m 23 3, .m 23 4] ?_
    simp (decide := true) (maxSteps := 4000000) -implicitDefEqProofs only [evs, tabs, puts, siteD, gget, tget, tset, initT, dstAt, ev, evC, plain, Hp.get, Hp.set, bnd, isCells, isRow, SubA, SubC, Sub, SubL, CvA, Cv, dis, ordB, ite_self, exists_eq', List.mem_cons, List.not_mem_nil, Site.m.injEq, bne_self_eq_false, beq_iff_eq, bne_iff_ne, ↓reduceIte, Int.reduceAdd, Int.reduceSub, Int.reduceToNat, Int.reduceNeg, Nat.reduceAdd, Nat.reduceMul, Nat.reduceSub, exists_eq_left', exists_eq_left, implies_true, forall_const, Site.l.injEq, Site.e.injEq, reduceCtorEq, beq_self_eq_true, ne_eq, gfs]
    refine callH cU [.l 23, .m 23 1, .m 23 2, .m 23 3, .m 23 4] ?_
    simp (decide := true) (maxSteps := 4000000) -implicitDefEqProofs only [evs, tabs, puts, siteD, gget, tget, tset, initT, dstAt, ev, evC, plain, Hp.get, Hp.set, bnd, isCells, isRow, SubA, SubC, Sub, SubL, CvA, Cv, dis, ordB, ite_self, exists_eq', List.mem_cons, List.not_mem_nil, Site.m.injEq, bne_self_eq_false, beq_iff_eq, bne_iff_ne, ↓reduceIte, Int.reduceAdd, Int.reduceSub, Int.reduceToNat, Int.reduceNeg, Nat.reduceAdd, Nat.reduceMul, Nat.reduceSub, exists_eq_left', exists_eq_left, implies_true, forall_const, Site.l.injEq, Site.e.injEq, reduceCtorEq, beq_self_eq_true, ne_eq, gfs, ht4]
    refine ALoop.st [0, 1, 5, 7, 11, 12, 33, 34, 56, 57] (fun (j : Nat) => [I ((n + 1 : Nat) : Int), intss l, .ptr (.l 23) 1 0, I (gSure g'), I (gSure g'), I (cntH g' (gSure g') j), I q.length, I i, I ((n + 1 : Nat) : Int), I j]) (fun j => gAt 23 g') (fun j => j ≤ n + 1) (fun j => n + 1 - j) [] 0 (by simp (decide := true) (maxSteps := 4000000) -implicitDefEqProofs only [evs, tabs, puts, siteD, gget, tget, tset, initT, dstAt, ev, evC, plain, Hp.get, Hp.set, bnd, isCells, isRow, SubA, SubC, Sub, SubL, CvA, Cv, dis, ordB, ite_self, exists_eq', List.mem_cons, List.not_mem_nil, Site.m.injEq, bne_self_eq_false, beq_iff_eq, bne_iff_ne, ↓reduceIte, Int.reduceAdd, Int.reduceSub, Int.reduceToNat, Int.reduceNeg, Nat.reduceAdd, Nat.reduceMul, Nat.reduceSub, exists_eq_left', exists_eq_left, implies_true, forall_const, Site.l.injEq, Site.e.injEq, reduceCtorEq, beq_self_eq_true, ne_eq, gfs, cntH]; try rfl) (by simp (decide := true) (maxSteps := 4000000) -implicitDefEqProofs only [evs, tabs, puts, siteD, gget, tget, tset, initT, dstAt, ev, evC, plain, Hp.get, Hp.set, bnd, isCells, isRow, SubA, SubC, Sub, SubL, CvA, Cv, dis, ordB, ite_self, exists_eq', List.mem_cons, List.not_mem_nil, Site.m.injEq, bne_self_eq_false, beq_iff_eq, bne_iff_ne, ↓reduceIte, Int.reduceAdd, Int.reduceSub, Int.reduceToNat, Int.reduceNeg, Nat.reduceAdd, Nat.reduceMul, Nat.reduceSub, exists_eq_left', exists_eq_left, implies_true, forall_const, Site.l.injEq, Site.e.injEq, reduceCtorEq, beq_self_eq_true, ne_eq, gfs, or_true]) (by omega) ?_
    intro j hj
    by_cases h2 : (j : Int) < ((n + 1 : Nat) : Int)
    · have hw2 : IntKind.i64.wrap ((j : Int) + 1) = ((j + 1 : Nat) : Int) := by rw [wr_i64 (by omega) (by omega)]; omega
      have cL := grLog_ok t1.ok (i := j) (by omega)
      have hcl := cntH_le g' (gSure g') j
      have hcs : cntH g' (gSure g') (j + 1) = cntH g' (gSure g') j + (if gSure g' ≤ ((gLog g' j).length : Int) then 1 else 0) := rfl
      generalize cntH g' (gSure g') j = k at hcl hcs ⊢
      have hw3 : IntKind.i64.wrap ((k : Int) + 1) = ((k + 1 : Nat) : Int) := by rw [wr_i64 (by omega) (by omega)]; omega
      simp (decide := true) (maxSteps := 4000000) -implicitDefEqProofs only [evs, tabs, puts, siteD, gget, tget, tset, initT, dstAt, ev, evC, plain, Hp.get, Hp.set, bnd, isCells, isRow, SubA, SubC, Sub, SubL, CvA, Cv, dis, ordB, ite_self, exists_eq', List.mem_cons, List.not_mem_nil, Site.m.injEq, bne_self_eq_false, beq_iff_eq, bne_iff_ne, ↓reduceIte, Int.reduceAdd, Int.reduceSub, Int.reduceToNat, Int.reduceNeg, Nat.reduceAdd, Nat.reduceMul, Nat.reduceSub, exists_eq_left', exists_eq_left, implies_true, forall_const, Site.l.injEq, Site.e.injEq, reduceCtorEq, beq_self_eq_true, ne_eq, gfs, h2]
      refine callH cL [.l 23, .m 23 1, .m 23 2, .m 23 3, .m 23 4] ?_
      by_cases h3 : gSure g' ≤ ((gLog g' j).length : Int)
      · rw [if_pos h3] at hcs
        have h3' : ((gLog g' j).length : Int) ≥ gSure g' := h3
        simp (decide := true) (maxSteps := 4000000) -implicitDefEqProofs only [evs, tabs, puts, siteD, gget, tget, tset, initT, dstAt, ev, evC, plain, Hp.get, Hp.set, bnd, isCells, isRow, SubA, SubC, Sub, SubL, CvA, Cv, dis, ordB, ite_self, exists_eq', List.mem_cons, List.not_mem_nil, Site.m.injEq, bne_self_eq_false, beq_iff_eq, bne_iff_ne, ↓reduceIte, Int.reduceAdd, Int.reduceSub, Int.reduceToNat, Int.reduceNeg, Nat.reduceAdd, Nat.reduceMul, Nat.reduceSub, exists_eq_left', exists_eq_left, implies_true, forall_const, Site.l.injEq, Site.e.injEq, reduceCtorEq, beq_self_eq_true, ne_eq, gfs, h3']
        exact Nxt.mk [] (j + 1) (by simp (decide := true) (maxSteps := 4000000) -implicitDefEqProofs only [evs, tabs, puts, siteD, gget, tget, tset, initT, dstAt, ev, evC, plain, Hp.get, Hp.set, bnd, isCells, isRow, SubA, SubC, Sub, SubL, CvA, Cv, dis, ordB, ite_self, exists_eq', List.mem_cons, List.not_mem_nil, Site.m.injEq, bne_self_eq_false, beq_iff_eq, bne_iff_ne, ↓reduceIte, Int.reduceAdd, Int.reduceSub, Int.reduceToNat, Int.reduceNeg, Nat.reduceAdd, Nat.reduceMul, Nat.reduceSub, exists_eq_left', exists_eq_left, implies_true, forall_const, Site.l.injEq, Site.e.injEq, reduceCtorEq, beq_self_eq_true, ne_eq, gfs, hw2, hw3, hcs]) (by simp (decide := true) (maxSteps := 4000000) -implicitDefEqProofs only [evs, tabs, puts, siteD, gget, tget, tset, initT, dstAt, ev, evC, plain, Hp.get, Hp.set, bnd, isCells, isRow, SubA, SubC, Sub, SubL, CvA, Cv, dis, ordB, ite_self, exists_eq', List.mem_cons, List.not_mem_nil, Site.m.injEq, bne_self_eq_false, beq_iff_eq, bne_iff_ne, ↓reduceIte, Int.reduceAdd, Int.reduceSub, Int.reduceToNat, Int.reduceNeg, Nat.reduceAdd, Nat.reduceMul, Nat.reduceSub, exists_eq_left', exists_eq_left, implies_true, forall_const, Site.l.injEq, Site.e.injEq, reduceCtorEq, beq_self_eq_true, ne_eq, gfs, or_true]) (by omega) (by omega)
      · rw [if_neg h3, Nat.add_zero] at hcs
        have h3' : ¬ (((gLog g' j).length : Int) ≥ gSure g') := h3
        simp (decide := true) (maxSteps := 4000000) -implicitDefEqProofs only [evs, tabs, puts, siteD, gget, tget, tset, initT, dstAt, ev, evC, plain, Hp.get, Hp.set, bnd, isCells, isRow, SubA, SubC, Sub, SubL, CvA, Cv, dis, ordB, ite_self, exists_eq', List.mem_cons, List.not_mem_nil, Site.m.injEq, bne_self_eq_false, beq_iff_eq, bne_iff_ne, ↓reduceIte, Int.reduceAdd, Int.reduceSub, Int.reduceToNat, Int.reduceNeg, Nat.reduceAdd, Nat.reduceMul, Nat.reduceSub, exists_eq_left', exists_eq_left, implies_true, forall_const, Site.l.injEq, Site.e.injEq, reduceCtorEq, beq_self_eq_true, ne_eq, gfs, h3']
        exact Nxt.mk [] (j + 1) (by simp (decide := true) (maxSteps := 4000000) -implicitDefEqProofs only [evs, tabs, puts, siteD, gget, tget, tset, initT, dstAt, ev, evC, plain, Hp.get, Hp.set, bnd, isCells, isRow, SubA, SubC, Sub, SubL, CvA, Cv, dis, ordB, ite_self, exists_eq', List.mem_cons, List.not_mem_nil, Site.m.injEq, bne_self_eq_false, beq_iff_eq, bne_iff_ne, ↓reduceIte, Int.reduceAdd, Int.reduceSub, Int.reduceToNat, Int.reduceNeg, Nat.reduceAdd, Nat.reduceMul, Nat.reduceSub, exists_eq_left', exists_eq_left, implies_true, forall_const, Site.l.injEq, Site.e.injEq, reduceCtorEq, beq_self_eq_true, ne_eq, gfs, hw2, hcs]) (by simp (decide := true) (maxSteps := 4000000) -implicitDefEqProofs only [evs, tabs, puts, siteD, gget, tget, tset, initT, dstAt, ev, evC, plain, Hp.get, Hp.set, bnd, isCells, isRow, SubA, SubC, Sub, SubL, CvA, Cv, dis, ordB, ite_self, exists_eq', List.mem_cons, List.not_mem_nil, Site.m.injEq, bne_self_eq_false, beq_iff_eq, bne_iff_ne, ↓reduceIte, Int.reduceAdd, Int.reduceSub, Int.reduceToNat, Int.reduceNeg, Nat.reduceAdd, Nat.reduceMul, Nat.reduceSub, exists_eq_left', exists_eq_left, implies_true, forall_const, Site.l.injEq, Site.e.injEq, reduceCtorEq, beq_self_eq_true, ne_eq, gfs, or_true]) (by omega) (by omega)
    · obtain rfl : j = n + 1 := by omega
      have hcl := cntH_le g' (gSure g') (n + 1)
      generalize cntH g' (gSure g') (n + 1) = k at hcl hmost ⊢
      have hw4 : IntKind.i64.wrap (2 * (k : Int)) = ((2 * k : Nat) : Int) := by rw [wr_i64 (by omega) (by omega)]; omega
      have hk : ¬ (((2 * k : Nat) : Int) ≤ ((n + 1 : Nat) : Int)) := by omega
      simp (decide := true) (maxSteps := 4000000) -implicitDefEqProofs only [evs, tabs, puts, siteD, gget, tget, tset, initT, dstAt, ev, evC, plain, Hp.get, Hp.set, bnd, isCells, isRow, SubA, SubC, Sub, SubL, CvA, Cv, dis, ordB, ite_self, exists_eq', List.mem_cons, List.not_mem_nil, Site.m.injEq, bne_self_eq_false, beq_iff_eq, bne_iff_ne, ↓reduceIte, Int.reduceAdd, Int.reduceSub, Int.reduceToNat, Int.reduceNeg, Nat.reduceAdd, Nat.reduceMul, Nat.reduceSub, exists_eq_left', exists_eq_left, implies_true, forall_const, Site.l.injEq, Site.e.injEq, reduceCtorEq, beq_self_eq_true, ne_eq, gfs, h2, hw4, hk]
      exact Nxt.mk [] (i + 1) (by simp (decide := true) (maxSteps := 4000000) -implicitDefEqProofs only [evs, tabs, puts, siteD, gget, tget, tset, initT, dstAt, ev, evC, plain, Hp.get, Hp.set, bnd, isCells, isRow, SubA, SubC, Sub, SubL, CvA, Cv, dis, ordB, ite_self, exists_eq', List.mem_cons, List.not_mem_nil, Site.m.injEq, bne_self_eq_false, beq_iff_eq, bne_iff_ne, ↓reduceIte, Int.reduceAdd, Int.reduceSub, Int.reduceToNat, Int.reduceNeg, Nat.reduceAdd, Nat.reduceMul, Nat.reduceSub, exists_eq_left', exists_eq_left, implies_true, forall_const, Site.l.injEq, Site.e.injEq, reduceCtorEq, beq_self_eq_true, ne_eq, gfs, hw, hs]) (by simp (decide := true) (maxSteps := 4000000) -implicitDefEqProofs only [evs, tabs, puts, siteD, gget, tget, tset, initT, dstAt, ev, evC, plain, Hp.get, Hp.set, bnd, isCells, isRow, SubA, SubC, Sub, SubL, CvA, Cv, dis, ordB, ite_self, exists_eq', List.mem_cons, List.not_mem_nil, Site.m.injEq, bne_self_eq_false, beq_iff_eq, bne_iff_ne, ↓reduceIte, Int.reduceAdd, Int.reduceSub, Int.reduceToNat, Int.reduceNeg, Nat.reduceAdd, Nat.reduceMul, Nat.reduceSub, exists_eq_left', exists_eq_left, implies_true, forall_const, Site.l.injEq, Site.e.injEq, reduceCtorEq, beq_self_eq_true, ne_eq, gfs, or_true, hs]) (by omega) (by omega)
  · simp (decide := true) (maxSteps := 4000000) -implicitDefEqProofs only [evs, tabs, puts, siteD, gget, tget, tset, initT, dstAt, ev, evC, plain, Hp.get, Hp.set, bnd, isCells, isRow, SubA, SubC, Sub, SubL, CvA, Cv, dis, ordB, ite_self, exists_eq', List.mem_cons, List.not_mem_nil, Site.m.injEq, bne_self_eq_false, beq_iff_eq, bne_iff_ne, ↓reduceIte, Int.reduceAdd, Int.reduceSub, Int.reduceToNat, Int.reduceNeg, Nat.reduceAdd, Nat.reduceMul, Nat.reduceSub, exists_eq_left', exists_eq_left, implies_true, forall_const, Site.l.injEq, Site.e.injEq, reduceCtorEq, beq_self_eq_true, ne_eq, h]
end Go.Proofs.Ytljickachmdejaa.E
