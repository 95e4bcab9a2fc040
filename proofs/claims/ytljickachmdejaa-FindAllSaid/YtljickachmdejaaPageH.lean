/- Walks: find.Page of a row of one's own. No conditions. -/
import Derived.Test.YtljickachmdejaaPageS
namespace Go.Proofs.Ytljickachmdejaa.E
open Go
set_option linter.unusedSimpArgs false
set_option linter.unusedVariables false
set_option linter.unusedSectionVars false
set_option maxRecDepth 20000
set_option maxHeartbeats 1000000
theorem cloneR_ok (R : List (List AV)) (off m : Nat) (hm : m ≤ 1000000) (ho : off + m ≤ R.length) : OkH Try.prog 30 [.own (.e 0) 0 1 off m] [.row 9 1 none R] (.own (.e 1) 1 1 0 m) [(0, .row 9 1 none R), (1, .row 9 1 none (List.take m (List.drop off R)))] := by
  have hz : (List.take m (List.drop off R)).length = m := by rw [List.length_take, List.length_drop]; omega
  have ht : List.take m (List.drop off R) = List.take m (List.drop off R) := rfl
  refine OkH.of_wpX (rs := [.tmp 2]) (n := 8) Try.func30 rfl rfl rfl (by simp) fo (by kernel_rfl) ?_
  simp (decide := true) (maxSteps := 4000000) -implicitDefEqProofs only [evs, tabs, puts, siteD, gget, tget, tset, initT, dstAt, ev, evC, plain, Hp.get, Hp.set, bnd, isCells, isRow, SubA, SubC, Sub, SubL, CvA, Cv, dis, ordB, ite_self, exists_eq', List.mem_cons, List.not_mem_nil, Site.m.injEq, bne_self_eq_false, beq_iff_eq, bne_iff_ne, ↓reduceIte, Int.reduceAdd, Int.reduceSub, Int.reduceToNat, Int.reduceNeg, Nat.reduceAdd, Nat.reduceMul, Nat.reduceSub, exists_eq_left', exists_eq_left, implies_true, forall_const, Site.l.injEq, Site.e.injEq, reduceCtorEq, beq_self_eq_true, ne_eq, ho]
  refine ⟨fun h => ⟨[none], ?_⟩, by rw [hz]; omega, ⟨[some (.l 5)], ?_⟩⟩
  · subst h
    simp (decide := true) (maxSteps := 4000000) -implicitDefEqProofs only [evs, tabs, puts, siteD, gget, tget, tset, initT, dstAt, ev, evC, plain, Hp.get, Hp.set, bnd, isCells, isRow, SubA, SubC, Sub, SubL, CvA, Cv, dis, ordB, ite_self, exists_eq', List.mem_cons, List.not_mem_nil, Site.m.injEq, bne_self_eq_false, beq_iff_eq, bne_iff_ne, ↓reduceIte, Int.reduceAdd, Int.reduceSub, Int.reduceToNat, Int.reduceNeg, Nat.reduceAdd, Nat.reduceMul, Nat.reduceSub, exists_eq_left', exists_eq_left, implies_true, forall_const, Site.l.injEq, Site.e.injEq, reduceCtorEq, beq_self_eq_true, ne_eq, List.take_zero, or_true]
  · simp (decide := true) (maxSteps := 4000000) -implicitDefEqProofs only [evs, tabs, puts, siteD, gget, tget, tset, initT, dstAt, ev, evC, plain, Hp.get, Hp.set, bnd, isCells, isRow, SubA, SubC, Sub, SubL, CvA, Cv, dis, ordB, ite_self, exists_eq', List.mem_cons, List.not_mem_nil, Site.m.injEq, bne_self_eq_false, beq_iff_eq, bne_iff_ne, ↓reduceIte, Int.reduceAdd, Int.reduceSub, Int.reduceToNat, Int.reduceNeg, Nat.reduceAdd, Nat.reduceMul, Nat.reduceSub, exists_eq_left', exists_eq_left, implies_true, forall_const, Site.l.injEq, Site.e.injEq, reduceCtorEq, beq_self_eq_true, ne_eq, hz, or_true]
theorem PageH_ok (l : List ByteArray) (R : List (List AV)) (off : Nat) (k : ByteArray) (n : Nat) (hRl : off + l.length ≤ R.length) (hRt : List.take l.length (List.drop off R) = l.map fun s => [S s]) (hl : l.length ≤ 5120) (hs : StrUp l) (hn0 : 1 ≤ n) (hn : n ≤ 60) : OkH Try.prog 23 [.own (.e 0) 0 1 off l.length, S k, I n] [.row 9 1 none R] (.tup [strs ((l.drop (pgAt l k)).take n), B (decide (pgAt l k + n < l.length)), I 0]) [(0, .row 9 1 none R)] := by
  have hat : ∀ (i : Nat) (x : ByteArray), l[i]? = some x → R[off + i]? = some [S x] := fun i x hx => by
    have h1 : (List.take l.length (List.drop off R))[i]? = some [S x] := by rw [hRt, List.getElem?_map, hx]; rfl
    rw [List.getElem?_take, if_pos (List.getElem?_eq_some_iff.1 hx).1, List.getElem?_drop] at h1
    exact h1
  refine OkH.of_wp (rs := [.tmp 6, .tmp 7, .tmp 8]) (n := 66) [] Try.func23 rfl rfl rfl (by simp) fo (by kernel_rfl) ?_
  have h1 : ¬ ((l.length : Int) > 5120) := by omega
  simp (decide := true) (maxSteps := 4000000) -implicitDefEqProofs only [evs, tabs, puts, siteD, gget, tget, tset, initT, dstAt, ev, evC, plain, Hp.get, Hp.set, bnd, isCells, isRow, SubA, SubC, Sub, SubL, CvA, Cv, dis, ordB, ite_self, exists_eq', List.mem_cons, List.not_mem_nil, Site.m.injEq, bne_self_eq_false, beq_iff_eq, bne_iff_ne, ↓reduceIte, Int.reduceAdd, Int.reduceSub, Int.reduceToNat, Int.reduceNeg, Nat.reduceAdd, Nat.reduceMul, Nat.reduceSub, exists_eq_left', exists_eq_left, implies_true, forall_const, Site.l.injEq, Site.e.injEq, reduceCtorEq, beq_self_eq_true, ne_eq, h1]
  refine ALoop.st [0, 1, 2, 16, 17, 18] (fun (i : Nat) => [.own (.e 0) 0 1 off l.length, S k, I n, .own (.e 0) 0 1 off l.length, I l.length, I i]) (fun _ => [(.e 0, 0, .row 9 1 none R)]) (fun i => i ≤ l.length) (fun i => l.length - i) [] 0 (by simp (decide := true) (maxSteps := 4000000) -implicitDefEqProofs only [evs, tabs, puts, siteD, gget, tget, tset, initT, dstAt, ev, evC, plain, Hp.get, Hp.set, bnd, isCells, isRow, SubA, SubC, Sub, SubL, CvA, Cv, dis, ordB, ite_self, exists_eq', List.mem_cons, List.not_mem_nil, Site.m.injEq, bne_self_eq_false, beq_iff_eq, bne_iff_ne, ↓reduceIte, Int.reduceAdd, Int.reduceSub, Int.reduceToNat, Int.reduceNeg, Nat.reduceAdd, Nat.reduceMul, Nat.reduceSub, exists_eq_left', exists_eq_left, implies_true, forall_const, Site.l.injEq, Site.e.injEq, reduceCtorEq, beq_self_eq_true, ne_eq]) (by simp (decide := true) (maxSteps := 4000000) -implicitDefEqProofs only [evs, tabs, puts, siteD, gget, tget, tset, initT, dstAt, ev, evC, plain, Hp.get, Hp.set, bnd, isCells, isRow, SubA, SubC, Sub, SubL, CvA, Cv, dis, ordB, ite_self, exists_eq', List.mem_cons, List.not_mem_nil, Site.m.injEq, bne_self_eq_false, beq_iff_eq, bne_iff_ne, ↓reduceIte, Int.reduceAdd, Int.reduceSub, Int.reduceToNat, Int.reduceNeg, Nat.reduceAdd, Nat.reduceMul, Nat.reduceSub, exists_eq_left', exists_eq_left, implies_true, forall_const, Site.l.injEq, Site.e.injEq, reduceCtorEq, beq_self_eq_true, ne_eq]) (by omega) ?_
  intro i hi
  by_cases h : (i : Int) < l.length
  · obtain ⟨x, hx⟩ := lt_get (l := l) (i := i) (by omega)
    have hw := wr_add1 h (by omega)
    by_cases h0 : i = 0
    · subst h0
      simp (decide := true) (maxSteps := 4000000) -implicitDefEqProofs only [evs, tabs, puts, siteD, gget, tget, tset, initT, dstAt, ev, evC, plain, Hp.get, Hp.set, bnd, isCells, isRow, SubA, SubC, Sub, SubL, CvA, Cv, dis, ordB, ite_self, exists_eq', List.mem_cons, List.not_mem_nil, Site.m.injEq, bne_self_eq_false, beq_iff_eq, bne_iff_ne, ↓reduceIte, Int.reduceAdd, Int.reduceSub, Int.reduceToNat, Int.reduceNeg, Nat.reduceAdd, Nat.reduceMul, Nat.reduceSub, exists_eq_left', exists_eq_left, implies_true, forall_const, Site.l.injEq, Site.e.injEq, reduceCtorEq, beq_self_eq_true, ne_eq, h]
      exact Nxt.mk [] 1 (by simp (decide := true) (maxSteps := 4000000) -implicitDefEqProofs only [evs, tabs, puts, siteD, gget, tget, tset, initT, dstAt, ev, evC, plain, Hp.get, Hp.set, bnd, isCells, isRow, SubA, SubC, Sub, SubL, CvA, Cv, dis, ordB, ite_self, exists_eq', List.mem_cons, List.not_mem_nil, Site.m.injEq, bne_self_eq_false, beq_iff_eq, bne_iff_ne, ↓reduceIte, Int.reduceAdd, Int.reduceSub, Int.reduceToNat, Int.reduceNeg, Nat.reduceAdd, Nat.reduceMul, Nat.reduceSub, exists_eq_left', exists_eq_left, implies_true, forall_const, Site.l.injEq, Site.e.injEq, reduceCtorEq, beq_self_eq_true, ne_eq, hw]; try rfl) (by simp (decide := true) (maxSteps := 4000000) -implicitDefEqProofs only [evs, tabs, puts, siteD, gget, tget, tset, initT, dstAt, ev, evC, plain, Hp.get, Hp.set, bnd, isCells, isRow, SubA, SubC, Sub, SubL, CvA, Cv, dis, ordB, ite_self, exists_eq', List.mem_cons, List.not_mem_nil, Site.m.injEq, bne_self_eq_false, beq_iff_eq, bne_iff_ne, ↓reduceIte, Int.reduceAdd, Int.reduceSub, Int.reduceToNat, Int.reduceNeg, Nat.reduceAdd, Nat.reduceMul, Nat.reduceSub, exists_eq_left', exists_eq_left, implies_true, forall_const, Site.l.injEq, Site.e.injEq, reduceCtorEq, beq_self_eq_true, ne_eq]) (by omega) (by omega)
    · have h0' : ((i : Int) > 0) := by omega
      obtain ⟨y, hy⟩ := lt_get (l := l) (i := i - 1) (by omega)
      have hw2 : IntKind.i64.wrap ((i : Int) - 1) = ((i - 1 : Nat) : Int) := by rw [wr_i64 (by omega) (by omega)]; omega
      have hyx : sLt y x = true := by
        obtain ⟨a1, a2⟩ := List.getElem?_eq_some_iff.1 hy
        obtain ⟨b1, b2⟩ := List.getElem?_eq_some_iff.1 hx
        have := List.pairwise_iff_getElem.1 hs (i - 1) i a1 b1 (by omega)
        rwa [a2, b2] at this
      have hlt : ((i - 1 : Nat) : Int) < l.length := by omega
      unfold sLt at hyx
      simp (decide := true) (maxSteps := 4000000) -implicitDefEqProofs only [evs, tabs, puts, siteD, gget, tget, tset, initT, dstAt, ev, evC, plain, Hp.get, Hp.set, bnd, isCells, isRow, SubA, SubC, Sub, SubL, CvA, Cv, dis, ordB, ite_self, exists_eq', List.mem_cons, List.not_mem_nil, Site.m.injEq, bne_self_eq_false, beq_iff_eq, bne_iff_ne, ↓reduceIte, Int.reduceAdd, Int.reduceSub, Int.reduceToNat, Int.reduceNeg, Nat.reduceAdd, Nat.reduceMul, Nat.reduceSub, exists_eq_left', exists_eq_left, implies_true, forall_const, Site.l.injEq, Site.e.injEq, reduceCtorEq, beq_self_eq_true, ne_eq, h, h0', hw2, hat _ _ hx, hat _ _ hy, hlt, hyx]
      exact Nxt.mk [] (i + 1) (by simp (decide := true) (maxSteps := 4000000) -implicitDefEqProofs only [evs, tabs, puts, siteD, gget, tget, tset, initT, dstAt, ev, evC, plain, Hp.get, Hp.set, bnd, isCells, isRow, SubA, SubC, Sub, SubL, CvA, Cv, dis, ordB, ite_self, exists_eq', List.mem_cons, List.not_mem_nil, Site.m.injEq, bne_self_eq_false, beq_iff_eq, bne_iff_ne, ↓reduceIte, Int.reduceAdd, Int.reduceSub, Int.reduceToNat, Int.reduceNeg, Nat.reduceAdd, Nat.reduceMul, Nat.reduceSub, exists_eq_left', exists_eq_left, implies_true, forall_const, Site.l.injEq, Site.e.injEq, reduceCtorEq, beq_self_eq_true, ne_eq, hw]; try rfl) (by simp (decide := true) (maxSteps := 4000000) -implicitDefEqProofs only [evs, tabs, puts, siteD, gget, tget, tset, initT, dstAt, ev, evC, plain, Hp.get, Hp.set, bnd, isCells, isRow, SubA, SubC, Sub, SubL, CvA, Cv, dis, ordB, ite_self, exists_eq', List.mem_cons, List.not_mem_nil, Site.m.injEq, bne_self_eq_false, beq_iff_eq, bne_iff_ne, ↓reduceIte, Int.reduceAdd, Int.reduceSub, Int.reduceToNat, Int.reduceNeg, Nat.reduceAdd, Nat.reduceMul, Nat.reduceSub, exists_eq_left', exists_eq_left, implies_true, forall_const, Site.l.injEq, Site.e.injEq, reduceCtorEq, beq_self_eq_true, ne_eq]) (by omega) (by omega)
  · have hn1 : ¬ ((n : Int) < 1) := by omega
    have hn2 : ¬ ((n : Int) > 60) := by omega
    simp (decide := true) (maxSteps := 4000000) -implicitDefEqProofs only [evs, tabs, puts, siteD, gget, tget, tset, initT, dstAt, ev, evC, plain, Hp.get, Hp.set, bnd, isCells, isRow, SubA, SubC, Sub, SubL, CvA, Cv, dis, ordB, ite_self, exists_eq', List.mem_cons, List.not_mem_nil, Site.m.injEq, bne_self_eq_false, beq_iff_eq, bne_iff_ne, ↓reduceIte, Int.reduceAdd, Int.reduceSub, Int.reduceToNat, Int.reduceNeg, Nat.reduceAdd, Nat.reduceMul, Nat.reduceSub, exists_eq_left', exists_eq_left, implies_true, forall_const, Site.l.injEq, Site.e.injEq, reduceCtorEq, beq_self_eq_true, ne_eq, h, hn1, hn2, hRl, hRt]
    refine lend_eq (bsS_ok l k (by omega) hs) rfl ?_
    have hp := pgAt_le hs k
    have hps : posS k l ≤ pgAt l k := by unfold pgAt; omega
    have hf1 : (l.any fun f => decide (f = k)) = true → pgAt l k = posS k l + 1 := fun e => by unfold pgAt; rw [if_pos e]
    have hf0 : (l.any fun f => decide (f = k)) = false → pgAt l k = posS k l := fun e => by unfold pgAt; rw [e]; rfl
    generalize pgAt l k = p at hp hps hf1 hf0 ⊢
    generalize posS k l = b at hps hf1 hf0 ⊢
    have hw : IntKind.i64.wrap ((p : Int) + n) = ((p + n : Nat) : Int) := by rw [wr_i64 (by omega) (by omega)]; omega
    obtain ⟨m, hm⟩ : ∃ m, m = min (p + n) l.length := ⟨_, rfl⟩
    have hmin : (if ((p + n : Nat) : Int) < (l.length : Int) then ((p + n : Nat) : Int) else (l.length : Int)) = (m : Int) := by split <;> omega
    have hsl0 : List.drop p (List.take m l) = (l.drop p).take n := by
      rw [List.take_drop]
      congr 1
      by_cases hle : p + n ≤ l.length
      · rw [show m = p + n by omega]
      · rw [show m = l.length by omega, List.take_of_length_le (Nat.le_refl _), List.take_of_length_le (by omega)]
    have hsl : List.take (m - p) (List.drop (off + p) R) = ((l.drop p).take n).map (fun s => [S s]) := by
      have h1 : List.take m (List.drop off R) = (l.take m).map fun s => [S s] := by
        rw [List.map_take, ← hRt, List.take_take, Nat.min_eq_left (by omega)]
      rw [← List.drop_drop, ← List.drop_take, h1, ← List.map_drop, hsl0]
    have hdec : decide ((m : Int) < (l.length : Int)) = decide (p + n < l.length) := by
      rw [Bool.eq_iff_iff, decide_eq_true_eq, decide_eq_true_eq]; omega
    have hml : m - p ≤ ((l.drop p).take n).length := by rw [List.length_take, List.length_drop]; omega
    have tkx : List.take (m - p) (((l.drop p).take n).map fun s => [S s]) = ((l.drop p).take n).map fun s => [S s] := List.take_of_length_le (by rw [List.length_map, List.length_take, List.length_drop]; omega)
    have hm1 : (p : Int) ≤ m := by omega
    have hm2 : (m : Int) ≤ l.length := by omega
    cases e : (l.any fun f => decide (f = k)) with
    | true =>
      have e2 := hf1 e
      have hwb : IntKind.i64.wrap ((b : Int) + 1) = (p : Int) := by rw [wr_i64 (by omega) (by omega)]; omega
      simp (decide := true) (maxSteps := 4000000) -implicitDefEqProofs only [evs, tabs, puts, siteD, gget, tget, tset, initT, dstAt, ev, evC, plain, Hp.get, Hp.set, bnd, isCells, isRow, SubA, SubC, Sub, SubL, CvA, Cv, dis, ordB, ite_self, exists_eq', List.mem_cons, List.not_mem_nil, Site.m.injEq, bne_self_eq_false, beq_iff_eq, bne_iff_ne, ↓reduceIte, Int.reduceAdd, Int.reduceSub, Int.reduceToNat, Int.reduceNeg, Nat.reduceAdd, Nat.reduceMul, Nat.reduceSub, exists_eq_left', exists_eq_left, implies_true, forall_const, Site.l.injEq, Site.e.injEq, reduceCtorEq, beq_self_eq_true, ne_eq, hwb, hw, hmin, hm1, hm2, hsl]
      have cC := cloneR_ok R (off + p) (m - p) (by omega) (by omega)
      rw [hsl] at cC
      refine ⟨.inl trivial, ?_⟩
      refine callH cC [.e 0, .l 61] ?_
      simp (decide := true) (maxSteps := 4000000) -implicitDefEqProofs only [evs, tabs, puts, siteD, gget, tget, tset, initT, dstAt, ev, evC, plain, Hp.get, Hp.set, bnd, isCells, isRow, SubA, SubC, Sub, SubL, CvA, Cv, dis, ordB, ite_self, exists_eq', List.mem_cons, List.not_mem_nil, Site.m.injEq, bne_self_eq_false, beq_iff_eq, bne_iff_ne, ↓reduceIte, Int.reduceAdd, Int.reduceSub, Int.reduceToNat, Int.reduceNeg, Nat.reduceAdd, Nat.reduceMul, Nat.reduceSub, exists_eq_left', exists_eq_left, implies_true, forall_const, Site.l.injEq, Site.e.injEq, reduceCtorEq, beq_self_eq_true, ne_eq, hdec, hml, tkx, Option.getD_some]
    | false =>
      have e2 := hf0 e
      subst e2
      simp (decide := true) (maxSteps := 4000000) -implicitDefEqProofs only [evs, tabs, puts, siteD, gget, tget, tset, initT, dstAt, ev, evC, plain, Hp.get, Hp.set, bnd, isCells, isRow, SubA, SubC, Sub, SubL, CvA, Cv, dis, ordB, ite_self, exists_eq', List.mem_cons, List.not_mem_nil, Site.m.injEq, bne_self_eq_false, beq_iff_eq, bne_iff_ne, ↓reduceIte, Int.reduceAdd, Int.reduceSub, Int.reduceToNat, Int.reduceNeg, Nat.reduceAdd, Nat.reduceMul, Nat.reduceSub, exists_eq_left', exists_eq_left, implies_true, forall_const, Site.l.injEq, Site.e.injEq, reduceCtorEq, beq_self_eq_true, ne_eq, hw, hmin, hm1, hm2, hsl]
      have cC := cloneR_ok R (off + p) (m - p) (by omega) (by omega)
      rw [hsl] at cC
      refine ⟨.inl trivial, ?_⟩
      refine callH cC [.e 0, .l 61] ?_
      simp (decide := true) (maxSteps := 4000000) -implicitDefEqProofs only [evs, tabs, puts, siteD, gget, tget, tset, initT, dstAt, ev, evC, plain, Hp.get, Hp.set, bnd, isCells, isRow, SubA, SubC, Sub, SubL, CvA, Cv, dis, ordB, ite_self, exists_eq', List.mem_cons, List.not_mem_nil, Site.m.injEq, bne_self_eq_false, beq_iff_eq, bne_iff_ne, ↓reduceIte, Int.reduceAdd, Int.reduceSub, Int.reduceToNat, Int.reduceNeg, Nat.reduceAdd, Nat.reduceMul, Nat.reduceSub, exists_eq_left', exists_eq_left, implies_true, forall_const, Site.l.injEq, Site.e.injEq, reduceCtorEq, beq_self_eq_true, ne_eq, hdec, hml, tkx, Option.getD_some]
end Go.Proofs.Ytljickachmdejaa.E
