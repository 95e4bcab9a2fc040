/- Walks: FindOnce. No conditions. -/
import Derived.Test.YtljickachmdejaaSortV
import Derived.Test.YtljickachmdejaaPageS
import Derived.Test.YtljickachmdejaaReadRC
namespace Go.Proofs.Ytljickachmdejaa.E
open Go
set_option linter.unusedSimpArgs false
set_option linter.unusedVariables false
set_option linter.unusedSectionVars false
set_option maxRecDepth 20000
set_option maxHeartbeats 4000000
theorem names_up (l : List ByteArray) : StrUp (compL (sortL l)) := compL_strict (sortL_pw l)
theorem names_len (l : List ByteArray) : (compL (sortL l)).length ≤ l.length := Nat.le_trans (compP_len _ _) (Nat.le_of_eq (sortL_len l))
theorem up_take {l : List ByteArray} (h : StrUp l) (n : Nat) : StrUp (l.take n) := h.sublist (List.take_sublist _ _)
theorem abc_up : StrUp [⟨#[97]⟩, ⟨#[98]⟩, ⟨#[99]⟩] := by
  have h1 : sLt ⟨#[97]⟩ ⟨#[98]⟩ = true := sLt_iff.2 (by decide)
  have h2 : sLt ⟨#[97]⟩ ⟨#[99]⟩ = true := sLt_iff.2 (by decide)
  have h3 : sLt ⟨#[98]⟩ ⟨#[99]⟩ = true := sLt_iff.2 (by decide)
  simp [StrUp, h1, h2, h3]
theorem abc_page : pgAt [⟨#[97]⟩, ⟨#[98]⟩, ⟨#[99]⟩] ⟨#[98]⟩ = 2 := pgAt_get abc_up (i := 1) rfl
theorem FindOnce_ok (l : List ByteArray) (k : ByteArray) (hb : strsR l) (hk : strR k) : Ok Try.prog 10 [E.strs l, S k] (B true) := by
  have hl16 := hb.1
  have c1 := Page_ok [⟨#[97]⟩, ⟨#[98]⟩, ⟨#[99]⟩] ⟨#[98]⟩ 5 (by simp) abc_up (by omega) (by omega)
  rw [abc_page] at c1
  have c1 : Ok Try.prog 23 [E.strs [⟨#[97]⟩, ⟨#[98]⟩, ⟨#[99]⟩], S ⟨#[98]⟩, I 5] (.tup [E.strs [⟨#[99]⟩], B false, I 0]) := c1
  have c2 := eqStrs_ok [⟨#[99]⟩] [⟨#[99]⟩] (by simp)
  rw [decide_eq_true rfl] at c2
  have hu := names_up l
  have hnl := names_len l
  have cC := compS_ok (sortL l) (by rw [sortL_len]; omega)
  rw [sortL_len] at cC
  generalize compL (sortL l) = q0 at hu hnl cC
  obtain ⟨q, hq⟩ : ∃ q, q = q0.take 60 := ⟨_, rfl⟩
  have hql : q.length ≤ 60 := by rw [hq, List.length_take]; omega
  have hqu : StrUp q := by rw [hq]; exact up_take hu _
  have hm : (if (60 : Int) < q0.length then 60 else (q0.length : Int)) = (q.length : Int) := by rw [hq, List.length_take]; split <;> omega
  have hle : (q.length : Int) ≤ l.length := by rw [hq, List.length_take]; omega
  have h0 : (0 : Int) ≤ q.length := by omega
  have hql0 : q.length ≤ q0.length := by rw [hq, List.length_take]; omega
  have ht : ∀ r : List (List AV), List.take q.length (List.map (fun s => [S s]) q0 ++ r) = q.map (fun s => [S s]) := fun r => by
    rw [List.take_append_of_le_length (by rw [List.length_map]; exact hql0), ← List.map_take, hq, List.length_take, ← List.take_eq_take_min]
  have cP := Page_ok q k 60 (by omega) hqu (by omega) (by omega)
  refine Ok.of_wp (rs := [.tmp 4]) (n := 99) Try.func10 rfl rfl rfl (by simp) fo (by kernel_rfl) ?_
  simp (decide := true) (maxSteps := 4000000) -implicitDefEqProofs only [evs, tabs, puts, siteD, gget, tget, tset, initT, dstAt, ev, evC, plain, Hp.get, Hp.set, bnd, isCells, isRow, SubA, SubC, Sub, SubL, CvA, Cv, dis, ordB, ite_self, exists_eq', List.mem_cons, List.not_mem_nil, Site.m.injEq, bne_self_eq_false, beq_iff_eq, bne_iff_ne, ↓reduceIte, Int.reduceAdd, Int.reduceSub, Int.reduceToNat, Int.reduceNeg, Nat.reduceAdd, Nat.reduceMul, Nat.reduceSub, exists_eq_left', exists_eq_left, implies_true, forall_const, Site.l.injEq, Site.e.injEq, reduceCtorEq, beq_self_eq_true, ne_eq]
  refine call_eq c1 ?_
  simp (decide := true) (maxSteps := 4000000) -implicitDefEqProofs only [evs, tabs, puts, siteD, gget, tget, tset, initT, dstAt, ev, evC, plain, Hp.get, Hp.set, bnd, isCells, isRow, SubA, SubC, Sub, SubL, CvA, Cv, dis, ordB, ite_self, exists_eq', List.mem_cons, List.not_mem_nil, Site.m.injEq, bne_self_eq_false, beq_iff_eq, bne_iff_ne, ↓reduceIte, Int.reduceAdd, Int.reduceSub, Int.reduceToNat, Int.reduceNeg, Nat.reduceAdd, Nat.reduceMul, Nat.reduceSub, exists_eq_left', exists_eq_left, implies_true, forall_const, Site.l.injEq, Site.e.injEq, reduceCtorEq, beq_self_eq_true, ne_eq]
  refine call_eq c2 ?_
  simp (decide := true) (maxSteps := 4000000) -implicitDefEqProofs only [evs, tabs, puts, siteD, gget, tget, tset, initT, dstAt, ev, evC, plain, Hp.get, Hp.set, bnd, isCells, isRow, SubA, SubC, Sub, SubL, CvA, Cv, dis, ordB, ite_self, exists_eq', List.mem_cons, List.not_mem_nil, Site.m.injEq, bne_self_eq_false, beq_iff_eq, bne_iff_ne, ↓reduceIte, Int.reduceAdd, Int.reduceSub, Int.reduceToNat, Int.reduceNeg, Nat.reduceAdd, Nat.reduceMul, Nat.reduceSub, exists_eq_left', exists_eq_left, implies_true, forall_const, Site.l.injEq, Site.e.injEq, reduceCtorEq, beq_self_eq_true, ne_eq]
  refine call_eq (valsS_ok l) ?_
  simp (decide := true) (maxSteps := 4000000) -implicitDefEqProofs only [evs, tabs, puts, siteD, gget, tget, tset, initT, dstAt, ev, evC, plain, Hp.get, Hp.set, bnd, isCells, isRow, SubA, SubC, Sub, SubL, CvA, Cv, dis, ordB, ite_self, exists_eq', List.mem_cons, List.not_mem_nil, Site.m.injEq, bne_self_eq_false, beq_iff_eq, bne_iff_ne, ↓reduceIte, Int.reduceAdd, Int.reduceSub, Int.reduceToNat, Int.reduceNeg, Nat.reduceAdd, Nat.reduceMul, Nat.reduceSub, exists_eq_left', exists_eq_left, implies_true, forall_const, Site.l.injEq, Site.e.injEq, reduceCtorEq, beq_self_eq_true, ne_eq]
  refine callH (sortedH_ok l hl16) [.l 31] ?_
  simp (decide := true) (maxSteps := 4000000) -implicitDefEqProofs only [evs, tabs, puts, siteD, gget, tget, tset, initT, dstAt, ev, evC, plain, Hp.get, Hp.set, bnd, isCells, isRow, SubA, SubC, Sub, SubL, CvA, Cv, dis, ordB, ite_self, exists_eq', List.mem_cons, List.not_mem_nil, Site.m.injEq, bne_self_eq_false, beq_iff_eq, bne_iff_ne, ↓reduceIte, Int.reduceAdd, Int.reduceSub, Int.reduceToNat, Int.reduceNeg, Nat.reduceAdd, Nat.reduceMul, Nat.reduceSub, exists_eq_left', exists_eq_left, implies_true, forall_const, Site.l.injEq, Site.e.injEq, reduceCtorEq, beq_self_eq_true, ne_eq]
  refine callH cC [.l 31] ?_
  have hqi : (q.length : Int) ≤ q0.length := by omega
  have hle2 : ∀ n, q.length ≤ q0.length + n := fun n => by omega
  have hp := pgAt_le hqu k
  have hgt : ∀ {i : Nat} {x : ByteArray}, q[i]? = some x → (sLt k x = true ↔ pgAt q k ≤ i) := fun h => pgAt_lt hqu h
  have cP : Ok Try.prog 23 [E.strs q, S k, I 60] (.tup [E.strs ((q.drop (pgAt q k)).take 60), B (decide (pgAt q k + 60 < q.length)), I 0]) := cP
  rw [decide_eq_false (by omega), List.take_of_length_le (by rw [List.length_drop]; omega)] at cP
  generalize pgAt q k = p at hp hgt cP
  have cE := eqStrs_ok (q.drop p) (q.drop p) (by rw [List.length_drop]; omega)
  rw [decide_eq_true rfl] at cE
  have hdl : (q.drop p).length = q.length - p := List.length_drop
  simp (decide := true) (maxSteps := 4000000) -implicitDefEqProofs only [evs, tabs, puts, siteD, gget, tget, tset, initT, dstAt, ev, evC, plain, Hp.get, Hp.set, bnd, isCells, isRow, SubA, SubC, Sub, SubL, CvA, Cv, dis, ordB, ite_self, exists_eq', List.mem_cons, List.not_mem_nil, Site.m.injEq, bne_self_eq_false, beq_iff_eq, bne_iff_ne, ↓reduceIte, Int.reduceAdd, Int.reduceSub, Int.reduceToNat, Int.reduceNeg, Nat.reduceAdd, Nat.reduceMul, Nat.reduceSub, exists_eq_left', exists_eq_left, implies_true, forall_const, Site.l.injEq, Site.e.injEq, reduceCtorEq, beq_self_eq_true, ne_eq, hm, h0, ht, hqi, hle2, Nat.sub_zero]
  refine call_eq cP ?_
  have hw : IntKind.i64.wrap ((q.length : Int) - ((q.length - p : Nat) : Int)) = (p : Int) := by rw [wr_i64 (by omega) (by omega)]; omega
  have hng : ¬ (((q.length - p : Nat) : Int) > (q.length : Int)) := by omega
  have hp0 : (0 : Int) ≤ p := by omega
  have hp1 : (p : Int) ≤ q.length := by omega
  have hle3 : ∀ n, p + (q.length - p) ≤ q0.length + n := fun n => by omega
  have ht2 : ∀ r : List (List AV), List.take (q.length - p) (List.drop p (List.map (fun s => [S s]) q0 ++ r)) = (q.drop p).map (fun s => [S s]) := fun r => by
    rw [← List.drop_take, ht, List.map_drop]
  have hat : ∀ (r : List (List AV)) (i : Nat) (x : ByteArray), q[i]? = some x → (List.map (fun s => [S s]) q0 ++ r)[i]? = some [S x] := fun r i x hx => by
    have hi := (List.getElem?_eq_some_iff.1 hx).1
    rw [List.getElem?_append_left (by rw [List.length_map]; omega), List.getElem?_map]
    rw [hq, List.getElem?_take] at hx
    split at hx
    · rw [hx]; rfl
    · cases hx
  simp (decide := true) (maxSteps := 4000000) -implicitDefEqProofs only [evs, tabs, puts, siteD, gget, tget, tset, initT, dstAt, ev, evC, plain, Hp.get, Hp.set, bnd, isCells, isRow, SubA, SubC, Sub, SubL, CvA, Cv, dis, ordB, ite_self, exists_eq', List.mem_cons, List.not_mem_nil, Site.m.injEq, bne_self_eq_false, beq_iff_eq, bne_iff_ne, ↓reduceIte, Int.reduceAdd, Int.reduceSub, Int.reduceToNat, Int.reduceNeg, Nat.reduceAdd, Nat.reduceMul, Nat.reduceSub, exists_eq_left', exists_eq_left, implies_true, forall_const, Site.l.injEq, Site.e.injEq, reduceCtorEq, beq_self_eq_true, ne_eq, hdl, hw, hng, hp0, hp1, hle3, ht2]
  refine ⟨.inl (by omega), ?_⟩
  refine call_eq cE ?_
  rcases Nat.lt_or_ge p q.length with hlt | hge
  · obtain ⟨x, hx⟩ := lt_get hlt
    have hkx := (hgt hx).2 (Nat.le_refl _)
    have hxk : (Op.bytesLess x.toList k.toList || x.toList == k.toList) = false := by
      have h1 : Op.bytesLess x.toList k.toList = false := sLt_asymm hkx
      rw [h1, toList_beq, decide_eq_false (fun e => sLt_ne hkx e.symm)]
      rfl
    have hx0 : (q.drop p)[0]? = some x := by rw [List.getElem?_drop, Nat.add_zero]; exact hx
    have hz : ¬ (((q.length - p : Nat) : Int) = 0) := by omega
    have hz2 : (0 : Int) < ((q.length - p : Nat) : Int) := by omega
    by_cases hp00 : p = 0
    · have he : ((q.length - p : Nat) : Int) = (q.length : Int) := by omega
      simp (decide := true) (maxSteps := 4000000) -implicitDefEqProofs only [evs, tabs, puts, siteD, gget, tget, tset, initT, dstAt, ev, evC, plain, Hp.get, Hp.set, bnd, isCells, isRow, SubA, SubC, Sub, SubL, CvA, Cv, dis, ordB, ite_self, exists_eq', List.mem_cons, List.not_mem_nil, Site.m.injEq, bne_self_eq_false, beq_iff_eq, bne_iff_ne, ↓reduceIte, Int.reduceAdd, Int.reduceSub, Int.reduceToNat, Int.reduceNeg, Nat.reduceAdd, Nat.reduceMul, Nat.reduceSub, exists_eq_left', exists_eq_left, implies_true, forall_const, Site.l.injEq, Site.e.injEq, reduceCtorEq, beq_self_eq_true, ne_eq, hdl, hz, hz2, hx0, hxk, he]
    · have he : ¬ (((q.length - p : Nat) : Int) = (q.length : Int)) := by omega
      obtain ⟨y, hy⟩ := lt_get (l := q) (i := p - 1) (by omega)
      have hky : sLt k y = false := by
        rw [Bool.eq_false_iff]
        intro h
        have := (hgt hy).1 h
        omega
      have hyk : (Op.bytesLess y.toList k.toList || y.toList == k.toList) = true := by
        rcases sLt_tri y k with h | h | h
        · have h1 : Op.bytesLess y.toList k.toList = true := h
          rw [h1]; rfl
        · rw [toList_beq, decide_eq_true h, Bool.or_true]
        · rw [h] at hky; cases hky
      have hw2 : IntKind.i64.wrap ((p : Int) - 1) = ((p - 1 : Nat) : Int) := by rw [wr_i64 (by omega) (by omega)]; omega
      have hp2 : ((p - 1 : Nat) : Int) < q.length := by omega
      have hy2 := fun r => hat r (p - 1) y hy
      simp (decide := true) (maxSteps := 4000000) -implicitDefEqProofs only [evs, tabs, puts, siteD, gget, tget, tset, initT, dstAt, ev, evC, plain, Hp.get, Hp.set, bnd, isCells, isRow, SubA, SubC, Sub, SubL, CvA, Cv, dis, ordB, ite_self, exists_eq', List.mem_cons, List.not_mem_nil, Site.m.injEq, bne_self_eq_false, beq_iff_eq, bne_iff_ne, ↓reduceIte, Int.reduceAdd, Int.reduceSub, Int.reduceToNat, Int.reduceNeg, Nat.reduceAdd, Nat.reduceMul, Nat.reduceSub, exists_eq_left', exists_eq_left, implies_true, forall_const, Site.l.injEq, Site.e.injEq, reduceCtorEq, beq_self_eq_true, ne_eq, hdl, hz, hz2, hx0, hxk, he, hw, hw2, hp2, hy2, hyk]
  · have hz : (((q.length - p : Nat) : Int) = 0) := by omega
    by_cases hp00 : p = 0
    · have he : (0 : Int) = (q.length : Int) := by omega
      simp (decide := true) (maxSteps := 4000000) -implicitDefEqProofs only [evs, tabs, puts, siteD, gget, tget, tset, initT, dstAt, ev, evC, plain, Hp.get, Hp.set, bnd, isCells, isRow, SubA, SubC, Sub, SubL, CvA, Cv, dis, ordB, ite_self, exists_eq', List.mem_cons, List.not_mem_nil, Site.m.injEq, bne_self_eq_false, beq_iff_eq, bne_iff_ne, ↓reduceIte, Int.reduceAdd, Int.reduceSub, Int.reduceToNat, Int.reduceNeg, Nat.reduceAdd, Nat.reduceMul, Nat.reduceSub, exists_eq_left', exists_eq_left, implies_true, forall_const, Site.l.injEq, Site.e.injEq, reduceCtorEq, beq_self_eq_true, ne_eq, hdl, hz, he]
    · have he : ¬ ((0 : Int) = (q.length : Int)) := by omega
      obtain ⟨y, hy⟩ := lt_get (l := q) (i := p - 1) (by omega)
      have hky : sLt k y = false := by
        rw [Bool.eq_false_iff]
        intro h
        have := (hgt hy).1 h
        omega
      have hyk : (Op.bytesLess y.toList k.toList || y.toList == k.toList) = true := by
        rcases sLt_tri y k with h | h | h
        · have h1 : Op.bytesLess y.toList k.toList = true := h
          rw [h1]; rfl
        · rw [toList_beq, decide_eq_true h, Bool.or_true]
        · rw [h] at hky; cases hky
      have hw1 : IntKind.i64.wrap ((q.length : Int) - 0) = (p : Int) := by rw [wr_i64 (by omega) (by omega)]; omega
      have hw2 : IntKind.i64.wrap ((p : Int) - 1) = ((p - 1 : Nat) : Int) := by rw [wr_i64 (by omega) (by omega)]; omega
      have hp2 : ((p - 1 : Nat) : Int) < q.length := by omega
      have hy2 := fun r => hat r (p - 1) y hy
      simp (decide := true) (maxSteps := 4000000) -implicitDefEqProofs only [evs, tabs, puts, siteD, gget, tget, tset, initT, dstAt, ev, evC, plain, Hp.get, Hp.set, bnd, isCells, isRow, SubA, SubC, Sub, SubL, CvA, Cv, dis, ordB, ite_self, exists_eq', List.mem_cons, List.not_mem_nil, Site.m.injEq, bne_self_eq_false, beq_iff_eq, bne_iff_ne, ↓reduceIte, Int.reduceAdd, Int.reduceSub, Int.reduceToNat, Int.reduceNeg, Nat.reduceAdd, Nat.reduceMul, Nat.reduceSub, exists_eq_left', exists_eq_left, implies_true, forall_const, Site.l.injEq, Site.e.injEq, reduceCtorEq, beq_self_eq_true, ne_eq, hdl, hz, he, hw1, hw2, hp2, hy2, hyk]
end Go.Proofs.Ytljickachmdejaa.E
