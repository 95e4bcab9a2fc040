/- Walks: FindAll. No conditions. -/
import Derived.Test.YtljickachmdejaaLawFindOnce
import Derived.Test.YtljickachmdejaaPageH
namespace Go.Proofs.Ytljickachmdejaa.E
open Go
set_option linter.unusedSimpArgs false
set_option linter.unusedVariables false
set_option linter.unusedSectionVars false
set_option maxRecDepth 20000
set_option maxHeartbeats 4000000
theorem sLt_none (x : ByteArray) : sLt x ⟨#[]⟩ = false := by
  rw [Bool.eq_false_iff]
  intro h
  have := sLt_iff.1 h
  simp at this
theorem ab_up : StrUp [⟨#[97]⟩, ⟨#[98]⟩] := by
  have h1 : sLt ⟨#[97]⟩ ⟨#[98]⟩ = true := sLt_iff.2 (by decide)
  simp [StrUp, h1]
/-- Nothing stands ahead of the empty text. -/
theorem pgAt_none {l : List ByteArray} (h : ∀ x ∈ l, ¬ x = ⟨#[]⟩) : pgAt l ⟨#[]⟩ = 0 := by
  unfold pgAt posS
  rw [List.filter_eq_nil_iff.2 (fun x _ => by rw [sLt_none]; simp), if_neg]
  · rfl
  · intro ha
    obtain ⟨y, hy, e⟩ := List.any_eq_true.1 ha
    exact h y hy (of_decide_eq_true e)
/-- Behind which name the next page begins. -/
def frm (q : List ByteArray) (i : Nat) : ByteArray := match i with
  | 0 => ⟨#[]⟩
  | j + 1 => (q[j]?).getD ⟨#[]⟩
theorem pgAt_frm {q : List ByteArray} (hu : StrUp q) (h : ∀ x ∈ q, ¬ x = ⟨#[]⟩) {i : Nat} (hi : i ≤ q.length) : pgAt q (frm q i) = i := by
  cases i with
  | zero => exact pgAt_none h
  | succ j =>
    obtain ⟨x, hx⟩ := lt_get (l := q) (i := j) (by omega)
    show pgAt q ((q[j]?).getD ⟨#[]⟩) = j + 1
    rw [hx]
    exact pgAt_get hu hx
theorem tail_none {l : List ByteArray} (hu : StrUp l) : ∀ x ∈ l.tail, ¬ x = ⟨#[]⟩ := by
  intro x hx e
  cases l with
  | nil => cases hx
  | cons y l =>
    have := (List.pairwise_cons.1 hu).1 x hx
    rw [e, sLt_none] at this
    cases this
theorem first_none {l : List ByteArray} (hu : StrUp l) (h : ¬ l[0]? = some ⟨#[]⟩) : ∀ x ∈ l, ¬ x = ⟨#[]⟩ := by
  intro x hx e
  cases l with
  | nil => cases hx
  | cons y l =>
    rcases List.mem_cons.1 hx with rfl | hx
    · exact h (by rw [e]; rfl)
    · exact tail_none hu x hx e
theorem FindAll_ok (l : List ByteArray) (n0 : Int) (hb : strsR l) : Ok Try.prog 9 [E.strs l, I n0] (B true) := by
  have hl16 := hb.1
  have c1 := Page_ok [⟨#[97]⟩, ⟨#[98]⟩] ⟨#[]⟩ 1 (by simp) ab_up (by omega) (by omega)
  rw [pgAt_none (by simp)] at c1
  have c1 : Ok Try.prog 23 [E.strs [⟨#[97]⟩, ⟨#[98]⟩], S ⟨#[]⟩, I 1] (.tup [E.strs [⟨#[97]⟩], B true, I 0]) := c1
  have c2 := eqStrs_ok [⟨#[97]⟩] [⟨#[97]⟩] (by simp)
  rw [decide_eq_true rfl] at c2
  have hu := names_up l
  have hnl := names_len l
  have cC := compS_ok (sortL l) (by rw [sortL_len]; omega)
  rw [sortL_len] at cC
  generalize compL (sortL l) = q0 at hu hnl cC
  obtain ⟨en, hn⟩ := wN_eq n0 (show 0 < 60 by omega)
  obtain ⟨n, hnn⟩ : ∃ n, n = wN n0 60 + 1 := ⟨_, rfl⟩
  have hnw : IntKind.i64.wrap (1 + (wN n0 60 : Int)) = (n : Int) := by rw [wr_i64 (by omega) (by omega)]; omega
  have hn60 : n ≤ 60 := by omega
  have hn1 : 1 ≤ n := by omega
  -- what is left once the empty name is gone
  obtain ⟨off, hoff⟩ : ∃ off : Nat, off = if q0[0]? = some (⟨#[]⟩ : ByteArray) then 1 else 0 := ⟨_, rfl⟩
  obtain ⟨q, hq⟩ : ∃ q, q = (q0.drop off).take 200 := ⟨_, rfl⟩
  have hql : q.length ≤ 200 := by rw [hq, List.length_take]; omega
  have hqu : StrUp q := by rw [hq]; exact up_take (hu.sublist (List.drop_sublist _ _)) _
  have hqn : ∀ x ∈ q, ¬ x = ⟨#[]⟩ := by
    intro x hx
    rw [hq] at hx
    have hx := List.mem_of_mem_take hx
    by_cases h : q0[0]? = some ⟨#[]⟩
    · rw [if_pos h] at hoff
      subst hoff
      rw [List.drop_one] at hx
      exact tail_none hu x hx
    · rw [if_neg h] at hoff
      subst hoff
      exact first_none hu h x hx
  refine Ok.of_wp (rs := [.tmp 4]) (n := 100) Try.func9 rfl rfl rfl (by simp) fo (by kernel_rfl) ?_
  simp (decide := true) (maxSteps := 4000000) -implicitDefEqProofs only [evs, tabs, puts, siteD, gget, tget, tset, initT, dstAt, ev, evC, plain, Hp.get, Hp.set, bnd, isCells, isRow, SubA, SubC, Sub, SubL, CvA, Cv, dis, ordB, ite_self, exists_eq', List.mem_cons, List.not_mem_nil, Site.m.injEq, bne_self_eq_false, beq_iff_eq, bne_iff_ne, ↓reduceIte, Int.reduceAdd, Int.reduceSub, Int.reduceToNat, Int.reduceNeg, Nat.reduceAdd, Nat.reduceMul, Nat.reduceSub, exists_eq_left', exists_eq_left, implies_true, forall_const, Site.l.injEq, Site.e.injEq, reduceCtorEq, beq_self_eq_true, ne_eq]
  refine call_eq c1 ?_
  simp (decide := true) (maxSteps := 4000000) -implicitDefEqProofs only [evs, tabs, puts, siteD, gget, tget, tset, initT, dstAt, ev, evC, plain, Hp.get, Hp.set, bnd, isCells, isRow, SubA, SubC, Sub, SubL, CvA, Cv, dis, ordB, ite_self, exists_eq', List.mem_cons, List.not_mem_nil, Site.m.injEq, bne_self_eq_false, beq_iff_eq, bne_iff_ne, ↓reduceIte, Int.reduceAdd, Int.reduceSub, Int.reduceToNat, Int.reduceNeg, Nat.reduceAdd, Nat.reduceMul, Nat.reduceSub, exists_eq_left', exists_eq_left, implies_true, forall_const, Site.l.injEq, Site.e.injEq, reduceCtorEq, beq_self_eq_true, ne_eq]
  refine call_eq c2 ?_
  simp (decide := true) (maxSteps := 4000000) -implicitDefEqProofs only [evs, tabs, puts, siteD, gget, tget, tset, initT, dstAt, ev, evC, plain, Hp.get, Hp.set, bnd, isCells, isRow, SubA, SubC, Sub, SubL, CvA, Cv, dis, ordB, ite_self, exists_eq', List.mem_cons, List.not_mem_nil, Site.m.injEq, bne_self_eq_false, beq_iff_eq, bne_iff_ne, ↓reduceIte, Int.reduceAdd, Int.reduceSub, Int.reduceToNat, Int.reduceNeg, Nat.reduceAdd, Nat.reduceMul, Nat.reduceSub, exists_eq_left', exists_eq_left, implies_true, forall_const, Site.l.injEq, Site.e.injEq, reduceCtorEq, beq_self_eq_true, ne_eq]
  refine call_eq (valsS_ok l) ?_
  simp (decide := true) (maxSteps := 4000000) -implicitDefEqProofs only [evs, tabs, puts, siteD, gget, tget, tset, initT, dstAt, ev, evC, plain, Hp.get, Hp.set, bnd, isCells, isRow, SubA, SubC, Sub, SubL, CvA, Cv, dis, ordB, ite_self, exists_eq', List.mem_cons, List.not_mem_nil, Site.m.injEq, bne_self_eq_false, beq_iff_eq, bne_iff_ne, ↓reduceIte, Int.reduceAdd, Int.reduceSub, Int.reduceToNat, Int.reduceNeg, Nat.reduceAdd, Nat.reduceMul, Nat.reduceSub, exists_eq_left', exists_eq_left, implies_true, forall_const, Site.l.injEq, Site.e.injEq, reduceCtorEq, beq_self_eq_true, ne_eq]
  refine callH (sortedH_ok l hl16) [.l 34] ?_
  simp (decide := true) (maxSteps := 4000000) -implicitDefEqProofs only [evs, tabs, puts, siteD, gget, tget, tset, initT, dstAt, ev, evC, plain, Hp.get, Hp.set, bnd, isCells, isRow, SubA, SubC, Sub, SubL, CvA, Cv, dis, ordB, ite_self, exists_eq', List.mem_cons, List.not_mem_nil, Site.m.injEq, bne_self_eq_false, beq_iff_eq, bne_iff_ne, ↓reduceIte, Int.reduceAdd, Int.reduceSub, Int.reduceToNat, Int.reduceNeg, Nat.reduceAdd, Nat.reduceMul, Nat.reduceSub, exists_eq_left', exists_eq_left, implies_true, forall_const, Site.l.injEq, Site.e.injEq, reduceCtorEq, beq_self_eq_true, ne_eq]
  refine callH cC [.l 34] ?_
  have hqo : off + q.length ≤ q0.length ∨ q0.length = 0 := by
    rw [hq, List.length_take, List.length_drop]
    by_cases h : q0.length = 0
    · exact .inr h
    · left
      have : off ≤ 1 := by rw [hoff]; split <;> omega
      omega
  have hR : ∀ r : List (List AV), off + q.length ≤ q0.length → List.take q.length (List.drop off (List.map (fun s => [S s]) q0 ++ r)) = q.map (fun s => [S s]) := fun r hle => by
    rw [List.drop_append_of_le_length (by rw [List.length_map]; omega), List.take_append_of_le_length (by rw [List.length_drop, List.length_map]; omega), ← List.map_drop, ← List.map_take]
    congr 1
    rw [hq, List.length_take, ← List.take_eq_take_min]
  have hlq : IntKind.i64.wrap ((q.length : Int) + 1) = ((q.length + 1 : Nat) : Int) := by rw [wr_i64 (by omega) (by omega)]; omega
  by_cases hz : q0.length = 0
  · have hpos : ¬ ((q0.length : Int) > 0) := by omega
    obtain rfl : q0 = [] := List.eq_nil_of_length_eq_zero hz
    obtain rfl : off = 0 := by rw [hoff]; simp
    obtain rfl : q = [] := by rw [hq]; simp
    have cP := Page_ok [] ⟨#[]⟩ n (by simp) (by simp [StrUp]) hn1 hn60
    have cP : Ok Try.prog 23 [E.strs [], S ⟨#[]⟩, I n] (.tup [E.strs [], B (decide (pgAt [] ⟨#[]⟩ + n < ([] : List ByteArray).length)), I 0]) := by simpa using cP
    rw [decide_eq_false (by simp)] at cP
    have cE := eqStrs_ok [] [] (by simp)
    rw [decide_eq_true rfl] at cE
    simp (decide := true) (maxSteps := 4000000) -implicitDefEqProofs only [evs, tabs, puts, siteD, gget, tget, tset, initT, dstAt, ev, evC, plain, Hp.get, Hp.set, bnd, isCells, isRow, SubA, SubC, Sub, SubL, CvA, Cv, dis, ordB, ite_self, exists_eq', List.mem_cons, List.not_mem_nil, Site.m.injEq, bne_self_eq_false, beq_iff_eq, bne_iff_ne, ↓reduceIte, Int.reduceAdd, Int.reduceSub, Int.reduceToNat, Int.reduceNeg, Nat.reduceAdd, Nat.reduceMul, Nat.reduceSub, exists_eq_left', exists_eq_left, implies_true, forall_const, Site.l.injEq, Site.e.injEq, reduceCtorEq, beq_self_eq_true, ne_eq]
    refine ⟨.inl trivial, ?_⟩
    refine call_eq (Within_ok n0 60 (by omega) (by omega)) ?_
    rw [show within n0 60 = (wN n0 60 : Int) from en]
    obtain ⟨q, hq⟩ : ∃ q : List ByteArray, q = [] := ⟨_, rfl⟩
    have hlq : IntKind.i64.wrap ((q.length : Int) + 1) = ((q.length + 1 : Nat) : Int) := by rw [hq]; rfl
    rw [← hq] at hqu hqn hql
    have hRl : q.length ≤ (List.replicate (l.length - 0) [S ⟨#[]⟩]).length := by rw [hq]; exact Nat.zero_le _
    have hRt : List.take q.length (List.replicate (l.length - 0) [S ⟨#[]⟩]) = q.map fun s => [S s] := by rw [hq]; rfl
    have hq0 : (0 : Nat) = q.length := by rw [hq]; rfl
    generalize List.replicate (l.length - 0) [S ⟨#[]⟩] = R at hRt hRl ⊢
    clear hq
    simp (decide := true) (maxSteps := 4000000) -implicitDefEqProofs only [evs, tabs, puts, siteD, gget, tget, tset, initT, dstAt, ev, evC, plain, Hp.get, Hp.set, bnd, isCells, isRow, SubA, SubC, Sub, SubL, CvA, Cv, dis, ordB, ite_self, exists_eq', List.mem_cons, List.not_mem_nil, Site.m.injEq, bne_self_eq_false, beq_iff_eq, bne_iff_ne, ↓reduceIte, Int.reduceAdd, Int.reduceSub, Int.reduceToNat, Int.reduceNeg, Nat.reduceAdd, Nat.reduceMul, Nat.reduceSub, exists_eq_left', exists_eq_left, implies_true, forall_const, Site.l.injEq, Site.e.injEq, reduceCtorEq, beq_self_eq_true, ne_eq, hnw, hlq]
    refine ALoop.st [1, 8, 9, 10, 57, 58] (fun (s : Nat × Nat) => [I n, .own (.l 34) 1 1 0 q.length, .own (.l 87) 0 1 0 (q.take s.2).length, S (frm q s.2), I ((q.length + 1 : Nat) : Int), I s.1]) (fun s => [(.l 34, 1, .row 9 1 none R), (.l 87, 0, .row 9 1 none ((q.take s.2).map fun s => [S s]))]) (fun s => s.1 ≤ s.2 ∧ s.2 ≤ q.length) (fun s => q.length + 1 - s.1) [.l 87] (0, 0) (by simp (decide := true) (maxSteps := 4000000) -implicitDefEqProofs only [evs, tabs, puts, siteD, gget, tget, tset, initT, dstAt, ev, evC, plain, Hp.get, Hp.set, bnd, isCells, isRow, SubA, SubC, Sub, SubL, CvA, Cv, dis, ordB, ite_self, exists_eq', List.mem_cons, List.not_mem_nil, Site.m.injEq, bne_self_eq_false, beq_iff_eq, bne_iff_ne, ↓reduceIte, Int.reduceAdd, Int.reduceSub, Int.reduceToNat, Int.reduceNeg, Nat.reduceAdd, Nat.reduceMul, Nat.reduceSub, exists_eq_left', exists_eq_left, implies_true, forall_const, Site.l.injEq, Site.e.injEq, reduceCtorEq, beq_self_eq_true, ne_eq, frm, List.take_zero, List.length_nil, Nat.sub_zero, hlq]; exact ⟨hq0, by rw [← hq0]; rfl⟩) (by simp (decide := true) (maxSteps := 4000000) -implicitDefEqProofs only [evs, tabs, puts, siteD, gget, tget, tset, initT, dstAt, ev, evC, plain, Hp.get, Hp.set, bnd, isCells, isRow, SubA, SubC, Sub, SubL, CvA, Cv, dis, ordB, ite_self, exists_eq', List.mem_cons, List.not_mem_nil, Site.m.injEq, bne_self_eq_false, beq_iff_eq, bne_iff_ne, ↓reduceIte, Int.reduceAdd, Int.reduceSub, Int.reduceToNat, Int.reduceNeg, Nat.reduceAdd, Nat.reduceMul, Nat.reduceSub, exists_eq_left', exists_eq_left, implies_true, forall_const, Site.l.injEq, Site.e.injEq, reduceCtorEq, beq_self_eq_true, ne_eq, List.take_zero, List.map_nil, or_true]) ⟨by omega, by omega⟩ ?_
    rintro ⟨r, i⟩ ⟨hri, hi⟩
    simp only at hri hi
    have hpg := pgAt_frm hqu hqn hi
    have cP := PageH_ok q R 0 (frm q i) n (by omega) hRt (by omega) hqu hn1 hn60
    rw [hpg] at cP
    have hr : (r : Int) < ((q.length + 1 : Nat) : Int) := by omega
    have hw : IntKind.i64.wrap ((r : Int) + 1) = ((r + 1 : Nat) : Int) := by rw [wr_i64 (by omega) (by omega)]; omega
    have hti : List.take (q.take i).length ((q.take i).map fun s => [S s]) = (q.take i).map fun s => [S s] := List.take_of_length_le (by simp)
    simp (decide := true) (maxSteps := 4000000) -implicitDefEqProofs only [evs, tabs, puts, siteD, gget, tget, tset, initT, dstAt, ev, evC, plain, Hp.get, Hp.set, bnd, isCells, isRow, SubA, SubC, Sub, SubL, CvA, Cv, dis, ordB, ite_self, exists_eq', List.mem_cons, List.not_mem_nil, Site.m.injEq, bne_self_eq_false, beq_iff_eq, bne_iff_ne, ↓reduceIte, Int.reduceAdd, Int.reduceSub, Int.reduceToNat, Int.reduceNeg, Nat.reduceAdd, Nat.reduceMul, Nat.reduceSub, exists_eq_left', exists_eq_left, implies_true, forall_const, Site.l.injEq, Site.e.injEq, reduceCtorEq, beq_self_eq_true, ne_eq, hr, hRl, hRt, Nat.zero_add, Nat.sub_zero]
    refine callH cP [.l 34] ?_
    by_cases hmore : i + n < q.length
    · rw [decide_eq_true hmore]
      have hxl : ((q.drop i).take n).length = n := by rw [List.length_take, List.length_drop]; omega
      obtain ⟨y, hy⟩ := lt_get (l := q) (i := i + n - 1) (by omega)
      have hxy : ((q.drop i).take n)[n - 1]? = some y := by
        rw [List.getElem?_take, if_pos (by omega), List.getElem?_drop, ← hy]
        congr 1
        omega
      have hfr : frm q (i + n) = y := by
        obtain ⟨m, hm⟩ : ∃ m, i + n = m + 1 := ⟨i + n - 1, by omega⟩
        rw [hm] at hy ⊢
        show (q[m]?).getD ⟨#[]⟩ = y
        rw [show m + 1 - 1 = m by omega] at hy
        rw [hy]
        rfl
      have hall : q.take (i + n) = q.take i ++ (q.drop i).take n := by rw [← List.take_add]
      have hg1 : ¬ ((n : Int) > (n : Int)) := by omega
      have hw1 : IntKind.i64.wrap ((n : Int) - 1) = ((n - 1 : Nat) : Int) := by rw [wr_i64 (by omega) (by omega)]; omega
      have hlt1 : ((n - 1 : Nat) : Int) < n := by omega
      have hlen : (q.take (i + n)).length = (q.take i).length + n := by rw [hall, List.length_append, hxl]
      have hil : (q.take i).length ≤ 200 := by rw [List.length_take]; omega
      simp (decide := true) (maxSteps := 4000000) -implicitDefEqProofs only [evs, tabs, puts, siteD, gget, tget, tset, initT, dstAt, ev, evC, plain, Hp.get, Hp.set, bnd, isCells, isRow, SubA, SubC, Sub, SubL, CvA, Cv, dis, ordB, ite_self, exists_eq', List.mem_cons, List.not_mem_nil, Site.m.injEq, bne_self_eq_false, beq_iff_eq, bne_iff_ne, ↓reduceIte, Int.reduceAdd, Int.reduceSub, Int.reduceToNat, Int.reduceNeg, Nat.reduceAdd, Nat.reduceMul, Nat.reduceSub, exists_eq_left', exists_eq_left, implies_true, forall_const, Site.l.injEq, Site.e.injEq, reduceCtorEq, beq_self_eq_true, ne_eq, hxl, hg1, hw1, hlt1, hxy, hti]
      refine ⟨by omega, ?_⟩
      exact Nxt.mk [] (r + 1, i + n) (by simp (decide := true) (maxSteps := 4000000) -implicitDefEqProofs only [evs, tabs, puts, siteD, gget, tget, tset, initT, dstAt, ev, evC, plain, Hp.get, Hp.set, bnd, isCells, isRow, SubA, SubC, Sub, SubL, CvA, Cv, dis, ordB, ite_self, exists_eq', List.mem_cons, List.not_mem_nil, Site.m.injEq, bne_self_eq_false, beq_iff_eq, bne_iff_ne, ↓reduceIte, Int.reduceAdd, Int.reduceSub, Int.reduceToNat, Int.reduceNeg, Nat.reduceAdd, Nat.reduceMul, Nat.reduceSub, exists_eq_left', exists_eq_left, implies_true, forall_const, Site.l.injEq, Site.e.injEq, reduceCtorEq, beq_self_eq_true, ne_eq, hw, hlen, hfr, Nat.sub_zero]) (by simp (decide := true) (maxSteps := 4000000) -implicitDefEqProofs only [evs, tabs, puts, siteD, gget, tget, tset, initT, dstAt, ev, evC, plain, Hp.get, Hp.set, bnd, isCells, isRow, SubA, SubC, Sub, SubL, CvA, Cv, dis, ordB, ite_self, exists_eq', List.mem_cons, List.not_mem_nil, Site.m.injEq, bne_self_eq_false, beq_iff_eq, bne_iff_ne, ↓reduceIte, Int.reduceAdd, Int.reduceSub, Int.reduceToNat, Int.reduceNeg, Nat.reduceAdd, Nat.reduceMul, Nat.reduceSub, exists_eq_left', exists_eq_left, implies_true, forall_const, Site.l.injEq, Site.e.injEq, reduceCtorEq, beq_self_eq_true, ne_eq, hall, List.map_append, or_true]) ⟨by simp only; omega, by simp only; omega⟩ (by simp only; omega)
    · rw [decide_eq_false hmore]
      have hx : (q.drop i).take n = q.drop i := List.take_of_length_le (by rw [List.length_drop]; omega)
      have hxl : (q.drop i).length = q.length - i := List.length_drop
      rw [hx]
      have hg1 : ¬ (((q.length - i : Nat) : Int) > (n : Int)) := by omega
      have hil : (q.take i).length = i := by rw [List.length_take]; omega
      have hall : ((q.take i).map fun s => [S s]) ++ ((q.drop i).map fun s => [S s]) = q.map fun s => [S s] := by rw [← List.map_append, List.take_append_drop]
      have hsum : i + (q.length - i) = q.length := by omega
      have hti2 : List.take i ((q.take i).map fun s => [S s]) = (q.take i).map fun s => [S s] := List.take_of_length_le (by simp; omega)
      have htq : List.take q.length (q.map fun s => [S s]) = q.map fun s => [S s] := tk1 _ _
      have cE := eqStrs_ok q q (by omega)
      rw [decide_eq_true rfl] at cE
      simp (decide := true) (maxSteps := 4000000) -implicitDefEqProofs only [evs, tabs, puts, siteD, gget, tget, tset, initT, dstAt, ev, evC, plain, Hp.get, Hp.set, bnd, isCells, isRow, SubA, SubC, Sub, SubL, CvA, Cv, dis, ordB, ite_self, exists_eq', List.mem_cons, List.not_mem_nil, Site.m.injEq, bne_self_eq_false, beq_iff_eq, bne_iff_ne, ↓reduceIte, Int.reduceAdd, Int.reduceSub, Int.reduceToNat, Int.reduceNeg, Nat.reduceAdd, Nat.reduceMul, Nat.reduceSub, exists_eq_left', exists_eq_left, implies_true, forall_const, Site.l.injEq, Site.e.injEq, reduceCtorEq, beq_self_eq_true, ne_eq, hxl, hg1, hil, hti2, hall, hsum, htq, hRl, hRt, Nat.zero_add]
      refine ⟨by omega, ?_⟩
      refine call_eq cE ?_
      simp (decide := true) (maxSteps := 4000000) -implicitDefEqProofs only [evs, tabs, puts, siteD, gget, tget, tset, initT, dstAt, ev, evC, plain, Hp.get, Hp.set, bnd, isCells, isRow, SubA, SubC, Sub, SubL, CvA, Cv, dis, ordB, ite_self, exists_eq', List.mem_cons, List.not_mem_nil, Site.m.injEq, bne_self_eq_false, beq_iff_eq, bne_iff_ne, ↓reduceIte, Int.reduceAdd, Int.reduceSub, Int.reduceToNat, Int.reduceNeg, Nat.reduceAdd, Nat.reduceMul, Nat.reduceSub, exists_eq_left', exists_eq_left, implies_true, forall_const, Site.l.injEq, Site.e.injEq, reduceCtorEq, beq_self_eq_true, ne_eq]
  by_cases h1 : q0[0]? = some ⟨#[]⟩
  · have hpos : (q0.length : Int) > 0 := by omega
    have hx2 : ∀ r : List (List AV), (List.map (fun s => [S s]) q0 ++ r)[0]? = some [S ⟨#[]⟩] := fun r => by
      rw [List.getElem?_append_left (by rw [List.length_map]; omega), List.getElem?_map, h1]; rfl
    obtain rfl : off = 1 := by rw [hoff, if_pos h1]
    have hm : (if (200 : Int) < ((q0.length - 1 : Nat) : Int) then 200 else ((q0.length - 1 : Nat) : Int)) = (q.length : Int) := by rw [hq, List.length_take, List.length_drop]; split <;> omega
    have h00 : (0 : Int) ≤ q.length := by omega
    have hq00 : (q.length : Int) ≤ ((q0.length - 1 : Nat) : Int) := by rw [hq, List.length_take, List.length_drop]; omega
    have h11 : (1 : Int) ≤ q0.length := by omega
    simp (decide := true) (maxSteps := 4000000) -implicitDefEqProofs only [evs, tabs, puts, siteD, gget, tget, tset, initT, dstAt, ev, evC, plain, Hp.get, Hp.set, bnd, isCells, isRow, SubA, SubC, Sub, SubL, CvA, Cv, dis, ordB, ite_self, exists_eq', List.mem_cons, List.not_mem_nil, Site.m.injEq, bne_self_eq_false, beq_iff_eq, bne_iff_ne, ↓reduceIte, Int.reduceAdd, Int.reduceSub, Int.reduceToNat, Int.reduceNeg, Nat.reduceAdd, Nat.reduceMul, Nat.reduceSub, exists_eq_left', exists_eq_left, implies_true, forall_const, Site.l.injEq, Site.e.injEq, reduceCtorEq, beq_self_eq_true, ne_eq, hpos, hx2, toList_beq, decide_true, h11, hm, h00]
    refine ⟨.inl (Int.le_refl _), .inl hq00, ?_⟩
    refine call_eq (Within_ok n0 60 (by omega) (by omega)) ?_
    rw [show within n0 60 = (wN n0 60 : Int) from en]
    have hRt := hR (List.replicate (l.length - q0.length) [S ⟨#[]⟩]) (by omega)
    have hRl : 1 + q.length ≤ (List.map (fun s => [S s]) q0 ++ List.replicate (l.length - q0.length) [S ⟨#[]⟩]).length := by rw [List.length_append, List.length_map]; omega
    generalize List.map (fun s => [S s]) q0 ++ List.replicate (l.length - q0.length) [S ⟨#[]⟩] = R at hRt hRl ⊢
    simp (decide := true) (maxSteps := 4000000) -implicitDefEqProofs only [evs, tabs, puts, siteD, gget, tget, tset, initT, dstAt, ev, evC, plain, Hp.get, Hp.set, bnd, isCells, isRow, SubA, SubC, Sub, SubL, CvA, Cv, dis, ordB, ite_self, exists_eq', List.mem_cons, List.not_mem_nil, Site.m.injEq, bne_self_eq_false, beq_iff_eq, bne_iff_ne, ↓reduceIte, Int.reduceAdd, Int.reduceSub, Int.reduceToNat, Int.reduceNeg, Nat.reduceAdd, Nat.reduceMul, Nat.reduceSub, exists_eq_left', exists_eq_left, implies_true, forall_const, Site.l.injEq, Site.e.injEq, reduceCtorEq, beq_self_eq_true, ne_eq, hnw, hlq]
    refine ALoop.st [1, 8, 9, 10, 57, 58] (fun (s : Nat × Nat) => [I n, .own (.l 34) 1 1 1 q.length, .own (.l 87) 0 1 0 (q.take s.2).length, S (frm q s.2), I ((q.length + 1 : Nat) : Int), I s.1]) (fun s => [(.l 34, 1, .row 9 1 none R), (.l 87, 0, .row 9 1 none ((q.take s.2).map fun s => [S s]))]) (fun s => s.1 ≤ s.2 ∧ s.2 ≤ q.length) (fun s => q.length + 1 - s.1) [.l 87] (0, 0) (by simp (decide := true) (maxSteps := 4000000) -implicitDefEqProofs only [evs, tabs, puts, siteD, gget, tget, tset, initT, dstAt, ev, evC, plain, Hp.get, Hp.set, bnd, isCells, isRow, SubA, SubC, Sub, SubL, CvA, Cv, dis, ordB, ite_self, exists_eq', List.mem_cons, List.not_mem_nil, Site.m.injEq, bne_self_eq_false, beq_iff_eq, bne_iff_ne, ↓reduceIte, Int.reduceAdd, Int.reduceSub, Int.reduceToNat, Int.reduceNeg, Nat.reduceAdd, Nat.reduceMul, Nat.reduceSub, exists_eq_left', exists_eq_left, implies_true, forall_const, Site.l.injEq, Site.e.injEq, reduceCtorEq, beq_self_eq_true, ne_eq, frm, List.take_zero, List.length_nil, Nat.sub_zero, hlq]) (by simp (decide := true) (maxSteps := 4000000) -implicitDefEqProofs only [evs, tabs, puts, siteD, gget, tget, tset, initT, dstAt, ev, evC, plain, Hp.get, Hp.set, bnd, isCells, isRow, SubA, SubC, Sub, SubL, CvA, Cv, dis, ordB, ite_self, exists_eq', List.mem_cons, List.not_mem_nil, Site.m.injEq, bne_self_eq_false, beq_iff_eq, bne_iff_ne, ↓reduceIte, Int.reduceAdd, Int.reduceSub, Int.reduceToNat, Int.reduceNeg, Nat.reduceAdd, Nat.reduceMul, Nat.reduceSub, exists_eq_left', exists_eq_left, implies_true, forall_const, Site.l.injEq, Site.e.injEq, reduceCtorEq, beq_self_eq_true, ne_eq, List.take_zero, List.map_nil, or_true]) ⟨by omega, by omega⟩ ?_
    rintro ⟨r, i⟩ ⟨hri, hi⟩
    simp only at hri hi
    have hpg := pgAt_frm hqu hqn hi
    have cP := PageH_ok q R 1 (frm q i) n (by omega) hRt (by omega) hqu hn1 hn60
    rw [hpg] at cP
    have hr : (r : Int) < ((q.length + 1 : Nat) : Int) := by omega
    have hw : IntKind.i64.wrap ((r : Int) + 1) = ((r + 1 : Nat) : Int) := by rw [wr_i64 (by omega) (by omega)]; omega
    have hti : List.take (q.take i).length ((q.take i).map fun s => [S s]) = (q.take i).map fun s => [S s] := List.take_of_length_le (by simp)
    simp (decide := true) (maxSteps := 4000000) -implicitDefEqProofs only [evs, tabs, puts, siteD, gget, tget, tset, initT, dstAt, ev, evC, plain, Hp.get, Hp.set, bnd, isCells, isRow, SubA, SubC, Sub, SubL, CvA, Cv, dis, ordB, ite_self, exists_eq', List.mem_cons, List.not_mem_nil, Site.m.injEq, bne_self_eq_false, beq_iff_eq, bne_iff_ne, ↓reduceIte, Int.reduceAdd, Int.reduceSub, Int.reduceToNat, Int.reduceNeg, Nat.reduceAdd, Nat.reduceMul, Nat.reduceSub, exists_eq_left', exists_eq_left, implies_true, forall_const, Site.l.injEq, Site.e.injEq, reduceCtorEq, beq_self_eq_true, ne_eq, hr, hRl, hRt, Nat.zero_add, Nat.sub_zero]
    refine callH cP [.l 34] ?_
    by_cases hmore : i + n < q.length
    · rw [decide_eq_true hmore]
      have hxl : ((q.drop i).take n).length = n := by rw [List.length_take, List.length_drop]; omega
      obtain ⟨y, hy⟩ := lt_get (l := q) (i := i + n - 1) (by omega)
      have hxy : ((q.drop i).take n)[n - 1]? = some y := by
        rw [List.getElem?_take, if_pos (by omega), List.getElem?_drop, ← hy]
        congr 1
        omega
      have hfr : frm q (i + n) = y := by
        obtain ⟨m, hm⟩ : ∃ m, i + n = m + 1 := ⟨i + n - 1, by omega⟩
        rw [hm] at hy ⊢
        show (q[m]?).getD ⟨#[]⟩ = y
        rw [show m + 1 - 1 = m by omega] at hy
        rw [hy]
        rfl
      have hall : q.take (i + n) = q.take i ++ (q.drop i).take n := by rw [← List.take_add]
      have hg1 : ¬ ((n : Int) > (n : Int)) := by omega
      have hw1 : IntKind.i64.wrap ((n : Int) - 1) = ((n - 1 : Nat) : Int) := by rw [wr_i64 (by omega) (by omega)]; omega
      have hlt1 : ((n - 1 : Nat) : Int) < n := by omega
      have hlen : (q.take (i + n)).length = (q.take i).length + n := by rw [hall, List.length_append, hxl]
      have hil : (q.take i).length ≤ 200 := by rw [List.length_take]; omega
      simp (decide := true) (maxSteps := 4000000) -implicitDefEqProofs only [evs, tabs, puts, siteD, gget, tget, tset, initT, dstAt, ev, evC, plain, Hp.get, Hp.set, bnd, isCells, isRow, SubA, SubC, Sub, SubL, CvA, Cv, dis, ordB, ite_self, exists_eq', List.mem_cons, List.not_mem_nil, Site.m.injEq, bne_self_eq_false, beq_iff_eq, bne_iff_ne, ↓reduceIte, Int.reduceAdd, Int.reduceSub, Int.reduceToNat, Int.reduceNeg, Nat.reduceAdd, Nat.reduceMul, Nat.reduceSub, exists_eq_left', exists_eq_left, implies_true, forall_const, Site.l.injEq, Site.e.injEq, reduceCtorEq, beq_self_eq_true, ne_eq, hxl, hg1, hw1, hlt1, hxy, hti]
      refine ⟨by omega, ?_⟩
      exact Nxt.mk [] (r + 1, i + n) (by simp (decide := true) (maxSteps := 4000000) -implicitDefEqProofs only [evs, tabs, puts, siteD, gget, tget, tset, initT, dstAt, ev, evC, plain, Hp.get, Hp.set, bnd, isCells, isRow, SubA, SubC, Sub, SubL, CvA, Cv, dis, ordB, ite_self, exists_eq', List.mem_cons, List.not_mem_nil, Site.m.injEq, bne_self_eq_false, beq_iff_eq, bne_iff_ne, ↓reduceIte, Int.reduceAdd, Int.reduceSub, Int.reduceToNat, Int.reduceNeg, Nat.reduceAdd, Nat.reduceMul, Nat.reduceSub, exists_eq_left', exists_eq_left, implies_true, forall_const, Site.l.injEq, Site.e.injEq, reduceCtorEq, beq_self_eq_true, ne_eq, hw, hlen, hfr, Nat.sub_zero]) (by simp (decide := true) (maxSteps := 4000000) -implicitDefEqProofs only [evs, tabs, puts, siteD, gget, tget, tset, initT, dstAt, ev, evC, plain, Hp.get, Hp.set, bnd, isCells, isRow, SubA, SubC, Sub, SubL, CvA, Cv, dis, ordB, ite_self, exists_eq', List.mem_cons, List.not_mem_nil, Site.m.injEq, bne_self_eq_false, beq_iff_eq, bne_iff_ne, ↓reduceIte, Int.reduceAdd, Int.reduceSub, Int.reduceToNat, Int.reduceNeg, Nat.reduceAdd, Nat.reduceMul, Nat.reduceSub, exists_eq_left', exists_eq_left, implies_true, forall_const, Site.l.injEq, Site.e.injEq, reduceCtorEq, beq_self_eq_true, ne_eq, hall, List.map_append, or_true]) ⟨by simp only; omega, by simp only; omega⟩ (by simp only; omega)
    · rw [decide_eq_false hmore]
      have hx : (q.drop i).take n = q.drop i := List.take_of_length_le (by rw [List.length_drop]; omega)
      have hxl : (q.drop i).length = q.length - i := List.length_drop
      rw [hx]
      have hg1 : ¬ (((q.length - i : Nat) : Int) > (n : Int)) := by omega
      have hil : (q.take i).length = i := by rw [List.length_take]; omega
      have hall : ((q.take i).map fun s => [S s]) ++ ((q.drop i).map fun s => [S s]) = q.map fun s => [S s] := by rw [← List.map_append, List.take_append_drop]
      have hsum : i + (q.length - i) = q.length := by omega
      have hti2 : List.take i ((q.take i).map fun s => [S s]) = (q.take i).map fun s => [S s] := List.take_of_length_le (by simp; omega)
      have htq : List.take q.length (q.map fun s => [S s]) = q.map fun s => [S s] := tk1 _ _
      have cE := eqStrs_ok q q (by omega)
      rw [decide_eq_true rfl] at cE
      simp (decide := true) (maxSteps := 4000000) -implicitDefEqProofs only [evs, tabs, puts, siteD, gget, tget, tset, initT, dstAt, ev, evC, plain, Hp.get, Hp.set, bnd, isCells, isRow, SubA, SubC, Sub, SubL, CvA, Cv, dis, ordB, ite_self, exists_eq', List.mem_cons, List.not_mem_nil, Site.m.injEq, bne_self_eq_false, beq_iff_eq, bne_iff_ne, ↓reduceIte, Int.reduceAdd, Int.reduceSub, Int.reduceToNat, Int.reduceNeg, Nat.reduceAdd, Nat.reduceMul, Nat.reduceSub, exists_eq_left', exists_eq_left, implies_true, forall_const, Site.l.injEq, Site.e.injEq, reduceCtorEq, beq_self_eq_true, ne_eq, hxl, hg1, hil, hti2, hall, hsum, htq, hRl, hRt, Nat.zero_add]
      refine ⟨by omega, ?_⟩
      refine call_eq cE ?_
      simp (decide := true) (maxSteps := 4000000) -implicitDefEqProofs only [evs, tabs, puts, siteD, gget, tget, tset, initT, dstAt, ev, evC, plain, Hp.get, Hp.set, bnd, isCells, isRow, SubA, SubC, Sub, SubL, CvA, Cv, dis, ordB, ite_self, exists_eq', List.mem_cons, List.not_mem_nil, Site.m.injEq, bne_self_eq_false, beq_iff_eq, bne_iff_ne, ↓reduceIte, Int.reduceAdd, Int.reduceSub, Int.reduceToNat, Int.reduceNeg, Nat.reduceAdd, Nat.reduceMul, Nat.reduceSub, exists_eq_left', exists_eq_left, implies_true, forall_const, Site.l.injEq, Site.e.injEq, reduceCtorEq, beq_self_eq_true, ne_eq]
  · have hpos : (q0.length : Int) > 0 := by omega
    obtain ⟨x, hx⟩ := lt_get (l := q0) (i := 0) (by omega)
    have hxe : decide (x = ⟨#[]⟩) = false := decide_eq_false (fun e => h1 (by rw [hx, e]))
    have hx2 : ∀ r : List (List AV), (List.map (fun s => [S s]) q0 ++ r)[0]? = some [S x] := fun r => by
      rw [List.getElem?_append_left (by rw [List.length_map]; omega), List.getElem?_map, hx]; rfl
    obtain rfl : off = 0 := by rw [hoff, if_neg h1]
    rw [List.drop_zero] at hq
    have hm : (if (200 : Int) < q0.length then 200 else (q0.length : Int)) = (q.length : Int) := by rw [hq, List.length_take]; split <;> omega
    have h00 : (0 : Int) ≤ q.length := by omega
    have hq00 : (q.length : Int) ≤ q0.length := by omega
    simp (decide := true) (maxSteps := 4000000) -implicitDefEqProofs only [evs, tabs, puts, siteD, gget, tget, tset, initT, dstAt, ev, evC, plain, Hp.get, Hp.set, bnd, isCells, isRow, SubA, SubC, Sub, SubL, CvA, Cv, dis, ordB, ite_self, exists_eq', List.mem_cons, List.not_mem_nil, Site.m.injEq, bne_self_eq_false, beq_iff_eq, bne_iff_ne, ↓reduceIte, Int.reduceAdd, Int.reduceSub, Int.reduceToNat, Int.reduceNeg, Nat.reduceAdd, Nat.reduceMul, Nat.reduceSub, exists_eq_left', exists_eq_left, implies_true, forall_const, Site.l.injEq, Site.e.injEq, reduceCtorEq, beq_self_eq_true, ne_eq, hpos, hx2, toList_beq, hxe, hm, h00]
    refine ⟨.inl hq00, ?_⟩
    refine call_eq (Within_ok n0 60 (by omega) (by omega)) ?_
    rw [show within n0 60 = (wN n0 60 : Int) from en]
    have hRt := hR (List.replicate (l.length - q0.length) [S ⟨#[]⟩]) (by omega)
    rw [List.drop_zero] at hRt
    have hRl : q.length ≤ (List.map (fun s => [S s]) q0 ++ List.replicate (l.length - q0.length) [S ⟨#[]⟩]).length := by rw [List.length_append, List.length_map]; omega
    generalize List.map (fun s => [S s]) q0 ++ List.replicate (l.length - q0.length) [S ⟨#[]⟩] = R at hRt hRl ⊢
    simp (decide := true) (maxSteps := 4000000) -implicitDefEqProofs only [evs, tabs, puts, siteD, gget, tget, tset, initT, dstAt, ev, evC, plain, Hp.get, Hp.set, bnd, isCells, isRow, SubA, SubC, Sub, SubL, CvA, Cv, dis, ordB, ite_self, exists_eq', List.mem_cons, List.not_mem_nil, Site.m.injEq, bne_self_eq_false, beq_iff_eq, bne_iff_ne, ↓reduceIte, Int.reduceAdd, Int.reduceSub, Int.reduceToNat, Int.reduceNeg, Nat.reduceAdd, Nat.reduceMul, Nat.reduceSub, exists_eq_left', exists_eq_left, implies_true, forall_const, Site.l.injEq, Site.e.injEq, reduceCtorEq, beq_self_eq_true, ne_eq, hnw, hlq]
    refine ALoop.st [1, 8, 9, 10, 57, 58] (fun (s : Nat × Nat) => [I n, .own (.l 34) 1 1 0 q.length, .own (.l 87) 0 1 0 (q.take s.2).length, S (frm q s.2), I ((q.length + 1 : Nat) : Int), I s.1]) (fun s => [(.l 34, 1, .row 9 1 none R), (.l 87, 0, .row 9 1 none ((q.take s.2).map fun s => [S s]))]) (fun s => s.1 ≤ s.2 ∧ s.2 ≤ q.length) (fun s => q.length + 1 - s.1) [.l 87] (0, 0) (by simp (decide := true) (maxSteps := 4000000) -implicitDefEqProofs only [evs, tabs, puts, siteD, gget, tget, tset, initT, dstAt, ev, evC, plain, Hp.get, Hp.set, bnd, isCells, isRow, SubA, SubC, Sub, SubL, CvA, Cv, dis, ordB, ite_self, exists_eq', List.mem_cons, List.not_mem_nil, Site.m.injEq, bne_self_eq_false, beq_iff_eq, bne_iff_ne, ↓reduceIte, Int.reduceAdd, Int.reduceSub, Int.reduceToNat, Int.reduceNeg, Nat.reduceAdd, Nat.reduceMul, Nat.reduceSub, exists_eq_left', exists_eq_left, implies_true, forall_const, Site.l.injEq, Site.e.injEq, reduceCtorEq, beq_self_eq_true, ne_eq, frm, List.take_zero, List.length_nil, Nat.sub_zero, hlq]) (by simp (decide := true) (maxSteps := 4000000) -implicitDefEqProofs only [evs, tabs, puts, siteD, gget, tget, tset, initT, dstAt, ev, evC, plain, Hp.get, Hp.set, bnd, isCells, isRow, SubA, SubC, Sub, SubL, CvA, Cv, dis, ordB, ite_self, exists_eq', List.mem_cons, List.not_mem_nil, Site.m.injEq, bne_self_eq_false, beq_iff_eq, bne_iff_ne, ↓reduceIte, Int.reduceAdd, Int.reduceSub, Int.reduceToNat, Int.reduceNeg, Nat.reduceAdd, Nat.reduceMul, Nat.reduceSub, exists_eq_left', exists_eq_left, implies_true, forall_const, Site.l.injEq, Site.e.injEq, reduceCtorEq, beq_self_eq_true, ne_eq, List.take_zero, List.map_nil, or_true]) ⟨by omega, by omega⟩ ?_
    rintro ⟨r, i⟩ ⟨hri, hi⟩
    simp only at hri hi
    have hpg := pgAt_frm hqu hqn hi
    have cP := PageH_ok q R 0 (frm q i) n (by omega) hRt (by omega) hqu hn1 hn60
    rw [hpg] at cP
    have hr : (r : Int) < ((q.length + 1 : Nat) : Int) := by omega
    have hw : IntKind.i64.wrap ((r : Int) + 1) = ((r + 1 : Nat) : Int) := by rw [wr_i64 (by omega) (by omega)]; omega
    have hti : List.take (q.take i).length ((q.take i).map fun s => [S s]) = (q.take i).map fun s => [S s] := List.take_of_length_le (by simp)
    simp (decide := true) (maxSteps := 4000000) -implicitDefEqProofs only [evs, tabs, puts, siteD, gget, tget, tset, initT, dstAt, ev, evC, plain, Hp.get, Hp.set, bnd, isCells, isRow, SubA, SubC, Sub, SubL, CvA, Cv, dis, ordB, ite_self, exists_eq', List.mem_cons, List.not_mem_nil, Site.m.injEq, bne_self_eq_false, beq_iff_eq, bne_iff_ne, ↓reduceIte, Int.reduceAdd, Int.reduceSub, Int.reduceToNat, Int.reduceNeg, Nat.reduceAdd, Nat.reduceMul, Nat.reduceSub, exists_eq_left', exists_eq_left, implies_true, forall_const, Site.l.injEq, Site.e.injEq, reduceCtorEq, beq_self_eq_true, ne_eq, hr, hRl, hRt, Nat.zero_add, Nat.sub_zero]
    refine callH cP [.l 34] ?_
    by_cases hmore : i + n < q.length
    · rw [decide_eq_true hmore]
      have hxl : ((q.drop i).take n).length = n := by rw [List.length_take, List.length_drop]; omega
      obtain ⟨y, hy⟩ := lt_get (l := q) (i := i + n - 1) (by omega)
      have hxy : ((q.drop i).take n)[n - 1]? = some y := by
        rw [List.getElem?_take, if_pos (by omega), List.getElem?_drop, ← hy]
        congr 1
        omega
      have hfr : frm q (i + n) = y := by
        obtain ⟨m, hm⟩ : ∃ m, i + n = m + 1 := ⟨i + n - 1, by omega⟩
        rw [hm] at hy ⊢
        show (q[m]?).getD ⟨#[]⟩ = y
        rw [show m + 1 - 1 = m by omega] at hy
        rw [hy]
        rfl
      have hall : q.take (i + n) = q.take i ++ (q.drop i).take n := by rw [← List.take_add]
      have hg1 : ¬ ((n : Int) > (n : Int)) := by omega
      have hw1 : IntKind.i64.wrap ((n : Int) - 1) = ((n - 1 : Nat) : Int) := by rw [wr_i64 (by omega) (by omega)]; omega
      have hlt1 : ((n - 1 : Nat) : Int) < n := by omega
      have hlen : (q.take (i + n)).length = (q.take i).length + n := by rw [hall, List.length_append, hxl]
      have hil : (q.take i).length ≤ 200 := by rw [List.length_take]; omega
      simp (decide := true) (maxSteps := 4000000) -implicitDefEqProofs only [evs, tabs, puts, siteD, gget, tget, tset, initT, dstAt, ev, evC, plain, Hp.get, Hp.set, bnd, isCells, isRow, SubA, SubC, Sub, SubL, CvA, Cv, dis, ordB, ite_self, exists_eq', List.mem_cons, List.not_mem_nil, Site.m.injEq, bne_self_eq_false, beq_iff_eq, bne_iff_ne, ↓reduceIte, Int.reduceAdd, Int.reduceSub, Int.reduceToNat, Int.reduceNeg, Nat.reduceAdd, Nat.reduceMul, Nat.reduceSub, exists_eq_left', exists_eq_left, implies_true, forall_const, Site.l.injEq, Site.e.injEq, reduceCtorEq, beq_self_eq_true, ne_eq, hxl, hg1, hw1, hlt1, hxy, hti]
      refine ⟨by omega, ?_⟩
      exact Nxt.mk [] (r + 1, i + n) (by simp (decide := true) (maxSteps := 4000000) -implicitDefEqProofs only [evs, tabs, puts, siteD, gget, tget, tset, initT, dstAt, ev, evC, plain, Hp.get, Hp.set, bnd, isCells, isRow, SubA, SubC, Sub, SubL, CvA, Cv, dis, ordB, ite_self, exists_eq', List.mem_cons, List.not_mem_nil, Site.m.injEq, bne_self_eq_false, beq_iff_eq, bne_iff_ne, ↓reduceIte, Int.reduceAdd, Int.reduceSub, Int.reduceToNat, Int.reduceNeg, Nat.reduceAdd, Nat.reduceMul, Nat.reduceSub, exists_eq_left', exists_eq_left, implies_true, forall_const, Site.l.injEq, Site.e.injEq, reduceCtorEq, beq_self_eq_true, ne_eq, hw, hlen, hfr, Nat.sub_zero]) (by simp (decide := true) (maxSteps := 4000000) -implicitDefEqProofs only [evs, tabs, puts, siteD, gget, tget, tset, initT, dstAt, ev, evC, plain, Hp.get, Hp.set, bnd, isCells, isRow, SubA, SubC, Sub, SubL, CvA, Cv, dis, ordB, ite_self, exists_eq', List.mem_cons, List.not_mem_nil, Site.m.injEq, bne_self_eq_false, beq_iff_eq, bne_iff_ne, ↓reduceIte, Int.reduceAdd, Int.reduceSub, Int.reduceToNat, Int.reduceNeg, Nat.reduceAdd, Nat.reduceMul, Nat.reduceSub, exists_eq_left', exists_eq_left, implies_true, forall_const, Site.l.injEq, Site.e.injEq, reduceCtorEq, beq_self_eq_true, ne_eq, hall, List.map_append, or_true]) ⟨by simp only; omega, by simp only; omega⟩ (by simp only; omega)
    · rw [decide_eq_false hmore]
      have hx : (q.drop i).take n = q.drop i := List.take_of_length_le (by rw [List.length_drop]; omega)
      have hxl : (q.drop i).length = q.length - i := List.length_drop
      rw [hx]
      have hg1 : ¬ (((q.length - i : Nat) : Int) > (n : Int)) := by omega
      have hil : (q.take i).length = i := by rw [List.length_take]; omega
      have hall : ((q.take i).map fun s => [S s]) ++ ((q.drop i).map fun s => [S s]) = q.map fun s => [S s] := by rw [← List.map_append, List.take_append_drop]
      have hsum : i + (q.length - i) = q.length := by omega
      have hti2 : List.take i ((q.take i).map fun s => [S s]) = (q.take i).map fun s => [S s] := List.take_of_length_le (by simp; omega)
      have htq : List.take q.length (q.map fun s => [S s]) = q.map fun s => [S s] := tk1 _ _
      have cE := eqStrs_ok q q (by omega)
      rw [decide_eq_true rfl] at cE
      simp (decide := true) (maxSteps := 4000000) -implicitDefEqProofs only [evs, tabs, puts, siteD, gget, tget, tset, initT, dstAt, ev, evC, plain, Hp.get, Hp.set, bnd, isCells, isRow, SubA, SubC, Sub, SubL, CvA, Cv, dis, ordB, ite_self, exists_eq', List.mem_cons, List.not_mem_nil, Site.m.injEq, bne_self_eq_false, beq_iff_eq, bne_iff_ne, ↓reduceIte, Int.reduceAdd, Int.reduceSub, Int.reduceToNat, Int.reduceNeg, Nat.reduceAdd, Nat.reduceMul, Nat.reduceSub, exists_eq_left', exists_eq_left, implies_true, forall_const, Site.l.injEq, Site.e.injEq, reduceCtorEq, beq_self_eq_true, ne_eq, hxl, hg1, hil, hti2, hall, hsum, htq, hRl, hRt, Nat.zero_add]
      refine ⟨by omega, ?_⟩
      refine call_eq cE ?_
      simp (decide := true) (maxSteps := 4000000) -implicitDefEqProofs only [evs, tabs, puts, siteD, gget, tget, tset, initT, dstAt, ev, evC, plain, Hp.get, Hp.set, bnd, isCells, isRow, SubA, SubC, Sub, SubL, CvA, Cv, dis, ordB, ite_self, exists_eq', List.mem_cons, List.not_mem_nil, Site.m.injEq, bne_self_eq_false, beq_iff_eq, bne_iff_ne, ↓reduceIte, Int.reduceAdd, Int.reduceSub, Int.reduceToNat, Int.reduceNeg, Nat.reduceAdd, Nat.reduceMul, Nat.reduceSub, exists_eq_left', exists_eq_left, implies_true, forall_const, Site.l.injEq, Site.e.injEq, reduceCtorEq, beq_self_eq_true, ne_eq]
end Go.Proofs.Ytljickachmdejaa.E
