/- Walks: slices.BinarySearch of strings, and find.Page. No conditions. -/
import Derived.Test.YtljickachmdejaaCompS
namespace Go.Proofs.Ytljickachmdejaa.E
open Go
set_option linter.unusedSimpArgs false
set_option linter.unusedVariables false
set_option linter.unusedSectionVars false
set_option maxRecDepth 20000
set_option maxHeartbeats 1000000
/-- How many are smaller. -/
def posS (k : ByteArray) (l : List ByteArray) : Nat := (l.filter fun f => sLt f k).length
def StrUp (l : List ByteArray) : Prop := l.Pairwise fun f g => sLt f g = true
theorem sLt_of_geS {a b k : ByteArray} (h : sLt a k = false) (hab : sLt a b = true) : sLt b k = false := by
  cases e : sLt b k with
  | false => rfl
  | true => rw [sLt_trans hab e] at h; cases h
theorem posS_zero {k : ByteArray} {g : ByteArray} {l : List ByteArray} (hs : StrUp (g :: l)) (h : sLt g k = false) : posS k (g :: l) = 0 := by
  unfold posS
  rw [List.length_eq_zero_iff, List.filter_eq_nil_iff]
  intro f hf
  rcases List.mem_cons.1 hf with e | hf
  · rw [e, h]; simp
  · rw [sLt_of_geS h ((List.pairwise_cons.1 hs).1 f hf)]; simp
theorem posS_iff {k : ByteArray} {l : List ByteArray} (hs : StrUp l) : ∀ {m : Nat} {f : ByteArray}, l[m]? = some f → (sLt f k = true ↔ m < posS k l) := by
  induction l with
  | nil => intro m f h; simp at h
  | cons g l ih =>
    intro m f h
    cases e : sLt g k with
    | false =>
      rw [posS_zero hs e]
      have hm := List.mem_of_getElem? h
      have : sLt f k = false := by
        rcases List.mem_cons.1 hm with e2 | hm
        · rw [e2]; exact e
        · exact sLt_of_geS e ((List.pairwise_cons.1 hs).1 f hm)
      rw [this]; simp
    | true =>
      have e2 : posS k (g :: l) = posS k l + 1 := by unfold posS; rw [List.filter_cons, e]; rfl
      rw [e2]
      cases m with
      | zero => simp at h; subst h; simp [e]
      | succ m =>
        rw [List.getElem?_cons_succ] at h
        rw [ih (List.pairwise_cons.1 hs).2 h]; omega
theorem anyS_none {k : ByteArray} {l : List ByteArray} (hs : StrUp l) (h : l.length ≤ posS k l) : (l.any fun f => decide (f = k)) = false := by
  rw [Bool.eq_false_iff]
  intro ha
  obtain ⟨g, hg, e⟩ := List.any_eq_true.1 ha
  have e := of_decide_eq_true e
  obtain ⟨m, hm⟩ := List.getElem?_of_mem hg
  have := (posS_iff (k := k) hs hm).2 (by have := (List.getElem?_eq_some_iff.1 hm).1; omega)
  rw [e, sLt_irrefl] at this
  cases this
theorem anyS_at {k : ByteArray} {l : List ByteArray} (hs : StrUp l) {f : ByteArray} (hf : l[posS k l]? = some f) : (l.any fun f => decide (f = k)) = decide (f = k) := by
  have hfn : sLt f k = false := by
    rw [Bool.eq_false_iff]
    intro h
    have := (posS_iff hs hf).1 h
    omega
  rw [Bool.eq_iff_iff, decide_eq_true_eq]
  constructor
  · intro ha
    obtain ⟨g, hg, e⟩ := List.any_eq_true.1 ha
    have e := of_decide_eq_true e
    obtain ⟨m, hm⟩ := List.getElem?_of_mem hg
    have h1 : ¬ m < posS k l := fun h => by
      have := (posS_iff (k := k) hs hm).2 h
      rw [e, sLt_irrefl] at this
      cases this
    by_cases h2 : m = posS k l
    · rw [h2, hf] at hm; cases hm; exact e
    · obtain ⟨a1, a2⟩ := List.getElem?_eq_some_iff.1 hf
      obtain ⟨b1, b2⟩ := List.getElem?_eq_some_iff.1 hm
      have := List.pairwise_iff_getElem.1 hs (posS k l) m a1 b1 (by omega)
      rw [a2, b2, e, hfn] at this
      cases this
  · intro e
    exact List.any_eq_true.2 ⟨f, List.mem_of_getElem? hf, decide_eq_true e⟩
theorem wr_u64S {n : Nat} (h : n < 1000000) : IntKind.u64.wrap (n : Int) = (n : Int) := by
  unfold IntKind.wrap
  simp only [IntKind.bits, IntKind.signed]
  simp
  omega
theorem half_eqS {n : Nat} (h : n < 1000000) : IntKind.i64.wrap ((IntKind.u64.wrap (n : Int)).fdiv (2 ^ min 1 IntKind.u64.bits)) = ((n / 2 : Nat) : Int) := by
  rw [wr_u64S h, show ((2 : Int) ^ min 1 IntKind.u64.bits) = 2 from rfl, Int.fdiv_eq_ediv_of_nonneg _ (by omega), wr_i64 (by omega) (by omega)]
  omega
theorem isNaN_ok (s : ByteArray) : Ok Try.prog 40 [S s] (B false) := by
  refine Ok.of_wp (rs := [.tmp 2]) (n := 6) Try.func40 rfl rfl rfl (by simp) fo (by kernel_rfl) ?_
  simp (decide := true) (maxSteps := 4000000) -implicitDefEqProofs only [evs, tabs, puts, siteD, gget, tget, tset, initT, dstAt, ev, evC, plain, Hp.get, Hp.set, bnd, isCells, isRow, SubA, SubC, Sub, SubL, CvA, Cv, dis, ordB, ite_self, exists_eq', List.mem_cons, List.not_mem_nil, Site.m.injEq, bne_self_eq_false, beq_iff_eq, bne_iff_ne, ↓reduceIte, Int.reduceAdd, Int.reduceSub, Int.reduceToNat, Int.reduceNeg, Nat.reduceAdd, Nat.reduceMul, Nat.reduceSub, exists_eq_left', exists_eq_left, implies_true, forall_const, Site.l.injEq, Site.e.injEq, reduceCtorEq, beq_self_eq_true, ne_eq, toList_beq, decide_true]
theorem bsS_ok (l : List ByteArray) (k : ByteArray) (hl : l.length ≤ 10000) (hs : StrUp l) : Ok Try.prog 32 [strs l, S k] (.tup [I (posS k l), B (l.any fun f => decide (f = k))]) := by
  refine Ok.of_wp (rs := [.tmp 4, .tmp 5]) (n := 54) Try.func32 rfl rfl rfl (by simp) fo (by kernel_rfl) ?_
  simp (decide := true) (maxSteps := 4000000) -implicitDefEqProofs only [evs, tabs, puts, siteD, gget, tget, tset, initT, dstAt, ev, evC, plain, Hp.get, Hp.set, bnd, isCells, isRow, SubA, SubC, Sub, SubL, CvA, Cv, dis, ordB, ite_self, exists_eq', List.mem_cons, List.not_mem_nil, Site.m.injEq, bne_self_eq_false, beq_iff_eq, bne_iff_ne, ↓reduceIte, Int.reduceAdd, Int.reduceSub, Int.reduceToNat, Int.reduceNeg, Nat.reduceAdd, Nat.reduceMul, Nat.reduceSub, exists_eq_left', exists_eq_left, implies_true, forall_const, Site.l.injEq, Site.e.injEq, reduceCtorEq, beq_self_eq_true, ne_eq]
  refine ALoop.st [0, 1, 6, 7, 8] (fun (s : Nat × Nat) => [strs l, S k, I l.length, I s.1, I s.2]) (fun _ => []) (fun s => s.1 ≤ s.2 ∧ s.2 ≤ l.length ∧ s.1 ≤ posS k l ∧ posS k l ≤ s.2) (fun s => s.2 - s.1) [] (0, l.length) (by simp (decide := true) (maxSteps := 4000000) -implicitDefEqProofs only [evs, tabs, puts, siteD, gget, tget, tset, initT, dstAt, ev, evC, plain, Hp.get, Hp.set, bnd, isCells, isRow, SubA, SubC, Sub, SubL, CvA, Cv, dis, ordB, ite_self, exists_eq', List.mem_cons, List.not_mem_nil, Site.m.injEq, bne_self_eq_false, beq_iff_eq, bne_iff_ne, ↓reduceIte, Int.reduceAdd, Int.reduceSub, Int.reduceToNat, Int.reduceNeg, Nat.reduceAdd, Nat.reduceMul, Nat.reduceSub, exists_eq_left', exists_eq_left, implies_true, forall_const, Site.l.injEq, Site.e.injEq, reduceCtorEq, beq_self_eq_true, ne_eq]; try rfl) (by simp (decide := true) (maxSteps := 4000000) -implicitDefEqProofs only [evs, tabs, puts, siteD, gget, tget, tset, initT, dstAt, ev, evC, plain, Hp.get, Hp.set, bnd, isCells, isRow, SubA, SubC, Sub, SubL, CvA, Cv, dis, ordB, ite_self, exists_eq', List.mem_cons, List.not_mem_nil, Site.m.injEq, bne_self_eq_false, beq_iff_eq, bne_iff_ne, ↓reduceIte, Int.reduceAdd, Int.reduceSub, Int.reduceToNat, Int.reduceNeg, Nat.reduceAdd, Nat.reduceMul, Nat.reduceSub, exists_eq_left', exists_eq_left, implies_true, forall_const, Site.l.injEq, Site.e.injEq, reduceCtorEq, beq_self_eq_true, ne_eq]) ⟨by omega, by omega, by omega, List.length_filter_le _ _⟩ ?_
  rintro ⟨i, j⟩ ⟨hij, hj, h1, h2⟩
  simp only at hij hj h1 h2
  by_cases h : (i : Int) < j
  · obtain ⟨f, hf⟩ := lt_get (l := l) (i := (i + j) / 2) (by omega)
    have e1 : IntKind.i64.wrap ((i : Int) + j) = ((i + j : Nat) : Int) := by rw [wr_i64 (by omega) (by omega)]; omega
    have e2 := half_eqS (n := i + j) (by omega)
    have hit := posS_iff (k := k) hs hf
    have hm : (((i + j) / 2 : Nat) : Int) < l.length := by omega
    have hwm := wr_add1 (n := l.length) hm (by omega)
    simp (decide := true) (maxSteps := 4000000) -implicitDefEqProofs only [evs, tabs, puts, siteD, gget, tget, tset, initT, dstAt, ev, evC, plain, Hp.get, Hp.set, bnd, isCells, isRow, SubA, SubC, Sub, SubL, CvA, Cv, dis, ordB, ite_self, exists_eq', List.mem_cons, List.not_mem_nil, Site.m.injEq, bne_self_eq_false, beq_iff_eq, bne_iff_ne, ↓reduceIte, Int.reduceAdd, Int.reduceSub, Int.reduceToNat, Int.reduceNeg, Nat.reduceAdd, Nat.reduceMul, Nat.reduceSub, exists_eq_left', exists_eq_left, implies_true, forall_const, Site.l.injEq, Site.e.injEq, reduceCtorEq, beq_self_eq_true, ne_eq, h, e1, e2, hf, hm]
    refine call_eq (lessS_ok f k) ?_
    by_cases hc : sLt f k = true
    · have := hit.1 hc
      rw [hc]
      simp (decide := true) (maxSteps := 4000000) -implicitDefEqProofs only [evs, tabs, puts, siteD, gget, tget, tset, initT, dstAt, ev, evC, plain, Hp.get, Hp.set, bnd, isCells, isRow, SubA, SubC, Sub, SubL, CvA, Cv, dis, ordB, ite_self, exists_eq', List.mem_cons, List.not_mem_nil, Site.m.injEq, bne_self_eq_false, beq_iff_eq, bne_iff_ne, ↓reduceIte, Int.reduceAdd, Int.reduceSub, Int.reduceToNat, Int.reduceNeg, Nat.reduceAdd, Nat.reduceMul, Nat.reduceSub, exists_eq_left', exists_eq_left, implies_true, forall_const, Site.l.injEq, Site.e.injEq, reduceCtorEq, beq_self_eq_true, ne_eq, hwm]
      exact Nxt.mk [] ((i + j) / 2 + 1, j) (by simp (decide := true) (maxSteps := 4000000) -implicitDefEqProofs only [evs, tabs, puts, siteD, gget, tget, tset, initT, dstAt, ev, evC, plain, Hp.get, Hp.set, bnd, isCells, isRow, SubA, SubC, Sub, SubL, CvA, Cv, dis, ordB, ite_self, exists_eq', List.mem_cons, List.not_mem_nil, Site.m.injEq, bne_self_eq_false, beq_iff_eq, bne_iff_ne, ↓reduceIte, Int.reduceAdd, Int.reduceSub, Int.reduceToNat, Int.reduceNeg, Nat.reduceAdd, Nat.reduceMul, Nat.reduceSub, exists_eq_left', exists_eq_left, implies_true, forall_const, Site.l.injEq, Site.e.injEq, reduceCtorEq, beq_self_eq_true, ne_eq]; try rfl) (by simp (decide := true) (maxSteps := 4000000) -implicitDefEqProofs only [evs, tabs, puts, siteD, gget, tget, tset, initT, dstAt, ev, evC, plain, Hp.get, Hp.set, bnd, isCells, isRow, SubA, SubC, Sub, SubL, CvA, Cv, dis, ordB, ite_self, exists_eq', List.mem_cons, List.not_mem_nil, Site.m.injEq, bne_self_eq_false, beq_iff_eq, bne_iff_ne, ↓reduceIte, Int.reduceAdd, Int.reduceSub, Int.reduceToNat, Int.reduceNeg, Nat.reduceAdd, Nat.reduceMul, Nat.reduceSub, exists_eq_left', exists_eq_left, implies_true, forall_const, Site.l.injEq, Site.e.injEq, reduceCtorEq, beq_self_eq_true, ne_eq]) ⟨by simp only; omega, by simp only; omega, by simp only; omega, by simp only; omega⟩ (by simp only; omega)
    · have : ¬ (i + j) / 2 < posS k l := fun h => hc (hit.2 h)
      rw [Bool.eq_false_iff.2 hc]
      simp (decide := true) (maxSteps := 4000000) -implicitDefEqProofs only [evs, tabs, puts, siteD, gget, tget, tset, initT, dstAt, ev, evC, plain, Hp.get, Hp.set, bnd, isCells, isRow, SubA, SubC, Sub, SubL, CvA, Cv, dis, ordB, ite_self, exists_eq', List.mem_cons, List.not_mem_nil, Site.m.injEq, bne_self_eq_false, beq_iff_eq, bne_iff_ne, ↓reduceIte, Int.reduceAdd, Int.reduceSub, Int.reduceToNat, Int.reduceNeg, Nat.reduceAdd, Nat.reduceMul, Nat.reduceSub, exists_eq_left', exists_eq_left, implies_true, forall_const, Site.l.injEq, Site.e.injEq, reduceCtorEq, beq_self_eq_true, ne_eq]
      exact Nxt.mk [] (i, (i + j) / 2) (by simp (decide := true) (maxSteps := 4000000) -implicitDefEqProofs only [evs, tabs, puts, siteD, gget, tget, tset, initT, dstAt, ev, evC, plain, Hp.get, Hp.set, bnd, isCells, isRow, SubA, SubC, Sub, SubL, CvA, Cv, dis, ordB, ite_self, exists_eq', List.mem_cons, List.not_mem_nil, Site.m.injEq, bne_self_eq_false, beq_iff_eq, bne_iff_ne, ↓reduceIte, Int.reduceAdd, Int.reduceSub, Int.reduceToNat, Int.reduceNeg, Nat.reduceAdd, Nat.reduceMul, Nat.reduceSub, exists_eq_left', exists_eq_left, implies_true, forall_const, Site.l.injEq, Site.e.injEq, reduceCtorEq, beq_self_eq_true, ne_eq]; try rfl) (by simp (decide := true) (maxSteps := 4000000) -implicitDefEqProofs only [evs, tabs, puts, siteD, gget, tget, tset, initT, dstAt, ev, evC, plain, Hp.get, Hp.set, bnd, isCells, isRow, SubA, SubC, Sub, SubL, CvA, Cv, dis, ordB, ite_self, exists_eq', List.mem_cons, List.not_mem_nil, Site.m.injEq, bne_self_eq_false, beq_iff_eq, bne_iff_ne, ↓reduceIte, Int.reduceAdd, Int.reduceSub, Int.reduceToNat, Int.reduceNeg, Nat.reduceAdd, Nat.reduceMul, Nat.reduceSub, exists_eq_left', exists_eq_left, implies_true, forall_const, Site.l.injEq, Site.e.injEq, reduceCtorEq, beq_self_eq_true, ne_eq]) ⟨by simp only; omega, by simp only; omega, by simp only; omega, by simp only; omega⟩ (by simp only; omega)
  · obtain rfl : i = posS k l := by omega
    by_cases hn : ((posS k l : Nat) : Int) < l.length
    · obtain ⟨f, hf⟩ := get_lt hn
      have hany := anyS_at hs hf
      rw [hany]
      by_cases hc : f = k
      · have hc' : decide (f = k) = true := decide_eq_true hc
        simp (decide := true) (maxSteps := 4000000) -implicitDefEqProofs only [evs, tabs, puts, siteD, gget, tget, tset, initT, dstAt, ev, evC, plain, Hp.get, Hp.set, bnd, isCells, isRow, SubA, SubC, Sub, SubL, CvA, Cv, dis, ordB, ite_self, exists_eq', List.mem_cons, List.not_mem_nil, Site.m.injEq, bne_self_eq_false, beq_iff_eq, bne_iff_ne, ↓reduceIte, Int.reduceAdd, Int.reduceSub, Int.reduceToNat, Int.reduceNeg, Nat.reduceAdd, Nat.reduceMul, Nat.reduceSub, exists_eq_left', exists_eq_left, implies_true, forall_const, Site.l.injEq, Site.e.injEq, reduceCtorEq, beq_self_eq_true, ne_eq, h, hn, hf, toList_beq, hc']
      · have hc' : decide (f = k) = false := decide_eq_false hc
        simp (decide := true) (maxSteps := 4000000) -implicitDefEqProofs only [evs, tabs, puts, siteD, gget, tget, tset, initT, dstAt, ev, evC, plain, Hp.get, Hp.set, bnd, isCells, isRow, SubA, SubC, Sub, SubL, CvA, Cv, dis, ordB, ite_self, exists_eq', List.mem_cons, List.not_mem_nil, Site.m.injEq, bne_self_eq_false, beq_iff_eq, bne_iff_ne, ↓reduceIte, Int.reduceAdd, Int.reduceSub, Int.reduceToNat, Int.reduceNeg, Nat.reduceAdd, Nat.reduceMul, Nat.reduceSub, exists_eq_left', exists_eq_left, implies_true, forall_const, Site.l.injEq, Site.e.injEq, reduceCtorEq, beq_self_eq_true, ne_eq, h, hn, hf, toList_beq, hc']
        refine call_eq (isNaN_ok f) ?_
        simp (decide := true) (maxSteps := 4000000) -implicitDefEqProofs only [evs, tabs, puts, siteD, gget, tget, tset, initT, dstAt, ev, evC, plain, Hp.get, Hp.set, bnd, isCells, isRow, SubA, SubC, Sub, SubL, CvA, Cv, dis, ordB, ite_self, exists_eq', List.mem_cons, List.not_mem_nil, Site.m.injEq, bne_self_eq_false, beq_iff_eq, bne_iff_ne, ↓reduceIte, Int.reduceAdd, Int.reduceSub, Int.reduceToNat, Int.reduceNeg, Nat.reduceAdd, Nat.reduceMul, Nat.reduceSub, exists_eq_left', exists_eq_left, implies_true, forall_const, Site.l.injEq, Site.e.injEq, reduceCtorEq, beq_self_eq_true, ne_eq, hc']
    · have hnone := anyS_none (k := k) hs (by omega)
      simp (decide := true) (maxSteps := 4000000) -implicitDefEqProofs only [evs, tabs, puts, siteD, gget, tget, tset, initT, dstAt, ev, evC, plain, Hp.get, Hp.set, bnd, isCells, isRow, SubA, SubC, Sub, SubL, CvA, Cv, dis, ordB, ite_self, exists_eq', List.mem_cons, List.not_mem_nil, Site.m.injEq, bne_self_eq_false, beq_iff_eq, bne_iff_ne, ↓reduceIte, Int.reduceAdd, Int.reduceSub, Int.reduceToNat, Int.reduceNeg, Nat.reduceAdd, Nat.reduceMul, Nat.reduceSub, exists_eq_left', exists_eq_left, implies_true, forall_const, Site.l.injEq, Site.e.injEq, reduceCtorEq, beq_self_eq_true, ne_eq, h, hn, hnone]
/-- Behind which place a page begins. -/
def pgAt (l : List ByteArray) (k : ByteArray) : Nat := posS k l + (if (l.any fun f => decide (f = k)) then 1 else 0)
theorem pgAt_le {l : List ByteArray} (hs : StrUp l) (k : ByteArray) : pgAt l k ≤ l.length := by
  unfold pgAt
  have h1 : posS k l ≤ l.length := List.length_filter_le _ _
  split
  · rename_i h
    rcases Nat.lt_or_ge (posS k l) l.length with h2 | h2
    · omega
    · rw [anyS_none hs h2] at h; cases h
  · omega
/-- Behind one of them comes the next one. -/
theorem pgAt_get {l : List ByteArray} (hs : StrUp l) {i : Nat} {x : ByteArray} (hx : l[i]? = some x) : pgAt l x = i + 1 := by
  have h1 : (l.any fun f => decide (f = x)) = true := List.any_eq_true.2 ⟨x, List.mem_of_getElem? hx, decide_eq_true rfl⟩
  have h2 := posS_iff (k := x) hs hx
  rw [sLt_irrefl] at h2
  have h3 : ¬ i < posS x l := fun h => by have := h2.2 h; cases this
  unfold pgAt
  rw [if_pos h1]
  rcases Nat.lt_or_ge (posS x l) i with h4 | h4
  · obtain ⟨y, hy⟩ := lt_get (l := l) (i := posS x l) (by have := (List.getElem?_eq_some_iff.1 hx).1; omega)
    have h5 := posS_iff (k := x) hs hy
    obtain ⟨a1, a2⟩ := List.getElem?_eq_some_iff.1 hy
    obtain ⟨b1, b2⟩ := List.getElem?_eq_some_iff.1 hx
    have := List.pairwise_iff_getElem.1 hs (posS x l) i a1 b1 h4
    rw [a2, b2] at this
    have := h5.1 this
    omega
  · omega
/-- What stands ahead is no more than it; what is behind is more. -/
theorem pgAt_lt {l : List ByteArray} (hs : StrUp l) {k : ByteArray} {i : Nat} {x : ByteArray} (hx : l[i]? = some x) : sLt k x = true ↔ pgAt l k ≤ i := by
  have h2 := posS_iff (k := k) hs hx
  unfold pgAt
  rcases sLt_tri k x with h | h | h
  · have h3 := sLt_asymm h
    rw [h3] at h2
    have h4 : ¬ i < posS k l := fun h => by have := h2.2 h; cases this
    refine ⟨fun _ => ?_, fun _ => h⟩
    split
    · rename_i ha
      obtain ⟨y, hy, e⟩ := List.any_eq_true.1 ha
      have e := of_decide_eq_true e
      subst e
      obtain ⟨j, hj⟩ := List.getElem?_of_mem hy
      have hp := pgAt_get hs hj
      unfold pgAt at hp
      rw [if_pos ha] at hp
      obtain ⟨a1, a2⟩ := List.getElem?_eq_some_iff.1 hj
      obtain ⟨b1, b2⟩ := List.getElem?_eq_some_iff.1 hx
      rcases Nat.lt_trichotomy j i with h5 | h5 | h5
      · omega
      · subst h5; rw [hj] at hx; cases hx; rw [sLt_irrefl] at h; cases h
      · have := List.pairwise_iff_getElem.1 hs i j b1 a1 h5
        rw [a2, b2, h3] at this
        cases this
    · omega
  · subst h
    have hp := pgAt_get hs hx
    unfold pgAt at hp
    rw [sLt_irrefl]
    constructor
    · intro h; cases h
    · intro h; omega
  · rw [sLt_asymm h]
    have := h2.1 h
    constructor
    · intro h; cases h
    · intro h5; omega
theorem Page_ok (l : List ByteArray) (k : ByteArray) (n : Nat) (hl : l.length ≤ 5120) (hs : StrUp l) (hn0 : 1 ≤ n) (hn : n ≤ 60) : Ok Try.prog 23 [strs l, S k, I n] (.tup [strs ((l.drop (pgAt l k)).take n), B (decide (pgAt l k + n < l.length)), I 0]) := by
  refine Ok.of_wp (rs := [.tmp 6, .tmp 7, .tmp 8]) (n := 66) Try.func23 rfl rfl rfl (by simp) fo (by kernel_rfl) ?_
  have h1 : ¬ ((l.length : Int) > 5120) := by omega
  simp (decide := true) (maxSteps := 4000000) -implicitDefEqProofs only [evs, tabs, puts, siteD, gget, tget, tset, initT, dstAt, ev, evC, plain, Hp.get, Hp.set, bnd, isCells, isRow, SubA, SubC, Sub, SubL, CvA, Cv, dis, ordB, ite_self, exists_eq', List.mem_cons, List.not_mem_nil, Site.m.injEq, bne_self_eq_false, beq_iff_eq, bne_iff_ne, ↓reduceIte, Int.reduceAdd, Int.reduceSub, Int.reduceToNat, Int.reduceNeg, Nat.reduceAdd, Nat.reduceMul, Nat.reduceSub, exists_eq_left', exists_eq_left, implies_true, forall_const, Site.l.injEq, Site.e.injEq, reduceCtorEq, beq_self_eq_true, ne_eq, h1]
  refine ALoop.st [0, 1, 2, 16, 17, 18] (fun (i : Nat) => [strs l, S k, I n, strs l, I l.length, I i]) (fun _ => []) (fun i => i ≤ l.length) (fun i => l.length - i) [] 0 (by simp (decide := true) (maxSteps := 4000000) -implicitDefEqProofs only [evs, tabs, puts, siteD, gget, tget, tset, initT, dstAt, ev, evC, plain, Hp.get, Hp.set, bnd, isCells, isRow, SubA, SubC, Sub, SubL, CvA, Cv, dis, ordB, ite_self, exists_eq', List.mem_cons, List.not_mem_nil, Site.m.injEq, bne_self_eq_false, beq_iff_eq, bne_iff_ne, ↓reduceIte, Int.reduceAdd, Int.reduceSub, Int.reduceToNat, Int.reduceNeg, Nat.reduceAdd, Nat.reduceMul, Nat.reduceSub, exists_eq_left', exists_eq_left, implies_true, forall_const, Site.l.injEq, Site.e.injEq, reduceCtorEq, beq_self_eq_true, ne_eq]) (by simp (decide := true) (maxSteps := 4000000) -implicitDefEqProofs only [evs, tabs, puts, siteD, gget, tget, tset, initT, dstAt, ev, evC, plain, Hp.get, Hp.set, bnd, isCells, isRow, SubA, SubC, Sub, SubL, CvA, Cv, dis, ordB, ite_self, exists_eq', List.mem_cons, List.not_mem_nil, Site.m.injEq, bne_self_eq_false, beq_iff_eq, bne_iff_ne, ↓reduceIte, Int.reduceAdd, Int.reduceSub, Int.reduceToNat, Int.reduceNeg, Nat.reduceAdd, Nat.reduceMul, Nat.reduceSub, exists_eq_left', exists_eq_left, implies_true, forall_const, Site.l.injEq, Site.e.injEq, reduceCtorEq, beq_self_eq_true, ne_eq]) (by omega) ?_
  intro i hi
  by_cases h : (i : Int) < l.length
  · obtain ⟨x, hx⟩ := lt_get (l := l) (i := i) (by omega)
    have hw := wr_add1 h (by omega)
    by_cases h0 : i = 0
    · subst h0
      simp (decide := true) (maxSteps := 4000000) -implicitDefEqProofs only [evs, tabs, puts, siteD, gget, tget, tset, initT, dstAt, ev, evC, plain, Hp.get, Hp.set, bnd, isCells, isRow, SubA, SubC, Sub, SubL, CvA, Cv, dis, ordB, ite_self, exists_eq', List.mem_cons, List.not_mem_nil, Site.m.injEq, bne_self_eq_false, beq_iff_eq, bne_iff_ne, ↓reduceIte, Int.reduceAdd, Int.reduceSub, Int.reduceToNat, Int.reduceNeg, Nat.reduceAdd, Nat.reduceMul, Nat.reduceSub, exists_eq_left', exists_eq_left, implies_true, forall_const, Site.l.injEq, Site.e.injEq, reduceCtorEq, beq_self_eq_true, ne_eq, h]
      exact Nxt.mk [] 1 (by simp (decide := true) (maxSteps := 4000000) -implicitDefEqProofs only [evs, tabs, puts, siteD, gget, tget, tset, initT, dstAt, ev, evC, plain, Hp.get, Hp.set, bnd, isCells, isRow, SubA, SubC, Sub, SubL, CvA, Cv, dis, ordB, ite_self, exists_eq', List.mem_cons, List.not_mem_nil, Site.m.injEq, bne_self_eq_false, beq_iff_eq, bne_iff_ne, ↓reduceIte, Int.reduceAdd, Int.reduceSub, Int.reduceToNat, Int.reduceNeg, Nat.reduceAdd, Nat.reduceMul, Nat.reduceSub, exists_eq_left', exists_eq_left, implies_true, forall_const, Site.l.injEq, Site.e.injEq, reduceCtorEq, beq_self_eq_true, ne_eq, hw]; try rfl) (by simp (decide := true) (maxSteps := 4000000) -implicitDefEqProofs only [evs, tabs, puts, siteD, gget, tget, tset, initT, dstAt, ev, evC, plain, Hp.get, Hp.set, bnd, isCells, isRow, SubA, SubC, Sub, SubL, CvA, Cv, dis, ordB, ite_self, exists_eq', List.mem_cons, List.not_mem_nil, Site.m.injEq, bne_self_eq_false, beq_iff_eq, bne_iff_ne, ↓reduceIte, Int.reduceAdd, Int.reduceSub, Int.reduceToNat, Int.reduceNeg, Nat.reduceAdd, Nat.reduceMul, Nat.reduceSub, exists_eq_left', exists_eq_left, implies_true, forall_const, Site.l.injEq, Site.e.injEq, reduceCtorEq, beq_self_eq_true, ne_eq]) (by omega) (by omega)
    · have h0' : ((i : Int) > 0) := by omega
      obtain ⟨y, hy⟩ := lt_get (l := l) (i := i - 1) (by omega)
      have hw2 : IntKind.i64.wrap ((i : Int) - 1) = ((i - 1 : Nat) : Int) := by rw [wr_i64 (by omega) (by omega)]; omega
      have hyx : sLt y x = true := by
        obtain ⟨a1, a2⟩ := List.getElem?_eq_some_iff.1 hy
        obtain ⟨b1, b2⟩ := List.getElem?_eq_some_iff.1 hx
        have := List.pairwise_iff_getElem.1 hs (i - 1) i a1 b1 (by omega)
        rwa [a2, b2] at this
      have hlt : ((i - 1 : Nat) : Int) < l.length := by omega
      unfold sLt at hyx
      simp (decide := true) (maxSteps := 4000000) -implicitDefEqProofs only [evs, tabs, puts, siteD, gget, tget, tset, initT, dstAt, ev, evC, plain, Hp.get, Hp.set, bnd, isCells, isRow, SubA, SubC, Sub, SubL, CvA, Cv, dis, ordB, ite_self, exists_eq', List.mem_cons, List.not_mem_nil, Site.m.injEq, bne_self_eq_false, beq_iff_eq, bne_iff_ne, ↓reduceIte, Int.reduceAdd, Int.reduceSub, Int.reduceToNat, Int.reduceNeg, Nat.reduceAdd, Nat.reduceMul, Nat.reduceSub, exists_eq_left', exists_eq_left, implies_true, forall_const, Site.l.injEq, Site.e.injEq, reduceCtorEq, beq_self_eq_true, ne_eq, h, h0', hw2, hx, hy, hlt, hyx]
      exact Nxt.mk [] (i + 1) (by simp (decide := true) (maxSteps := 4000000) -implicitDefEqProofs only [evs, tabs, puts, siteD, gget, tget, tset, initT, dstAt, ev, evC, plain, Hp.get, Hp.set, bnd, isCells, isRow, SubA, SubC, Sub, SubL, CvA, Cv, dis, ordB, ite_self, exists_eq', List.mem_cons, List.not_mem_nil, Site.m.injEq, bne_self_eq_false, beq_iff_eq, bne_iff_ne, ↓reduceIte, Int.reduceAdd, Int.reduceSub, Int.reduceToNat, Int.reduceNeg, Nat.reduceAdd, Nat.reduceMul, Nat.reduceSub, exists_eq_left', exists_eq_left, implies_true, forall_const, Site.l.injEq, Site.e.injEq, reduceCtorEq, beq_self_eq_true, ne_eq, hw]; try rfl) (by simp (decide := true) (maxSteps := 4000000) -implicitDefEqProofs only [evs, tabs, puts, siteD, gget, tget, tset, initT, dstAt, ev, evC, plain, Hp.get, Hp.set, bnd, isCells, isRow, SubA, SubC, Sub, SubL, CvA, Cv, dis, ordB, ite_self, exists_eq', List.mem_cons, List.not_mem_nil, Site.m.injEq, bne_self_eq_false, beq_iff_eq, bne_iff_ne, ↓reduceIte, Int.reduceAdd, Int.reduceSub, Int.reduceToNat, Int.reduceNeg, Nat.reduceAdd, Nat.reduceMul, Nat.reduceSub, exists_eq_left', exists_eq_left, implies_true, forall_const, Site.l.injEq, Site.e.injEq, reduceCtorEq, beq_self_eq_true, ne_eq]) (by omega) (by omega)
  · have hn1 : ¬ ((n : Int) < 1) := by omega
    have hn2 : ¬ ((n : Int) > 60) := by omega
    simp (decide := true) (maxSteps := 4000000) -implicitDefEqProofs only [evs, tabs, puts, siteD, gget, tget, tset, initT, dstAt, ev, evC, plain, Hp.get, Hp.set, bnd, isCells, isRow, SubA, SubC, Sub, SubL, CvA, Cv, dis, ordB, ite_self, exists_eq', List.mem_cons, List.not_mem_nil, Site.m.injEq, bne_self_eq_false, beq_iff_eq, bne_iff_ne, ↓reduceIte, Int.reduceAdd, Int.reduceSub, Int.reduceToNat, Int.reduceNeg, Nat.reduceAdd, Nat.reduceMul, Nat.reduceSub, exists_eq_left', exists_eq_left, implies_true, forall_const, Site.l.injEq, Site.e.injEq, reduceCtorEq, beq_self_eq_true, ne_eq, h, hn1, hn2]
    refine call_eq (bsS_ok l k (by omega) hs) ?_
    have hp := pgAt_le hs k
    have hps : posS k l ≤ pgAt l k := by unfold pgAt; omega
    have hf1 : (l.any fun f => decide (f = k)) = true → pgAt l k = posS k l + 1 := fun e => by unfold pgAt; rw [if_pos e]
    have hf0 : (l.any fun f => decide (f = k)) = false → pgAt l k = posS k l := fun e => by unfold pgAt; rw [e]; rfl
    generalize pgAt l k = p at hp hps hf1 hf0 ⊢
    generalize posS k l = b at hps hf1 hf0 ⊢
    have hw : IntKind.i64.wrap ((p : Int) + n) = ((p + n : Nat) : Int) := by rw [wr_i64 (by omega) (by omega)]; omega
    obtain ⟨m, hm⟩ : ∃ m, m = min (p + n) l.length := ⟨_, rfl⟩
    have hmin : (if ((p + n : Nat) : Int) < (l.length : Int) then ((p + n : Nat) : Int) else (l.length : Int)) = (m : Int) := by split <;> omega
    have hsl : List.drop p (List.take m (List.map (fun s => [S s]) l)) = ((l.drop p).take n).map (fun s => [S s]) := by
      rw [← List.map_take, ← List.map_drop]
      congr 1
      rw [List.take_drop]
      congr 1
      by_cases hle : p + n ≤ l.length
      · rw [show m = p + n by omega]
      · rw [show m = l.length by omega, List.take_of_length_le (Nat.le_refl _), List.take_of_length_le (by omega)]
    have hdec : decide ((m : Int) < (l.length : Int)) = decide (p + n < l.length) := by
      rw [Bool.eq_iff_iff, decide_eq_true_eq, decide_eq_true_eq]; omega
    have hm1 : (p : Int) ≤ m := by omega
    have hm2 : (m : Int) ≤ l.length := by omega
    cases e : (l.any fun f => decide (f = k)) with
    | true =>
      have e2 := hf1 e
      have hwb : IntKind.i64.wrap ((b : Int) + 1) = (p : Int) := by rw [wr_i64 (by omega) (by omega)]; omega
      simp (decide := true) (maxSteps := 4000000) -implicitDefEqProofs only [evs, tabs, puts, siteD, gget, tget, tset, initT, dstAt, ev, evC, plain, Hp.get, Hp.set, bnd, isCells, isRow, SubA, SubC, Sub, SubL, CvA, Cv, dis, ordB, ite_self, exists_eq', List.mem_cons, List.not_mem_nil, Site.m.injEq, bne_self_eq_false, beq_iff_eq, bne_iff_ne, ↓reduceIte, Int.reduceAdd, Int.reduceSub, Int.reduceToNat, Int.reduceNeg, Nat.reduceAdd, Nat.reduceMul, Nat.reduceSub, exists_eq_left', exists_eq_left, implies_true, forall_const, Site.l.injEq, Site.e.injEq, reduceCtorEq, beq_self_eq_true, ne_eq, hwb, hw, hmin, hm1, hm2, hsl]
      refine call_eq (cloneStrs_ok (l := (l.drop p).take n) (by rw [List.length_take]; omega)) ?_
      simp (decide := true) (maxSteps := 4000000) -implicitDefEqProofs only [evs, tabs, puts, siteD, gget, tget, tset, initT, dstAt, ev, evC, plain, Hp.get, Hp.set, bnd, isCells, isRow, SubA, SubC, Sub, SubL, CvA, Cv, dis, ordB, ite_self, exists_eq', List.mem_cons, List.not_mem_nil, Site.m.injEq, bne_self_eq_false, beq_iff_eq, bne_iff_ne, ↓reduceIte, Int.reduceAdd, Int.reduceSub, Int.reduceToNat, Int.reduceNeg, Nat.reduceAdd, Nat.reduceMul, Nat.reduceSub, exists_eq_left', exists_eq_left, implies_true, forall_const, Site.l.injEq, Site.e.injEq, reduceCtorEq, beq_self_eq_true, ne_eq, hdec]
    | false =>
      have e2 := hf0 e
      subst e2
      simp (decide := true) (maxSteps := 4000000) -implicitDefEqProofs only [evs, tabs, puts, siteD, gget, tget, tset, initT, dstAt, ev, evC, plain, Hp.get, Hp.set, bnd, isCells, isRow, SubA, SubC, Sub, SubL, CvA, Cv, dis, ordB, ite_self, exists_eq', List.mem_cons, List.not_mem_nil, Site.m.injEq, bne_self_eq_false, beq_iff_eq, bne_iff_ne, ↓reduceIte, Int.reduceAdd, Int.reduceSub, Int.reduceToNat, Int.reduceNeg, Nat.reduceAdd, Nat.reduceMul, Nat.reduceSub, exists_eq_left', exists_eq_left, implies_true, forall_const, Site.l.injEq, Site.e.injEq, reduceCtorEq, beq_self_eq_true, ne_eq, hw, hmin, hm1, hm2, hsl]
      refine call_eq (cloneStrs_ok (l := (l.drop p).take n) (by rw [List.length_take]; omega)) ?_
      simp (decide := true) (maxSteps := 4000000) -implicitDefEqProofs only [evs, tabs, puts, siteD, gget, tget, tset, initT, dstAt, ev, evC, plain, Hp.get, Hp.set, bnd, isCells, isRow, SubA, SubC, Sub, SubL, CvA, Cv, dis, ordB, ite_self, exists_eq', List.mem_cons, List.not_mem_nil, Site.m.injEq, bne_self_eq_false, beq_iff_eq, bne_iff_ne, ↓reduceIte, Int.reduceAdd, Int.reduceSub, Int.reduceToNat, Int.reduceNeg, Nat.reduceAdd, Nat.reduceMul, Nat.reduceSub, exists_eq_left', exists_eq_left, implies_true, forall_const, Site.l.injEq, Site.e.injEq, reduceCtorEq, beq_self_eq_true, ne_eq, hdec]
end Go.Proofs.Ytljickachmdejaa.E
