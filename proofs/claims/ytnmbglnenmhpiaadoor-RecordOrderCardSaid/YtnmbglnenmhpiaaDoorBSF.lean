/- Walks: slices.BinarySearchFunc of fields by key. No conditions. -/
import Derived.Test.YtnmbglnenmhpiaaDoorCmp
namespace Go.Proofs.YtnmbglnenmhpiaaDoor.E
open Go
set_option linter.unusedSimpArgs false
set_option linter.unusedVariables false
set_option linter.unusedSectionVars false
set_option maxRecDepth 20000
set_option maxHeartbeats 1000000
/-- How many keys are smaller. -/
def posF (k : ByteArray) (l : List Fd) : Nat := (l.filter fun f => sLt f.key k).length
def KeysUp (l : List Fd) : Prop := l.Pairwise fun f g => sLt f.key g.key = true
theorem sLt_of_ge {a b k : ByteArray} (h : sLt a k = false) (hab : sLt a b = true) : sLt b k = false := by
  cases e : sLt b k with
  | false => rfl
  | true => rw [sLt_trans hab e] at h; cases h
theorem posF_zero {k : ByteArray} {g : Fd} {l : List Fd} (hs : KeysUp (g :: l)) (h : sLt g.key k = false) : posF k (g :: l) = 0 := by
  unfold posF
  rw [List.length_eq_zero_iff, List.filter_eq_nil_iff]
  intro f hf
  rcases List.mem_cons.1 hf with e | hf
  · rw [e, h]; simp
  · rw [sLt_of_ge h ((List.pairwise_cons.1 hs).1 f hf)]; simp
theorem posF_iff {k : ByteArray} {l : List Fd} (hs : KeysUp l) : ∀ {m : Nat} {f : Fd}, l[m]? = some f → (sLt f.key k = true ↔ m < posF k l) := by
  induction l with
  | nil => intro m f h; simp at h
  | cons g l ih =>
    intro m f h
    cases e : sLt g.key k with
    | false =>
      rw [posF_zero hs e]
      have hm := List.mem_of_getElem? h
      have : sLt f.key k = false := by
        rcases List.mem_cons.1 hm with e2 | hm
        · rw [e2]; exact e
        · exact sLt_of_ge e ((List.pairwise_cons.1 hs).1 f hm)
      rw [this]; simp
    | true =>
      have e2 : posF k (g :: l) = posF k l + 1 := by unfold posF; rw [List.filter_cons, e]; rfl
      rw [e2]
      cases m with
      | zero => simp at h; subst h; simp [e]
      | succ m =>
        rw [List.getElem?_cons_succ] at h
        rw [ih (List.pairwise_cons.1 hs).2 h]; omega
theorem any_none {k : ByteArray} {l : List Fd} (hs : KeysUp l) (h : l.length ≤ posF k l) : (l.any fun f => decide (f.key = k)) = false := by
  rw [Bool.eq_false_iff]
  intro ha
  obtain ⟨g, hg, e⟩ := List.any_eq_true.1 ha
  have e := of_decide_eq_true e
  obtain ⟨m, hm⟩ := List.getElem?_of_mem hg
  have := (posF_iff (k := k) hs hm).2 (by have := (List.getElem?_eq_some_iff.1 hm).1; omega)
  rw [e, sLt_irrefl] at this
  cases this
theorem any_at {k : ByteArray} {l : List Fd} (hs : KeysUp l) {f : Fd} (hf : l[posF k l]? = some f) : (l.any fun f => decide (f.key = k)) = decide (f.key = k) := by
  have hfn : sLt f.key k = false := by
    rw [Bool.eq_false_iff]
    intro h
    have := (posF_iff hs hf).1 h
    omega
  rw [Bool.eq_iff_iff, decide_eq_true_eq]
  constructor
  · intro ha
    obtain ⟨g, hg, e⟩ := List.any_eq_true.1 ha
    have e := of_decide_eq_true e
    obtain ⟨m, hm⟩ := List.getElem?_of_mem hg
    have h1 : ¬ m < posF k l := fun h => by
      have := (posF_iff (k := k) hs hm).2 h
      rw [e, sLt_irrefl] at this
      cases this
    by_cases h2 : m = posF k l
    · rw [h2, hf] at hm; cases hm; exact e
    · obtain ⟨a1, a2⟩ := List.getElem?_eq_some_iff.1 hf
      obtain ⟨b1, b2⟩ := List.getElem?_eq_some_iff.1 hm
      have := List.pairwise_iff_getElem.1 hs (posF k l) m a1 b1 (by omega)
      rw [a2, b2, e, hfn] at this
      cases this
  · intro e
    exact List.any_eq_true.2 ⟨f, List.mem_of_getElem? hf, decide_eq_true e⟩
theorem wr_u64 {n : Nat} (h : n < 1000000) : IntKind.u64.wrap (n : Int) = (n : Int) := by
  unfold IntKind.wrap
  simp only [IntKind.bits, IntKind.signed]
  simp
  omega
theorem half_eq {n : Nat} (h : n < 1000000) : IntKind.i64.wrap ((IntKind.u64.wrap (n : Int)).fdiv (2 ^ min 1 IntKind.u64.bits)) = ((n / 2 : Nat) : Int) := by
  rw [wr_u64 h, show ((2 : Int) ^ min 1 IntKind.u64.bits) = 2 from rfl, Int.fdiv_eq_ediv_of_nonneg _ (by omega), wr_i64 (by omega) (by omega)]
  omega
theorem cmpB_neg (a b : ByteArray) : (cmpB a b < 0) ↔ sLt a b = true := by
  unfold cmpB
  split
  · rename_i h; subst h; rw [sLt_irrefl]; simp
  · split <;> simp_all
theorem cmpB_zero (a b : ByteArray) : (cmpB a b = 0) ↔ a = b := by
  unfold cmpB
  split
  · simp_all
  · split <;> simp_all
theorem cmpKey_ok (f : Fd) (k : ByteArray) : Ok Tryd.prog 26 [fdV f, S k] (I (cmpB f.key k)) := by
  refine Ok.of_wp (rs := [.tmp 4]) (n := 9) Tryd.func26 rfl rfl rfl (by simp) fo (by kernel_rfl) ?_
  simp (decide := true) (maxSteps := 4000000) -implicitDefEqProofs only [evs, tabs, puts, siteD, gget, tget, tset, initT, dstAt, ev, evC, plain, Hp.get, Hp.set, bnd, isCells, isRow, SubA, SubC, Sub, SubL, CvA, Cv, dis, ordB, ite_self, exists_eq', List.mem_cons, List.not_mem_nil, Site.m.injEq, bne_self_eq_false, beq_iff_eq, bne_iff_ne, ↓reduceIte, Int.reduceAdd, Int.reduceSub, Int.reduceToNat, Int.reduceNeg, Nat.reduceAdd, Nat.reduceMul, Nat.reduceSub, exists_eq_left', exists_eq_left, implies_true, forall_const, Site.l.injEq, Site.e.injEq, reduceCtorEq, beq_self_eq_true, ne_eq]
  refine call_eq (Compare_ok f.key k) ?_
  simp (decide := true) (maxSteps := 4000000) -implicitDefEqProofs only [evs, tabs, puts, siteD, gget, tget, tset, initT, dstAt, ev, evC, plain, Hp.get, Hp.set, bnd, isCells, isRow, SubA, SubC, Sub, SubL, CvA, Cv, dis, ordB, ite_self, exists_eq', List.mem_cons, List.not_mem_nil, Site.m.injEq, bne_self_eq_false, beq_iff_eq, bne_iff_ne, ↓reduceIte, Int.reduceAdd, Int.reduceSub, Int.reduceToNat, Int.reduceNeg, Nat.reduceAdd, Nat.reduceMul, Nat.reduceSub, exists_eq_left', exists_eq_left, implies_true, forall_const, Site.l.injEq, Site.e.injEq, reduceCtorEq, beq_self_eq_true, ne_eq]
theorem bsF_ok (l : List Fd) (k : ByteArray) (hl : l.length ≤ 1000) (hs : KeysUp l) : Ok Tryd.prog 25 [fds l, S k, .func 26 []] (.tup [I (posF k l), B (l.any fun f => decide (f.key = k))]) := by
  refine Ok.of_wp (rs := [.tmp 6, .tmp 7]) (n := 49) Tryd.func25 rfl rfl rfl (by simp) fo (by kernel_rfl) ?_
  simp (decide := true) (maxSteps := 4000000) -implicitDefEqProofs only [evs, tabs, puts, siteD, gget, tget, tset, initT, dstAt, ev, evC, plain, Hp.get, Hp.set, bnd, isCells, isRow, SubA, SubC, Sub, SubL, CvA, Cv, dis, ordB, ite_self, exists_eq', List.mem_cons, List.not_mem_nil, Site.m.injEq, bne_self_eq_false, beq_iff_eq, bne_iff_ne, ↓reduceIte, Int.reduceAdd, Int.reduceSub, Int.reduceToNat, Int.reduceNeg, Nat.reduceAdd, Nat.reduceMul, Nat.reduceSub, exists_eq_left', exists_eq_left, implies_true, forall_const, Site.l.injEq, Site.e.injEq, reduceCtorEq, beq_self_eq_true, ne_eq]
  refine ALoop.st [0, 1, 2, 8, 9, 10] (fun (s : Nat × Nat) => [fds l, S k, .func 26 [], I l.length, I s.1, I s.2]) (fun _ => []) (fun s => s.1 ≤ s.2 ∧ s.2 ≤ l.length ∧ s.1 ≤ posF k l ∧ posF k l ≤ s.2) (fun s => s.2 - s.1) [] (0, l.length) (by simp (decide := true) (maxSteps := 4000000) -implicitDefEqProofs only [evs, tabs, puts, siteD, gget, tget, tset, initT, dstAt, ev, evC, plain, Hp.get, Hp.set, bnd, isCells, isRow, SubA, SubC, Sub, SubL, CvA, Cv, dis, ordB, ite_self, exists_eq', List.mem_cons, List.not_mem_nil, Site.m.injEq, bne_self_eq_false, beq_iff_eq, bne_iff_ne, ↓reduceIte, Int.reduceAdd, Int.reduceSub, Int.reduceToNat, Int.reduceNeg, Nat.reduceAdd, Nat.reduceMul, Nat.reduceSub, exists_eq_left', exists_eq_left, implies_true, forall_const, Site.l.injEq, Site.e.injEq, reduceCtorEq, beq_self_eq_true, ne_eq]; try rfl) (by simp (decide := true) (maxSteps := 4000000) -implicitDefEqProofs only [evs, tabs, puts, siteD, gget, tget, tset, initT, dstAt, ev, evC, plain, Hp.get, Hp.set, bnd, isCells, isRow, SubA, SubC, Sub, SubL, CvA, Cv, dis, ordB, ite_self, exists_eq', List.mem_cons, List.not_mem_nil, Site.m.injEq, bne_self_eq_false, beq_iff_eq, bne_iff_ne, ↓reduceIte, Int.reduceAdd, Int.reduceSub, Int.reduceToNat, Int.reduceNeg, Nat.reduceAdd, Nat.reduceMul, Nat.reduceSub, exists_eq_left', exists_eq_left, implies_true, forall_const, Site.l.injEq, Site.e.injEq, reduceCtorEq, beq_self_eq_true, ne_eq]) ⟨by omega, by omega, by omega, List.length_filter_le _ _⟩ ?_
  rintro ⟨i, j⟩ ⟨hij, hj, h1, h2⟩
  simp only at hij hj h1 h2
  by_cases h : (i : Int) < j
  · obtain ⟨f, hf⟩ := lt_get (l := l) (i := (i + j) / 2) (by omega)
    have e1 : IntKind.i64.wrap ((i : Int) + j) = ((i + j : Nat) : Int) := by rw [wr_i64 (by omega) (by omega)]; omega
    have e2 := half_eq (n := i + j) (by omega)
    have hit := posF_iff (k := k) hs hf
    have hm : (((i + j) / 2 : Nat) : Int) < l.length := by omega
    have hwm := wr_add1 (n := l.length) hm (by omega)
    simp (decide := true) (maxSteps := 4000000) -implicitDefEqProofs only [evs, tabs, puts, siteD, gget, tget, tset, initT, dstAt, ev, evC, plain, Hp.get, Hp.set, bnd, isCells, isRow, SubA, SubC, Sub, SubL, CvA, Cv, dis, ordB, ite_self, exists_eq', List.mem_cons, List.not_mem_nil, Site.m.injEq, bne_self_eq_false, beq_iff_eq, bne_iff_ne, ↓reduceIte, Int.reduceAdd, Int.reduceSub, Int.reduceToNat, Int.reduceNeg, Nat.reduceAdd, Nat.reduceMul, Nat.reduceSub, exists_eq_left', exists_eq_left, implies_true, forall_const, Site.l.injEq, Site.e.injEq, reduceCtorEq, beq_self_eq_true, ne_eq, h, e1, e2, hf, hm]
    refine call_eq (cmpKey_ok f k) ?_
    by_cases hc : sLt f.key k = true
    · have hc' := (cmpB_neg f.key k).2 hc
      have := hit.1 hc
      simp (decide := true) (maxSteps := 4000000) -implicitDefEqProofs only [evs, tabs, puts, siteD, gget, tget, tset, initT, dstAt, ev, evC, plain, Hp.get, Hp.set, bnd, isCells, isRow, SubA, SubC, Sub, SubL, CvA, Cv, dis, ordB, ite_self, exists_eq', List.mem_cons, List.not_mem_nil, Site.m.injEq, bne_self_eq_false, beq_iff_eq, bne_iff_ne, ↓reduceIte, Int.reduceAdd, Int.reduceSub, Int.reduceToNat, Int.reduceNeg, Nat.reduceAdd, Nat.reduceMul, Nat.reduceSub, exists_eq_left', exists_eq_left, implies_true, forall_const, Site.l.injEq, Site.e.injEq, reduceCtorEq, beq_self_eq_true, ne_eq, hc', hwm]
      exact Nxt.mk [] ((i + j) / 2 + 1, j) (by simp (decide := true) (maxSteps := 4000000) -implicitDefEqProofs only [evs, tabs, puts, siteD, gget, tget, tset, initT, dstAt, ev, evC, plain, Hp.get, Hp.set, bnd, isCells, isRow, SubA, SubC, Sub, SubL, CvA, Cv, dis, ordB, ite_self, exists_eq', List.mem_cons, List.not_mem_nil, Site.m.injEq, bne_self_eq_false, beq_iff_eq, bne_iff_ne, ↓reduceIte, Int.reduceAdd, Int.reduceSub, Int.reduceToNat, Int.reduceNeg, Nat.reduceAdd, Nat.reduceMul, Nat.reduceSub, exists_eq_left', exists_eq_left, implies_true, forall_const, Site.l.injEq, Site.e.injEq, reduceCtorEq, beq_self_eq_true, ne_eq]; try rfl) (by simp (decide := true) (maxSteps := 4000000) -implicitDefEqProofs only [evs, tabs, puts, siteD, gget, tget, tset, initT, dstAt, ev, evC, plain, Hp.get, Hp.set, bnd, isCells, isRow, SubA, SubC, Sub, SubL, CvA, Cv, dis, ordB, ite_self, exists_eq', List.mem_cons, List.not_mem_nil, Site.m.injEq, bne_self_eq_false, beq_iff_eq, bne_iff_ne, ↓reduceIte, Int.reduceAdd, Int.reduceSub, Int.reduceToNat, Int.reduceNeg, Nat.reduceAdd, Nat.reduceMul, Nat.reduceSub, exists_eq_left', exists_eq_left, implies_true, forall_const, Site.l.injEq, Site.e.injEq, reduceCtorEq, beq_self_eq_true, ne_eq]) ⟨by simp only; omega, by simp only; omega, by simp only; omega, by simp only; omega⟩ (by simp only; omega)
    · have hc' : ¬ cmpB f.key k < 0 := fun h => hc ((cmpB_neg f.key k).1 h)
      have : ¬ (i + j) / 2 < posF k l := fun h => hc (hit.2 h)
      simp (decide := true) (maxSteps := 4000000) -implicitDefEqProofs only [evs, tabs, puts, siteD, gget, tget, tset, initT, dstAt, ev, evC, plain, Hp.get, Hp.set, bnd, isCells, isRow, SubA, SubC, Sub, SubL, CvA, Cv, dis, ordB, ite_self, exists_eq', List.mem_cons, List.not_mem_nil, Site.m.injEq, bne_self_eq_false, beq_iff_eq, bne_iff_ne, ↓reduceIte, Int.reduceAdd, Int.reduceSub, Int.reduceToNat, Int.reduceNeg, Nat.reduceAdd, Nat.reduceMul, Nat.reduceSub, exists_eq_left', exists_eq_left, implies_true, forall_const, Site.l.injEq, Site.e.injEq, reduceCtorEq, beq_self_eq_true, ne_eq, hc']
      exact Nxt.mk [] (i, (i + j) / 2) (by simp (decide := true) (maxSteps := 4000000) -implicitDefEqProofs only [evs, tabs, puts, siteD, gget, tget, tset, initT, dstAt, ev, evC, plain, Hp.get, Hp.set, bnd, isCells, isRow, SubA, SubC, Sub, SubL, CvA, Cv, dis, ordB, ite_self, exists_eq', List.mem_cons, List.not_mem_nil, Site.m.injEq, bne_self_eq_false, beq_iff_eq, bne_iff_ne, ↓reduceIte, Int.reduceAdd, Int.reduceSub, Int.reduceToNat, Int.reduceNeg, Nat.reduceAdd, Nat.reduceMul, Nat.reduceSub, exists_eq_left', exists_eq_left, implies_true, forall_const, Site.l.injEq, Site.e.injEq, reduceCtorEq, beq_self_eq_true, ne_eq]; try rfl) (by simp (decide := true) (maxSteps := 4000000) -implicitDefEqProofs only [evs, tabs, puts, siteD, gget, tget, tset, initT, dstAt, ev, evC, plain, Hp.get, Hp.set, bnd, isCells, isRow, SubA, SubC, Sub, SubL, CvA, Cv, dis, ordB, ite_self, exists_eq', List.mem_cons, List.not_mem_nil, Site.m.injEq, bne_self_eq_false, beq_iff_eq, bne_iff_ne, ↓reduceIte, Int.reduceAdd, Int.reduceSub, Int.reduceToNat, Int.reduceNeg, Nat.reduceAdd, Nat.reduceMul, Nat.reduceSub, exists_eq_left', exists_eq_left, implies_true, forall_const, Site.l.injEq, Site.e.injEq, reduceCtorEq, beq_self_eq_true, ne_eq]) ⟨by simp only; omega, by simp only; omega, by simp only; omega, by simp only; omega⟩ (by simp only; omega)
  · obtain rfl : i = posF k l := by omega
    by_cases hn : ((posF k l : Nat) : Int) < l.length
    · obtain ⟨f, hf⟩ := get_lt hn
      have hany := any_at hs hf
      simp (decide := true) (maxSteps := 4000000) -implicitDefEqProofs only [evs, tabs, puts, siteD, gget, tget, tset, initT, dstAt, ev, evC, plain, Hp.get, Hp.set, bnd, isCells, isRow, SubA, SubC, Sub, SubL, CvA, Cv, dis, ordB, ite_self, exists_eq', List.mem_cons, List.not_mem_nil, Site.m.injEq, bne_self_eq_false, beq_iff_eq, bne_iff_ne, ↓reduceIte, Int.reduceAdd, Int.reduceSub, Int.reduceToNat, Int.reduceNeg, Nat.reduceAdd, Nat.reduceMul, Nat.reduceSub, exists_eq_left', exists_eq_left, implies_true, forall_const, Site.l.injEq, Site.e.injEq, reduceCtorEq, beq_self_eq_true, ne_eq, h, hn, hf]
      refine call_eq (cmpKey_ok f k) ?_
      rw [hany]
      by_cases hc : f.key = k
      · have hc' : (cmpB f.key k == 0) = true := by rw [beq_iff_eq]; exact (cmpB_zero _ _).2 hc
        simp (decide := true) (maxSteps := 4000000) -implicitDefEqProofs only [evs, tabs, puts, siteD, gget, tget, tset, initT, dstAt, ev, evC, plain, Hp.get, Hp.set, bnd, isCells, isRow, SubA, SubC, Sub, SubL, CvA, Cv, dis, ordB, ite_self, exists_eq', List.mem_cons, List.not_mem_nil, Site.m.injEq, bne_self_eq_false, beq_iff_eq, bne_iff_ne, ↓reduceIte, Int.reduceAdd, Int.reduceSub, Int.reduceToNat, Int.reduceNeg, Nat.reduceAdd, Nat.reduceMul, Nat.reduceSub, exists_eq_left', exists_eq_left, implies_true, forall_const, Site.l.injEq, Site.e.injEq, reduceCtorEq, beq_self_eq_true, ne_eq, hc']
        simp [hc]
      · have hc' : (cmpB f.key k == 0) = false := by
          rw [Bool.eq_false_iff]
          intro h
          rw [beq_iff_eq] at h
          exact hc ((cmpB_zero _ _).1 h)
        simp (decide := true) (maxSteps := 4000000) -implicitDefEqProofs only [evs, tabs, puts, siteD, gget, tget, tset, initT, dstAt, ev, evC, plain, Hp.get, Hp.set, bnd, isCells, isRow, SubA, SubC, Sub, SubL, CvA, Cv, dis, ordB, ite_self, exists_eq', List.mem_cons, List.not_mem_nil, Site.m.injEq, bne_self_eq_false, beq_iff_eq, bne_iff_ne, ↓reduceIte, Int.reduceAdd, Int.reduceSub, Int.reduceToNat, Int.reduceNeg, Nat.reduceAdd, Nat.reduceMul, Nat.reduceSub, exists_eq_left', exists_eq_left, implies_true, forall_const, Site.l.injEq, Site.e.injEq, reduceCtorEq, beq_self_eq_true, ne_eq, hc']
        simp [hc]
    · have hnone := any_none (k := k) hs (by omega)
      simp (decide := true) (maxSteps := 4000000) -implicitDefEqProofs only [evs, tabs, puts, siteD, gget, tget, tset, initT, dstAt, ev, evC, plain, Hp.get, Hp.set, bnd, isCells, isRow, SubA, SubC, Sub, SubL, CvA, Cv, dis, ordB, ite_self, exists_eq', List.mem_cons, List.not_mem_nil, Site.m.injEq, bne_self_eq_false, beq_iff_eq, bne_iff_ne, ↓reduceIte, Int.reduceAdd, Int.reduceSub, Int.reduceToNat, Int.reduceNeg, Nat.reduceAdd, Nat.reduceMul, Nat.reduceSub, exists_eq_left', exists_eq_left, implies_true, forall_const, Site.l.injEq, Site.e.injEq, reduceCtorEq, beq_self_eq_true, ne_eq, h, hn, hnone]
end Go.Proofs.YtnmbglnenmhpiaaDoor.E
