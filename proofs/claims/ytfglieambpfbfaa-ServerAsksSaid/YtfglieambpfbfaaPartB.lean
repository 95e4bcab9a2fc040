/- Walks and plain law: stores held against each other, parts of stores. No conditions. -/
import Derived.Test.YtfglieambpfbfaaPart
namespace Go.Proofs.Ytfglieambpfbfaa.E
open Go
set_option linter.unusedSimpArgs false
set_option linter.unusedVariables false
set_option linter.unusedSectionVars false
set_option maxRecDepth 20000
set_option maxHeartbeats 1000000
def sameV (a b : Vn) : Bool := decide (a = b)
theorem sameV_ok (a b : Vn) (ha : a.r.fields.length ≤ 1000000000000) (hb : a.r.refs.length ≤ 1000000000000) : Ok Try.prog 58 [verA a, verA b] (B (decide (a = b))) := by
  refine Ok.of_wp (rs := [.tmp 4]) (n := 17) Try.func58 rfl rfl rfl (by simp) fo (by kernel_rfl) ?_
  have key : decide (a = b) = (decide (a.gone = b.gone) && decide (a.r = b.r)) := by
    cases a; cases b
    rw [Bool.eq_iff_iff, Bool.and_eq_true, decide_eq_true_eq, decide_eq_true_eq, decide_eq_true_eq]
    constructor
    · intro h; cases h; exact ⟨rfl, rfl⟩
    · rintro ⟨h1, h2⟩; simp only at h1 h2; rw [h1, h2]
  rw [key]
  by_cases h : a.gone = b.gone
  · have h' : (a.gone == b.gone) = true := by simp [h]
    simp (decide := true) (maxSteps := 4000000) -implicitDefEqProofs only [evs, tabs, puts, siteD, gget, tget, tset, initT, dstAt, ev, evC, plain, Hp.get, Hp.set, bnd, isCells, isRow, SubA, SubC, Sub, SubL, CvA, Cv, dis, ordB, ite_self, exists_eq', List.mem_cons, List.not_mem_nil, Site.m.injEq, bne_self_eq_false, beq_iff_eq, bne_iff_ne, ↓reduceIte, Int.reduceAdd, Int.reduceSub, Int.reduceToNat, Int.reduceNeg, Nat.reduceAdd, Nat.reduceMul, Nat.reduceSub, exists_eq_left', exists_eq_left, implies_true, forall_const, Site.l.injEq, Site.e.injEq, reduceCtorEq, beq_self_eq_true, ne_eq, h']
    refine call_eq (SameRec_ok a.r b.r ha hb) ?_
    simp (decide := true) (maxSteps := 4000000) -implicitDefEqProofs only [evs, tabs, puts, siteD, gget, tget, tset, initT, dstAt, ev, evC, plain, Hp.get, Hp.set, bnd, isCells, isRow, SubA, SubC, Sub, SubL, CvA, Cv, dis, ordB, ite_self, exists_eq', List.mem_cons, List.not_mem_nil, Site.m.injEq, bne_self_eq_false, beq_iff_eq, bne_iff_ne, ↓reduceIte, Int.reduceAdd, Int.reduceSub, Int.reduceToNat, Int.reduceNeg, Nat.reduceAdd, Nat.reduceMul, Nat.reduceSub, exists_eq_left', exists_eq_left, implies_true, forall_const, Site.l.injEq, Site.e.injEq, reduceCtorEq, beq_self_eq_true, ne_eq]
    exact B_eq (by simp [h])
  · have h' : (a.gone == b.gone) = false := by simp [h]
    simp (decide := true) (maxSteps := 4000000) -implicitDefEqProofs only [evs, tabs, puts, siteD, gget, tget, tset, initT, dstAt, ev, evC, plain, Hp.get, Hp.set, bnd, isCells, isRow, SubA, SubC, Sub, SubL, CvA, Cv, dis, ordB, ite_self, exists_eq', List.mem_cons, List.not_mem_nil, Site.m.injEq, bne_self_eq_false, beq_iff_eq, bne_iff_ne, ↓reduceIte, Int.reduceAdd, Int.reduceSub, Int.reduceToNat, Int.reduceNeg, Nat.reduceAdd, Nat.reduceMul, Nat.reduceSub, exists_eq_left', exists_eq_left, implies_true, forall_const, Site.l.injEq, Site.e.injEq, reduceCtorEq, beq_self_eq_true, ne_eq, h']
    exact B_eq (by simp [h])
theorem eqVers_ok (l m : List Vn) (hl : l.length ≤ 1000000) (hs : lensOk l) : Ok Try.prog 57 [vers l, vers m, .func 58 []] (B (decide (l = m))) := by
  refine Ok.of_wp (rs := [.tmp 6]) (n := 32) Try.func57 rfl rfl rfl (by simp) fo (by kernel_rfl) ?_
  by_cases h0 : l.length = m.length
  · have h0' : (l.length : Int) = m.length := by omega
    simp (decide := true) (maxSteps := 4000000) -implicitDefEqProofs only [evs, tabs, puts, siteD, gget, tget, tset, initT, dstAt, ev, evC, plain, Hp.get, Hp.set, bnd, isCells, isRow, SubA, SubC, Sub, SubL, CvA, Cv, dis, ordB, ite_self, exists_eq', List.mem_cons, List.not_mem_nil, Site.m.injEq, bne_self_eq_false, beq_iff_eq, bne_iff_ne, ↓reduceIte, Int.reduceAdd, Int.reduceSub, Int.reduceToNat, Int.reduceNeg, Nat.reduceAdd, Nat.reduceMul, Nat.reduceSub, exists_eq_left', exists_eq_left, implies_true, forall_const, Site.l.injEq, Site.e.injEq, reduceCtorEq, beq_self_eq_true, ne_eq, h0']
    refine ALoop.st [1, 2, 15, 16, 17] (fun (i : Nat) => [vers m, .func 58 [], vers l, I m.length, I i]) (fun _ => []) (fun i => i ≤ l.length ∧ l.take i = m.take i) (fun i => l.length - i) [] 0 (by simp (decide := true) (maxSteps := 4000000) -implicitDefEqProofs only [evs, tabs, puts, siteD, gget, tget, tset, initT, dstAt, ev, evC, plain, Hp.get, Hp.set, bnd, isCells, isRow, SubA, SubC, Sub, SubL, CvA, Cv, dis, ordB, ite_self, exists_eq', List.mem_cons, List.not_mem_nil, Site.m.injEq, bne_self_eq_false, beq_iff_eq, bne_iff_ne, ↓reduceIte, Int.reduceAdd, Int.reduceSub, Int.reduceToNat, Int.reduceNeg, Nat.reduceAdd, Nat.reduceMul, Nat.reduceSub, exists_eq_left', exists_eq_left, implies_true, forall_const, Site.l.injEq, Site.e.injEq, reduceCtorEq, beq_self_eq_true, ne_eq]; try rfl) (by simp (decide := true) (maxSteps := 4000000) -implicitDefEqProofs only [evs, tabs, puts, siteD, gget, tget, tset, initT, dstAt, ev, evC, plain, Hp.get, Hp.set, bnd, isCells, isRow, SubA, SubC, Sub, SubL, CvA, Cv, dis, ordB, ite_self, exists_eq', List.mem_cons, List.not_mem_nil, Site.m.injEq, bne_self_eq_false, beq_iff_eq, bne_iff_ne, ↓reduceIte, Int.reduceAdd, Int.reduceSub, Int.reduceToNat, Int.reduceNeg, Nat.reduceAdd, Nat.reduceMul, Nat.reduceSub, exists_eq_left', exists_eq_left, implies_true, forall_const, Site.l.injEq, Site.e.injEq, reduceCtorEq, beq_self_eq_true, ne_eq]) ⟨by omega, rfl⟩ ?_
    rintro i ⟨hi, hu⟩
    by_cases h : (i : Int) < m.length
    · obtain ⟨f, hf⟩ := lt_get (l := l) (i := i) (by omega)
      obtain ⟨g, hg⟩ := lt_get (l := m) (i := i) (by omega)
      have hx := take_ext hf hg hu
      have hw := wr_add1 (n := m.length) h (by omega)
      have hlf := hs f (List.mem_of_getElem? hf)
      simp (decide := true) (maxSteps := 4000000) -implicitDefEqProofs only [evs, tabs, puts, siteD, gget, tget, tset, initT, dstAt, ev, evC, plain, Hp.get, Hp.set, bnd, isCells, isRow, SubA, SubC, Sub, SubL, CvA, Cv, dis, ordB, ite_self, exists_eq', List.mem_cons, List.not_mem_nil, Site.m.injEq, bne_self_eq_false, beq_iff_eq, bne_iff_ne, ↓reduceIte, Int.reduceAdd, Int.reduceSub, Int.reduceToNat, Int.reduceNeg, Nat.reduceAdd, Nat.reduceMul, Nat.reduceSub, exists_eq_left', exists_eq_left, implies_true, forall_const, Site.l.injEq, Site.e.injEq, reduceCtorEq, beq_self_eq_true, ne_eq, hf, hg, h, show (i : Int) < l.length by omega]
      refine call_eq (sameV_ok f g (by omega) (by omega)) ?_
      by_cases he : f = g
      · have hx2 := hx.1 he
        simp (decide := true) (maxSteps := 4000000) -implicitDefEqProofs only [evs, tabs, puts, siteD, gget, tget, tset, initT, dstAt, ev, evC, plain, Hp.get, Hp.set, bnd, isCells, isRow, SubA, SubC, Sub, SubL, CvA, Cv, dis, ordB, ite_self, exists_eq', List.mem_cons, List.not_mem_nil, Site.m.injEq, bne_self_eq_false, beq_iff_eq, bne_iff_ne, ↓reduceIte, Int.reduceAdd, Int.reduceSub, Int.reduceToNat, Int.reduceNeg, Nat.reduceAdd, Nat.reduceMul, Nat.reduceSub, exists_eq_left', exists_eq_left, implies_true, forall_const, Site.l.injEq, Site.e.injEq, reduceCtorEq, beq_self_eq_true, ne_eq, he]
        exact Nxt.mk [] (i + 1) (by simp (decide := true) (maxSteps := 4000000) -implicitDefEqProofs only [evs, tabs, puts, siteD, gget, tget, tset, initT, dstAt, ev, evC, plain, Hp.get, Hp.set, bnd, isCells, isRow, SubA, SubC, Sub, SubL, CvA, Cv, dis, ordB, ite_self, exists_eq', List.mem_cons, List.not_mem_nil, Site.m.injEq, bne_self_eq_false, beq_iff_eq, bne_iff_ne, ↓reduceIte, Int.reduceAdd, Int.reduceSub, Int.reduceToNat, Int.reduceNeg, Nat.reduceAdd, Nat.reduceMul, Nat.reduceSub, exists_eq_left', exists_eq_left, implies_true, forall_const, Site.l.injEq, Site.e.injEq, reduceCtorEq, beq_self_eq_true, ne_eq, hw]) (by simp (decide := true) (maxSteps := 4000000) -implicitDefEqProofs only [evs, tabs, puts, siteD, gget, tget, tset, initT, dstAt, ev, evC, plain, Hp.get, Hp.set, bnd, isCells, isRow, SubA, SubC, Sub, SubL, CvA, Cv, dis, ordB, ite_self, exists_eq', List.mem_cons, List.not_mem_nil, Site.m.injEq, bne_self_eq_false, beq_iff_eq, bne_iff_ne, ↓reduceIte, Int.reduceAdd, Int.reduceSub, Int.reduceToNat, Int.reduceNeg, Nat.reduceAdd, Nat.reduceMul, Nat.reduceSub, exists_eq_left', exists_eq_left, implies_true, forall_const, Site.l.injEq, Site.e.injEq, reduceCtorEq, beq_self_eq_true, ne_eq]) ⟨by omega, hx2⟩ (by omega)
      · simp (decide := true) (maxSteps := 4000000) -implicitDefEqProofs only [evs, tabs, puts, siteD, gget, tget, tset, initT, dstAt, ev, evC, plain, Hp.get, Hp.set, bnd, isCells, isRow, SubA, SubC, Sub, SubL, CvA, Cv, dis, ordB, ite_self, exists_eq', List.mem_cons, List.not_mem_nil, Site.m.injEq, bne_self_eq_false, beq_iff_eq, bne_iff_ne, ↓reduceIte, Int.reduceAdd, Int.reduceSub, Int.reduceToNat, Int.reduceNeg, Nat.reduceAdd, Nat.reduceMul, Nat.reduceSub, exists_eq_left', exists_eq_left, implies_true, forall_const, Site.l.injEq, Site.e.injEq, reduceCtorEq, beq_self_eq_true, ne_eq, he]
        exact B_eq (decide_eq_false (p := l = m) fun e => he (hx.2 (e ▸ rfl))).symm
    · rw [List.take_of_length_le (by omega), List.take_of_length_le (by omega)] at hu
      simp (decide := true) (maxSteps := 4000000) -implicitDefEqProofs only [evs, tabs, puts, siteD, gget, tget, tset, initT, dstAt, ev, evC, plain, Hp.get, Hp.set, bnd, isCells, isRow, SubA, SubC, Sub, SubL, CvA, Cv, dis, ordB, ite_self, exists_eq', List.mem_cons, List.not_mem_nil, Site.m.injEq, bne_self_eq_false, beq_iff_eq, bne_iff_ne, ↓reduceIte, Int.reduceAdd, Int.reduceSub, Int.reduceToNat, Int.reduceNeg, Nat.reduceAdd, Nat.reduceMul, Nat.reduceSub, exists_eq_left', exists_eq_left, implies_true, forall_const, Site.l.injEq, Site.e.injEq, reduceCtorEq, beq_self_eq_true, ne_eq, h]
      exact B_eq (decide_eq_true hu).symm
  · have h0' : ¬ (l.length : Int) = m.length := by omega
    simp (decide := true) (maxSteps := 4000000) -implicitDefEqProofs only [evs, tabs, puts, siteD, gget, tget, tset, initT, dstAt, ev, evC, plain, Hp.get, Hp.set, bnd, isCells, isRow, SubA, SubC, Sub, SubL, CvA, Cv, dis, ordB, ite_self, exists_eq', List.mem_cons, List.not_mem_nil, Site.m.injEq, bne_self_eq_false, beq_iff_eq, bne_iff_ne, ↓reduceIte, Int.reduceAdd, Int.reduceSub, Int.reduceToNat, Int.reduceNeg, Nat.reduceAdd, Nat.reduceMul, Nat.reduceSub, exists_eq_left', exists_eq_left, implies_true, forall_const, Site.l.injEq, Site.e.injEq, reduceCtorEq, beq_self_eq_true, ne_eq, h0']
    exact B_eq (decide_eq_false (p := l = m) fun e => h0 (by rw [e])).symm
theorem SameSt_ok (l m : List Vn) (hl : l.length ≤ 1000000) (hs : lensOk l) : Ok Try.prog 28 [vers l, vers m] (B (decide (l = m))) := by
  refine Ok.of_wp (rs := [.tmp 4]) (n := 8) Try.func28 rfl rfl rfl (by simp) fo (by kernel_rfl) ?_
  simp (decide := true) (maxSteps := 4000000) -implicitDefEqProofs only [evs, tabs, puts, siteD, gget, tget, tset, initT, dstAt, ev, evC, plain, Hp.get, Hp.set, bnd, isCells, isRow, SubA, SubC, Sub, SubL, CvA, Cv, dis, ordB, ite_self, exists_eq', List.mem_cons, List.not_mem_nil, Site.m.injEq, bne_self_eq_false, beq_iff_eq, bne_iff_ne, ↓reduceIte, Int.reduceAdd, Int.reduceSub, Int.reduceToNat, Int.reduceNeg, Nat.reduceAdd, Nat.reduceMul, Nat.reduceSub, exists_eq_left', exists_eq_left, implies_true, forall_const, Site.l.injEq, Site.e.injEq, reduceCtorEq, beq_self_eq_true, ne_eq]
  refine call_eq (eqVers_ok l m hl hs) ?_
  simp (decide := true) (maxSteps := 4000000) -implicitDefEqProofs only [evs, tabs, puts, siteD, gget, tget, tset, initT, dstAt, ev, evC, plain, Hp.get, Hp.set, bnd, isCells, isRow, SubA, SubC, Sub, SubL, CvA, Cv, dis, ordB, ite_self, exists_eq', List.mem_cons, List.not_mem_nil, Site.m.injEq, bne_self_eq_false, beq_iff_eq, bne_iff_ne, ↓reduceIte, Int.reduceAdd, Int.reduceSub, Int.reduceToNat, Int.reduceNeg, Nat.reduceAdd, Nat.reduceMul, Nat.reduceSub, exists_eq_left', exists_eq_left, implies_true, forall_const, Site.l.injEq, Site.e.injEq, reduceCtorEq, beq_self_eq_true, ne_eq]
/-! Parts of parts. -/
theorem hid_iff {a : Nat} {v : Vn} (ha : a < 256) (hv : 0 ≤ v.r.cats ∧ v.r.cats < 256) : hid a v = false ↔ ∀ i, v.r.cats.toNat.testBit i = true → a.testBit i = true := by
  have e : v.r.cats = (v.r.cats.toNat : Int) := by omega
  unfold hid
  rw [Bool.not_eq_false', decide_eq_true_eq]
  generalize v.r.cats.toNat = c at e
  have hc : c < 256 := by omega
  rw [e, bnot_sub (by omega) (by omega)]
theorem hid_eq {a b : Bool} (h : a = false ↔ b = false) : a = b := by
  cases a <;> cases b <;> simp_all
theorem mem_cats {l : List Vn} (h : chkSt l = 0) {v : Vn} (hv : v ∈ l) : 0 ≤ v.r.cats ∧ v.r.cats < 256 := (chkRec_iff.1 ((chkSt_len h).2 v hv)).2.1
theorem partL_part {l : List Vn} {a b c : Nat} (h : chkSt l = 0) (ha : a < 256) (hb : b < 256) (hc : c < 256) (hab : ∀ i, c.testBit i = true ↔ a.testBit i = true ∧ b.testBit i = true) : partL b (partL a l) = partL c l := by
  unfold partL
  rw [List.filter_filter]
  refine List.filter_congr fun v hv => ?_
  have hv := mem_cats h hv
  rw [Bool.eq_iff_iff, Bool.and_eq_true, Bool.not_eq_true', Bool.not_eq_true', Bool.not_eq_true', hid_iff ha hv, hid_iff hb hv, hid_iff hc hv]
  simp only [hab]
  exact ⟨fun h i hi => ⟨h.2 i hi, h.1 i hi⟩, fun h => ⟨fun i hi => (h i hi).2, fun i hi => (h i hi).1⟩⟩
theorem partL_all {l : List Vn} (h : chkSt l = 0) : partL (255 : Nat) l = l := by
  unfold partL
  rw [List.filter_eq_self]
  intro v hv
  have hv := mem_cats h hv
  rw [Bool.not_eq_true', hid_iff (by omega) hv]
  intro i hi
  have : v.r.cats.toNat < 2 ^ 8 := by omega
  have hi8 : i < 8 := Classical.byContradiction fun hn => by
    have := Nat.testBit_lt_two_pow (Nat.lt_of_lt_of_le this (Nat.pow_le_pow_right (by omega) (show 8 ≤ i by omega)))
    rw [hi] at this; cases this
  rw [show (255 : Nat) = 2 ^ 8 - 1 by rfl, Nat.testBit_two_pow_sub_one]
  simp [hi8]
theorem partL_sub {a b : Nat} {l : List Vn} (h : chkSt l = 0) (ha : a < 256) (hb : b < 256) (hab : ∀ i, a.testBit i = true → b.testBit i = true) : (partL a l).length ≤ (partL b l).length := by
  rw [← partL_part h hb ha ha (fun i => ⟨fun h => ⟨hab i h, h⟩, fun h => h.2⟩)]
  exact partL_len _ _
theorem partL_add (a : Int) (l : List Vn) (v : Vn) : partL a (l ++ [v]) = if hid a v then partL a l else partL a l ++ [v] := by
  unfold partL
  rw [List.filter_append]
  cases e : hid a v with
  | true => simp [e]
  | false => simp [e]
theorem hid_cats {a : Int} {v w : Vn} (h : v.r.cats = w.r.cats) : hid a v = hid a w := by unfold hid; rw [h]
theorem cnt_part_le (a : Int) (l : List Vn) (c : Int) : cnt (partL a l) c ≤ cnt l c := by
  unfold cnt partL
  rw [List.filter_filter, ← List.countP_eq_length_filter, ← List.countP_eq_length_filter]
  exact List.countP_mono_left fun x _ h => by simp only [Bool.and_eq_true] at h; exact h.1
theorem snoc_ind {α : Type} {P : List α → Prop} (h0 : P []) (h1 : ∀ l x, P l → P (l ++ [x])) (l : List α) : P l := by
  have key : ∀ n (l : List α), l.length = n → P l := by
    intro n
    induction n with
    | zero => intro l h; rw [List.eq_nil_of_length_eq_zero h]; exact h0
    | succ n ih =>
      intro l h
      have hne : l ≠ [] := fun e => by rw [e] at h; cases h
      rw [← List.dropLast_concat_getLast hne]
      exact h1 _ _ (ih _ (by rw [List.length_dropLast, h]; rfl))
  exact key l.length l rfl
/-- What may be seen has just as many of its kinds in the part. -/
theorem cnt_part (a : Int) (l : List Vn) (c : Int) (hc : bnot c a = 0) : cnt (partL a l) c = cnt l c := by
  unfold cnt partL
  rw [List.filter_filter]
  congr 1
  refine List.filter_congr fun v _ => ?_
  by_cases h : v.r.cats = c
  · simp [h, hid, hc]
  · simp [h]
theorem lives_part (a : Int) (l : List Vn) (id : ByteArray) (c : Int) (hc : bnot c a = 0) : lives (partL a l) id c = lives l id c := by
  induction l using snoc_ind with
  | h0 => rfl
  | h1 l v ih =>
    rw [partL_add, lives_add]
    cases e : hid a v with
    | true =>
      rw [if_pos rfl, ih, lStep, if_neg]
      rintro ⟨_, h⟩
      unfold hid at e
      rw [h, hc] at e
      simp at e
    | false =>
      rw [if_neg (by simp), lives_add, ih]
theorem chkGo_part (a : Int) : ∀ (m p : List Vn), chkGo p m = 0 → chkGo (partL a p) (partL a m) = 0 := by
  intro m
  induction m with
  | nil => intro p _; rfl
  | cons v m ih =>
    intro p h
    simp only [chkGo] at h
    split at h
    · rename_i h0
      have := ih _ h
      rw [partL_add] at this
      cases e : hid a v with
      | true =>
        rw [e, if_pos rfl] at this
        have e2 : partL a (v :: m) = partL a m := by unfold partL; rw [List.filter_cons, e]; rfl
        rw [e2]; exact this
      | false =>
        rw [e, if_neg (by simp)] at this
        have e2 : partL a (v :: m) = v :: partL a m := by unfold partL; rw [List.filter_cons, e]; rfl
        have hc : bnot v.r.cats a = 0 := by unfold hid at e; simpa using e
        rw [e2, chkGo]
        have e3 : stepE (partL a p) v = stepE p v := by unfold stepE; rw [cnt_part a p _ hc, lives_part a p _ _ hc]
        rw [e3, h0, if_pos rfl]
        exact this
    · rename_i h0; exact absurd h h0
/-- A part of a store is a store. -/
theorem chkSt_part {a : Int} {l : List Vn} (h : chkSt l = 0) : chkSt (partL a l) = 0 := by
  have hl := (chkSt_len h).1
  have := partL_len a l
  unfold chkSt at h ⊢
  rw [if_neg (by omega)] at h ⊢
  exact chkGo_part a l [] h
theorem Part_okS {l : List Vn} {a : Nat} (h : chkSt l = 0) (ha : a < 256) : Ok Try.prog 19 [vers l, I a] (.tup [vers (partL a l), I 0]) := by
  have e : partE l a = 0 := by rw [partE, if_pos h, if_pos (by omega)]
  have := Part_ok l a
  rwa [e, if_pos rfl] at this
end Go.Proofs.Ytfglieambpfbfaa.E
