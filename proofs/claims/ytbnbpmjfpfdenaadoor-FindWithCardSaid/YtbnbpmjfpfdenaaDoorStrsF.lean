/- Walks: slices.Index, slices.Contains, slices.IsSorted of strings. No conditions. -/
import Derived.Test.YtbnbpmjfpfdenaaDoorIds
import Derived.Test.YtbnbpmjfpfdenaaDoorPartB
namespace Go.Proofs.YtbnbpmjfpfdenaaDoor.E
open Go
set_option linter.unusedSimpArgs false
set_option linter.unusedVariables false
set_option linter.unusedSectionVars false
set_option maxRecDepth 20000
set_option maxHeartbeats 1000000
def idxB (x : ByteArray) : Nat → List ByteArray → Int
  | _, [] => -1
  | i, y :: l => if decide (x = y) then i else idxB x (i + 1) l
theorem idxB_iff (x : ByteArray) (i : Nat) (l : List ByteArray) : 0 ≤ idxB x i l ↔ hasB l x = true := by
  induction l generalizing i with
  | nil => simp [idxB, hasB]
  | cons y l ih =>
    rw [idxB]
    by_cases h : x = y
    · rw [decide_eq_true h, if_pos rfl]
      simp [hasB, h]
    · rw [decide_eq_false h, if_neg (by simp), ih]
      have h' : ¬ y = x := fun e => h e.symm
      simp [hasB, h']
theorem idxStrs_ok (l : List ByteArray) (x : ByteArray) (hl : l.length ≤ 1000000000000) : Ok Tryd.prog 58 [strs l, S x] (I (idxB x 0 l)) := by
  refine Ok.of_wp (rs := [.tmp 4]) (n := 19) Tryd.func58 rfl rfl rfl (by simp) fo (by kernel_rfl) ?_
  simp (decide := true) (maxSteps := 4000000) -implicitDefEqProofs only [evs, tabs, puts, siteD, gget, tget, tset, initT, dstAt, ev, evC, plain, Hp.get, Hp.set, bnd, isCells, isRow, SubA, SubC, Sub, SubL, CvA, Cv, dis, ordB, ite_self, exists_eq', List.mem_cons, List.not_mem_nil, Site.m.injEq, bne_self_eq_false, beq_iff_eq, bne_iff_ne, ↓reduceIte, Int.reduceAdd, Int.reduceSub, Int.reduceToNat, Int.reduceNeg, Nat.reduceAdd, Nat.reduceMul, Nat.reduceSub, exists_eq_left', exists_eq_left, implies_true, forall_const, Site.l.injEq, Site.e.injEq, reduceCtorEq, beq_self_eq_true, ne_eq]
  refine ALoop.st [0, 1, 7, 8] (fun (i : Nat) => [strs l, S x, I l.length, I i]) (fun _ => []) (fun i => i ≤ l.length ∧ idxB x i (l.drop i) = idxB x 0 l) (fun i => l.length - i) [] 0 (by simp (decide := true) (maxSteps := 4000000) -implicitDefEqProofs only [evs, tabs, puts, siteD, gget, tget, tset, initT, dstAt, ev, evC, plain, Hp.get, Hp.set, bnd, isCells, isRow, SubA, SubC, Sub, SubL, CvA, Cv, dis, ordB, ite_self, exists_eq', List.mem_cons, List.not_mem_nil, Site.m.injEq, bne_self_eq_false, beq_iff_eq, bne_iff_ne, ↓reduceIte, Int.reduceAdd, Int.reduceSub, Int.reduceToNat, Int.reduceNeg, Nat.reduceAdd, Nat.reduceMul, Nat.reduceSub, exists_eq_left', exists_eq_left, implies_true, forall_const, Site.l.injEq, Site.e.injEq, reduceCtorEq, beq_self_eq_true, ne_eq]; try rfl) (by simp (decide := true) (maxSteps := 4000000) -implicitDefEqProofs only [evs, tabs, puts, siteD, gget, tget, tset, initT, dstAt, ev, evC, plain, Hp.get, Hp.set, bnd, isCells, isRow, SubA, SubC, Sub, SubL, CvA, Cv, dis, ordB, ite_self, exists_eq', List.mem_cons, List.not_mem_nil, Site.m.injEq, bne_self_eq_false, beq_iff_eq, bne_iff_ne, ↓reduceIte, Int.reduceAdd, Int.reduceSub, Int.reduceToNat, Int.reduceNeg, Nat.reduceAdd, Nat.reduceMul, Nat.reduceSub, exists_eq_left', exists_eq_left, implies_true, forall_const, Site.l.injEq, Site.e.injEq, reduceCtorEq, beq_self_eq_true, ne_eq]) ⟨by omega, rfl⟩ ?_
  rintro i ⟨hi, hu⟩
  by_cases h : (i : Int) < l.length
  · obtain ⟨g, hg⟩ := get_lt h
    rw [get_drop hg, idxB] at hu
    have hw := wr_add1 h (by omega)
    by_cases he : x = g
    · rw [decide_eq_true he, if_pos rfl] at hu
      have he' : decide (x = g) = true := decide_eq_true he
      simp (decide := true) (maxSteps := 4000000) -implicitDefEqProofs only [evs, tabs, puts, siteD, gget, tget, tset, initT, dstAt, ev, evC, plain, Hp.get, Hp.set, bnd, isCells, isRow, SubA, SubC, Sub, SubL, CvA, Cv, dis, ordB, ite_self, exists_eq', List.mem_cons, List.not_mem_nil, Site.m.injEq, bne_self_eq_false, beq_iff_eq, bne_iff_ne, ↓reduceIte, Int.reduceAdd, Int.reduceSub, Int.reduceToNat, Int.reduceNeg, Nat.reduceAdd, Nat.reduceMul, Nat.reduceSub, exists_eq_left', exists_eq_left, implies_true, forall_const, Site.l.injEq, Site.e.injEq, reduceCtorEq, beq_self_eq_true, ne_eq, h, hg, toList_beq, he']
      rw [← hu]
    · rw [decide_eq_false he, if_neg (by simp)] at hu
      have he' : decide (x = g) = false := decide_eq_false he
      simp (decide := true) (maxSteps := 4000000) -implicitDefEqProofs only [evs, tabs, puts, siteD, gget, tget, tset, initT, dstAt, ev, evC, plain, Hp.get, Hp.set, bnd, isCells, isRow, SubA, SubC, Sub, SubL, CvA, Cv, dis, ordB, ite_self, exists_eq', List.mem_cons, List.not_mem_nil, Site.m.injEq, bne_self_eq_false, beq_iff_eq, bne_iff_ne, ↓reduceIte, Int.reduceAdd, Int.reduceSub, Int.reduceToNat, Int.reduceNeg, Nat.reduceAdd, Nat.reduceMul, Nat.reduceSub, exists_eq_left', exists_eq_left, implies_true, forall_const, Site.l.injEq, Site.e.injEq, reduceCtorEq, beq_self_eq_true, ne_eq, h, hg, toList_beq, he']
      exact Nxt.mk [] (i + 1) (by simp (decide := true) (maxSteps := 4000000) -implicitDefEqProofs only [evs, tabs, puts, siteD, gget, tget, tset, initT, dstAt, ev, evC, plain, Hp.get, Hp.set, bnd, isCells, isRow, SubA, SubC, Sub, SubL, CvA, Cv, dis, ordB, ite_self, exists_eq', List.mem_cons, List.not_mem_nil, Site.m.injEq, bne_self_eq_false, beq_iff_eq, bne_iff_ne, ↓reduceIte, Int.reduceAdd, Int.reduceSub, Int.reduceToNat, Int.reduceNeg, Nat.reduceAdd, Nat.reduceMul, Nat.reduceSub, exists_eq_left', exists_eq_left, implies_true, forall_const, Site.l.injEq, Site.e.injEq, reduceCtorEq, beq_self_eq_true, ne_eq, hw]) (by simp (decide := true) (maxSteps := 4000000) -implicitDefEqProofs only [evs, tabs, puts, siteD, gget, tget, tset, initT, dstAt, ev, evC, plain, Hp.get, Hp.set, bnd, isCells, isRow, SubA, SubC, Sub, SubL, CvA, Cv, dis, ordB, ite_self, exists_eq', List.mem_cons, List.not_mem_nil, Site.m.injEq, bne_self_eq_false, beq_iff_eq, bne_iff_ne, ↓reduceIte, Int.reduceAdd, Int.reduceSub, Int.reduceToNat, Int.reduceNeg, Nat.reduceAdd, Nat.reduceMul, Nat.reduceSub, exists_eq_left', exists_eq_left, implies_true, forall_const, Site.l.injEq, Site.e.injEq, reduceCtorEq, beq_self_eq_true, ne_eq]) ⟨by omega, hu⟩ (by omega)
  · rw [drop_all h, idxB] at hu
    simp (decide := true) (maxSteps := 4000000) -implicitDefEqProofs only [evs, tabs, puts, siteD, gget, tget, tset, initT, dstAt, ev, evC, plain, Hp.get, Hp.set, bnd, isCells, isRow, SubA, SubC, Sub, SubL, CvA, Cv, dis, ordB, ite_self, exists_eq', List.mem_cons, List.not_mem_nil, Site.m.injEq, bne_self_eq_false, beq_iff_eq, bne_iff_ne, ↓reduceIte, Int.reduceAdd, Int.reduceSub, Int.reduceToNat, Int.reduceNeg, Nat.reduceAdd, Nat.reduceMul, Nat.reduceSub, exists_eq_left', exists_eq_left, implies_true, forall_const, Site.l.injEq, Site.e.injEq, reduceCtorEq, beq_self_eq_true, ne_eq, h]
    rw [← hu]
theorem hasStrs_ok (l : List ByteArray) (x : ByteArray) (hl : l.length ≤ 1000000000000) : Ok Tryd.prog 23 [strs l, S x] (B (hasB l x)) := by
  refine Ok.of_wp (rs := [.tmp 4]) (n := 9) Tryd.func23 rfl rfl rfl (by simp) fo (by kernel_rfl) ?_
  simp (decide := true) (maxSteps := 4000000) -implicitDefEqProofs only [evs, tabs, puts, siteD, gget, tget, tset, initT, dstAt, ev, evC, plain, Hp.get, Hp.set, bnd, isCells, isRow, SubA, SubC, Sub, SubL, CvA, Cv, dis, ordB, ite_self, exists_eq', List.mem_cons, List.not_mem_nil, Site.m.injEq, bne_self_eq_false, beq_iff_eq, bne_iff_ne, ↓reduceIte, Int.reduceAdd, Int.reduceSub, Int.reduceToNat, Int.reduceNeg, Nat.reduceAdd, Nat.reduceMul, Nat.reduceSub, exists_eq_left', exists_eq_left, implies_true, forall_const, Site.l.injEq, Site.e.injEq, reduceCtorEq, beq_self_eq_true, ne_eq]
  refine call_eq (idxStrs_ok l x hl) ?_
  simp (decide := true) (maxSteps := 4000000) -implicitDefEqProofs only [evs, tabs, puts, siteD, gget, tget, tset, initT, dstAt, ev, evC, plain, Hp.get, Hp.set, bnd, isCells, isRow, SubA, SubC, Sub, SubL, CvA, Cv, dis, ordB, ite_self, exists_eq', List.mem_cons, List.not_mem_nil, Site.m.injEq, bne_self_eq_false, beq_iff_eq, bne_iff_ne, ↓reduceIte, Int.reduceAdd, Int.reduceSub, Int.reduceToNat, Int.reduceNeg, Nat.reduceAdd, Nat.reduceMul, Nat.reduceSub, exists_eq_left', exists_eq_left, implies_true, forall_const, Site.l.injEq, Site.e.injEq, reduceCtorEq, beq_self_eq_true, ne_eq]
  refine B_eq ?_
  rw [Bool.eq_iff_iff, decide_eq_true_eq, ← idxB_iff x 0]
theorem Ids_okS {l : List Vn} (h : chkSt l = 0) : Ok Tryd.prog 21 [vers l] (.tup [strs (idsL l), I 0]) := by
  have := Ids_ok l
  rwa [h, if_pos rfl] at this
theorem Get_okS {l : List Vn} (h : chkSt l = 0) (id : ByteArray) : Ok Tryd.prog 22 [vers l, S id] (.tup [recV ((getN l id).getD noRec), I (if (getN l id).isSome then 0 else 4)]) := by
  have := Get_ok l id
  rwa [if_pos h, getE_eq h] at this
/-! Names. -/
theorem sortL_perm (l : List ByteArray) : (sortL l).Perm l := by
  unfold sortL
  have h := (List.mergeSort_perm (l.map fun s => s.data.toList) (fun x y => decide (x ≤ y))).map fun b : List UInt8 => (⟨b.toArray⟩ : ByteArray)
  rw [List.map_map] at h
  have e : l.map ((fun b : List UInt8 => (⟨b.toArray⟩ : ByteArray)) ∘ fun s => s.data.toList) = l := by
    conv => rhs; rw [← List.map_id l]
    rfl
  rwa [e] at h
theorem dist_mem {l : List Vn} {x : ByteArray} : x ∈ dist l ↔ ∃ v ∈ l, v.r.id = x := by
  induction l using snoc_ind with
  | h0 => simp [dist]
  | h1 l v ih =>
    rw [dist_add]
    by_cases h : hasB (dist l) v.r.id = true
    · rw [if_pos h, ih]
      constructor
      · rintro ⟨w, hw, e⟩; exact ⟨w, by simp [hw], e⟩
      · rintro ⟨w, hw, e⟩
        rcases List.mem_append.1 hw with hw | hw
        · exact ⟨w, hw, e⟩
        · rw [List.mem_singleton.1 hw] at e
          subst e
          exact ih.1 (hasB_iff.1 h)
    · rw [if_neg h, List.mem_append, ih, List.mem_singleton]
      constructor
      · rintro (⟨w, hw, e⟩ | e)
        · exact ⟨w, by simp [hw], e⟩
        · exact ⟨v, by simp, e.symm⟩
      · rintro ⟨w, hw, e⟩
        rcases List.mem_append.1 hw with hw | hw
        · exact .inl ⟨w, hw, e⟩
        · rw [List.mem_singleton.1 hw] at e; exact .inr e.symm
theorem ids_mem {l : List Vn} {x : ByteArray} : x ∈ idsL l ↔ (getN l x).isSome = true := by
  unfold idsL
  rw [(sortL_perm _).mem_iff]
  unfold idsF
  rw [List.mem_filter, dist_mem]
  refine ⟨fun h => h.2, fun h => ⟨?_, h⟩⟩
  obtain ⟨r, hr⟩ := Option.isSome_iff_exists.1 h
  obtain ⟨e, v, hv, e2⟩ := getN_some hr
  exact ⟨v, hv, by rw [e2]; exact e⟩
theorem ids_len (l : List Vn) : (idsL l).length ≤ l.length := by
  unfold idsL
  rw [sortL_len]
  exact Nat.le_trans (List.length_filter_le _ _) (dist_len l)
/-- What a part tells of a name. -/
theorem getRev_part (a : Int) (id : ByteArray) : ∀ (l : List Vn) (g g' : Int → Bool), (∀ c, bnot c a = 0 → g c = g' c) → ((getRev id (partL a l) g').isSome = true → (getRev id l g).isSome = true) ∧ (∀ r, getRev id l g = some r → bnot r.cats a = 0 → getRev id (partL a l) g' = some r) := by
  intro l
  induction l with
  | nil => intro g g' _; exact ⟨fun h => h, fun r h => by cases h⟩
  | cons v l ih =>
    intro g g' hg
    cases e : hid a v with
    | true =>
      have hc : bnot v.r.cats a ≠ 0 := by unfold hid at e; simpa using e
      have e2 : partL a (v :: l) = partL a l := by unfold partL; rw [List.filter_cons, e]; rfl
      rw [e2, getRev_cons]
      have hg2 : ∀ c, bnot c a = 0 → (decide (v.r.cats = c) || g c) = g' c := fun c h => by
        have : ¬ v.r.cats = c := fun e => hc (e ▸ h)
        rw [decide_eq_false this, Bool.false_or]; exact hg c h
      by_cases h1 : v.r.id = id
      · rw [if_pos h1]
        by_cases h2 : v.gone = false ∧ g v.r.cats = false
        · rw [if_pos h2]
          exact ⟨fun _ => rfl, fun r h hr => by cases h; exact absurd hr hc⟩
        · rw [if_neg h2]; exact ih _ _ hg2
      · rw [if_neg h1]; exact ih _ _ hg
    | false =>
      have hc : bnot v.r.cats a = 0 := by unfold hid at e; simpa using e
      have e2 : partL a (v :: l) = v :: partL a l := by unfold partL; rw [List.filter_cons, e]; rfl
      rw [e2, getRev_cons, getRev_cons, ← hg _ hc]
      by_cases h1 : v.r.id = id
      · rw [if_pos h1, if_pos h1]
        by_cases h2 : v.gone = false ∧ g v.r.cats = false
        · rw [if_pos h2, if_pos h2]; exact ⟨fun h => h, fun r h _ => h⟩
        · rw [if_neg h2, if_neg h2]; exact ih _ _ fun c h => by rw [hg c h]
      · rw [if_neg h1, if_neg h1]; exact ih _ _ hg
theorem getN_part {a : Int} {id : ByteArray} {l : List Vn} : ((getN (partL a l) id).isSome = true → (getN l id).isSome = true) ∧ (∀ r, getN l id = some r → bnot r.cats a = 0 → getN (partL a l) id = some r) := by
  have h := getRev_part a id l.reverse (fun _ => false) (fun _ => false) (fun _ _ => rfl)
  have e : partL a l.reverse = (partL a l).reverse := List.filter_reverse ..
  rw [e] at h
  exact h
end Go.Proofs.YtbnbpmjfpfdenaaDoor.E
