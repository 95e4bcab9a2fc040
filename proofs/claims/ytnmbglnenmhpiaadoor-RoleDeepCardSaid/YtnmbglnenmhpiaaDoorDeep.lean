/- Walks: role.Deep. No conditions. -/
import Derived.Test.YtnmbglnenmhpiaaDoorDeepP
import Derived.Test.YtnmbglnenmhpiaaDoorShelf
namespace Go.Proofs.YtnmbglnenmhpiaaDoor.E
open Go
set_option linter.unusedSimpArgs false
set_option linter.unusedVariables false
set_option linter.unusedSectionVars false
set_option maxRecDepth 20000
theorem gc_cell {w : World} {b : Nat} {cs : Array Value} (h : GC w b = some cs) (j : Nat) : w.cell? ⟨b, j, none⟩ = cs[j]? := by
  unfold GC at h
  unfold World.cell?
  split at h
  · rename_i e
    cases h
    simp [e]
  · cases h
theorem tz_ok (m : Nat) (h : m < 18446744073709551616) : Ok Tryd.prog 19 [.val (.int .u64 m)] (I (Lib.ctz 64 m)) := by
  intro w T vs hT hG hv
  simp only [RVL, RV] at hv
  obtain ⟨_, _, rfl, ⟨rfl, _⟩, rfl⟩ := hv
  have hg : TabAt 1 Lib.deBruijn64tab w := by
    have h2 := hG.2
    unfold GP GB at h2
    have h2 : GC w 1 = some (Lib.deBruijn64tab.map fun (z : Nat) => Value.int .u8 z).toArray := by rw [← h2]; exact (if_pos (by simp)).symm
    intro j hj
    rw [gc_cell h2]
    simp [List.getD, hj]
  have hcon := Go.Proofs.Any7.bits_TrailingZeros Go.Proofs.Tryd.lays7tz m h w (fun _ => hg)
  change Calls Tryd.prog 19 _ _ _ at hcon
  refine hcon.mono ?_
  rintro e w' ⟨rfl, rfl⟩
  exact ⟨_, rfl, Go.RowKit.Below.refl _ _, by simp only [RV]; exact ⟨trivial, rfl⟩⟩
def dRow (l : List Nat) : List (List AV) := l.map fun (d : Nat) => [I (d : Int)]
theorem dRow_get {l : List Nat} {i d : Nat} (h : l[i]? = some d) : (dRow l)[i]? = some [I (d : Int)] := by simp [dRow, h]
theorem dRow_set (l : List Nat) (i d : Nat) : (dRow l).set i [I (d : Int)] = dRow (l.set i d) := by simp [dRow, List.map_set]
theorem dRow_len (l : List Nat) : (dRow l).length = l.length := by simp [dRow]
theorem Deep_ok (l : List Int) (i : Int) : Ok Tryd.prog 5 [ints l, I i] (.tup [I (if chkAt l i = 0 then (deepN (l.map Int.toNat) i.toNat : Int) else 0), I (chkAt l i)]) := by
  refine Ok.of_wp (rs := [.tmp 4, .tmp 5]) (n := 59) Tryd.func5 rfl rfl rfl (by simp) fo (by kernel_rfl) ?_
  simp (decide := true) (maxSteps := 4000000) -implicitDefEqProofs only [evs, tabs, puts, siteD, gget, tget, tset, initT, dstAt, ev, evC, plain, Hp.get, Hp.set, bnd, isCells, isRow, SubA, SubC, Sub, SubL, CvA, Cv, dis, ordB, ite_self, exists_eq', List.mem_cons, List.not_mem_nil, Site.m.injEq, bne_self_eq_false, beq_iff_eq, bne_iff_ne, ↓reduceIte, Int.reduceAdd, Int.reduceSub, Int.reduceToNat, Int.reduceNeg, Nat.reduceAdd, Nat.reduceMul, Nat.reduceSub, exists_eq_left', exists_eq_left, implies_true, forall_const, Site.l.injEq, Site.e.injEq, reduceCtorEq, beq_self_eq_true, ne_eq]
  refine call_eq (rCheck_ok l) ?_
  unfold chkAt
  by_cases hc : chkUp l = 0
  · simp (decide := true) (maxSteps := 4000000) -implicitDefEqProofs only [evs, tabs, puts, siteD, gget, tget, tset, initT, dstAt, ev, evC, plain, Hp.get, Hp.set, bnd, isCells, isRow, SubA, SubC, Sub, SubL, CvA, Cv, dis, ordB, ite_self, exists_eq', List.mem_cons, List.not_mem_nil, Site.m.injEq, bne_self_eq_false, beq_iff_eq, bne_iff_ne, ↓reduceIte, Int.reduceAdd, Int.reduceSub, Int.reduceToNat, Int.reduceNeg, Nat.reduceAdd, Nat.reduceMul, Nat.reduceSub, exists_eq_left', exists_eq_left, implies_true, forall_const, Site.l.injEq, Site.e.injEq, reduceCtorEq, beq_self_eq_true, ne_eq, hc]
    have hl := upOk_of hc
    split
    · rw [if_neg (show ¬ (0 ≤ i ∧ i < l.length) by omega)]; exact ⟨rfl, rfl⟩
    · split
      · rw [if_neg (show ¬ (0 ≤ i ∧ i < l.length) by omega)]; exact ⟨rfl, rfl⟩
      · rename_i h1 h2
        rw [if_pos (show 0 ≤ i ∧ i < l.length by omega)]
        obtain ⟨n, rfl⟩ : ∃ n : Nat, i = n := ⟨i.toNat, by omega⟩
        simp (decide := true) (maxSteps := 4000000) -implicitDefEqProofs only [evs, tabs, puts, siteD, gget, tget, tset, initT, dstAt, ev, evC, plain, Hp.get, Hp.set, bnd, isCells, isRow, SubA, SubC, Sub, SubL, CvA, Cv, dis, ordB, ite_self, exists_eq', List.mem_cons, List.not_mem_nil, Site.m.injEq, bne_self_eq_false, beq_iff_eq, bne_iff_ne, ↓reduceIte, Int.reduceAdd, Int.reduceSub, Int.reduceToNat, Int.reduceNeg, Nat.reduceAdd, Nat.reduceMul, Nat.reduceSub, exists_eq_left', exists_eq_left, implies_true, forall_const, Site.l.injEq, Site.e.injEq, reduceCtorEq, beq_self_eq_true, ne_eq]
        refine ⟨by omega, by omega, by omega, ?_⟩
        have e0 : List.replicate l.length [AV.val (Value.int IntKind.i64 0)] = dRow (List.replicate l.length 0) := by rw [dRow, List.map_replicate]; rfl
        rw [e0]
        have hmap : ∀ k, ((l.take k).map Int.toNat) = (l.map Int.toNat).take k := fun k => List.map_take
        have hml : (l.map Int.toNat).length = l.length := by simp
        have hdl : ∀ k, k ≤ l.length → (deeps [] ((l.map Int.toNat).take k)).length = k := fun k hk => by rw [deeps_length, List.length_take, hml]; simp; omega
        refine ALoop.st [1, 7, 26, 27, 28] (fun (k : Nat) => [I n, .own (.l 25) 1 1 0 l.length, ints l, I l.length, I k]) (fun k => [(.l 25, 1, .row 3 1 (some l.length) (dRow (deeps [] ((l.map Int.toNat).take k) ++ List.replicate (l.length - k) 0)))])
          (fun k => k ≤ l.length) (fun k => l.length - k) [] 0 (by simp (decide := true) (maxSteps := 4000000) -implicitDefEqProofs only [evs, tabs, puts, siteD, gget, tget, tset, initT, dstAt, ev, evC, plain, Hp.get, Hp.set, bnd, isCells, isRow, SubA, SubC, Sub, SubL, CvA, Cv, dis, ordB, ite_self, exists_eq', List.mem_cons, List.not_mem_nil, Site.m.injEq, bne_self_eq_false, beq_iff_eq, bne_iff_ne, ↓reduceIte, Int.reduceAdd, Int.reduceSub, Int.reduceToNat, Int.reduceNeg, Nat.reduceAdd, Nat.reduceMul, Nat.reduceSub, exists_eq_left', exists_eq_left, implies_true, forall_const, Site.l.injEq, Site.e.injEq, reduceCtorEq, beq_self_eq_true, ne_eq]; try omega) (by simp (decide := true) (maxSteps := 4000000) -implicitDefEqProofs only [evs, tabs, puts, siteD, gget, tget, tset, initT, dstAt, ev, evC, plain, Hp.get, Hp.set, bnd, isCells, isRow, SubA, SubC, Sub, SubL, CvA, Cv, dis, ordB, ite_self, exists_eq', List.mem_cons, List.not_mem_nil, Site.m.injEq, bne_self_eq_false, beq_iff_eq, bne_iff_ne, ↓reduceIte, Int.reduceAdd, Int.reduceSub, Int.reduceToNat, Int.reduceNeg, Nat.reduceAdd, Nat.reduceMul, Nat.reduceSub, exists_eq_left', exists_eq_left, implies_true, forall_const, Site.l.injEq, Site.e.injEq, reduceCtorEq, beq_self_eq_true, ne_eq]; try rfl) (by omega) ?_
        rintro k hk
        generalize hds : deeps [] ((l.map Int.toNat).take k) = ds
        have hdk : ds.length = k := by rw [← hds]; exact hdl k hk
        simp (decide := true) (maxSteps := 4000000) -implicitDefEqProofs only [evs, tabs, puts, siteD, gget, tget, tset, initT, dstAt, ev, evC, plain, Hp.get, Hp.set, bnd, isCells, isRow, SubA, SubC, Sub, SubL, CvA, Cv, dis, ordB, ite_self, exists_eq', List.mem_cons, List.not_mem_nil, Site.m.injEq, bne_self_eq_false, beq_iff_eq, bne_iff_ne, ↓reduceIte, Int.reduceAdd, Int.reduceSub, Int.reduceToNat, Int.reduceNeg, Nat.reduceAdd, Nat.reduceMul, Nat.reduceSub, exists_eq_left', exists_eq_left, implies_true, forall_const, Site.l.injEq, Site.e.injEq, reduceCtorEq, beq_self_eq_true, ne_eq]
        split
        · rename_i h
          obtain ⟨x, hx⟩ := get_lt (l := l) (i := k) (by omega)
          obtain ⟨M, rfl, hM⟩ := upFrom_get hl.2 hx
          have hw := wr_add1 h (by omega)
          have hM8 : M < 256 := Nat.lt_of_lt_of_le hM (Nat.pow_le_pow_right (n := 2) (by omega) (show 0 + k ≤ 8 by omega))
          simp (decide := true) (maxSteps := 4000000) -implicitDefEqProofs only [evs, tabs, puts, siteD, gget, tget, tset, initT, dstAt, ev, evC, plain, Hp.get, Hp.set, bnd, isCells, isRow, SubA, SubC, Sub, SubL, CvA, Cv, dis, ordB, ite_self, exists_eq', List.mem_cons, List.not_mem_nil, Site.m.injEq, bne_self_eq_false, beq_iff_eq, bne_iff_ne, ↓reduceIte, Int.reduceAdd, Int.reduceSub, Int.reduceToNat, Int.reduceNeg, Nat.reduceAdd, Nat.reduceMul, Nat.reduceSub, exists_eq_left', exists_eq_left, implies_true, forall_const, Site.l.injEq, Site.e.injEq, reduceCtorEq, beq_self_eq_true, ne_eq, hx]
          refine ALoop.st [1, 7, 8, 9, 26, 27, 28] (fun (s : Nat × Nat) => [I n, .own (.l 25) 1 1 0 l.length, I k, I s.2, ints l, I l.length, I k]) (fun s => [(.l 25, 1, .row 3 1 (some l.length) (dRow (ds ++ s.1 :: List.replicate (l.length - k - 1) 0)))])
            (fun s => s.2 < 2 ^ k ∧ s.2 < 256 ∧ max s.1 (deepOf ds s.2) = deepOf ds M) (fun s => s.2) [] (0, M)
            (by simp (decide := true) (maxSteps := 4000000) -implicitDefEqProofs only [evs, tabs, puts, siteD, gget, tget, tset, initT, dstAt, ev, evC, plain, Hp.get, Hp.set, bnd, isCells, isRow, SubA, SubC, Sub, SubL, CvA, Cv, dis, ordB, ite_self, exists_eq', List.mem_cons, List.not_mem_nil, Site.m.injEq, bne_self_eq_false, beq_iff_eq, bne_iff_ne, ↓reduceIte, Int.reduceAdd, Int.reduceSub, Int.reduceToNat, Int.reduceNeg, Nat.reduceAdd, Nat.reduceMul, Nat.reduceSub, exists_eq_left', exists_eq_left, implies_true, forall_const, Site.l.injEq, Site.e.injEq, reduceCtorEq, beq_self_eq_true, ne_eq]; try omega) (by rw [show l.length - k = (l.length - k - 1) + 1 by omega, List.replicate_succ]; simp (decide := true) (maxSteps := 4000000) -implicitDefEqProofs only [evs, tabs, puts, siteD, gget, tget, tset, initT, dstAt, ev, evC, plain, Hp.get, Hp.set, bnd, isCells, isRow, SubA, SubC, Sub, SubL, CvA, Cv, dis, ordB, ite_self, exists_eq', List.mem_cons, List.not_mem_nil, Site.m.injEq, bne_self_eq_false, beq_iff_eq, bne_iff_ne, ↓reduceIte, Int.reduceAdd, Int.reduceSub, Int.reduceToNat, Int.reduceNeg, Nat.reduceAdd, Nat.reduceMul, Nat.reduceSub, exists_eq_left', exists_eq_left, implies_true, forall_const, Site.l.injEq, Site.e.injEq, reduceCtorEq, beq_self_eq_true, ne_eq]; try rfl) ⟨by simpa using hM, hM8, by simp⟩ ?_
          rintro ⟨v, m⟩ ⟨h2, hm8, hv⟩
          simp only at h2 hm8 hv
          have hgk : (dRow (ds ++ v :: List.replicate (l.length - k - 1) 0))[k]? = some [I (v : Int)] := dRow_get (by rw [List.getElem?_append_right (by omega), hdk, Nat.sub_self]; rfl)
          by_cases h0 : m = 0
          · subst h0
            have hnx : ds ++ v :: List.replicate (l.length - k - 1) 0 = deeps [] ((l.map Int.toNat).take (k + 1)) ++ List.replicate (l.length - (k + 1)) 0 := by
              rw [deepOf_zero] at hv
              have e1 : (l.map Int.toNat)[k]? = some M := by simp [hx]
              have e2 : v = deepOf ds M := by omega
              rw [take_get e1, deeps_app, hds, e2, Nat.sub_sub]
              simp [deeps]
            simp (decide := true) (maxSteps := 4000000) -implicitDefEqProofs only [evs, tabs, puts, siteD, gget, tget, tset, initT, dstAt, ev, evC, plain, Hp.get, Hp.set, bnd, isCells, isRow, SubA, SubC, Sub, SubL, CvA, Cv, dis, ordB, ite_self, exists_eq', List.mem_cons, List.not_mem_nil, Site.m.injEq, bne_self_eq_false, beq_iff_eq, bne_iff_ne, ↓reduceIte, Int.reduceAdd, Int.reduceSub, Int.reduceToNat, Int.reduceNeg, Nat.reduceAdd, Nat.reduceMul, Nat.reduceSub, exists_eq_left', exists_eq_left, implies_true, forall_const, Site.l.injEq, Site.e.injEq, reduceCtorEq, beq_self_eq_true, ne_eq, hw]
            refine Nxt.mk [] (k + 1) (by simp (decide := true) (maxSteps := 4000000) -implicitDefEqProofs only [evs, tabs, puts, siteD, gget, tget, tset, initT, dstAt, ev, evC, plain, Hp.get, Hp.set, bnd, isCells, isRow, SubA, SubC, Sub, SubL, CvA, Cv, dis, ordB, ite_self, exists_eq', List.mem_cons, List.not_mem_nil, Site.m.injEq, bne_self_eq_false, beq_iff_eq, bne_iff_ne, ↓reduceIte, Int.reduceAdd, Int.reduceSub, Int.reduceToNat, Int.reduceNeg, Nat.reduceAdd, Nat.reduceMul, Nat.reduceSub, exists_eq_left', exists_eq_left, implies_true, forall_const, Site.l.injEq, Site.e.injEq, reduceCtorEq, beq_self_eq_true, ne_eq]) (by rw [hnx]; simp (decide := true) (maxSteps := 4000000) -implicitDefEqProofs only [evs, tabs, puts, siteD, gget, tget, tset, initT, dstAt, ev, evC, plain, Hp.get, Hp.set, bnd, isCells, isRow, SubA, SubC, Sub, SubL, CvA, Cv, dis, ordB, ite_self, exists_eq', List.mem_cons, List.not_mem_nil, Site.m.injEq, bne_self_eq_false, beq_iff_eq, bne_iff_ne, ↓reduceIte, Int.reduceAdd, Int.reduceSub, Int.reduceToNat, Int.reduceNeg, Nat.reduceAdd, Nat.reduceMul, Nat.reduceSub, exists_eq_left', exists_eq_left, implies_true, forall_const, Site.l.injEq, Site.e.injEq, reduceCtorEq, beq_self_eq_true, ne_eq]) (by omega) (by omega)
          · obtain ⟨c1, c2, c3, c4⟩ := low_bit m hm8 h0
            have hck : Lib.ctz 64 m < k := lt_of_bit h2 c2
            have h0' : ¬ (m : Int) = 0 := by omega
            have hwm : IntKind.u64.wrap (m : Int) = m := by show (m : Int) % 18446744073709551616 = m; omega
            have hlow := deepOf_low (ds := ds) (by omega) hm8 h0 (by omega)
            simp (decide := true) (maxSteps := 4000000) -implicitDefEqProofs only [evs, tabs, puts, siteD, gget, tget, tset, initT, dstAt, ev, evC, plain, Hp.get, Hp.set, bnd, isCells, isRow, SubA, SubC, Sub, SubL, CvA, Cv, dis, ordB, ite_self, exists_eq', List.mem_cons, List.not_mem_nil, Site.m.injEq, bne_self_eq_false, beq_iff_eq, bne_iff_ne, ↓reduceIte, Int.reduceAdd, Int.reduceSub, Int.reduceToNat, Int.reduceNeg, Nat.reduceAdd, Nat.reduceMul, Nat.reduceSub, exists_eq_left', exists_eq_left, implies_true, forall_const, Site.l.injEq, Site.e.injEq, reduceCtorEq, beq_self_eq_true, ne_eq, h0', h, hgk, hwm]
            refine call_eq (tz_ok m (by omega)) ?_
            generalize hc' : Lib.ctz 64 m = c at *
            obtain ⟨d, hd⟩ : ∃ d, ds[c]? = some d := ⟨_, List.getElem?_eq_getElem (show c < ds.length by omega)⟩
            have hgc : (dRow (ds ++ v :: List.replicate (l.length - k - 1) 0))[c]? = some [I (d : Int)] := dRow_get (by rw [List.getElem?_append_left (by omega), hd])
            have hdc : d ≤ c := by
              have e1 := deepN_take (up := l.map Int.toNat) (i := c) (k := k) hck (by omega)
              rw [hds] at e1
              have e2 : d = deepN (l.map Int.toNat) c := by rw [← e1]; simp [List.getD, hd]
              have e3 := deepN_idx (up := l.map Int.toNat) (k := c) (by omega)
              omega
            have hv8 : max v (1 + d) = max (1 + d) v := by omega
            have w1 : IntKind.i64.wrap (1 + (d : Int)) = ((1 + d : Nat) : Int) := by rw [wr_i64 (by omega) (by omega)]; omega
            have w2 : (if ((1 + d : Nat) : Int) > (v : Int) then ((1 + d : Nat) : Int) else (v : Int)) = ((max v (1 + d) : Nat) : Int) := by split <;> omega
            have w3 : IntKind.i64.wrap ((m : Int) - 1) = ((m - 1 : Nat) : Int) := by rw [wr_i64 (by omega) (by omega)]; omega
            have w4 := band_nat (n := m) (m := m - 1) (by omega) (by omega)
            have w5 : (dRow (ds ++ v :: List.replicate (l.length - k - 1) 0)).set k [I ((max v (1 + d) : Nat) : Int)] = dRow (ds ++ max v (1 + d) :: List.replicate (l.length - k - 1) 0) := by
              rw [dRow_set, List.set_append_right _ _ (by omega), hdk, Nat.sub_self, List.set_cons_zero]
            simp (decide := true) (maxSteps := 4000000) -implicitDefEqProofs only [evs, tabs, puts, siteD, gget, tget, tset, initT, dstAt, ev, evC, plain, Hp.get, Hp.set, bnd, isCells, isRow, SubA, SubC, Sub, SubL, CvA, Cv, dis, ordB, ite_self, exists_eq', List.mem_cons, List.not_mem_nil, Site.m.injEq, bne_self_eq_false, beq_iff_eq, bne_iff_ne, ↓reduceIte, Int.reduceAdd, Int.reduceSub, Int.reduceToNat, Int.reduceNeg, Nat.reduceAdd, Nat.reduceMul, Nat.reduceSub, exists_eq_left', exists_eq_left, implies_true, forall_const, Site.l.injEq, Site.e.injEq, reduceCtorEq, beq_self_eq_true, ne_eq, h, hgk, hgc, show (c : Int) < l.length by omega, w1, w2, w3, w5]
            refine Nxt.mk [] (max v (1 + d), m &&& (m - 1)) (by simp (decide := true) (maxSteps := 4000000) -implicitDefEqProofs only [evs, tabs, puts, siteD, gget, tget, tset, initT, dstAt, ev, evC, plain, Hp.get, Hp.set, bnd, isCells, isRow, SubA, SubC, Sub, SubL, CvA, Cv, dis, ordB, ite_self, exists_eq', List.mem_cons, List.not_mem_nil, Site.m.injEq, bne_self_eq_false, beq_iff_eq, bne_iff_ne, ↓reduceIte, Int.reduceAdd, Int.reduceSub, Int.reduceToNat, Int.reduceNeg, Nat.reduceAdd, Nat.reduceMul, Nat.reduceSub, exists_eq_left', exists_eq_left, implies_true, forall_const, Site.l.injEq, Site.e.injEq, reduceCtorEq, beq_self_eq_true, ne_eq, w4]; try exact w4) (by simp (decide := true) (maxSteps := 4000000) -implicitDefEqProofs only [evs, tabs, puts, siteD, gget, tget, tset, initT, dstAt, ev, evC, plain, Hp.get, Hp.set, bnd, isCells, isRow, SubA, SubC, Sub, SubL, CvA, Cv, dis, ordB, ite_self, exists_eq', List.mem_cons, List.not_mem_nil, Site.m.injEq, bne_self_eq_false, beq_iff_eq, bne_iff_ne, ↓reduceIte, Int.reduceAdd, Int.reduceSub, Int.reduceToNat, Int.reduceNeg, Nat.reduceAdd, Nat.reduceMul, Nat.reduceSub, exists_eq_left', exists_eq_left, implies_true, forall_const, Site.l.injEq, Site.e.injEq, reduceCtorEq, beq_self_eq_true, ne_eq]) ⟨by simp only; omega, by simp only; omega, ?_⟩ (by simp only; omega)
            have e4 : ds.getD c 0 = d := by simp [List.getD, hd]
            rw [e4] at hlow
            simp only
            omega
        · rename_i h
          obtain rfl : k = l.length := by omega
          obtain ⟨d, hd⟩ : ∃ d, ds[n]? = some d := ⟨_, List.getElem?_eq_getElem (show n < ds.length by omega)⟩
          have hgn : (dRow (ds ++ List.replicate (l.length - l.length) 0))[n]? = some [I (d : Int)] := dRow_get (by rw [List.getElem?_append_left (by omega), hd])
          have hdn : d = deepN (l.map Int.toNat) n := by
            unfold deepN
            rw [List.take_of_length_le (by omega)] at hds
            rw [hds]
            simp [List.getD, hd]
          simp (decide := true) (maxSteps := 4000000) -implicitDefEqProofs only [evs, tabs, puts, siteD, gget, tget, tset, initT, dstAt, ev, evC, plain, Hp.get, Hp.set, bnd, isCells, isRow, SubA, SubC, Sub, SubL, CvA, Cv, dis, ordB, ite_self, exists_eq', List.mem_cons, List.not_mem_nil, Site.m.injEq, bne_self_eq_false, beq_iff_eq, bne_iff_ne, ↓reduceIte, Int.reduceAdd, Int.reduceSub, Int.reduceToNat, Int.reduceNeg, Nat.reduceAdd, Nat.reduceMul, Nat.reduceSub, exists_eq_left', exists_eq_left, implies_true, forall_const, Site.l.injEq, Site.e.injEq, reduceCtorEq, beq_self_eq_true, ne_eq, hgn]
          exact ⟨by omega, by rw [hdn]⟩
  · simp (decide := true) (maxSteps := 4000000) -implicitDefEqProofs only [evs, tabs, puts, siteD, gget, tget, tset, initT, dstAt, ev, evC, plain, Hp.get, Hp.set, bnd, isCells, isRow, SubA, SubC, Sub, SubL, CvA, Cv, dis, ordB, ite_self, exists_eq', List.mem_cons, List.not_mem_nil, Site.m.injEq, bne_self_eq_false, beq_iff_eq, bne_iff_ne, ↓reduceIte, Int.reduceAdd, Int.reduceSub, Int.reduceToNat, Int.reduceNeg, Nat.reduceAdd, Nat.reduceMul, Nat.reduceSub, exists_eq_left', exists_eq_left, implies_true, forall_const, Site.l.injEq, Site.e.injEq, reduceCtorEq, beq_self_eq_true, ne_eq, hc]
end Go.Proofs.YtnmbglnenmhpiaaDoor.E
