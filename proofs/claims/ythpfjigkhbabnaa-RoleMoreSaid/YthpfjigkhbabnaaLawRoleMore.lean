/- Walks: RoleMore. No conditions. -/
import Derived.Test.YthpfjigkhbabnaaRoleP
import Derived.Test.YthpfjigkhbabnaaSlices
namespace Go.Proofs.Ythpfjigkhbabnaa.E
open Go
set_option linter.unusedSimpArgs false
set_option linter.unusedVariables false
set_option linter.unusedSectionVars false
set_option maxRecDepth 20000
set_option maxHeartbeats 1000000
theorem allL_congr {u v : List Nat} {k a : Nat} (h : ∀ j, j < k → u.getD j 0 = v.getD j 0) : allL u k a = allL v k a := by
  induction k generalizing a with
  | zero => rfl
  | succ k ih =>
    simp only [allL]
    rw [h k (by omega)]
    exact ih fun j hj => h j (by omega)
theorem allN_congr {u v : List Nat} {i : Nat} (h : ∀ j, j ≤ i → u.getD j 0 = v.getD j 0) : allN u i = allN v i := allL_congr fun j hj => h j (by omega)
theorem allN_mono {u v : List Nat} (hu : upN u) (hv : upN v) (h : ∀ j m, (u.getD j 0).testBit m = true → (v.getD j 0).testBit m = true) {i m : Nat} (hm : (allN u i).testBit m = true) : (allN v i).testBit m = true := by
  induction i using Nat.strongRecOn generalizing m with
  | _ i ih =>
    rcases (allN_bits (hu i) m).1 hm with rfl | ⟨j, h1, h2, h3⟩
    · exact allN_self _ _
    · exact (allN_bits (hv i) m).2 (.inr ⟨j, h1, h i j h2, ih j h1 h3⟩)
theorem upFrom_take {l : List Int} {k : Nat} (n : Nat) (h : upFrom k l = true) : upFrom k (l.take n) = true := by
  induction l generalizing k n with
  | nil => simp [upFrom]
  | cons x l ih =>
    cases n with
    | zero => rfl
    | succ n =>
      simp only [upFrom, List.take_succ_cons, Bool.and_eq_true] at h ⊢
      exact ⟨h.1, ih n h.2⟩
theorem upFrom_set {l : List Int} {k i : Nat} {x : Int} (h : upFrom k l = true) (hx : 0 ≤ x ∧ x < 2 ^ (k + i)) : upFrom k (l.set i x) = true := by
  induction l generalizing k i with
  | nil => simp [upFrom]
  | cons y l ih =>
    simp only [upFrom, Bool.and_eq_true, decide_eq_true_eq] at h
    cases i with
    | zero =>
      simp only [List.set_cons_zero, upFrom, Bool.and_eq_true, decide_eq_true_eq]
      exact ⟨by simpa using hx, h.2⟩
    | succ i =>
      simp only [List.set_cons_succ, upFrom, Bool.and_eq_true, decide_eq_true_eq]
      exact ⟨h.1, ih h.2 (by rwa [show k + 1 + i = k + (i + 1) by omega])⟩
theorem chk_of {l : List Int} (h8 : l.length ≤ 8) (h : upFrom 0 l = true) : chkUp l = 0 := by
  unfold chkUp; rw [if_neg (by omega), if_pos h]
theorem RoleMore_ok (l : List Int) (i k : Int) : Ok Try.prog 8 [ints l, I i, I k] (B true) := by
  refine Ok.of_wp (rs := [.tmp 6]) (n := 110) Try.func8 rfl rfl rfl (by simp) fo (by kernel_rfl) ?_
  simp (decide := true) (maxSteps := 4000000) -implicitDefEqProofs only [evs, tabs, puts, siteD, gget, tget, tset, initT, dstAt, ev, evC, plain, Hp.get, Hp.set, bnd, isCells, isRow, SubA, SubC, Sub, SubL, CvA, Cv, dis, ordB, List.mem_cons, List.not_mem_nil, Site.m.injEq, bne_self_eq_false, beq_iff_eq, bne_iff_ne, ↓reduceIte, Int.reduceAdd, Int.reduceSub, Int.reduceToNat, Int.reduceNeg, Nat.reduceAdd, Nat.reduceMul, Nat.reduceSub, exists_eq_left', exists_eq_left, implies_true, forall_const, Site.l.injEq, Site.e.injEq, reduceCtorEq, beq_self_eq_true, ne_eq]
  refine call_eq (All_ok' (u := [0, 0]) (i := 1) (by decide) (by decide)) ?_
  have e7 : allN ([0, 0].map Int.toNat) 1 = 2 := by decide
  simp (decide := true) (maxSteps := 4000000) -implicitDefEqProofs only [evs, tabs, puts, siteD, gget, tget, tset, initT, dstAt, ev, evC, plain, Hp.get, Hp.set, bnd, isCells, isRow, SubA, SubC, Sub, SubL, CvA, Cv, dis, ordB, List.mem_cons, List.not_mem_nil, Site.m.injEq, bne_self_eq_false, beq_iff_eq, bne_iff_ne, ↓reduceIte, Int.reduceAdd, Int.reduceSub, Int.reduceToNat, Int.reduceNeg, Nat.reduceAdd, Nat.reduceMul, Nat.reduceSub, exists_eq_left', exists_eq_left, implies_true, forall_const, Site.l.injEq, Site.e.injEq, reduceCtorEq, beq_self_eq_true, ne_eq, e7]
  refine call_eq (ups_ok l) ?_
  obtain ⟨u, hu, hl, hf, hc, hn⟩ := ups_some l
  rw [hu]
  simp (decide := true) (maxSteps := 4000000) -implicitDefEqProofs only [evs, tabs, puts, siteD, gget, tget, tset, initT, dstAt, ev, evC, plain, Hp.get, Hp.set, bnd, isCells, isRow, SubA, SubC, Sub, SubL, CvA, Cv, dis, ordB, List.mem_cons, List.not_mem_nil, Site.m.injEq, bne_self_eq_false, beq_iff_eq, bne_iff_ne, ↓reduceIte, Int.reduceAdd, Int.reduceSub, Int.reduceToNat, Int.reduceNeg, Nat.reduceAdd, Nat.reduceMul, Nat.reduceSub, exists_eq_left', exists_eq_left, implies_true, forall_const, Site.l.injEq, Site.e.injEq, reduceCtorEq, beq_self_eq_true, ne_eq]
  split
  · trivial
  · rename_i h0
    refine call_eq (Within_ok _ _ (by omega) (by omega)) ?_
    obtain ⟨n, e, hk⟩ := within_lt i (show 0 < u.length by omega)
    rw [e]
    simp (decide := true) (maxSteps := 4000000) -implicitDefEqProofs only [evs, tabs, puts, siteD, gget, tget, tset, initT, dstAt, ev, evC, plain, Hp.get, Hp.set, bnd, isCells, isRow, SubA, SubC, Sub, SubL, CvA, Cv, dis, ordB, List.mem_cons, List.not_mem_nil, Site.m.injEq, bne_self_eq_false, beq_iff_eq, bne_iff_ne, ↓reduceIte, Int.reduceAdd, Int.reduceSub, Int.reduceToNat, Int.reduceNeg, Nat.reduceAdd, Nat.reduceMul, Nat.reduceSub, exists_eq_left', exists_eq_left, implies_true, forall_const, Site.l.injEq, Site.e.injEq, reduceCtorEq, beq_self_eq_true, ne_eq]
    refine callH (cloneInts_ok u (by omega)) [.l 41] ?_
    simp (decide := true) (maxSteps := 4000000) -implicitDefEqProofs only [evs, tabs, puts, siteD, gget, tget, tset, initT, dstAt, ev, evC, plain, Hp.get, Hp.set, bnd, isCells, isRow, SubA, SubC, Sub, SubL, CvA, Cv, dis, ordB, List.mem_cons, List.not_mem_nil, Site.m.injEq, bne_self_eq_false, beq_iff_eq, bne_iff_ne, ↓reduceIte, Int.reduceAdd, Int.reduceSub, Int.reduceToNat, Int.reduceNeg, Nat.reduceAdd, Nat.reduceMul, Nat.reduceSub, exists_eq_left', exists_eq_left, implies_true, forall_const, Site.l.injEq, Site.e.injEq, reduceCtorEq, beq_self_eq_true, ne_eq]
    have hj0 := within_lt k (show 0 < u.length by omega)
    obtain ⟨j, ej, hj⟩ := hj0
    obtain ⟨x, hx⟩ := get_lt (l := u) (i := n) (by omega)
    obtain ⟨y, rfl, hy⟩ := upFrom_get hf hx
    rw [Nat.zero_add] at hy
    have hy62 := Nat.lt_trans hy (pow_lt (show n < 62 by omega))
    have both : ∀ w : List Int, w.length = u.length → upFrom 0 w = true → (∀ a b, ((u.map Int.toNat).getD a 0).testBit b = true → ((w.map Int.toNat).getD a 0).testBit b = true) →
        chkUp w = 0 ∧ bits .andNot .i64 (allN (u.map Int.toNat) j : Nat) (allN (w.map Int.toNat) j : Nat) = 0 := by
      intro w h1 h2 h3
      have hwn := upFrom_upN h2
      refine ⟨chk_of (by omega) h2, ?_⟩
      have b1 : allN (u.map Int.toNat) j < 2 ^ 62 := Nat.lt_trans (allN_pow hn j) (pow_lt (by omega))
      have b2 : allN (w.map Int.toNat) j < 2 ^ 62 := Nat.lt_trans (allN_pow hwn j) (pow_lt (by omega))
      exact (bnot_sub (by omega) (by omega)).2 fun m hm => allN_mono hn hwn h3 hm
    have htk : (u.take (n + 1)).length = n + 1 := by rw [List.length_take]; omega
    have hct : chkUp (u.take (n + 1)) = 0 := chk_of (by omega) (upFrom_take _ hf)
    have hcd : allN ((u.take (n + 1)).map Int.toNat) n = allN (u.map Int.toNat) n := allN_congr fun a ha => by
      simp only [List.getD, List.getElem?_map, List.getElem?_take]
      rw [if_pos (by omega)]
    have hadd : IntKind.i64.wrap ((n : Int) + 1) = ((n + 1 : Nat) : Int) := wr_add1 (n := u.length) (by omega) (by omega)
    have htm : List.take (n + 1) (List.map (fun n => [I n]) u) = List.map (fun n => [I n]) (u.take (n + 1)) := List.map_take.symm
    have fin : ∀ w : List Int, w.length = u.length → List.take u.length (List.map (fun n => [I n]) w) = List.map (fun n => [I n]) w := fun w h => List.take_of_length_le (by simp; omega)
    split
    · rename_i hn0
      simp (decide := true) (maxSteps := 4000000) -implicitDefEqProofs only [evs, tabs, puts, siteD, gget, tget, tset, initT, dstAt, ev, evC, plain, Hp.get, Hp.set, bnd, isCells, isRow, SubA, SubC, Sub, SubL, CvA, Cv, dis, ordB, List.mem_cons, List.not_mem_nil, Site.m.injEq, bne_self_eq_false, beq_iff_eq, bne_iff_ne, ↓reduceIte, Int.reduceAdd, Int.reduceSub, Int.reduceToNat, Int.reduceNeg, Nat.reduceAdd, Nat.reduceMul, Nat.reduceSub, exists_eq_left', exists_eq_left, implies_true, forall_const, Site.l.injEq, Site.e.injEq, reduceCtorEq, beq_self_eq_true, ne_eq, hx]
      obtain ⟨m, em, hm⟩ := within_lt k (show 0 < n by omega)
      refine ⟨by omega, call_eq (Within_ok _ _ (by omega) (by omega)) ?_⟩
      rw [em]
      have hm62 := pow_lt (show m < 62 by omega)
      simp (decide := true) (maxSteps := 4000000) -implicitDefEqProofs only [evs, tabs, puts, siteD, gget, tget, tset, initT, dstAt, ev, evC, plain, Hp.get, Hp.set, bnd, isCells, isRow, SubA, SubC, Sub, SubL, CvA, Cv, dis, ordB, List.mem_cons, List.not_mem_nil, Site.m.injEq, bne_self_eq_false, beq_iff_eq, bne_iff_ne, ↓reduceIte, Int.reduceAdd, Int.reduceSub, Int.reduceToNat, Int.reduceNeg, Nat.reduceAdd, Nat.reduceMul, Nat.reduceSub, exists_eq_left', exists_eq_left, implies_true, forall_const, Site.l.injEq, Site.e.injEq, reduceCtorEq, beq_self_eq_true, ne_eq, hx, shl1 (show m < 62 by omega), bor_nat (show y < 9223372036854775808 by omega) (show 2 ^ m < 9223372036854775808 by omega)]
      refine ⟨by omega, ?_⟩
      rw [show (List.map (fun n => [I n]) u).set n [.val (.int .i64 ((y ||| 2 ^ m : Nat) : Int))] = List.map (fun n => [I n]) (u.set n ((y ||| 2 ^ m : Nat) : Int)) from List.map_set.symm]
      have hw1 : (u.set n ((y ||| 2 ^ m : Nat) : Int)).length = u.length := by simp
      obtain ⟨hw2, hw3⟩ := both (u.set n ((y ||| 2 ^ m : Nat) : Int)) hw1 (upFrom_set hf ⟨by omega, by
          have := Nat.or_lt_two_pow hy (Nat.pow_lt_pow_right (show 1 < 2 by omega) hm)
          have e2 : ((2 ^ n : Nat) : Int) = 2 ^ n := by simp
          rw [Nat.zero_add]; omega⟩) fun a b hb => by
        simp only [List.getD, List.getElem?_map, List.getElem?_set] at hb ⊢
        split
        · rename_i hna
          subst hna
          rw [hx] at hb
          simp only [Option.map_some, Option.getD_some, Int.toNat_natCast] at hb
          simp only [Option.map_some, Option.getD_some, Int.toNat_natCast, Nat.testBit_or, hb, Bool.true_or]
        · exact hb
      generalize u.set n ((y ||| 2 ^ m : Nat) : Int) = w at *
      refine call_eq (Within_ok _ _ (by omega) (by omega)) ?_
      rw [ej]
      simp (decide := true) (maxSteps := 4000000) -implicitDefEqProofs only [evs, tabs, puts, siteD, gget, tget, tset, initT, dstAt, ev, evC, plain, Hp.get, Hp.set, bnd, isCells, isRow, SubA, SubC, Sub, SubL, CvA, Cv, dis, ordB, List.mem_cons, List.not_mem_nil, Site.m.injEq, bne_self_eq_false, beq_iff_eq, bne_iff_ne, ↓reduceIte, Int.reduceAdd, Int.reduceSub, Int.reduceToNat, Int.reduceNeg, Nat.reduceAdd, Nat.reduceMul, Nat.reduceSub, exists_eq_left', exists_eq_left, implies_true, forall_const, Site.l.injEq, Site.e.injEq, reduceCtorEq, beq_self_eq_true, ne_eq]
      refine call_eq (All_ok' hc hj) ?_
      simp (decide := true) (maxSteps := 4000000) -implicitDefEqProofs only [evs, tabs, puts, siteD, gget, tget, tset, initT, dstAt, ev, evC, plain, Hp.get, Hp.set, bnd, isCells, isRow, SubA, SubC, Sub, SubL, CvA, Cv, dis, ordB, List.mem_cons, List.not_mem_nil, Site.m.injEq, bne_self_eq_false, beq_iff_eq, bne_iff_ne, ↓reduceIte, Int.reduceAdd, Int.reduceSub, Int.reduceToNat, Int.reduceNeg, Nat.reduceAdd, Nat.reduceMul, Nat.reduceSub, exists_eq_left', exists_eq_left, implies_true, forall_const, Site.l.injEq, Site.e.injEq, reduceCtorEq, beq_self_eq_true, ne_eq, fin w hw1, hw1]
      refine call_eq (All_ok' hw2 (i := j) (by omega)) ?_
      simp (decide := true) (maxSteps := 4000000) -implicitDefEqProofs only [evs, tabs, puts, siteD, gget, tget, tset, initT, dstAt, ev, evC, plain, Hp.get, Hp.set, bnd, isCells, isRow, SubA, SubC, Sub, SubL, CvA, Cv, dis, ordB, List.mem_cons, List.not_mem_nil, Site.m.injEq, bne_self_eq_false, beq_iff_eq, bne_iff_ne, ↓reduceIte, Int.reduceAdd, Int.reduceSub, Int.reduceToNat, Int.reduceNeg, Nat.reduceAdd, Nat.reduceMul, Nat.reduceSub, exists_eq_left', exists_eq_left, implies_true, forall_const, Site.l.injEq, Site.e.injEq, reduceCtorEq, beq_self_eq_true, ne_eq, hadd, htm]
      refine ⟨by omega, call_eq (All_ok' hct (i := n) (by omega)) ?_⟩
      rw [hcd]
      simp (decide := true) (maxSteps := 4000000) -implicitDefEqProofs only [evs, tabs, puts, siteD, gget, tget, tset, initT, dstAt, ev, evC, plain, Hp.get, Hp.set, bnd, isCells, isRow, SubA, SubC, Sub, SubL, CvA, Cv, dis, ordB, List.mem_cons, List.not_mem_nil, Site.m.injEq, bne_self_eq_false, beq_iff_eq, bne_iff_ne, ↓reduceIte, Int.reduceAdd, Int.reduceSub, Int.reduceToNat, Int.reduceNeg, Nat.reduceAdd, Nat.reduceMul, Nat.reduceSub, exists_eq_left', exists_eq_left, implies_true, forall_const, Site.l.injEq, Site.e.injEq, reduceCtorEq, beq_self_eq_true, ne_eq]
      refine call_eq (All_ok' hc hk) ?_
      simp (decide := true) (maxSteps := 4000000) -implicitDefEqProofs only [evs, tabs, puts, siteD, gget, tget, tset, initT, dstAt, ev, evC, plain, Hp.get, Hp.set, bnd, isCells, isRow, SubA, SubC, Sub, SubL, CvA, Cv, dis, ordB, List.mem_cons, List.not_mem_nil, Site.m.injEq, bne_self_eq_false, beq_iff_eq, bne_iff_ne, ↓reduceIte, Int.reduceAdd, Int.reduceSub, Int.reduceToNat, Int.reduceNeg, Nat.reduceAdd, Nat.reduceMul, Nat.reduceSub, exists_eq_left', exists_eq_left, implies_true, forall_const, Site.l.injEq, Site.e.injEq, reduceCtorEq, beq_self_eq_true, ne_eq, hw3]
    · rename_i hn0
      have hn00 : n = 0 := by omega
      obtain ⟨hw2, hw3⟩ := both u rfl hf fun a b hb => hb
      refine call_eq (Within_ok _ _ (by omega) (by omega)) ?_
      rw [ej]
      simp (decide := true) (maxSteps := 4000000) -implicitDefEqProofs only [evs, tabs, puts, siteD, gget, tget, tset, initT, dstAt, ev, evC, plain, Hp.get, Hp.set, bnd, isCells, isRow, SubA, SubC, Sub, SubL, CvA, Cv, dis, ordB, List.mem_cons, List.not_mem_nil, Site.m.injEq, bne_self_eq_false, beq_iff_eq, bne_iff_ne, ↓reduceIte, Int.reduceAdd, Int.reduceSub, Int.reduceToNat, Int.reduceNeg, Nat.reduceAdd, Nat.reduceMul, Nat.reduceSub, exists_eq_left', exists_eq_left, implies_true, forall_const, Site.l.injEq, Site.e.injEq, reduceCtorEq, beq_self_eq_true, ne_eq]
      refine call_eq (All_ok' hc hj) ?_
      simp (decide := true) (maxSteps := 4000000) -implicitDefEqProofs only [evs, tabs, puts, siteD, gget, tget, tset, initT, dstAt, ev, evC, plain, Hp.get, Hp.set, bnd, isCells, isRow, SubA, SubC, Sub, SubL, CvA, Cv, dis, ordB, List.mem_cons, List.not_mem_nil, Site.m.injEq, bne_self_eq_false, beq_iff_eq, bne_iff_ne, ↓reduceIte, Int.reduceAdd, Int.reduceSub, Int.reduceToNat, Int.reduceNeg, Nat.reduceAdd, Nat.reduceMul, Nat.reduceSub, exists_eq_left', exists_eq_left, implies_true, forall_const, Site.l.injEq, Site.e.injEq, reduceCtorEq, beq_self_eq_true, ne_eq, fin u rfl]
      refine call_eq (All_ok' hc hj) ?_
      simp (decide := true) (maxSteps := 4000000) -implicitDefEqProofs only [evs, tabs, puts, siteD, gget, tget, tset, initT, dstAt, ev, evC, plain, Hp.get, Hp.set, bnd, isCells, isRow, SubA, SubC, Sub, SubL, CvA, Cv, dis, ordB, List.mem_cons, List.not_mem_nil, Site.m.injEq, bne_self_eq_false, beq_iff_eq, bne_iff_ne, ↓reduceIte, Int.reduceAdd, Int.reduceSub, Int.reduceToNat, Int.reduceNeg, Nat.reduceAdd, Nat.reduceMul, Nat.reduceSub, exists_eq_left', exists_eq_left, implies_true, forall_const, Site.l.injEq, Site.e.injEq, reduceCtorEq, beq_self_eq_true, ne_eq, hadd, htm]
      refine ⟨by omega, call_eq (All_ok' hct (i := n) (by omega)) ?_⟩
      rw [hcd]
      simp (decide := true) (maxSteps := 4000000) -implicitDefEqProofs only [evs, tabs, puts, siteD, gget, tget, tset, initT, dstAt, ev, evC, plain, Hp.get, Hp.set, bnd, isCells, isRow, SubA, SubC, Sub, SubL, CvA, Cv, dis, ordB, List.mem_cons, List.not_mem_nil, Site.m.injEq, bne_self_eq_false, beq_iff_eq, bne_iff_ne, ↓reduceIte, Int.reduceAdd, Int.reduceSub, Int.reduceToNat, Int.reduceNeg, Nat.reduceAdd, Nat.reduceMul, Nat.reduceSub, exists_eq_left', exists_eq_left, implies_true, forall_const, Site.l.injEq, Site.e.injEq, reduceCtorEq, beq_self_eq_true, ne_eq]
      refine call_eq (All_ok' hc hk) ?_
      simp (decide := true) (maxSteps := 4000000) -implicitDefEqProofs only [evs, tabs, puts, siteD, gget, tget, tset, initT, dstAt, ev, evC, plain, Hp.get, Hp.set, bnd, isCells, isRow, SubA, SubC, Sub, SubL, CvA, Cv, dis, ordB, List.mem_cons, List.not_mem_nil, Site.m.injEq, bne_self_eq_false, beq_iff_eq, bne_iff_ne, ↓reduceIte, Int.reduceAdd, Int.reduceSub, Int.reduceToNat, Int.reduceNeg, Nat.reduceAdd, Nat.reduceMul, Nat.reduceSub, exists_eq_left', exists_eq_left, implies_true, forall_const, Site.l.injEq, Site.e.injEq, reduceCtorEq, beq_self_eq_true, ne_eq, hw3]
end Go.Proofs.Ythpfjigkhbabnaa.E
