/- Walks: RuleKinds. No conditions. -/
import Derived.Test.YthpfjigkhbabnabRuleP
namespace Go.Proofs.Ythpfjigkhbabnab.E
open Go
set_option linter.unusedSimpArgs false
set_option linter.unusedVariables false
set_option linter.unusedSectionVars false
set_option maxRecDepth 20000
set_option maxHeartbeats 1000000
theorem low255 (k : Int) : ∃ n : Nat, n < 256 ∧ bits .and .i64 k 255 = n := band_low k 8 (by omega)
theorem fits_cats (up : List Int) (w : Wh) (a b c d e : Int) (x y : Int) (g : Bool) : fitsW up w ⟨a, b, c, d, x, g⟩ = fitsW up w ⟨a, b, c, d, y, g⟩ := rfl
theorem RuleKinds_ok (up : List Int) (l : List Rl) (w : Wh) (r : Rl) (a b : Int) : Ok Try.prog 7 [ints up, rules l, whoV w, ruleV r, I a, I b] (B true) := by
  refine Ok.of_wp (rs := [.tmp 12]) (n := 149) Try.func7 rfl rfl rfl (by simp) fo (by kernel_rfl) ?_
  simp (decide := true) (maxSteps := 4000000) -implicitDefEqProofs only [evs, tabs, puts, siteD, gget, tget, tset, initT, dstAt, ev, evC, plain, Hp.get, Hp.set, bnd, isCells, isRow, SubA, SubC, Sub, SubL, CvA, Cv, dis, ordB, ite_self, exists_eq', List.mem_cons, List.not_mem_nil, Site.m.injEq, bne_self_eq_false, beq_iff_eq, bne_iff_ne, ↓reduceIte, Int.reduceAdd, Int.reduceSub, Int.reduceToNat, Int.reduceNeg, Nat.reduceAdd, Nat.reduceMul, Nat.reduceSub, exists_eq_left', exists_eq_left, implies_true, forall_const, Site.l.injEq, Site.e.injEq, reduceCtorEq, beq_self_eq_true, ne_eq]
  have a0 : askOk [0] ⟨0, 0, 0⟩ := ⟨by decide, by decide, by decide⟩
  refine call_eq (Sees_ok' (l := [⟨-1, -1, 0, 9, 5, true⟩, ⟨-1, -1, 0, 9, 255, false⟩]) a0 (by decide) (by decide)) ?_
  have e0 : ((seesF (fitsW [0] ⟨0, 0, 0⟩) [⟨-1, -1, 0, 9, 5, true⟩, ⟨-1, -1, 0, 9, 255, false⟩] : Nat) : Int) = 0 := by decide
  have e1 : ((seesF (fitsW [0] ⟨0, 0, 0⟩) [⟨-1, 0, 0, 9, 3, true⟩] : Nat) : Int) = 3 := by decide
  simp (decide := true) (maxSteps := 4000000) -implicitDefEqProofs only [evs, tabs, puts, siteD, gget, tget, tset, initT, dstAt, ev, evC, plain, Hp.get, Hp.set, bnd, isCells, isRow, SubA, SubC, Sub, SubL, CvA, Cv, dis, ordB, ite_self, exists_eq', List.mem_cons, List.not_mem_nil, Site.m.injEq, bne_self_eq_false, beq_iff_eq, bne_iff_ne, ↓reduceIte, Int.reduceAdd, Int.reduceSub, Int.reduceToNat, Int.reduceNeg, Nat.reduceAdd, Nat.reduceMul, Nat.reduceSub, exists_eq_left', exists_eq_left, implies_true, forall_const, Site.l.injEq, Site.e.injEq, reduceCtorEq, beq_self_eq_true, ne_eq, e0]
  refine call_eq (Sees_ok' (l := [⟨-1, 0, 0, 9, 3, true⟩]) a0 (by decide) (by decide)) ?_
  simp (decide := true) (maxSteps := 4000000) -implicitDefEqProofs only [evs, tabs, puts, siteD, gget, tget, tset, initT, dstAt, ev, evC, plain, Hp.get, Hp.set, bnd, isCells, isRow, SubA, SubC, Sub, SubL, CvA, Cv, dis, ordB, ite_self, exists_eq', List.mem_cons, List.not_mem_nil, Site.m.injEq, bne_self_eq_false, beq_iff_eq, bne_iff_ne, ↓reduceIte, Int.reduceAdd, Int.reduceSub, Int.reduceToNat, Int.reduceNeg, Nat.reduceAdd, Nat.reduceMul, Nat.reduceSub, exists_eq_left', exists_eq_left, implies_true, forall_const, Site.l.injEq, Site.e.injEq, reduceCtorEq, beq_self_eq_true, ne_eq, e1]
  by_cases hs : seesE up l w = 0
  · obtain ⟨ha, hl, hr⟩ := seesE_zero.1 hs
    refine call_eq (Sees_ok' ha hl hr) ?_
    simp (decide := true) (maxSteps := 4000000) -implicitDefEqProofs only [evs, tabs, puts, siteD, gget, tget, tset, initT, dstAt, ev, evC, plain, Hp.get, Hp.set, bnd, isCells, isRow, SubA, SubC, Sub, SubL, CvA, Cv, dis, ordB, ite_self, exists_eq', List.mem_cons, List.not_mem_nil, Site.m.injEq, bne_self_eq_false, beq_iff_eq, bne_iff_ne, ↓reduceIte, Int.reduceAdd, Int.reduceSub, Int.reduceToNat, Int.reduceNeg, Nat.reduceAdd, Nat.reduceMul, Nat.reduceSub, exists_eq_left', exists_eq_left, implies_true, forall_const, Site.l.injEq, Site.e.injEq, reduceCtorEq, beq_self_eq_true, ne_eq]
    refine call_eq (One_ok r) ?_
    by_cases ho : oneE r = 0
    · obtain ⟨p, hp, ep⟩ := low255 a
      obtain ⟨q, hq, eq⟩ := low255 b
      have hpq := Nat.or_lt_two_pow (n := 8) hp hq
      simp (decide := true) (maxSteps := 4000000) -implicitDefEqProofs only [evs, tabs, puts, siteD, gget, tget, tset, initT, dstAt, ev, evC, plain, Hp.get, Hp.set, bnd, isCells, isRow, SubA, SubC, Sub, SubL, CvA, Cv, dis, ordB, ite_self, exists_eq', List.mem_cons, List.not_mem_nil, Site.m.injEq, bne_self_eq_false, beq_iff_eq, bne_iff_ne, ↓reduceIte, Int.reduceAdd, Int.reduceSub, Int.reduceToNat, Int.reduceNeg, Nat.reduceAdd, Nat.reduceMul, Nat.reduceSub, exists_eq_left', exists_eq_left, implies_true, forall_const, Site.l.injEq, Site.e.injEq, reduceCtorEq, beq_self_eq_true, ne_eq, ho, show IntKind.i64.wrap ((l.length : Int) + 2) = (l.length : Int) + 2 from wr_i64 (by omega) (by omega), ep, eq, bor_nat (show p < 9223372036854775808 by omega) (show q < 9223372036854775808 by omega)]
      split
      · trivial
      · rename_i h20
        obtain ⟨o1, o2, o3, o4, o5, o6, o7, o8, o9⟩ := oneLt ho
        have hm : ∀ c : Int, List.map (fun r : Rl => [I r.role, I r.why, I r.fr, I r.to, I r.cats, B r.allow]) l ++ [[I r.role, I r.why, I r.fr, I r.to, I c, B r.allow]] = List.map (fun r : Rl => [I r.role, I r.why, I r.fr, I r.to, I r.cats, B r.allow]) (l ++ [⟨r.role, r.why, r.fr, r.to, c, r.allow⟩]) := by simp
        have hm2 : ∀ c d : Int, List.map (fun r : Rl => [I r.role, I r.why, I r.fr, I r.to, I r.cats, B r.allow]) l ++ [[I r.role, I r.why, I r.fr, I r.to, I c, B r.allow], [I r.role, I r.why, I r.fr, I r.to, I d, B r.allow]] = List.map (fun r : Rl => [I r.role, I r.why, I r.fr, I r.to, I r.cats, B r.allow]) (l ++ [⟨r.role, r.why, r.fr, r.to, c, r.allow⟩, ⟨r.role, r.why, r.fr, r.to, d, r.allow⟩]) := by simp
        have hm3 : List.map (fun r : Rl => [I r.role, I r.why, I r.fr, I r.to, I r.cats, B r.allow]) l ++ [[I (-1), I (-1), I 0, I 1000, I 255, B false]] = List.map (fun r : Rl => [I r.role, I r.why, I r.fr, I r.to, I r.cats, B r.allow]) (l ++ [⟨-1, -1, 0, 1000, 255, false⟩]) := by simp
        have one : ∀ c : Nat, c < 256 → oneE (⟨r.role, r.why, r.fr, r.to, (c : Int), r.allow⟩ : Rl) = 0 := fun c hc => oneE_of (by simp only; omega)
        have app1 : ∀ x : Rl, oneE x = 0 → ∀ y ∈ l ++ [x], oneE y = 0 := fun x hx y hy => by
          rcases List.mem_append.1 hy with h | h
          · exact hr y h
          · rw [List.mem_singleton.1 h]; exact hx
        have app2 : ∀ x z : Rl, oneE x = 0 → oneE z = 0 → ∀ y ∈ l ++ [x, z], oneE y = 0 := fun x z hx hz y hy => by
          rcases List.mem_append.1 hy with h | h
          · exact hr y h
          · simp only [List.mem_cons, List.not_mem_nil, or_false] at h
            rcases h with rfl | rfl
            · exact hx
            · exact hz
        refine callH (cloneRules_ok l (by omega)) [.l 99] ?_
        simp (decide := true) (maxSteps := 4000000) -implicitDefEqProofs only [evs, tabs, puts, siteD, gget, tget, tset, initT, dstAt, ev, evC, plain, Hp.get, Hp.set, bnd, isCells, isRow, SubA, SubC, Sub, SubL, CvA, Cv, dis, ordB, ite_self, exists_eq', List.mem_cons, List.not_mem_nil, Site.m.injEq, bne_self_eq_false, beq_iff_eq, bne_iff_ne, ↓reduceIte, Int.reduceAdd, Int.reduceSub, Int.reduceToNat, Int.reduceNeg, Nat.reduceAdd, Nat.reduceMul, Nat.reduceSub, exists_eq_left', exists_eq_left, implies_true, forall_const, Site.l.injEq, Site.e.injEq, reduceCtorEq, beq_self_eq_true, ne_eq, tk1, tk4, hm ((p ||| q : Nat) : Int)]
        refine ⟨by omega, call_eq (Sees_ok' ha (by simp; omega) (app1 _ (one _ hpq))) ?_⟩
        simp (decide := true) (maxSteps := 4000000) -implicitDefEqProofs only [evs, tabs, puts, siteD, gget, tget, tset, initT, dstAt, ev, evC, plain, Hp.get, Hp.set, bnd, isCells, isRow, SubA, SubC, Sub, SubL, CvA, Cv, dis, ordB, ite_self, exists_eq', List.mem_cons, List.not_mem_nil, Site.m.injEq, bne_self_eq_false, beq_iff_eq, bne_iff_ne, ↓reduceIte, Int.reduceAdd, Int.reduceSub, Int.reduceToNat, Int.reduceNeg, Nat.reduceAdd, Nat.reduceMul, Nat.reduceSub, exists_eq_left', exists_eq_left, implies_true, forall_const, Site.l.injEq, Site.e.injEq, reduceCtorEq, beq_self_eq_true, ne_eq]
        refine callH (cloneRules_ok l (by omega)) [.l 110] ?_
        simp (decide := true) (maxSteps := 4000000) -implicitDefEqProofs only [evs, tabs, puts, siteD, gget, tget, tset, initT, dstAt, ev, evC, plain, Hp.get, Hp.set, bnd, isCells, isRow, SubA, SubC, Sub, SubL, CvA, Cv, dis, ordB, ite_self, exists_eq', List.mem_cons, List.not_mem_nil, Site.m.injEq, bne_self_eq_false, beq_iff_eq, bne_iff_ne, ↓reduceIte, Int.reduceAdd, Int.reduceSub, Int.reduceToNat, Int.reduceNeg, Nat.reduceAdd, Nat.reduceMul, Nat.reduceSub, exists_eq_left', exists_eq_left, implies_true, forall_const, Site.l.injEq, Site.e.injEq, reduceCtorEq, beq_self_eq_true, ne_eq, tk1, tk5, hm2 (p : Int) (q : Int)]
        refine ⟨by omega, call_eq (Sees_ok' ha (by simp; omega) (app2 _ _ (one _ hp) (one _ hq))) ?_⟩
        simp (decide := true) (maxSteps := 4000000) -implicitDefEqProofs only [evs, tabs, puts, siteD, gget, tget, tset, initT, dstAt, ev, evC, plain, Hp.get, Hp.set, bnd, isCells, isRow, SubA, SubC, Sub, SubL, CvA, Cv, dis, ordB, ite_self, exists_eq', List.mem_cons, List.not_mem_nil, Site.m.injEq, bne_self_eq_false, beq_iff_eq, bne_iff_ne, ↓reduceIte, Int.reduceAdd, Int.reduceSub, Int.reduceToNat, Int.reduceNeg, Nat.reduceAdd, Nat.reduceMul, Nat.reduceSub, exists_eq_left', exists_eq_left, implies_true, forall_const, Site.l.injEq, Site.e.injEq, reduceCtorEq, beq_self_eq_true, ne_eq]
        refine callH (cloneRules_ok l (by omega)) [.l 122] ?_
        simp (decide := true) (maxSteps := 4000000) -implicitDefEqProofs only [evs, tabs, puts, siteD, gget, tget, tset, initT, dstAt, ev, evC, plain, Hp.get, Hp.set, bnd, isCells, isRow, SubA, SubC, Sub, SubL, CvA, Cv, dis, ordB, ite_self, exists_eq', List.mem_cons, List.not_mem_nil, Site.m.injEq, bne_self_eq_false, beq_iff_eq, bne_iff_ne, ↓reduceIte, Int.reduceAdd, Int.reduceSub, Int.reduceToNat, Int.reduceNeg, Nat.reduceAdd, Nat.reduceMul, Nat.reduceSub, exists_eq_left', exists_eq_left, implies_true, forall_const, Site.l.injEq, Site.e.injEq, reduceCtorEq, beq_self_eq_true, ne_eq, tk1, tk4, hm3]
        refine ⟨by omega, call_eq (Sees_ok' ha (by simp; omega) (app1 _ (by decide))) ?_⟩
        have z1 : seesF (fitsW up w) (l ++ [⟨r.role, r.why, r.fr, r.to, ((p ||| q : Nat) : Int), r.allow⟩]) = seesF (fitsW up w) (l ++ [⟨r.role, r.why, r.fr, r.to, (p : Int), r.allow⟩, ⟨r.role, r.why, r.fr, r.to, (q : Int), r.allow⟩]) := by
          have f1 : fitsW up w ⟨r.role, r.why, r.fr, r.to, ((p ||| q : Nat) : Int), r.allow⟩ = fitsW up w r := rfl
          have f2 : fitsW up w ⟨r.role, r.why, r.fr, r.to, (p : Int), r.allow⟩ = fitsW up w r := rfl
          have f3 : fitsW up w ⟨r.role, r.why, r.fr, r.to, (q : Int), r.allow⟩ = fitsW up w r := rfl
          refine seesF_ext (fun m => ?_) (fun m => ?_)
          · rw [Alw_append, Alw_append, Alw_two, Alw_one, Alw_one, Alw_one, f1, f2, f3]
            simp only [Int.toNat_natCast, Nat.testBit_or, Bool.or_eq_true, and_or_left]
          · rw [Dny_append, Dny_append, Dny_two, Dny_one, Dny_one, Dny_one, f1, f2, f3]
            simp only [Int.toNat_natCast, Nat.testBit_or, Bool.or_eq_true, and_or_left]
        have z2 : seesF (fitsW up w) (l ++ [⟨-1, -1, 0, 1000, 255, false⟩]) = 0 := by
          apply Nat.eq_of_testBit_eq
          intro m
          rw [Nat.zero_testBit, Bool.eq_false_iff]
          intro hb
          have h8 := lt_of_bit (i := 8) (seesF_lt (app1 ⟨-1, -1, 0, 1000, 255, false⟩ (by decide))) hb
          rw [seesF_bits] at hb
          refine hb.2 (Dny_append.2 (.inr (Dny_one.2 ⟨?_, rfl, ?_⟩)))
          · have hwo := ha.2.1
            simp only [whoOk, decide_eq_true_eq] at hwo
            simp only [fitsW, fitsN]
            simp; omega
          · have : ∀ m, m < 8 → (255 : Int).toNat.testBit m = true := by decide
            exact this m h8
        rw [z1, z2]
        simp (decide := true) (maxSteps := 4000000) -implicitDefEqProofs only [evs, tabs, puts, siteD, gget, tget, tset, initT, dstAt, ev, evC, plain, Hp.get, Hp.set, bnd, isCells, isRow, SubA, SubC, Sub, SubL, CvA, Cv, dis, ordB, ite_self, exists_eq', List.mem_cons, List.not_mem_nil, Site.m.injEq, bne_self_eq_false, beq_iff_eq, bne_iff_ne, ↓reduceIte, Int.reduceAdd, Int.reduceSub, Int.reduceToNat, Int.reduceNeg, Nat.reduceAdd, Nat.reduceMul, Nat.reduceSub, exists_eq_left', exists_eq_left, implies_true, forall_const, Site.l.injEq, Site.e.injEq, reduceCtorEq, beq_self_eq_true, ne_eq]
        rfl
    · simp (decide := true) (maxSteps := 4000000) -implicitDefEqProofs only [evs, tabs, puts, siteD, gget, tget, tset, initT, dstAt, ev, evC, plain, Hp.get, Hp.set, bnd, isCells, isRow, SubA, SubC, Sub, SubL, CvA, Cv, dis, ordB, ite_self, exists_eq', List.mem_cons, List.not_mem_nil, Site.m.injEq, bne_self_eq_false, beq_iff_eq, bne_iff_ne, ↓reduceIte, Int.reduceAdd, Int.reduceSub, Int.reduceToNat, Int.reduceNeg, Nat.reduceAdd, Nat.reduceMul, Nat.reduceSub, exists_eq_left', exists_eq_left, implies_true, forall_const, Site.l.injEq, Site.e.injEq, reduceCtorEq, beq_self_eq_true, ne_eq, ho]
  · refine call_eq (Sees_bad hs) ?_
    simp (decide := true) (maxSteps := 4000000) -implicitDefEqProofs only [evs, tabs, puts, siteD, gget, tget, tset, initT, dstAt, ev, evC, plain, Hp.get, Hp.set, bnd, isCells, isRow, SubA, SubC, Sub, SubL, CvA, Cv, dis, ordB, ite_self, exists_eq', List.mem_cons, List.not_mem_nil, Site.m.injEq, bne_self_eq_false, beq_iff_eq, bne_iff_ne, ↓reduceIte, Int.reduceAdd, Int.reduceSub, Int.reduceToNat, Int.reduceNeg, Nat.reduceAdd, Nat.reduceMul, Nat.reduceSub, exists_eq_left', exists_eq_left, implies_true, forall_const, Site.l.injEq, Site.e.injEq, reduceCtorEq, beq_self_eq_true, ne_eq, hs]
end Go.Proofs.Ythpfjigkhbabnab.E
