/- Walks: RuleTimes. No conditions. -/
import Derived.Test.YthpfjigkhbabnabRuleP
namespace Go.Proofs.Ythpfjigkhbabnab.E
open Go
set_option linter.unusedSimpArgs false
set_option linter.unusedVariables false
set_option linter.unusedSectionVars false
set_option maxRecDepth 20000
set_option maxHeartbeats 1000000
theorem RuleTimes_ok (up : List Int) (l : List Rl) (w : Wh) (r : Rl) (cut : Int) : Ok Try.prog 6 [ints up, rules l, whoV w, ruleV r, I cut] (B true) := by
  refine Ok.of_wp (rs := [.tmp 10]) (n := 160) Try.func6 rfl rfl rfl (by simp) fo (by kernel_rfl) ?_
  simp (decide := true) (maxSteps := 4000000) -implicitDefEqProofs only [evs, tabs, puts, siteD, gget, tget, tset, initT, dstAt, ev, evC, plain, Hp.get, Hp.set, bnd, isCells, isRow, SubA, SubC, Sub, SubL, CvA, Cv, dis, ordB, ite_self, exists_eq', List.mem_cons, List.not_mem_nil, Site.m.injEq, bne_self_eq_false, beq_iff_eq, bne_iff_ne, ↓reduceIte, Int.reduceAdd, Int.reduceSub, Int.reduceToNat, Int.reduceNeg, Nat.reduceAdd, Nat.reduceMul, Nat.reduceSub, exists_eq_left', exists_eq_left, implies_true, forall_const, Site.l.injEq, Site.e.injEq, reduceCtorEq, beq_self_eq_true, ne_eq]
  have a0 : askOk [0] ⟨0, 0, 9⟩ := ⟨by decide, by decide, by decide⟩
  have a1 : askOk [0] ⟨0, 0, 8⟩ := ⟨by decide, by decide, by decide⟩
  refine call_eq (Sees_ok' (l := [⟨-1, -1, 1, 9, 5, true⟩]) a0 (by decide) (by decide)) ?_
  have e0 : ((seesF (fitsW [0] ⟨0, 0, 9⟩) [⟨-1, -1, 1, 9, 5, true⟩] : Nat) : Int) = 0 := by decide
  have e1 : ((seesF (fitsW [0] ⟨0, 0, 8⟩) [⟨-1, -1, 1, 9, 5, true⟩] : Nat) : Int) = 5 := by decide
  simp (decide := true) (maxSteps := 4000000) -implicitDefEqProofs only [evs, tabs, puts, siteD, gget, tget, tset, initT, dstAt, ev, evC, plain, Hp.get, Hp.set, bnd, isCells, isRow, SubA, SubC, Sub, SubL, CvA, Cv, dis, ordB, ite_self, exists_eq', List.mem_cons, List.not_mem_nil, Site.m.injEq, bne_self_eq_false, beq_iff_eq, bne_iff_ne, ↓reduceIte, Int.reduceAdd, Int.reduceSub, Int.reduceToNat, Int.reduceNeg, Nat.reduceAdd, Nat.reduceMul, Nat.reduceSub, exists_eq_left', exists_eq_left, implies_true, forall_const, Site.l.injEq, Site.e.injEq, reduceCtorEq, beq_self_eq_true, ne_eq, e0]
  refine call_eq (Sees_ok' (l := [⟨-1, -1, 1, 9, 5, true⟩]) a1 (by decide) (by decide)) ?_
  simp (decide := true) (maxSteps := 4000000) -implicitDefEqProofs only [evs, tabs, puts, siteD, gget, tget, tset, initT, dstAt, ev, evC, plain, Hp.get, Hp.set, bnd, isCells, isRow, SubA, SubC, Sub, SubL, CvA, Cv, dis, ordB, ite_self, exists_eq', List.mem_cons, List.not_mem_nil, Site.m.injEq, bne_self_eq_false, beq_iff_eq, bne_iff_ne, ↓reduceIte, Int.reduceAdd, Int.reduceSub, Int.reduceToNat, Int.reduceNeg, Nat.reduceAdd, Nat.reduceMul, Nat.reduceSub, exists_eq_left', exists_eq_left, implies_true, forall_const, Site.l.injEq, Site.e.injEq, reduceCtorEq, beq_self_eq_true, ne_eq, e1]
  by_cases hs : seesE up l w = 0
  · obtain ⟨ha, hl, hr⟩ := seesE_zero.1 hs
    refine call_eq (Sees_ok' ha hl hr) ?_
    simp (decide := true) (maxSteps := 4000000) -implicitDefEqProofs only [evs, tabs, puts, siteD, gget, tget, tset, initT, dstAt, ev, evC, plain, Hp.get, Hp.set, bnd, isCells, isRow, SubA, SubC, Sub, SubL, CvA, Cv, dis, ordB, ite_self, exists_eq', List.mem_cons, List.not_mem_nil, Site.m.injEq, bne_self_eq_false, beq_iff_eq, bne_iff_ne, ↓reduceIte, Int.reduceAdd, Int.reduceSub, Int.reduceToNat, Int.reduceNeg, Nat.reduceAdd, Nat.reduceMul, Nat.reduceSub, exists_eq_left', exists_eq_left, implies_true, forall_const, Site.l.injEq, Site.e.injEq, reduceCtorEq, beq_self_eq_true, ne_eq]
    refine call_eq (One_ok r) ?_
    by_cases ho : oneE r = 0
    · simp (decide := true) (maxSteps := 4000000) -implicitDefEqProofs only [evs, tabs, puts, siteD, gget, tget, tset, initT, dstAt, ev, evC, plain, Hp.get, Hp.set, bnd, isCells, isRow, SubA, SubC, Sub, SubL, CvA, Cv, dis, ordB, ite_self, exists_eq', List.mem_cons, List.not_mem_nil, Site.m.injEq, bne_self_eq_false, beq_iff_eq, bne_iff_ne, ↓reduceIte, Int.reduceAdd, Int.reduceSub, Int.reduceToNat, Int.reduceNeg, Nat.reduceAdd, Nat.reduceMul, Nat.reduceSub, exists_eq_left', exists_eq_left, implies_true, forall_const, Site.l.injEq, Site.e.injEq, reduceCtorEq, beq_self_eq_true, ne_eq, ho, show IntKind.i64.wrap ((l.length : Int) + 2) = (l.length : Int) + 2 from wr_i64 (by omega) (by omega)]
      split
      · trivial
      · rename_i h20
        refine callH (cloneRules_ok l (by omega)) [.l 80] ?_
        have hm : List.map (fun r : Rl => [I r.role, I r.why, I r.fr, I r.to, I r.cats, B r.allow]) l ++ [[I r.role, I r.why, I r.fr, I r.to, I r.cats, B r.allow]] = List.map (fun r : Rl => [I r.role, I r.why, I r.fr, I r.to, I r.cats, B r.allow]) (l ++ [r]) := by simp
        have hr1 : ∀ x ∈ l ++ [r], oneE x = 0 := fun x hx => by
          rcases List.mem_append.1 hx with h | h
          · exact hr x h
          · rw [List.mem_singleton.1 h]; exact ho
        simp (decide := true) (maxSteps := 4000000) -implicitDefEqProofs only [evs, tabs, puts, siteD, gget, tget, tset, initT, dstAt, ev, evC, plain, Hp.get, Hp.set, bnd, isCells, isRow, SubA, SubC, Sub, SubL, CvA, Cv, dis, ordB, ite_self, exists_eq', List.mem_cons, List.not_mem_nil, Site.m.injEq, bne_self_eq_false, beq_iff_eq, bne_iff_ne, ↓reduceIte, Int.reduceAdd, Int.reduceSub, Int.reduceToNat, Int.reduceNeg, Nat.reduceAdd, Nat.reduceMul, Nat.reduceSub, exists_eq_left', exists_eq_left, implies_true, forall_const, Site.l.injEq, Site.e.injEq, reduceCtorEq, beq_self_eq_true, ne_eq, tk1, tk4, hm]
        refine ⟨by omega, call_eq (Sees_ok' ha (by simp; omega) hr1) ?_⟩
        obtain ⟨o1, o2, o3, o4, o5, o6, o7, o8, o9⟩ := oneLt ho
        have hwo := ha.2.1
        simp only [whoOk, decide_eq_true_eq] at hwo
        have hsub : IntKind.i64.wrap (r.to - r.fr) = r.to - r.fr := wr_i64 (by omega) (by omega)
        have tail : ∀ t, r.fr < t → t < r.to → oneE (⟨r.role, r.why, r.fr, t, r.cats, r.allow⟩ : Rl) = 0 ∧ oneE (⟨r.role, r.why, t, r.to, r.cats, r.allow⟩ : Rl) = 0 ∧
            seesF (fitsW up w) (l ++ [⟨r.role, r.why, r.fr, t, r.cats, r.allow⟩, ⟨r.role, r.why, t, r.to, r.cats, r.allow⟩]) = seesF (fitsW up w) (l ++ [r]) := by
          intro t h1 h2
          refine ⟨oneE_of ⟨h1, by simp only; omega⟩, oneE_of ⟨h2, by simp only; omega⟩, ?_⟩
          have hf : fitsW up w r = (fitsW up w ⟨r.role, r.why, r.fr, t, r.cats, r.allow⟩ || fitsW up w ⟨r.role, r.why, t, r.to, r.cats, r.allow⟩) := by
            simp only [fitsW, fitsN]
            rw [Bool.eq_iff_iff]
            simp only [Bool.and_eq_true, Bool.or_eq_true, decide_eq_true_eq]
            constructor
            · rintro ⟨⟨h, h3⟩, h4⟩
              rcases Int.lt_or_le w.time t with h5 | h5
              · exact .inl ⟨⟨h, h3⟩, h5⟩
              · exact .inr ⟨⟨h, h5⟩, h4⟩
            · rintro (⟨⟨h, h3⟩, h4⟩ | ⟨⟨h, h3⟩, h4⟩)
              · exact ⟨⟨h, h3⟩, by omega⟩
              · exact ⟨⟨h, by omega⟩, h4⟩
          refine seesF_ext (fun m => ?_) (fun m => ?_)
          · rw [Alw_append, Alw_append, Alw_two, Alw_one, Alw_one, Alw_one, hf]
            simp only [Bool.or_eq_true, or_and_right]
          · rw [Dny_append, Dny_append, Dny_two, Dny_one, Dny_one, Dny_one, hf]
            simp only [Bool.or_eq_true, or_and_right]
        have eqz : fitsW up w r = false → seesF (fitsW up w) (l ++ [r]) = seesF (fitsW up w) l := fun hc => seesF_ext (fun m => by rw [Alw_append, Alw_one]; simp [hc]) (fun m => by rw [Dny_append, Dny_one]; simp [hc])
        by_cases g1 : w.time < r.fr
        · have hz := eqz (by rw [fitsW, fitsN, decide_eq_false (show ¬ r.fr ≤ w.time by omega)]; simp)
          simp (decide := true) (maxSteps := 4000000) -implicitDefEqProofs only [evs, tabs, puts, siteD, gget, tget, tset, initT, dstAt, ev, evC, plain, Hp.get, Hp.set, bnd, isCells, isRow, SubA, SubC, Sub, SubL, CvA, Cv, dis, ordB, ite_self, exists_eq', List.mem_cons, List.not_mem_nil, Site.m.injEq, bne_self_eq_false, beq_iff_eq, bne_iff_ne, ↓reduceIte, Int.reduceAdd, Int.reduceSub, Int.reduceToNat, Int.reduceNeg, Nat.reduceAdd, Nat.reduceMul, Nat.reduceSub, exists_eq_left', exists_eq_left, implies_true, forall_const, Site.l.injEq, Site.e.injEq, reduceCtorEq, beq_self_eq_true, ne_eq, hsub, hz, g1]
          split
          · trivial
          · rename_i h2
            have hs1 : IntKind.i64.wrap (r.to - r.fr - 1) = r.to - r.fr - 1 := wr_i64 (by omega) (by omega)
            rw [hs1]
            refine call_eq (Within_ok cut _ (by omega) (by omega)) ?_
            obtain ⟨d, ed, hd⟩ := within_lt cut (n := (r.to - r.fr - 1).toNat) (by omega)
            rw [show (((r.to - r.fr - 1).toNat : Nat) : Int) = r.to - r.fr - 1 by omega] at ed
            rw [ed]
            have w1 : IntKind.i64.wrap (r.fr + 1) = r.fr + 1 := wr_i64 (by omega) (by omega)
            have w2 : IntKind.i64.wrap (r.fr + 1 + d) = r.fr + 1 + d := wr_i64 (by omega) (by omega)
            obtain ⟨t1, t2, t3⟩ := tail (r.fr + 1 + d) (by omega) (by omega)
            simp (decide := true) (maxSteps := 4000000) -implicitDefEqProofs only [evs, tabs, puts, siteD, gget, tget, tset, initT, dstAt, ev, evC, plain, Hp.get, Hp.set, bnd, isCells, isRow, SubA, SubC, Sub, SubL, CvA, Cv, dis, ordB, ite_self, exists_eq', List.mem_cons, List.not_mem_nil, Site.m.injEq, bne_self_eq_false, beq_iff_eq, bne_iff_ne, ↓reduceIte, Int.reduceAdd, Int.reduceSub, Int.reduceToNat, Int.reduceNeg, Nat.reduceAdd, Nat.reduceMul, Nat.reduceSub, exists_eq_left', exists_eq_left, implies_true, forall_const, Site.l.injEq, Site.e.injEq, reduceCtorEq, beq_self_eq_true, ne_eq, w1, w2]
            refine callH (cloneRules_ok l (by omega)) [.l 144] ?_
            have hm2 : List.map (fun r : Rl => [I r.role, I r.why, I r.fr, I r.to, I r.cats, B r.allow]) l ++ [[I r.role, I r.why, I r.fr, I (r.fr + 1 + d), I r.cats, B r.allow], [I r.role, I r.why, I (r.fr + 1 + d), I r.to, I r.cats, B r.allow]] = List.map (fun r : Rl => [I r.role, I r.why, I r.fr, I r.to, I r.cats, B r.allow]) (l ++ [⟨r.role, r.why, r.fr, r.fr + 1 + d, r.cats, r.allow⟩, ⟨r.role, r.why, r.fr + 1 + d, r.to, r.cats, r.allow⟩]) := by simp
            simp (decide := true) (maxSteps := 4000000) -implicitDefEqProofs only [evs, tabs, puts, siteD, gget, tget, tset, initT, dstAt, ev, evC, plain, Hp.get, Hp.set, bnd, isCells, isRow, SubA, SubC, Sub, SubL, CvA, Cv, dis, ordB, ite_self, exists_eq', List.mem_cons, List.not_mem_nil, Site.m.injEq, bne_self_eq_false, beq_iff_eq, bne_iff_ne, ↓reduceIte, Int.reduceAdd, Int.reduceSub, Int.reduceToNat, Int.reduceNeg, Nat.reduceAdd, Nat.reduceMul, Nat.reduceSub, exists_eq_left', exists_eq_left, implies_true, forall_const, Site.l.injEq, Site.e.injEq, reduceCtorEq, beq_self_eq_true, ne_eq, tk1, tk5, hm2]
            refine ⟨by omega, call_eq (Sees_ok' ha (by simp; omega) fun x hx => ?_) ?_⟩
            · rcases List.mem_append.1 hx with h | h
              · exact hr x h
              · simp only [List.mem_cons, List.not_mem_nil, or_false] at h
                rcases h with rfl | rfl
                · exact t1
                · exact t2
            · rw [t3]
              simp (decide := true) (maxSteps := 4000000) -implicitDefEqProofs only [evs, tabs, puts, siteD, gget, tget, tset, initT, dstAt, ev, evC, plain, Hp.get, Hp.set, bnd, isCells, isRow, SubA, SubC, Sub, SubL, CvA, Cv, dis, ordB, ite_self, exists_eq', List.mem_cons, List.not_mem_nil, Site.m.injEq, bne_self_eq_false, beq_iff_eq, bne_iff_ne, ↓reduceIte, Int.reduceAdd, Int.reduceSub, Int.reduceToNat, Int.reduceNeg, Nat.reduceAdd, Nat.reduceMul, Nat.reduceSub, exists_eq_left', exists_eq_left, implies_true, forall_const, Site.l.injEq, Site.e.injEq, reduceCtorEq, beq_self_eq_true, ne_eq, hz]
        · by_cases g2 : w.time ≥ r.to
          · have hz := eqz (by rw [fitsW, fitsN, decide_eq_false (show ¬ w.time < r.to by omega)]; simp)
            simp (decide := true) (maxSteps := 4000000) -implicitDefEqProofs only [evs, tabs, puts, siteD, gget, tget, tset, initT, dstAt, ev, evC, plain, Hp.get, Hp.set, bnd, isCells, isRow, SubA, SubC, Sub, SubL, CvA, Cv, dis, ordB, ite_self, exists_eq', List.mem_cons, List.not_mem_nil, Site.m.injEq, bne_self_eq_false, beq_iff_eq, bne_iff_ne, ↓reduceIte, Int.reduceAdd, Int.reduceSub, Int.reduceToNat, Int.reduceNeg, Nat.reduceAdd, Nat.reduceMul, Nat.reduceSub, exists_eq_left', exists_eq_left, implies_true, forall_const, Site.l.injEq, Site.e.injEq, reduceCtorEq, beq_self_eq_true, ne_eq, hsub, hz, g1, g2]
            split
            · trivial
            · rename_i h2
              have hs1 : IntKind.i64.wrap (r.to - r.fr - 1) = r.to - r.fr - 1 := wr_i64 (by omega) (by omega)
              rw [hs1]
              refine call_eq (Within_ok cut _ (by omega) (by omega)) ?_
              obtain ⟨d, ed, hd⟩ := within_lt cut (n := (r.to - r.fr - 1).toNat) (by omega)
              rw [show (((r.to - r.fr - 1).toNat : Nat) : Int) = r.to - r.fr - 1 by omega] at ed
              rw [ed]
              have w1 : IntKind.i64.wrap (r.fr + 1) = r.fr + 1 := wr_i64 (by omega) (by omega)
              have w2 : IntKind.i64.wrap (r.fr + 1 + d) = r.fr + 1 + d := wr_i64 (by omega) (by omega)
              obtain ⟨t1, t2, t3⟩ := tail (r.fr + 1 + d) (by omega) (by omega)
              simp (decide := true) (maxSteps := 4000000) -implicitDefEqProofs only [evs, tabs, puts, siteD, gget, tget, tset, initT, dstAt, ev, evC, plain, Hp.get, Hp.set, bnd, isCells, isRow, SubA, SubC, Sub, SubL, CvA, Cv, dis, ordB, ite_self, exists_eq', List.mem_cons, List.not_mem_nil, Site.m.injEq, bne_self_eq_false, beq_iff_eq, bne_iff_ne, ↓reduceIte, Int.reduceAdd, Int.reduceSub, Int.reduceToNat, Int.reduceNeg, Nat.reduceAdd, Nat.reduceMul, Nat.reduceSub, exists_eq_left', exists_eq_left, implies_true, forall_const, Site.l.injEq, Site.e.injEq, reduceCtorEq, beq_self_eq_true, ne_eq, w1, w2]
              refine callH (cloneRules_ok l (by omega)) [.l 144] ?_
              have hm2 : List.map (fun r : Rl => [I r.role, I r.why, I r.fr, I r.to, I r.cats, B r.allow]) l ++ [[I r.role, I r.why, I r.fr, I (r.fr + 1 + d), I r.cats, B r.allow], [I r.role, I r.why, I (r.fr + 1 + d), I r.to, I r.cats, B r.allow]] = List.map (fun r : Rl => [I r.role, I r.why, I r.fr, I r.to, I r.cats, B r.allow]) (l ++ [⟨r.role, r.why, r.fr, r.fr + 1 + d, r.cats, r.allow⟩, ⟨r.role, r.why, r.fr + 1 + d, r.to, r.cats, r.allow⟩]) := by simp
              simp (decide := true) (maxSteps := 4000000) -implicitDefEqProofs only [evs, tabs, puts, siteD, gget, tget, tset, initT, dstAt, ev, evC, plain, Hp.get, Hp.set, bnd, isCells, isRow, SubA, SubC, Sub, SubL, CvA, Cv, dis, ordB, ite_self, exists_eq', List.mem_cons, List.not_mem_nil, Site.m.injEq, bne_self_eq_false, beq_iff_eq, bne_iff_ne, ↓reduceIte, Int.reduceAdd, Int.reduceSub, Int.reduceToNat, Int.reduceNeg, Nat.reduceAdd, Nat.reduceMul, Nat.reduceSub, exists_eq_left', exists_eq_left, implies_true, forall_const, Site.l.injEq, Site.e.injEq, reduceCtorEq, beq_self_eq_true, ne_eq, tk1, tk5, hm2]
              refine ⟨by omega, call_eq (Sees_ok' ha (by simp; omega) fun x hx => ?_) ?_⟩
              · rcases List.mem_append.1 hx with h | h
                · exact hr x h
                · simp only [List.mem_cons, List.not_mem_nil, or_false] at h
                  rcases h with rfl | rfl
                  · exact t1
                  · exact t2
              · rw [t3]
                simp (decide := true) (maxSteps := 4000000) -implicitDefEqProofs only [evs, tabs, puts, siteD, gget, tget, tset, initT, dstAt, ev, evC, plain, Hp.get, Hp.set, bnd, isCells, isRow, SubA, SubC, Sub, SubL, CvA, Cv, dis, ordB, ite_self, exists_eq', List.mem_cons, List.not_mem_nil, Site.m.injEq, bne_self_eq_false, beq_iff_eq, bne_iff_ne, ↓reduceIte, Int.reduceAdd, Int.reduceSub, Int.reduceToNat, Int.reduceNeg, Nat.reduceAdd, Nat.reduceMul, Nat.reduceSub, exists_eq_left', exists_eq_left, implies_true, forall_const, Site.l.injEq, Site.e.injEq, reduceCtorEq, beq_self_eq_true, ne_eq, hz]
          · by_cases g3 : r.why ≥ 0
            · by_cases g4 : r.why = w.why
              · simp (decide := true) (maxSteps := 4000000) -implicitDefEqProofs only [evs, tabs, puts, siteD, gget, tget, tset, initT, dstAt, ev, evC, plain, Hp.get, Hp.set, bnd, isCells, isRow, SubA, SubC, Sub, SubL, CvA, Cv, dis, ordB, ite_self, exists_eq', List.mem_cons, List.not_mem_nil, Site.m.injEq, bne_self_eq_false, beq_iff_eq, bne_iff_ne, ↓reduceIte, Int.reduceAdd, Int.reduceSub, Int.reduceToNat, Int.reduceNeg, Nat.reduceAdd, Nat.reduceMul, Nat.reduceSub, exists_eq_left', exists_eq_left, implies_true, forall_const, Site.l.injEq, Site.e.injEq, reduceCtorEq, beq_self_eq_true, ne_eq, hsub, g1, g2, g3, (eq_true g4 : (r.why = w.why) = True)]
                split
                · trivial
                · rename_i h2
                  have hs1 : IntKind.i64.wrap (r.to - r.fr - 1) = r.to - r.fr - 1 := wr_i64 (by omega) (by omega)
                  rw [hs1]
                  refine call_eq (Within_ok cut _ (by omega) (by omega)) ?_
                  obtain ⟨d, ed, hd⟩ := within_lt cut (n := (r.to - r.fr - 1).toNat) (by omega)
                  rw [show (((r.to - r.fr - 1).toNat : Nat) : Int) = r.to - r.fr - 1 by omega] at ed
                  rw [ed]
                  have w1 : IntKind.i64.wrap (r.fr + 1) = r.fr + 1 := wr_i64 (by omega) (by omega)
                  have w2 : IntKind.i64.wrap (r.fr + 1 + d) = r.fr + 1 + d := wr_i64 (by omega) (by omega)
                  obtain ⟨t1, t2, t3⟩ := tail (r.fr + 1 + d) (by omega) (by omega)
                  simp (decide := true) (maxSteps := 4000000) -implicitDefEqProofs only [evs, tabs, puts, siteD, gget, tget, tset, initT, dstAt, ev, evC, plain, Hp.get, Hp.set, bnd, isCells, isRow, SubA, SubC, Sub, SubL, CvA, Cv, dis, ordB, ite_self, exists_eq', List.mem_cons, List.not_mem_nil, Site.m.injEq, bne_self_eq_false, beq_iff_eq, bne_iff_ne, ↓reduceIte, Int.reduceAdd, Int.reduceSub, Int.reduceToNat, Int.reduceNeg, Nat.reduceAdd, Nat.reduceMul, Nat.reduceSub, exists_eq_left', exists_eq_left, implies_true, forall_const, Site.l.injEq, Site.e.injEq, reduceCtorEq, beq_self_eq_true, ne_eq, w1, w2]
                  refine callH (cloneRules_ok l (by omega)) [.l 144] ?_
                  have hm2 : List.map (fun r : Rl => [I r.role, I r.why, I r.fr, I r.to, I r.cats, B r.allow]) l ++ [[I r.role, I r.why, I r.fr, I (r.fr + 1 + d), I r.cats, B r.allow], [I r.role, I r.why, I (r.fr + 1 + d), I r.to, I r.cats, B r.allow]] = List.map (fun r : Rl => [I r.role, I r.why, I r.fr, I r.to, I r.cats, B r.allow]) (l ++ [⟨r.role, r.why, r.fr, r.fr + 1 + d, r.cats, r.allow⟩, ⟨r.role, r.why, r.fr + 1 + d, r.to, r.cats, r.allow⟩]) := by simp
                  simp (decide := true) (maxSteps := 4000000) -implicitDefEqProofs only [evs, tabs, puts, siteD, gget, tget, tset, initT, dstAt, ev, evC, plain, Hp.get, Hp.set, bnd, isCells, isRow, SubA, SubC, Sub, SubL, CvA, Cv, dis, ordB, ite_self, exists_eq', List.mem_cons, List.not_mem_nil, Site.m.injEq, bne_self_eq_false, beq_iff_eq, bne_iff_ne, ↓reduceIte, Int.reduceAdd, Int.reduceSub, Int.reduceToNat, Int.reduceNeg, Nat.reduceAdd, Nat.reduceMul, Nat.reduceSub, exists_eq_left', exists_eq_left, implies_true, forall_const, Site.l.injEq, Site.e.injEq, reduceCtorEq, beq_self_eq_true, ne_eq, tk1, tk5, hm2]
                  refine ⟨by omega, call_eq (Sees_ok' ha (by simp; omega) fun x hx => ?_) ?_⟩
                  · rcases List.mem_append.1 hx with h | h
                    · exact hr x h
                    · simp only [List.mem_cons, List.not_mem_nil, or_false] at h
                      rcases h with rfl | rfl
                      · exact t1
                      · exact t2
                  · rw [t3]
                    simp (decide := true) (maxSteps := 4000000) -implicitDefEqProofs only [evs, tabs, puts, siteD, gget, tget, tset, initT, dstAt, ev, evC, plain, Hp.get, Hp.set, bnd, isCells, isRow, SubA, SubC, Sub, SubL, CvA, Cv, dis, ordB, ite_self, exists_eq', List.mem_cons, List.not_mem_nil, Site.m.injEq, bne_self_eq_false, beq_iff_eq, bne_iff_ne, ↓reduceIte, Int.reduceAdd, Int.reduceSub, Int.reduceToNat, Int.reduceNeg, Nat.reduceAdd, Nat.reduceMul, Nat.reduceSub, exists_eq_left', exists_eq_left, implies_true, forall_const, Site.l.injEq, Site.e.injEq, reduceCtorEq, beq_self_eq_true, ne_eq]
              · have hz := eqz (by rw [fitsW, fitsN, decide_eq_false (show ¬ r.why < 0 by omega), decide_eq_false g4]; simp)
                simp (decide := true) (maxSteps := 4000000) -implicitDefEqProofs only [evs, tabs, puts, siteD, gget, tget, tset, initT, dstAt, ev, evC, plain, Hp.get, Hp.set, bnd, isCells, isRow, SubA, SubC, Sub, SubL, CvA, Cv, dis, ordB, ite_self, exists_eq', List.mem_cons, List.not_mem_nil, Site.m.injEq, bne_self_eq_false, beq_iff_eq, bne_iff_ne, ↓reduceIte, Int.reduceAdd, Int.reduceSub, Int.reduceToNat, Int.reduceNeg, Nat.reduceAdd, Nat.reduceMul, Nat.reduceSub, exists_eq_left', exists_eq_left, implies_true, forall_const, Site.l.injEq, Site.e.injEq, reduceCtorEq, beq_self_eq_true, ne_eq, hsub, hz, g1, g2, g3, g4]
                split
                · trivial
                · rename_i h2
                  have hs1 : IntKind.i64.wrap (r.to - r.fr - 1) = r.to - r.fr - 1 := wr_i64 (by omega) (by omega)
                  rw [hs1]
                  refine call_eq (Within_ok cut _ (by omega) (by omega)) ?_
                  obtain ⟨d, ed, hd⟩ := within_lt cut (n := (r.to - r.fr - 1).toNat) (by omega)
                  rw [show (((r.to - r.fr - 1).toNat : Nat) : Int) = r.to - r.fr - 1 by omega] at ed
                  rw [ed]
                  have w1 : IntKind.i64.wrap (r.fr + 1) = r.fr + 1 := wr_i64 (by omega) (by omega)
                  have w2 : IntKind.i64.wrap (r.fr + 1 + d) = r.fr + 1 + d := wr_i64 (by omega) (by omega)
                  obtain ⟨t1, t2, t3⟩ := tail (r.fr + 1 + d) (by omega) (by omega)
                  simp (decide := true) (maxSteps := 4000000) -implicitDefEqProofs only [evs, tabs, puts, siteD, gget, tget, tset, initT, dstAt, ev, evC, plain, Hp.get, Hp.set, bnd, isCells, isRow, SubA, SubC, Sub, SubL, CvA, Cv, dis, ordB, ite_self, exists_eq', List.mem_cons, List.not_mem_nil, Site.m.injEq, bne_self_eq_false, beq_iff_eq, bne_iff_ne, ↓reduceIte, Int.reduceAdd, Int.reduceSub, Int.reduceToNat, Int.reduceNeg, Nat.reduceAdd, Nat.reduceMul, Nat.reduceSub, exists_eq_left', exists_eq_left, implies_true, forall_const, Site.l.injEq, Site.e.injEq, reduceCtorEq, beq_self_eq_true, ne_eq, w1, w2]
                  refine callH (cloneRules_ok l (by omega)) [.l 144] ?_
                  have hm2 : List.map (fun r : Rl => [I r.role, I r.why, I r.fr, I r.to, I r.cats, B r.allow]) l ++ [[I r.role, I r.why, I r.fr, I (r.fr + 1 + d), I r.cats, B r.allow], [I r.role, I r.why, I (r.fr + 1 + d), I r.to, I r.cats, B r.allow]] = List.map (fun r : Rl => [I r.role, I r.why, I r.fr, I r.to, I r.cats, B r.allow]) (l ++ [⟨r.role, r.why, r.fr, r.fr + 1 + d, r.cats, r.allow⟩, ⟨r.role, r.why, r.fr + 1 + d, r.to, r.cats, r.allow⟩]) := by simp
                  simp (decide := true) (maxSteps := 4000000) -implicitDefEqProofs only [evs, tabs, puts, siteD, gget, tget, tset, initT, dstAt, ev, evC, plain, Hp.get, Hp.set, bnd, isCells, isRow, SubA, SubC, Sub, SubL, CvA, Cv, dis, ordB, ite_self, exists_eq', List.mem_cons, List.not_mem_nil, Site.m.injEq, bne_self_eq_false, beq_iff_eq, bne_iff_ne, ↓reduceIte, Int.reduceAdd, Int.reduceSub, Int.reduceToNat, Int.reduceNeg, Nat.reduceAdd, Nat.reduceMul, Nat.reduceSub, exists_eq_left', exists_eq_left, implies_true, forall_const, Site.l.injEq, Site.e.injEq, reduceCtorEq, beq_self_eq_true, ne_eq, tk1, tk5, hm2]
                  refine ⟨by omega, call_eq (Sees_ok' ha (by simp; omega) fun x hx => ?_) ?_⟩
                  · rcases List.mem_append.1 hx with h | h
                    · exact hr x h
                    · simp only [List.mem_cons, List.not_mem_nil, or_false] at h
                      rcases h with rfl | rfl
                      · exact t1
                      · exact t2
                  · rw [t3]
                    simp (decide := true) (maxSteps := 4000000) -implicitDefEqProofs only [evs, tabs, puts, siteD, gget, tget, tset, initT, dstAt, ev, evC, plain, Hp.get, Hp.set, bnd, isCells, isRow, SubA, SubC, Sub, SubL, CvA, Cv, dis, ordB, ite_self, exists_eq', List.mem_cons, List.not_mem_nil, Site.m.injEq, bne_self_eq_false, beq_iff_eq, bne_iff_ne, ↓reduceIte, Int.reduceAdd, Int.reduceSub, Int.reduceToNat, Int.reduceNeg, Nat.reduceAdd, Nat.reduceMul, Nat.reduceSub, exists_eq_left', exists_eq_left, implies_true, forall_const, Site.l.injEq, Site.e.injEq, reduceCtorEq, beq_self_eq_true, ne_eq, hz]
            · simp (decide := true) (maxSteps := 4000000) -implicitDefEqProofs only [evs, tabs, puts, siteD, gget, tget, tset, initT, dstAt, ev, evC, plain, Hp.get, Hp.set, bnd, isCells, isRow, SubA, SubC, Sub, SubL, CvA, Cv, dis, ordB, ite_self, exists_eq', List.mem_cons, List.not_mem_nil, Site.m.injEq, bne_self_eq_false, beq_iff_eq, bne_iff_ne, ↓reduceIte, Int.reduceAdd, Int.reduceSub, Int.reduceToNat, Int.reduceNeg, Nat.reduceAdd, Nat.reduceMul, Nat.reduceSub, exists_eq_left', exists_eq_left, implies_true, forall_const, Site.l.injEq, Site.e.injEq, reduceCtorEq, beq_self_eq_true, ne_eq, hsub, g1, g2, g3]
              split
              · trivial
              · rename_i h2
                have hs1 : IntKind.i64.wrap (r.to - r.fr - 1) = r.to - r.fr - 1 := wr_i64 (by omega) (by omega)
                rw [hs1]
                refine call_eq (Within_ok cut _ (by omega) (by omega)) ?_
                obtain ⟨d, ed, hd⟩ := within_lt cut (n := (r.to - r.fr - 1).toNat) (by omega)
                rw [show (((r.to - r.fr - 1).toNat : Nat) : Int) = r.to - r.fr - 1 by omega] at ed
                rw [ed]
                have w1 : IntKind.i64.wrap (r.fr + 1) = r.fr + 1 := wr_i64 (by omega) (by omega)
                have w2 : IntKind.i64.wrap (r.fr + 1 + d) = r.fr + 1 + d := wr_i64 (by omega) (by omega)
                obtain ⟨t1, t2, t3⟩ := tail (r.fr + 1 + d) (by omega) (by omega)
                simp (decide := true) (maxSteps := 4000000) -implicitDefEqProofs only [evs, tabs, puts, siteD, gget, tget, tset, initT, dstAt, ev, evC, plain, Hp.get, Hp.set, bnd, isCells, isRow, SubA, SubC, Sub, SubL, CvA, Cv, dis, ordB, ite_self, exists_eq', List.mem_cons, List.not_mem_nil, Site.m.injEq, bne_self_eq_false, beq_iff_eq, bne_iff_ne, ↓reduceIte, Int.reduceAdd, Int.reduceSub, Int.reduceToNat, Int.reduceNeg, Nat.reduceAdd, Nat.reduceMul, Nat.reduceSub, exists_eq_left', exists_eq_left, implies_true, forall_const, Site.l.injEq, Site.e.injEq, reduceCtorEq, beq_self_eq_true, ne_eq, w1, w2]
                refine callH (cloneRules_ok l (by omega)) [.l 144] ?_
                have hm2 : List.map (fun r : Rl => [I r.role, I r.why, I r.fr, I r.to, I r.cats, B r.allow]) l ++ [[I r.role, I r.why, I r.fr, I (r.fr + 1 + d), I r.cats, B r.allow], [I r.role, I r.why, I (r.fr + 1 + d), I r.to, I r.cats, B r.allow]] = List.map (fun r : Rl => [I r.role, I r.why, I r.fr, I r.to, I r.cats, B r.allow]) (l ++ [⟨r.role, r.why, r.fr, r.fr + 1 + d, r.cats, r.allow⟩, ⟨r.role, r.why, r.fr + 1 + d, r.to, r.cats, r.allow⟩]) := by simp
                simp (decide := true) (maxSteps := 4000000) -implicitDefEqProofs only [evs, tabs, puts, siteD, gget, tget, tset, initT, dstAt, ev, evC, plain, Hp.get, Hp.set, bnd, isCells, isRow, SubA, SubC, Sub, SubL, CvA, Cv, dis, ordB, ite_self, exists_eq', List.mem_cons, List.not_mem_nil, Site.m.injEq, bne_self_eq_false, beq_iff_eq, bne_iff_ne, ↓reduceIte, Int.reduceAdd, Int.reduceSub, Int.reduceToNat, Int.reduceNeg, Nat.reduceAdd, Nat.reduceMul, Nat.reduceSub, exists_eq_left', exists_eq_left, implies_true, forall_const, Site.l.injEq, Site.e.injEq, reduceCtorEq, beq_self_eq_true, ne_eq, tk1, tk5, hm2]
                refine ⟨by omega, call_eq (Sees_ok' ha (by simp; omega) fun x hx => ?_) ?_⟩
                · rcases List.mem_append.1 hx with h | h
                  · exact hr x h
                  · simp only [List.mem_cons, List.not_mem_nil, or_false] at h
                    rcases h with rfl | rfl
                    · exact t1
                    · exact t2
                · rw [t3]
                  simp (decide := true) (maxSteps := 4000000) -implicitDefEqProofs only [evs, tabs, puts, siteD, gget, tget, tset, initT, dstAt, ev, evC, plain, Hp.get, Hp.set, bnd, isCells, isRow, SubA, SubC, Sub, SubL, CvA, Cv, dis, ordB, ite_self, exists_eq', List.mem_cons, List.not_mem_nil, Site.m.injEq, bne_self_eq_false, beq_iff_eq, bne_iff_ne, ↓reduceIte, Int.reduceAdd, Int.reduceSub, Int.reduceToNat, Int.reduceNeg, Nat.reduceAdd, Nat.reduceMul, Nat.reduceSub, exists_eq_left', exists_eq_left, implies_true, forall_const, Site.l.injEq, Site.e.injEq, reduceCtorEq, beq_self_eq_true, ne_eq]
    · simp (decide := true) (maxSteps := 4000000) -implicitDefEqProofs only [evs, tabs, puts, siteD, gget, tget, tset, initT, dstAt, ev, evC, plain, Hp.get, Hp.set, bnd, isCells, isRow, SubA, SubC, Sub, SubL, CvA, Cv, dis, ordB, ite_self, exists_eq', List.mem_cons, List.not_mem_nil, Site.m.injEq, bne_self_eq_false, beq_iff_eq, bne_iff_ne, ↓reduceIte, Int.reduceAdd, Int.reduceSub, Int.reduceToNat, Int.reduceNeg, Nat.reduceAdd, Nat.reduceMul, Nat.reduceSub, exists_eq_left', exists_eq_left, implies_true, forall_const, Site.l.injEq, Site.e.injEq, reduceCtorEq, beq_self_eq_true, ne_eq, ho]
  · refine call_eq (Sees_bad hs) ?_
    simp (decide := true) (maxSteps := 4000000) -implicitDefEqProofs only [evs, tabs, puts, siteD, gget, tget, tset, initT, dstAt, ev, evC, plain, Hp.get, Hp.set, bnd, isCells, isRow, SubA, SubC, Sub, SubL, CvA, Cv, dis, ordB, ite_self, exists_eq', List.mem_cons, List.not_mem_nil, Site.m.injEq, bne_self_eq_false, beq_iff_eq, bne_iff_ne, ↓reduceIte, Int.reduceAdd, Int.reduceSub, Int.reduceToNat, Int.reduceNeg, Nat.reduceAdd, Nat.reduceMul, Nat.reduceSub, exists_eq_left', exists_eq_left, implies_true, forall_const, Site.l.injEq, Site.e.injEq, reduceCtorEq, beq_self_eq_true, ne_eq, hs]
end Go.Proofs.Ythpfjigkhbabnab.E
