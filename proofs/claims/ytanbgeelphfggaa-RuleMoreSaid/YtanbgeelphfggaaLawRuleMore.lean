/- Walks: RuleMore. No conditions. -/
import Derived.Test.YtanbgeelphfggaaSlicesR
namespace Go.Proofs.Ytanbgeelphfggaa.E
open Go
set_option linter.unusedSimpArgs false
set_option linter.unusedVariables false
set_option linter.unusedSectionVars false
set_option maxRecDepth 20000
set_option maxHeartbeats 1000000
theorem RuleMore_ok (up : List Int) (l : List Rl) (r : Rl) (w : Wh) (turn : Int) : Ok Try.prog 6 [ints up, rules l, ruleV r, whoV w, I turn] (B true) := by
  refine Ok.of_wp (rs := [.tmp 10]) (n := 152) Try.func6 rfl rfl rfl (by simp) fo (by kernel_rfl) ?_
  simp (decide := true) (maxSteps := 4000000) -implicitDefEqProofs only [evs, tabs, puts, siteD, gget, tget, tset, initT, dstAt, ev, evC, plain, Hp.get, Hp.set, bnd, isCells, isRow, SubA, SubC, Sub, SubL, CvA, Cv, dis, ordB, ite_self, exists_eq', List.mem_cons, List.not_mem_nil, Site.m.injEq, bne_self_eq_false, beq_iff_eq, bne_iff_ne, ↓reduceIte, Int.reduceAdd, Int.reduceSub, Int.reduceToNat, Int.reduceNeg, Nat.reduceAdd, Nat.reduceMul, Nat.reduceSub, exists_eq_left', exists_eq_left, implies_true, forall_const, Site.l.injEq, Site.e.injEq, reduceCtorEq, beq_self_eq_true, ne_eq]
  have a0 : askOk [0] ⟨0, 0, 0⟩ := ⟨by decide, by decide, by decide⟩
  refine call_eq (Sees_ok' (l := [⟨-1, -1, 0, 9, 5, true⟩, ⟨0, 0, 0, 9, 4, false⟩]) a0 (by decide) (by decide)) ?_
  have e0 : ((seesF (fitsW [0] ⟨0, 0, 0⟩) [⟨-1, -1, 0, 9, 5, true⟩, ⟨0, 0, 0, 9, 4, false⟩] : Nat) : Int) = 1 := by decide
  simp (decide := true) (maxSteps := 4000000) -implicitDefEqProofs only [evs, tabs, puts, siteD, gget, tget, tset, initT, dstAt, ev, evC, plain, Hp.get, Hp.set, bnd, isCells, isRow, SubA, SubC, Sub, SubL, CvA, Cv, dis, ordB, ite_self, exists_eq', List.mem_cons, List.not_mem_nil, Site.m.injEq, bne_self_eq_false, beq_iff_eq, bne_iff_ne, ↓reduceIte, Int.reduceAdd, Int.reduceSub, Int.reduceToNat, Int.reduceNeg, Nat.reduceAdd, Nat.reduceMul, Nat.reduceSub, exists_eq_left', exists_eq_left, implies_true, forall_const, Site.l.injEq, Site.e.injEq, reduceCtorEq, beq_self_eq_true, ne_eq, e0]
  by_cases hs : seesE up l w = 0
  · obtain ⟨ha, h20, hR⟩ := seesE_zero.1 hs
    refine call_eq (Sees_ok' ha h20 hR) ?_
    simp (decide := true) (maxSteps := 4000000) -implicitDefEqProofs only [evs, tabs, puts, siteD, gget, tget, tset, initT, dstAt, ev, evC, plain, Hp.get, Hp.set, bnd, isCells, isRow, SubA, SubC, Sub, SubL, CvA, Cv, dis, ordB, ite_self, exists_eq', List.mem_cons, List.not_mem_nil, Site.m.injEq, bne_self_eq_false, beq_iff_eq, bne_iff_ne, ↓reduceIte, Int.reduceAdd, Int.reduceSub, Int.reduceToNat, Int.reduceNeg, Nat.reduceAdd, Nat.reduceMul, Nat.reduceSub, exists_eq_left', exists_eq_left, implies_true, forall_const, Site.l.injEq, Site.e.injEq, reduceCtorEq, beq_self_eq_true, ne_eq]
    refine call_eq (One_ok r) ?_
    by_cases hr : oneE r = 0
    · by_cases h9 : l.length ≤ 9
      · simp (decide := true) (maxSteps := 4000000) -implicitDefEqProofs only [evs, tabs, puts, siteD, gget, tget, tset, initT, dstAt, ev, evC, plain, Hp.get, Hp.set, bnd, isCells, isRow, SubA, SubC, Sub, SubL, CvA, Cv, dis, ordB, ite_self, exists_eq', List.mem_cons, List.not_mem_nil, Site.m.injEq, bne_self_eq_false, beq_iff_eq, bne_iff_ne, ↓reduceIte, Int.reduceAdd, Int.reduceSub, Int.reduceToNat, Int.reduceNeg, Nat.reduceAdd, Nat.reduceMul, Nat.reduceSub, exists_eq_left', exists_eq_left, implies_true, forall_const, Site.l.injEq, Site.e.injEq, reduceCtorEq, beq_self_eq_true, ne_eq, hr, show ¬ ((l.length : Int) > 9) by omega, show IntKind.i64.wrap ((l.length : Int) + 1) = (l.length : Int) + 1 from wr_i64 (by omega) (by omega)]
        refine call_eq (Within_ok _ _ (by omega) (by omega)) ?_
        obtain ⟨t, et, ht⟩ := within_lt turn (show 0 < l.length + 1 by omega)
        have et' : within turn ((l.length : Int) + 1) = t := et
        rw [et']
        have fl : [l.drop t, l, l.take t].flatten = l.drop t ++ (l ++ l.take t) := by simp
        have con := concatRules_ok [l.drop t, l, l.take t] (by simp) (by rw [fl]; simp; omega)
        have len3 : (l.drop t ++ (l ++ l.take t)).length = l.length + l.length := by simp; omega
        rw [fl, len3] at con
        have m1 : List.drop t (List.take l.length (List.map (fun r : Rl => [I r.role, I r.why, I r.fr, I r.to, I r.cats, B r.allow]) l)) = List.map (fun r : Rl => [I r.role, I r.why, I r.fr, I r.to, I r.cats, B r.allow]) (l.drop t) := by
          rw [List.take_of_length_le (by simp), List.map_drop]
        have m2 : List.take t (List.map (fun r : Rl => [I r.role, I r.why, I r.fr, I r.to, I r.cats, B r.allow]) l) = List.map (fun r : Rl => [I r.role, I r.why, I r.fr, I r.to, I r.cats, B r.allow]) (l.take t) := by
          rw [List.map_take]
        simp (decide := true) (maxSteps := 4000000) -implicitDefEqProofs only [evs, tabs, puts, siteD, gget, tget, tset, initT, dstAt, ev, evC, plain, Hp.get, Hp.set, bnd, isCells, isRow, SubA, SubC, Sub, SubL, CvA, Cv, dis, ordB, ite_self, exists_eq', List.mem_cons, List.not_mem_nil, Site.m.injEq, bne_self_eq_false, beq_iff_eq, bne_iff_ne, ↓reduceIte, Int.reduceAdd, Int.reduceSub, Int.reduceToNat, Int.reduceNeg, Nat.reduceAdd, Nat.reduceMul, Nat.reduceSub, exists_eq_left', exists_eq_left, implies_true, forall_const, Site.l.injEq, Site.e.injEq, reduceCtorEq, beq_self_eq_true, ne_eq, m1, m2, show (t : Int) ≤ l.length by omega]
        refine ⟨by omega, callHF con [.l 75] ?_⟩
        have tk : List.take (l.length + l.length) (List.map (fun r : Rl => [I r.role, I r.why, I r.fr, I r.to, I r.cats, B r.allow]) (l.drop t ++ (l ++ l.take t))) = List.map (fun r : Rl => [I r.role, I r.why, I r.fr, I r.to, I r.cats, B r.allow]) (l.drop t ++ (l ++ l.take t)) := List.take_of_length_le (by rw [List.length_map]; omega)
        have hl3 : l.length + l.length ≤ (l.drop t).length + (l.length + (l.take t).length) := by simp; omega
        have hR3 : ∀ x ∈ l.drop t ++ (l ++ l.take t), oneE x = 0 := fun x hx => by
          rcases List.mem_append.1 hx with h | h
          · exact hR x (List.mem_of_mem_drop h)
          · rcases List.mem_append.1 h with h | h
            · exact hR x h
            · exact hR x (List.mem_of_mem_take h)
        have sameM : seesF (fitsW up w) (l.drop t ++ (l ++ l.take t)) = seesF (fitsW up w) l := by
          have mem : ∀ x : Rl, x ∈ l.drop t ++ (l ++ l.take t) ↔ x ∈ l := fun x => by
            constructor
            · intro hx
              rcases List.mem_append.1 hx with h | h
              · exact List.mem_of_mem_drop h
              · rcases List.mem_append.1 h with h | h
                · exact h
                · exact List.mem_of_mem_take h
            · intro h; simp [h]
          refine seesF_ext (fun m => ?_) (fun m => ?_)
          · simp only [Alw, mem]
          · simp only [Dny, mem]
        have o := oneLt hr
        have hm : ∀ b : Bool, List.map (fun r : Rl => [I r.role, I r.why, I r.fr, I r.to, I r.cats, B r.allow]) l ++ [[I r.role, I r.why, I r.fr, I r.to, I r.cats, B b]] = List.map (fun r : Rl => [I r.role, I r.why, I r.fr, I r.to, I r.cats, B r.allow]) (l ++ [⟨r.role, r.why, r.fr, r.to, r.cats, b⟩]) := fun b => by simp
        have hr1 : ∀ b, ∀ x ∈ l ++ [(⟨r.role, r.why, r.fr, r.to, r.cats, b⟩ : Rl)], oneE x = 0 := fun b x hx => by
          rcases List.mem_append.1 hx with h | h
          · exact hR x h
          · rw [List.mem_singleton.1 h]; exact oneE_of o
        simp (decide := true) (maxSteps := 4000000) -implicitDefEqProofs only [evs, tabs, puts, siteD, gget, tget, tset, initT, dstAt, ev, evC, plain, Hp.get, Hp.set, bnd, isCells, isRow, SubA, SubC, Sub, SubL, CvA, Cv, dis, ordB, ite_self, exists_eq', List.mem_cons, List.not_mem_nil, Site.m.injEq, bne_self_eq_false, beq_iff_eq, bne_iff_ne, ↓reduceIte, Int.reduceAdd, Int.reduceSub, Int.reduceToNat, Int.reduceNeg, Nat.reduceAdd, Nat.reduceMul, Nat.reduceSub, exists_eq_left', exists_eq_left, implies_true, forall_const, Site.l.injEq, Site.e.injEq, reduceCtorEq, beq_self_eq_true, ne_eq, tk, hl3]
        refine call_eq (Sees_ok' ha (by rw [len3]; omega) hR3) ?_
        rw [sameM]
        simp (decide := true) (maxSteps := 4000000) -implicitDefEqProofs only [evs, tabs, puts, siteD, gget, tget, tset, initT, dstAt, ev, evC, plain, Hp.get, Hp.set, bnd, isCells, isRow, SubA, SubC, Sub, SubL, CvA, Cv, dis, ordB, ite_self, exists_eq', List.mem_cons, List.not_mem_nil, Site.m.injEq, bne_self_eq_false, beq_iff_eq, bne_iff_ne, ↓reduceIte, Int.reduceAdd, Int.reduceSub, Int.reduceToNat, Int.reduceNeg, Nat.reduceAdd, Nat.reduceMul, Nat.reduceSub, exists_eq_left', exists_eq_left, implies_true, forall_const, Site.l.injEq, Site.e.injEq, reduceCtorEq, beq_self_eq_true, ne_eq]
        refine callH (cloneRules_ok l (by omega)) [.l 87] ?_
        simp (decide := true) (maxSteps := 4000000) -implicitDefEqProofs only [evs, tabs, puts, siteD, gget, tget, tset, initT, dstAt, ev, evC, plain, Hp.get, Hp.set, bnd, isCells, isRow, SubA, SubC, Sub, SubL, CvA, Cv, dis, ordB, ite_self, exists_eq', List.mem_cons, List.not_mem_nil, Site.m.injEq, bne_self_eq_false, beq_iff_eq, bne_iff_ne, ↓reduceIte, Int.reduceAdd, Int.reduceSub, Int.reduceToNat, Int.reduceNeg, Nat.reduceAdd, Nat.reduceMul, Nat.reduceSub, exists_eq_left', exists_eq_left, implies_true, forall_const, Site.l.injEq, Site.e.injEq, reduceCtorEq, beq_self_eq_true, ne_eq, tk1, tk4, hm]
        refine ⟨by omega, call_eq (Sees_ok' ha (by simp; omega) (hr1 true)) ?_⟩
        simp (decide := true) (maxSteps := 4000000) -implicitDefEqProofs only [evs, tabs, puts, siteD, gget, tget, tset, initT, dstAt, ev, evC, plain, Hp.get, Hp.set, bnd, isCells, isRow, SubA, SubC, Sub, SubL, CvA, Cv, dis, ordB, ite_self, exists_eq', List.mem_cons, List.not_mem_nil, Site.m.injEq, bne_self_eq_false, beq_iff_eq, bne_iff_ne, ↓reduceIte, Int.reduceAdd, Int.reduceSub, Int.reduceToNat, Int.reduceNeg, Nat.reduceAdd, Nat.reduceMul, Nat.reduceSub, exists_eq_left', exists_eq_left, implies_true, forall_const, Site.l.injEq, Site.e.injEq, reduceCtorEq, beq_self_eq_true, ne_eq]
        refine callH (cloneRules_ok l (by omega)) [.l 99] ?_
        simp (decide := true) (maxSteps := 4000000) -implicitDefEqProofs only [evs, tabs, puts, siteD, gget, tget, tset, initT, dstAt, ev, evC, plain, Hp.get, Hp.set, bnd, isCells, isRow, SubA, SubC, Sub, SubL, CvA, Cv, dis, ordB, ite_self, exists_eq', List.mem_cons, List.not_mem_nil, Site.m.injEq, bne_self_eq_false, beq_iff_eq, bne_iff_ne, ↓reduceIte, Int.reduceAdd, Int.reduceSub, Int.reduceToNat, Int.reduceNeg, Nat.reduceAdd, Nat.reduceMul, Nat.reduceSub, exists_eq_left', exists_eq_left, implies_true, forall_const, Site.l.injEq, Site.e.injEq, reduceCtorEq, beq_self_eq_true, ne_eq, tk1, tk4, hm]
        refine ⟨by omega, call_eq (Sees_ok' ha (by simp; omega) (hr1 false)) ?_⟩
        have ltM := seesF_lt (f := fitsW up w) hR
        have ltX := seesF_lt (f := fitsW up w) (hr1 true)
        have ltY := seesF_lt (f := fitsW up w) (hr1 false)
        have key : ∀ m, ((seesF (fitsW up w) l).testBit m = true → (seesF (fitsW up w) (l ++ [(⟨r.role, r.why, r.fr, r.to, r.cats, true⟩ : Rl)])).testBit m = true) ∧
            ((seesF (fitsW up w) (l ++ [(⟨r.role, r.why, r.fr, r.to, r.cats, false⟩ : Rl)])).testBit m = true → (seesF (fitsW up w) l).testBit m = true) ∧
            ((seesF (fitsW up w) (l ++ [(⟨r.role, r.why, r.fr, r.to, r.cats, true⟩ : Rl)])).testBit m = true → (seesF (fitsW up w) l ||| r.cats.toNat).testBit m = true) ∧
            ((seesF (fitsW up w) l).testBit m = true → (seesF (fitsW up w) (l ++ [(⟨r.role, r.why, r.fr, r.to, r.cats, false⟩ : Rl)]) ||| r.cats.toNat).testBit m = true) := by
          intro m
          rw [Nat.testBit_or, Nat.testBit_or, Bool.or_eq_true, Bool.or_eq_true, seesF_bits, seesF_bits, seesF_bits, Alw_append, Alw_append, Dny_append, Dny_append, Alw_one, Alw_one, Dny_one, Dny_one]
          simp only [Bool.false_eq_true, false_and, and_false, or_false, true_and, Bool.true_eq_false, not_or, not_and]
          refine ⟨?_, ?_, ?_, ?_⟩
          · exact fun h => ⟨.inl h.1, h.2⟩
          · exact fun h => ⟨h.1, h.2.1⟩
          · rintro ⟨h | h, h2⟩
            · exact .inl ⟨h, h2⟩
            · exact .inr h.2
          · rintro ⟨h, h2⟩
            by_cases hb : r.cats.toNat.testBit m = true
            · exact .inr hb
            · exact .inl ⟨h, h2, fun _ => hb⟩
        generalize seesF (fitsW up w) l = M at *
        generalize seesF (fitsW up w) (l ++ [(⟨r.role, r.why, r.fr, r.to, r.cats, true⟩ : Rl)]) = X at *
        generalize seesF (fitsW up w) (l ++ [(⟨r.role, r.why, r.fr, r.to, r.cats, false⟩ : Rl)]) = Y at *
        have hcn : r.cats = (r.cats.toNat : Int) := by omega
        have cl : r.cats.toNat < 256 := by omega
        have o1 : bits .or .i64 (M : Int) r.cats = ((M ||| r.cats.toNat : Nat) : Int) := by
          have := bor_nat (n := M) (m := r.cats.toNat) (by omega) (by omega)
          rwa [← hcn] at this
        have o2 : bits .or .i64 (Y : Int) r.cats = ((Y ||| r.cats.toNat : Nat) : Int) := by
          have := bor_nat (n := Y) (m := r.cats.toNat) (by omega) (by omega)
          rwa [← hcn] at this
        have l1 : M ||| r.cats.toNat < 2 ^ 8 := Nat.or_lt_two_pow ltM cl
        have l2 : Y ||| r.cats.toNat < 2 ^ 8 := Nat.or_lt_two_pow ltY cl
        have b1 : bits .andNot .i64 (M : Int) (X : Int) = 0 := (bnot_sub (by omega) (by omega)).2 fun m h => (key m).1 h
        have b2 : bits .andNot .i64 (Y : Int) (M : Int) = 0 := (bnot_sub (by omega) (by omega)).2 fun m h => (key m).2.1 h
        have b3 : bits .andNot .i64 (X : Int) ((M ||| r.cats.toNat : Nat) : Int) = 0 := (bnot_sub (by omega) (by omega)).2 fun m h => (key m).2.2.1 h
        have b4 : bits .andNot .i64 (M : Int) ((Y ||| r.cats.toNat : Nat) : Int) = 0 := (bnot_sub (by omega) (by omega)).2 fun m h => (key m).2.2.2 h
        simp (decide := true) (maxSteps := 4000000) -implicitDefEqProofs only [evs, tabs, puts, siteD, gget, tget, tset, initT, dstAt, ev, evC, plain, Hp.get, Hp.set, bnd, isCells, isRow, SubA, SubC, Sub, SubL, CvA, Cv, dis, ordB, ite_self, exists_eq', List.mem_cons, List.not_mem_nil, Site.m.injEq, bne_self_eq_false, beq_iff_eq, bne_iff_ne, ↓reduceIte, Int.reduceAdd, Int.reduceSub, Int.reduceToNat, Int.reduceNeg, Nat.reduceAdd, Nat.reduceMul, Nat.reduceSub, exists_eq_left', exists_eq_left, implies_true, forall_const, Site.l.injEq, Site.e.injEq, reduceCtorEq, beq_self_eq_true, ne_eq, o1, o2, b1, b2, b3, b4]
      · simp (decide := true) (maxSteps := 4000000) -implicitDefEqProofs only [evs, tabs, puts, siteD, gget, tget, tset, initT, dstAt, ev, evC, plain, Hp.get, Hp.set, bnd, isCells, isRow, SubA, SubC, Sub, SubL, CvA, Cv, dis, ordB, ite_self, exists_eq', List.mem_cons, List.not_mem_nil, Site.m.injEq, bne_self_eq_false, beq_iff_eq, bne_iff_ne, ↓reduceIte, Int.reduceAdd, Int.reduceSub, Int.reduceToNat, Int.reduceNeg, Nat.reduceAdd, Nat.reduceMul, Nat.reduceSub, exists_eq_left', exists_eq_left, implies_true, forall_const, Site.l.injEq, Site.e.injEq, reduceCtorEq, beq_self_eq_true, ne_eq, hr, show ((l.length : Int) > 9) by omega]
    · simp (decide := true) (maxSteps := 4000000) -implicitDefEqProofs only [evs, tabs, puts, siteD, gget, tget, tset, initT, dstAt, ev, evC, plain, Hp.get, Hp.set, bnd, isCells, isRow, SubA, SubC, Sub, SubL, CvA, Cv, dis, ordB, ite_self, exists_eq', List.mem_cons, List.not_mem_nil, Site.m.injEq, bne_self_eq_false, beq_iff_eq, bne_iff_ne, ↓reduceIte, Int.reduceAdd, Int.reduceSub, Int.reduceToNat, Int.reduceNeg, Nat.reduceAdd, Nat.reduceMul, Nat.reduceSub, exists_eq_left', exists_eq_left, implies_true, forall_const, Site.l.injEq, Site.e.injEq, reduceCtorEq, beq_self_eq_true, ne_eq, hr]
  · refine call_eq (Sees_bad hs) ?_
    simp (decide := true) (maxSteps := 4000000) -implicitDefEqProofs only [evs, tabs, puts, siteD, gget, tget, tset, initT, dstAt, ev, evC, plain, Hp.get, Hp.set, bnd, isCells, isRow, SubA, SubC, Sub, SubL, CvA, Cv, dis, ordB, ite_self, exists_eq', List.mem_cons, List.not_mem_nil, Site.m.injEq, bne_self_eq_false, beq_iff_eq, bne_iff_ne, ↓reduceIte, Int.reduceAdd, Int.reduceSub, Int.reduceToNat, Int.reduceNeg, Nat.reduceAdd, Nat.reduceMul, Nat.reduceSub, exists_eq_left', exists_eq_left, implies_true, forall_const, Site.l.injEq, Site.e.injEq, reduceCtorEq, beq_self_eq_true, ne_eq, hs]
end Go.Proofs.Ytanbgeelphfggaa.E
