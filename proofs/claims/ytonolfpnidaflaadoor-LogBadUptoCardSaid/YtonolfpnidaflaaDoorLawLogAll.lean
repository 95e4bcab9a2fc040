/- Walks: LogAll. No conditions. -/
import Derived.Test.YtonolfpnidaflaaDoorLogAW
namespace Go.Proofs.YtonolfpnidaflaaDoor.E
open Go
set_option linter.unusedSimpArgs false
set_option linter.unusedVariables false
set_option linter.unusedSectionVars false
set_option maxRecDepth 20000
set_option maxHeartbeats 1000000
def rul0 : OpS := { noOp with kind := 1 }
theorem rul0_chk : chkOp rul0 = 0 := by decide
theorem dec_step {u : Nat} (h : ¬ u < 10) : Lib.decDigits u = Lib.decDigits (u / 10) ++ [UInt8.ofNat (48 + u % 10)] := by
  rw [Lib.decDigits, dif_neg h]
theorem dec_one {u : Nat} (h : u < 10) : Lib.decDigits u = [UInt8.ofNat (48 + u)] := by
  rw [Lib.decDigits, dif_pos h]
theorem itoa1651 : Lib.itoa ((1651 : Nat) : Int) = [49, 54, 53, 49] := by
  rw [Lib.itoa_nonneg, dec_step (by omega), dec_step (u := 1651 / 10) (by omega), dec_step (u := 1651 / 10 / 10) (by omega), dec_one (u := 1651 / 10 / 10 / 10) (by omega)]
  rfl
theorem rul0_line : lineL rul0 = [114, 117, 108, 101, 115, 32, 61, 49, 54, 53, 49, 10] := by
  have h : plainL rul0 = [114, 117, 108, 101, 115] := rfl
  rw [lineL, h, show sumL [114, 117, 108, 101, 115] = 1651 from rfl, itoa1651]
  rfl
theorem kept_len (l : List OpS) : (logL (keepW 0 l)).length ≤ 20000 := by
  have := keepW_len 0 l (by omega)
  omega
theorem allT_log {l : List OpS} (h : ∀ o ∈ l, chkOp o = 0) (hl : (logL l).length ≤ 20000) : allT (logL l) = ⟨l.map plainO, (logL l).length, 0⟩ := by
  rw [allT, if_neg (by omega)]
  have := lgS_log h []
  rw [List.append_nil, lgS_stop (.inl rfl)] at this
  simpa using this
theorem allT_cut {l : List OpS} (h : ∀ o ∈ l, chkOp o = 0) {t : List UInt8} (ht : (10 : UInt8) ∉ t) (hl : (logL l ++ t).length ≤ 20000) : allT (logL l ++ t) = ⟨l.map plainO, (logL l).length, 0⟩ := by
  rw [allT, if_neg (by omega)]
  have := lgS_log h t
  rw [lnC_short ht] at this
  simpa using this
theorem opLen_map {l : List OpS} (h : ∀ o ∈ l, chkOp o = 0) : ∀ o ∈ l.map plainO, opLen o := fun o ho => by
  obtain ⟨x, hx, rfl⟩ := List.mem_map.1 ho
  exact chk_lens (h x hx)
theorem LogAll_ok (l : List OpS) (cut : Int) (hw : (∀ o ∈ l, whoI o.who) ∧ l.length ≤ maxLen) : Ok Tryd.prog 8 [opsV l, I cut] (B true) := by
  refine Ok.of_wp (rs := [.tmp 4]) (n := 101) Tryd.func8 rfl rfl rfl (by simp) fo (by kernel_rfl) ?_
  simp (decide := true) (maxSteps := 4000000) -implicitDefEqProofs only [evs, tabs, puts, siteD, gget, tget, tset, initT, dstAt, ev, evC, plain, Hp.get, Hp.set, bnd, isCells, isRow, SubA, SubC, Sub, SubL, CvA, Cv, dis, ordB, ite_self, exists_eq', List.mem_cons, List.not_mem_nil, Site.m.injEq, bne_self_eq_false, beq_iff_eq, bne_iff_ne, ↓reduceIte, Int.reduceAdd, Int.reduceSub, Int.reduceToNat, Int.reduceNeg, Nat.reduceAdd, Nat.reduceMul, Nat.reduceSub, exists_eq_left', exists_eq_left, implies_true, forall_const, Site.l.injEq, Site.e.injEq, reduceCtorEq, beq_self_eq_true, ne_eq]
  refine call_ok (logWrite_ok rul0 ⟨⟨by decide, by decide⟩, ⟨by decide, by decide⟩, ⟨by decide, by decide⟩⟩) (by simp (decide := true) (maxSteps := 4000000) -implicitDefEqProofs only [evs, tabs, puts, siteD, gget, tget, tset, initT, dstAt, ev, evC, plain, Hp.get, Hp.set, bnd, isCells, isRow, SubA, SubC, Sub, SubL, CvA, Cv, dis, ordB, ite_self, exists_eq', List.mem_cons, List.not_mem_nil, Site.m.injEq, bne_self_eq_false, beq_iff_eq, bne_iff_ne, ↓reduceIte, Int.reduceAdd, Int.reduceSub, Int.reduceToNat, Int.reduceNeg, Nat.reduceAdd, Nat.reduceMul, Nat.reduceSub, exists_eq_left', exists_eq_left, implies_true, forall_const, Site.l.injEq, Site.e.injEq, reduceCtorEq, beq_self_eq_true, ne_eq]; exact ⟨rfl, rfl, rfl, rfl, rfl, rfl, rfl, rfl, rfl⟩) ?_
  rw [rul0_chk, show writeL rul0 = [114, 117, 108, 101, 115, 32, 61, 49, 54, 53, 49, 10] by rw [writeL, if_pos rul0_chk, rul0_line]]
  have he : decide (bs [114, 117, 108, 101, 115, 32, 61, 49, 54, 53, 49, 10] = ⟨#[114, 117, 108, 101, 115, 32, 61, 49, 54, 53, 49, 10]⟩) = true := decide_eq_true rfl
  simp (decide := true) (maxSteps := 4000000) -implicitDefEqProofs only [evs, tabs, puts, siteD, gget, tget, tset, initT, dstAt, ev, evC, plain, Hp.get, Hp.set, bnd, isCells, isRow, SubA, SubC, Sub, SubL, CvA, Cv, dis, ordB, ite_self, exists_eq', List.mem_cons, List.not_mem_nil, Site.m.injEq, bne_self_eq_false, beq_iff_eq, bne_iff_ne, ↓reduceIte, Int.reduceAdd, Int.reduceSub, Int.reduceToNat, Int.reduceNeg, Nat.reduceAdd, Nat.reduceMul, Nat.reduceSub, exists_eq_left', exists_eq_left, implies_true, forall_const, Site.l.injEq, Site.e.injEq, reduceCtorEq, beq_self_eq_true, ne_eq, toList_beq, he]
  refine call_eq (written_ok l hw.1 (by have := hw.2; unfold maxLen at this; omega)) ?_
  have hko := keepW_ok 0 l
  have hkl := kept_len l
  generalize keepW 0 l = K at *
  have hall := allT_log hko hkl
  have hnum := log_num K
  simp (decide := true) (maxSteps := 4000000) -implicitDefEqProofs only [evs, tabs, puts, siteD, gget, tget, tset, initT, dstAt, ev, evC, plain, Hp.get, Hp.set, bnd, isCells, isRow, SubA, SubC, Sub, SubL, CvA, Cv, dis, ordB, ite_self, exists_eq', List.mem_cons, List.not_mem_nil, Site.m.injEq, bne_self_eq_false, beq_iff_eq, bne_iff_ne, ↓reduceIte, Int.reduceAdd, Int.reduceSub, Int.reduceToNat, Int.reduceNeg, Nat.reduceAdd, Nat.reduceMul, Nat.reduceSub, exists_eq_left', exists_eq_left, implies_true, forall_const, Site.l.injEq, Site.e.injEq, reduceCtorEq, beq_self_eq_true, ne_eq]
  refine call_eq (logAll_ok (bs (logL K)) (by rw [bs_size]; omega)) ?_
  rw [bs_list, hall]
  simp (decide := true) (maxSteps := 4000000) -implicitDefEqProofs only [evs, tabs, puts, siteD, gget, tget, tset, initT, dstAt, ev, evC, plain, Hp.get, Hp.set, bnd, isCells, isRow, SubA, SubC, Sub, SubL, CvA, Cv, dis, ordB, ite_self, exists_eq', List.mem_cons, List.not_mem_nil, Site.m.injEq, bne_self_eq_false, beq_iff_eq, bne_iff_ne, ↓reduceIte, Int.reduceAdd, Int.reduceSub, Int.reduceToNat, Int.reduceNeg, Nat.reduceAdd, Nat.reduceMul, Nat.reduceSub, exists_eq_left', exists_eq_left, implies_true, forall_const, Site.l.injEq, Site.e.injEq, reduceCtorEq, beq_self_eq_true, ne_eq, bs_size]
  refine call_eq (eqOps_ok (K.map plainO) (by simp; omega) (opLen_map hko)) ?_
  have w1 : IntKind.i64.wrap (((logL K).length : Int) + 1) = (((logL K).length + 1 : Nat) : Int) := by rw [wr_i64 (by omega) (by omega)]; omega
  simp (decide := true) (maxSteps := 4000000) -implicitDefEqProofs only [evs, tabs, puts, siteD, gget, tget, tset, initT, dstAt, ev, evC, plain, Hp.get, Hp.set, bnd, isCells, isRow, SubA, SubC, Sub, SubL, CvA, Cv, dis, ordB, ite_self, exists_eq', List.mem_cons, List.not_mem_nil, Site.m.injEq, bne_self_eq_false, beq_iff_eq, bne_iff_ne, ↓reduceIte, Int.reduceAdd, Int.reduceSub, Int.reduceToNat, Int.reduceNeg, Nat.reduceAdd, Nat.reduceMul, Nat.reduceSub, exists_eq_left', exists_eq_left, implies_true, forall_const, Site.l.injEq, Site.e.injEq, reduceCtorEq, beq_self_eq_true, ne_eq, bs_size, w1]
  refine call_eq (Within_ok _ _ (by omega) (by omega)) ?_
  obtain ⟨c, ec, hc⟩ := within_lt cut (show 0 < (logL K).length + 1 by omega)
  rw [ec]
  obtain ⟨m, t, hm, htk, ht, hmc⟩ := cut_log hko c (by omega)
  have hex : (bs (logL K)).extract 0 c = bs (logL (K.take m) ++ t) := by rw [bs_extract, List.drop_zero, htk]
  have htl : (logL (K.take m) ++ t).length = c := by rw [← htk, List.length_take]; omega
  simp (decide := true) (maxSteps := 4000000) -implicitDefEqProofs only [evs, tabs, puts, siteD, gget, tget, tset, initT, dstAt, ev, evC, plain, Hp.get, Hp.set, bnd, isCells, isRow, SubA, SubC, Sub, SubL, CvA, Cv, dis, ordB, ite_self, exists_eq', List.mem_cons, List.not_mem_nil, Site.m.injEq, bne_self_eq_false, beq_iff_eq, bne_iff_ne, ↓reduceIte, Int.reduceAdd, Int.reduceSub, Int.reduceToNat, Int.reduceNeg, Nat.reduceAdd, Nat.reduceMul, Nat.reduceSub, exists_eq_left', exists_eq_left, implies_true, forall_const, Site.l.injEq, Site.e.injEq, reduceCtorEq, beq_self_eq_true, ne_eq, hex, bs_size]
  refine ⟨by omega, ?_⟩
  refine call_eq (logAll_ok (bs (logL (K.take m) ++ t)) (by rw [bs_size]; omega)) ?_
  have hkm : ∀ o ∈ K.take m, chkOp o = 0 := fun o ho => hko o (List.mem_of_mem_take ho)
  rw [bs_list, allT_cut hkm ht (by omega)]
  have hml : (K.take m).length = m := by rw [List.length_take]; omega
  simp (decide := true) (maxSteps := 4000000) -implicitDefEqProofs only [evs, tabs, puts, siteD, gget, tget, tset, initT, dstAt, ev, evC, plain, Hp.get, Hp.set, bnd, isCells, isRow, SubA, SubC, Sub, SubL, CvA, Cv, dis, ordB, ite_self, exists_eq', List.mem_cons, List.not_mem_nil, Site.m.injEq, bne_self_eq_false, beq_iff_eq, bne_iff_ne, ↓reduceIte, Int.reduceAdd, Int.reduceSub, Int.reduceToNat, Int.reduceNeg, Nat.reduceAdd, Nat.reduceMul, Nat.reduceSub, exists_eq_left', exists_eq_left, implies_true, forall_const, Site.l.injEq, Site.e.injEq, reduceCtorEq, beq_self_eq_true, ne_eq, bs_size, hml]
  have hex2 : (bs (logL K)).extract (logL (K.take m)).length c = bs t := by rw [bs_extract, htk, List.drop_left]
  have hex3 : (bs (logL K)).extract 0 (logL (K.take m)).length = bs (logL (K.take m)) := by
    rw [bs_extract, List.drop_zero]
    have := congrArg (List.take (logL (K.take m)).length) htk
    rw [List.take_take, Nat.min_eq_left hmc, List.take_left] at this
    rw [this]
  have hctn : decide (0 ≤ Lib.indexByte t 10) = false := by rw [ib_none ht]; rfl
  have hmt : List.take m ((K.map plainO).map opC') = ((K.take m).map plainO).map opC' := by rw [← List.map_take, ← List.map_take]
  have hcnt : Lib.countByte (logL (K.take m)) 10 = m := by rw [Lib.countByte, count_log hkm, hml]
  rw [if_neg (by omega), if_neg (by omega), hex2]
  refine ⟨by omega, by omega, ?_⟩
  refine call_eq (Contains_ok (bs t) 10) ?_
  rw [bs_list, hctn]
  simp (decide := true) (maxSteps := 4000000) -implicitDefEqProofs only [evs, tabs, puts, siteD, gget, tget, tset, initT, dstAt, ev, evC, plain, Hp.get, Hp.set, bnd, isCells, isRow, SubA, SubC, Sub, SubL, CvA, Cv, dis, ordB, ite_self, exists_eq', List.mem_cons, List.not_mem_nil, Site.m.injEq, bne_self_eq_false, beq_iff_eq, bne_iff_ne, ↓reduceIte, Int.reduceAdd, Int.reduceSub, Int.reduceToNat, Int.reduceNeg, Nat.reduceAdd, Nat.reduceMul, Nat.reduceSub, exists_eq_left', exists_eq_left, implies_true, forall_const, Site.l.injEq, Site.e.injEq, reduceCtorEq, beq_self_eq_true, ne_eq]
  rw [hml, hmt]
  refine ⟨by omega, ?_⟩
  refine call_eq (eqOps_ok ((K.take m).map plainO) (by simp; omega) (opLen_map hkm)) ?_
  have hMl : ((logL (K.take m)).length : Int) ≤ ((logL K).length : Int) := by omega
  simp (decide := true) (maxSteps := 4000000) -implicitDefEqProofs only [evs, tabs, puts, siteD, gget, tget, tset, initT, dstAt, ev, evC, plain, Hp.get, Hp.set, bnd, isCells, isRow, SubA, SubC, Sub, SubL, CvA, Cv, dis, ordB, ite_self, exists_eq', List.mem_cons, List.not_mem_nil, Site.m.injEq, bne_self_eq_false, beq_iff_eq, bne_iff_ne, ↓reduceIte, Int.reduceAdd, Int.reduceSub, Int.reduceToNat, Int.reduceNeg, Nat.reduceAdd, Nat.reduceMul, Nat.reduceSub, exists_eq_left', exists_eq_left, implies_true, forall_const, Site.l.injEq, Site.e.injEq, reduceCtorEq, beq_self_eq_true, ne_eq, bs_size, hMl, hex3]
  refine call_eq (Count_ok (bs (logL (K.take m))) 10) ?_
  rw [bs_list, hcnt]
  simp (decide := true) (maxSteps := 4000000) -implicitDefEqProofs only [evs, tabs, puts, siteD, gget, tget, tset, initT, dstAt, ev, evC, plain, Hp.get, Hp.set, bnd, isCells, isRow, SubA, SubC, Sub, SubL, CvA, Cv, dis, ordB, ite_self, exists_eq', List.mem_cons, List.not_mem_nil, Site.m.injEq, bne_self_eq_false, beq_iff_eq, bne_iff_ne, ↓reduceIte, Int.reduceAdd, Int.reduceSub, Int.reduceToNat, Int.reduceNeg, Nat.reduceAdd, Nat.reduceMul, Nat.reduceSub, exists_eq_left', exists_eq_left, implies_true, forall_const, Site.l.injEq, Site.e.injEq, reduceCtorEq, beq_self_eq_true, ne_eq]
  rw [hml]
  exact B_eq (by simp)
end Go.Proofs.YtonolfpnidaflaaDoor.E
