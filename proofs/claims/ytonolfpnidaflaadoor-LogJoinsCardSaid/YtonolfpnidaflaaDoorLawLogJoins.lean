/- Walks: LogJoins. No conditions. -/
import Derived.Test.YtonolfpnidaflaaDoorLawLogAll
import Derived.Test.YtonolfpnidaflaaDoorSlicesO

namespace Go.Proofs.YtonolfpnidaflaaDoor.E
open Go
set_option linter.unusedSimpArgs false
set_option linter.unusedVariables false
set_option linter.unusedSectionVars false
set_option maxRecDepth 20000
set_option maxHeartbeats 1000000
theorem two_txt : (⟨#[114, 117, 108, 101, 115, 32, 61, 49, 54, 53, 49, 10, 114, 117, 108, 101, 115, 32, 61, 49, 54, 53, 49, 10]⟩ : ByteArray).data.toList = logL [rul0, rul0] := by
  simp [logL, rul0_line]
theorem two_all : allT (logL [rul0, rul0]) = ⟨[plainO rul0, plainO rul0], 24, 0⟩ := by
  have hl : (logL [rul0, rul0]).length = 24 := by simp [logL, rul0_line]
  rw [allT_log (fun o ho => by simp at ho; rw [ho]; exact rul0_chk) (by omega), hl]
  rfl
theorem take_min (l : List OpS) (k : Nat) : List.take (if (k : Int) < (l.length : Int) then (k : Int) else (l.length : Int)).toNat (l.map opC') = (l.take k).map opC' := by
  rw [List.map_take]
  split
  · rw [Int.toNat_natCast]
  · rw [Int.toNat_natCast, List.take_of_length_le (by simp), List.take_of_length_le (by simp; omega)]
theorem len_take (l : List OpS) (k : Nat) (h : l.length ≤ maxLen) : (l.take k).length ≤ 9223372036854775807 := by
  have h2 : maxLen = 9223372036854775807 := rfl
  rw [List.length_take]
  omega
theorem LogJoins_ok (a b : List OpS) (ha : (∀ o ∈ a, whoI o.who) ∧ a.length ≤ maxLen) (hb : (∀ o ∈ b, whoI o.who) ∧ b.length ≤ maxLen) : Ok Tryd.prog 9 [opsV a, opsV b] (B true) := by
  refine Ok.of_wp (rs := [.tmp 4]) (n := 92) Tryd.func9 rfl rfl rfl (by simp) fo (by kernel_rfl) ?_
  simp (decide := true) (maxSteps := 4000000) -implicitDefEqProofs only [evs, tabs, puts, siteD, gget, tget, tset, initT, dstAt, ev, evC, plain, Hp.get, Hp.set, bnd, isCells, isRow, SubA, SubC, Sub, SubL, CvA, Cv, dis, ordB, ite_self, exists_eq', List.mem_cons, List.not_mem_nil, Site.m.injEq, bne_self_eq_false, beq_iff_eq, bne_iff_ne, ↓reduceIte, Int.reduceAdd, Int.reduceSub, Int.reduceToNat, Int.reduceNeg, Nat.reduceAdd, Nat.reduceMul, Nat.reduceSub, exists_eq_left', exists_eq_left, implies_true, forall_const, Site.l.injEq, Site.e.injEq, reduceCtorEq, beq_self_eq_true, ne_eq]
  refine call_eq (logAll_ok _ (by decide)) ?_
  rw [two_txt, two_all]
  simp (decide := true) (maxSteps := 4000000) -implicitDefEqProofs only [evs, tabs, puts, siteD, gget, tget, tset, initT, dstAt, ev, evC, plain, Hp.get, Hp.set, bnd, isCells, isRow, SubA, SubC, Sub, SubL, CvA, Cv, dis, ordB, ite_self, exists_eq', List.mem_cons, List.not_mem_nil, Site.m.injEq, bne_self_eq_false, beq_iff_eq, bne_iff_ne, ↓reduceIte, Int.reduceAdd, Int.reduceSub, Int.reduceToNat, Int.reduceNeg, Nat.reduceAdd, Nat.reduceMul, Nat.reduceSub, exists_eq_left', exists_eq_left, implies_true, forall_const, Site.l.injEq, Site.e.injEq, reduceCtorEq, beq_self_eq_true, ne_eq]
  rw [show List.take (if (8 : Int) < (a.length : Int) then (8 : Int) else (a.length : Int)).toNat (a.map opC') = (a.take 8).map opC' from take_min a 8]
  refine ⟨by split <;> omega, by split <;> omega, ?_⟩
  refine call_eq (written_ok (a.take 8) (fun o ho => ha.1 o (List.mem_of_mem_take ho)) (len_take a 8 ha.2)) ?_
  have hka := keepW_ok 0 (a.take 8)
  have hla := kept_len (a.take 8)
  generalize keepW 0 (a.take 8) = K at *
  simp (decide := true) (maxSteps := 4000000) -implicitDefEqProofs only [evs, tabs, puts, siteD, gget, tget, tset, initT, dstAt, ev, evC, plain, Hp.get, Hp.set, bnd, isCells, isRow, SubA, SubC, Sub, SubL, CvA, Cv, dis, ordB, ite_self, exists_eq', List.mem_cons, List.not_mem_nil, Site.m.injEq, bne_self_eq_false, beq_iff_eq, bne_iff_ne, ↓reduceIte, Int.reduceAdd, Int.reduceSub, Int.reduceToNat, Int.reduceNeg, Nat.reduceAdd, Nat.reduceMul, Nat.reduceSub, exists_eq_left', exists_eq_left, implies_true, forall_const, Site.l.injEq, Site.e.injEq, reduceCtorEq, beq_self_eq_true, ne_eq]
  rw [show List.take (if (8 : Int) < (b.length : Int) then (8 : Int) else (b.length : Int)).toNat (b.map opC') = (b.take 8).map opC' from take_min b 8]
  refine ⟨by split <;> omega, by split <;> omega, ?_⟩
  refine call_eq (written_ok (b.take 8) (fun o ho => hb.1 o (List.mem_of_mem_take ho)) (len_take b 8 hb.2)) ?_
  have hkb := keepW_ok 0 (b.take 8)
  have hlb := kept_len (b.take 8)
  generalize keepW 0 (b.take 8) = M at *
  have w1 : IntKind.i64.wrap (((logL K).length : Int) + ((logL M).length : Int)) = ((logL K).length : Int) + (logL M).length := wr_i64 (by omega) (by omega)
  by_cases hbig : ((logL K).length : Int) + (logL M).length > 20000
  · simp (decide := true) (maxSteps := 4000000) -implicitDefEqProofs only [evs, tabs, puts, siteD, gget, tget, tset, initT, dstAt, ev, evC, plain, Hp.get, Hp.set, bnd, isCells, isRow, SubA, SubC, Sub, SubL, CvA, Cv, dis, ordB, ite_self, exists_eq', List.mem_cons, List.not_mem_nil, Site.m.injEq, bne_self_eq_false, beq_iff_eq, bne_iff_ne, ↓reduceIte, Int.reduceAdd, Int.reduceSub, Int.reduceToNat, Int.reduceNeg, Nat.reduceAdd, Nat.reduceMul, Nat.reduceSub, exists_eq_left', exists_eq_left, implies_true, forall_const, Site.l.injEq, Site.e.injEq, reduceCtorEq, beq_self_eq_true, ne_eq, bs_size, w1, hbig]
  · have hkm : ∀ o ∈ K ++ M, chkOp o = 0 := fun o ho => by
      rcases List.mem_append.1 ho with h | h
      · exact hka o h
      · exact hkb o h
    have hlen : (logL (K ++ M)).length = (logL K).length + (logL M).length := by rw [logL_app, List.length_append]
    have hall := allT_log hkm (by omega)
    have hnum := log_num (K ++ M)
    have e1 : bs (logL K) ++ bs (logL M) = bs (logL (K ++ M)) := by rw [bs_app, logL_app]
    rw [hlen] at hall
    simp (decide := true) (maxSteps := 4000000) -implicitDefEqProofs only [evs, tabs, puts, siteD, gget, tget, tset, initT, dstAt, ev, evC, plain, Hp.get, Hp.set, bnd, isCells, isRow, SubA, SubC, Sub, SubL, CvA, Cv, dis, ordB, ite_self, exists_eq', List.mem_cons, List.not_mem_nil, Site.m.injEq, bne_self_eq_false, beq_iff_eq, bne_iff_ne, ↓reduceIte, Int.reduceAdd, Int.reduceSub, Int.reduceToNat, Int.reduceNeg, Nat.reduceAdd, Nat.reduceMul, Nat.reduceSub, exists_eq_left', exists_eq_left, implies_true, forall_const, Site.l.injEq, Site.e.injEq, reduceCtorEq, beq_self_eq_true, ne_eq, bs_size, w1, hbig, e1]
    refine ⟨by omega, ?_⟩
    refine call_eq (logAll_ok (bs (logL (K ++ M))) (by rw [bs_size]; omega)) ?_
    rw [bs_list, hall]
    have h3 : ((((logL K).length + (logL M).length : Nat) : Int) = ((logL K).length : Int) + (logL M).length) = True := eq_true (by omega)
    simp (decide := true) (maxSteps := 4000000) -implicitDefEqProofs only [evs, tabs, puts, siteD, gget, tget, tset, initT, dstAt, ev, evC, plain, Hp.get, Hp.set, bnd, isCells, isRow, SubA, SubC, Sub, SubL, CvA, Cv, dis, ordB, ite_self, exists_eq', List.mem_cons, List.not_mem_nil, Site.m.injEq, bne_self_eq_false, beq_iff_eq, bne_iff_ne, ↓reduceIte, Int.reduceAdd, Int.reduceSub, Int.reduceToNat, Int.reduceNeg, Nat.reduceAdd, Nat.reduceMul, Nat.reduceSub, exists_eq_left', exists_eq_left, implies_true, forall_const, Site.l.injEq, Site.e.injEq, reduceCtorEq, beq_self_eq_true, ne_eq, bs_size, w1, h3]
    have hfl : [K.map plainO, M.map plainO].flatten = (K ++ M).map plainO := by simp
    have con := concatOps_ok [K.map plainO, M.map plainO] (by simp) (by rw [hfl, List.length_map]; omega)
    rw [hfl] at con
    refine callHF con [.l 89] ?_
    have tk : List.take (K.length + M.length) (((K ++ M).map plainO).map opC') = ((K ++ M).map plainO).map opC' := List.take_of_length_le (by simp)
    simp (decide := true) (maxSteps := 4000000) -implicitDefEqProofs only [evs, tabs, puts, siteD, gget, tget, tset, initT, dstAt, ev, evC, plain, Hp.get, Hp.set, bnd, isCells, isRow, SubA, SubC, Sub, SubL, CvA, Cv, dis, ordB, ite_self, exists_eq', List.mem_cons, List.not_mem_nil, Site.m.injEq, bne_self_eq_false, beq_iff_eq, bne_iff_ne, ↓reduceIte, Int.reduceAdd, Int.reduceSub, Int.reduceToNat, Int.reduceNeg, Nat.reduceAdd, Nat.reduceMul, Nat.reduceSub, exists_eq_left', exists_eq_left, implies_true, forall_const, Site.l.injEq, Site.e.injEq, reduceCtorEq, beq_self_eq_true, ne_eq, tk]
    refine call_eq (eqOps_ok ((K ++ M).map plainO) (by rw [List.length_map]; omega) (opLen_map hkm)) ?_
    simp (decide := true) (maxSteps := 4000000) -implicitDefEqProofs only [evs, tabs, puts, siteD, gget, tget, tset, initT, dstAt, ev, evC, plain, Hp.get, Hp.set, bnd, isCells, isRow, SubA, SubC, Sub, SubL, CvA, Cv, dis, ordB, ite_self, exists_eq', List.mem_cons, List.not_mem_nil, Site.m.injEq, bne_self_eq_false, beq_iff_eq, bne_iff_ne, ↓reduceIte, Int.reduceAdd, Int.reduceSub, Int.reduceToNat, Int.reduceNeg, Nat.reduceAdd, Nat.reduceMul, Nat.reduceSub, exists_eq_left', exists_eq_left, implies_true, forall_const, Site.l.injEq, Site.e.injEq, reduceCtorEq, beq_self_eq_true, ne_eq]
end Go.Proofs.YtonolfpnidaflaaDoor.E
