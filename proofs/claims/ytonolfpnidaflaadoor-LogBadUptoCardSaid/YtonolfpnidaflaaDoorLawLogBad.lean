/- Walks: LogBad. No conditions. -/
import Derived.Test.YtonolfpnidaflaaDoorLawLogAll
namespace Go.Proofs.YtonolfpnidaflaaDoor.E
open Go
set_option linter.unusedSimpArgs false
set_option linter.unusedVariables false
set_option linter.unusedSectionVars false
set_option maxRecDepth 20000
set_option maxHeartbeats 1000000
theorem itoa1652 : Lib.itoa ((1652 : Nat) : Int) = [49, 54, 53, 50] := by
  rw [Lib.itoa_nonneg, dec_step (by omega), dec_step (u := 1652 / 10) (by omega), dec_step (u := 1652 / 10 / 10) (by omega), dec_one (u := 1652 / 10 / 10 / 10) (by omega)]
  rfl
theorem bad_line : lineC ([114, 117, 108, 101, 115] ++ 32 :: 61 :: [49, 54, 53, 50]) = 8 := by
  have h1 : Lib.lastIndex ([114, 117, 108, 101, 115] ++ 32 :: 61 :: [49, 54, 53, 50]) [32, 61] = ((5 : Nat) : Int) := li_hit (by decide)
  rw [lineC_some h1]
  have h2 : sumOk [49, 54, 53, 50] = some 1652 := by rw [← itoa1652]; exact sumOk_itoa (by omega)
  show lineR (sumOk [49, 54, 53, 50]) [114, 117, 108, 101, 115] = 8
  rw [h2, lineR, if_pos (by decide)]
theorem bad_all : allT (lineL rul0 ++ ([114, 117, 108, 101, 115] ++ 32 :: 61 :: [49, 54, 53, 50] ++ [10])) = ⟨[], 0, 8⟩ := by
  obtain ⟨a, _, _⟩ := lnC_nl (p := [114, 117, 108, 101, 115] ++ 32 :: 61 :: [49, 54, 53, 50]) (r := []) (by decide)
  rw [bad_line] at a
  have h := lgS_bad (s := [114, 117, 108, 101, 115] ++ 32 :: 61 :: [49, 54, 53, 50] ++ [10]) (by simp) (by rw [a]; decide) (by rw [a]; decide)
  rw [a] at h
  rw [allT, if_neg (by rw [rul0_line]; decide), lgS_line rul0_chk, h]
  rfl
theorem bad_txt : (⟨#[114, 117, 108, 101, 115, 32, 61, 49, 54, 53, 49, 10, 114, 117, 108, 101, 115, 32, 61, 49, 54, 53, 50, 10]⟩ : ByteArray).data.toList = lineL rul0 ++ ([114, 117, 108, 101, 115] ++ 32 :: 61 :: [49, 54, 53, 50] ++ [10]) := by
  rw [rul0_line]; rfl
theorem chkOne_le (r : Rl) : oneE r = 0 ∨ oneE r = 3 ∨ oneE r = 1 := by
  unfold oneE
  split
  · split
    · exact .inl rfl
    · exact .inr (.inl rfl)
  · exact .inr (.inr rfl)
theorem chkR_le : ∀ l : List Rl, chkR l ≤ 3
  | [] => by decide
  | r :: l => by
    rw [chkR]
    split
    · exact chkR_le l
    · rcases chkOne_le r with h | h | h <;> omega
theorem chkOp_le (o : OpS) : chkOp o ≤ 3 := by
  have h1 : chkRs o.rs ≤ 3 := by
    unfold chkRs
    split
    · decide
    · exact chkR_le _
  have h2 : chkRec o.rcd ≤ 3 := by
    unfold chkRec
    repeat' split
    all_goals decide
  unfold chkOp
  repeat' split
  all_goals first | exact h1 | exact h2 | decide
theorem lineC_ne7 (l : List UInt8) : lineC l ≠ 7 := by
  rcases li_cases l with e | ⟨k, e, _, _⟩
  · rw [lineC_none e]; decide
  · rw [lineC_some e]
    unfold lineR
    split
    · decide
    · split
      · decide
      · unfold bodyC
        split
        · have := chkOp_le (parseL (l.take k)).1
          omega
        · decide
theorem bad_log {a b : List OpS} (ha : ∀ o ∈ a, chkOp o = 0) (hb : ∀ o ∈ b, chkOp o = 0) {p : List UInt8} (hp : (10 : UInt8) ∉ p) (hl : ¬ 20000 < (logL a ++ (p ++ 10 :: logL b)).length) :
    if lineC p = 0 then (allT (logL a ++ (p ++ 10 :: logL b))).e = 0 ∧ (allT (logL a ++ (p ++ 10 :: logL b))).n = (logL a ++ (p ++ 10 :: logL b)).length else allT (logL a ++ (p ++ 10 :: logL b)) = ⟨[], 0, lineC p⟩ := by
  obtain ⟨q1, q2, q3⟩ := lnC_nl (p := p) (r := logL b) hp
  rw [allT, if_neg hl, lgS_log ha]
  split
  · rename_i h0
    rw [h0, if_pos rfl] at q3
    have hst := lgS_step (s := p ++ 10 :: logL b) (by rw [q1]; exact h0)
    have hn : (lnN (p ++ 10 :: logL b)).toNat = p.length + 1 := by rw [q3]; omega
    have hdr : (p ++ 10 :: logL b).drop (p.length + 1) = logL b := by
      rw [← List.drop_drop, List.drop_left]; rfl
    have hb2 := lgS_log hb []
    rw [List.append_nil, lgS_stop (.inl rfl)] at hb2
    simp only [if_true, List.append_nil, Nat.add_zero] at hb2
    rw [hst, hn, hdr, hb2, comb, if_pos rfl]
    simp
    omega
  · rename_i h0
    rw [lgS_bad (by simp) (by rw [q1]; exact lineC_ne7 p) (by rw [q1]; exact h0), q1, if_neg h0]
theorem take_min6 (l : List OpS) (k : Nat) : List.take (if (k : Int) < (l.length : Int) then (k : Int) else (l.length : Int)).toNat (l.map opC') = (l.take k).map opC' := by
  rw [List.map_take]
  split
  · rw [Int.toNat_natCast]
  · rw [Int.toNat_natCast, List.take_of_length_le (by simp), List.take_of_length_le (by simp; omega)]
theorem len_take6 (l : List OpS) (k : Nat) (h : l.length ≤ maxLen) : (l.take k).length ≤ 9223372036854775807 := by
  have h2 : maxLen = 9223372036854775807 := rfl
  rw [List.length_take]
  omega
theorem LogBad_ok (a b : List OpS) (s : ByteArray) (ha : (∀ o ∈ a, whoI o.who) ∧ a.length ≤ maxLen) (hb : (∀ o ∈ b, whoI o.who) ∧ b.length ≤ maxLen) (hs : s.size ≤ 1048576) : Ok Tryd.prog 7 [opsV a, opsV b, S s] (B true) := by
  refine Ok.of_wp (rs := [.tmp 6]) (n := 118) Tryd.func7 rfl rfl rfl (by simp) fo (by kernel_rfl) ?_
  simp (decide := true) (maxSteps := 4000000) -implicitDefEqProofs only [evs, tabs, puts, siteD, gget, tget, tset, initT, dstAt, ev, evC, plain, Hp.get, Hp.set, bnd, isCells, isRow, SubA, SubC, Sub, SubL, CvA, Cv, dis, ordB, ite_self, exists_eq', List.mem_cons, List.not_mem_nil, Site.m.injEq, bne_self_eq_false, beq_iff_eq, bne_iff_ne, ↓reduceIte, Int.reduceAdd, Int.reduceSub, Int.reduceToNat, Int.reduceNeg, Nat.reduceAdd, Nat.reduceMul, Nat.reduceSub, exists_eq_left', exists_eq_left, implies_true, forall_const, Site.l.injEq, Site.e.injEq, reduceCtorEq, beq_self_eq_true, ne_eq]
  refine call_eq (logAll_ok _ (by decide)) ?_
  rw [bad_txt, bad_all]
  simp (decide := true) (maxSteps := 4000000) -implicitDefEqProofs only [evs, tabs, puts, siteD, gget, tget, tset, initT, dstAt, ev, evC, plain, Hp.get, Hp.set, bnd, isCells, isRow, SubA, SubC, Sub, SubL, CvA, Cv, dis, ordB, ite_self, exists_eq', List.mem_cons, List.not_mem_nil, Site.m.injEq, bne_self_eq_false, beq_iff_eq, bne_iff_ne, ↓reduceIte, Int.reduceAdd, Int.reduceSub, Int.reduceToNat, Int.reduceNeg, Nat.reduceAdd, Nat.reduceMul, Nat.reduceSub, exists_eq_left', exists_eq_left, implies_true, forall_const, Site.l.injEq, Site.e.injEq, reduceCtorEq, beq_self_eq_true, ne_eq]
  rw [show List.take (if (6 : Int) < (a.length : Int) then (6 : Int) else (a.length : Int)).toNat (a.map opC') = (a.take 6).map opC' from take_min6 a 6]
  refine ⟨by split <;> omega, by split <;> omega, ?_⟩
  refine call_eq (written_ok (a.take 6) (fun o ho => ha.1 o (List.mem_of_mem_take ho)) (len_take6 a 6 ha.2)) ?_
  have hka := keepW_ok 0 (a.take 6)
  have hla := kept_len (a.take 6)
  generalize keepW 0 (a.take 6) = K at *
  simp (decide := true) (maxSteps := 4000000) -implicitDefEqProofs only [evs, tabs, puts, siteD, gget, tget, tset, initT, dstAt, ev, evC, plain, Hp.get, Hp.set, bnd, isCells, isRow, SubA, SubC, Sub, SubL, CvA, Cv, dis, ordB, ite_self, exists_eq', List.mem_cons, List.not_mem_nil, Site.m.injEq, bne_self_eq_false, beq_iff_eq, bne_iff_ne, ↓reduceIte, Int.reduceAdd, Int.reduceSub, Int.reduceToNat, Int.reduceNeg, Nat.reduceAdd, Nat.reduceMul, Nat.reduceSub, exists_eq_left', exists_eq_left, implies_true, forall_const, Site.l.injEq, Site.e.injEq, reduceCtorEq, beq_self_eq_true, ne_eq]
  rw [show List.take (if (6 : Int) < (b.length : Int) then (6 : Int) else (b.length : Int)).toNat (b.map opC') = (b.take 6).map opC' from take_min6 b 6]
  refine ⟨by split <;> omega, by split <;> omega, ?_⟩
  refine call_eq (written_ok (b.take 6) (fun o ho => hb.1 o (List.mem_of_mem_take ho)) (len_take6 b 6 hb.2)) ?_
  have hkb := keepW_ok 0 (b.take 6)
  have hlb := kept_len (b.take 6)
  generalize keepW 0 (b.take 6) = M at *
  simp (decide := true) (maxSteps := 4000000) -implicitDefEqProofs only [evs, tabs, puts, siteD, gget, tget, tset, initT, dstAt, ev, evC, plain, Hp.get, Hp.set, bnd, isCells, isRow, SubA, SubC, Sub, SubL, CvA, Cv, dis, ordB, ite_self, exists_eq', List.mem_cons, List.not_mem_nil, Site.m.injEq, bne_self_eq_false, beq_iff_eq, bne_iff_ne, ↓reduceIte, Int.reduceAdd, Int.reduceSub, Int.reduceToNat, Int.reduceNeg, Nat.reduceAdd, Nat.reduceMul, Nat.reduceSub, exists_eq_left', exists_eq_left, implies_true, forall_const, Site.l.injEq, Site.e.injEq, reduceCtorEq, beq_self_eq_true, ne_eq]
  refine call_eq (Cut_ok s 10 (by omega)) ?_
  have hsz := size_eq s
  obtain ⟨p, hp, hcut, hpl⟩ : ∃ p, (10 : UInt8) ∉ p ∧ (Lib.cut s.data.toList [10]).1 = p ∧ p.length ≤ s.size := by
    rcases cut_cases 10 s.data.toList with ⟨h1, h2⟩ | ⟨x, y, h1, h2, h3⟩
    · exact ⟨_, h1, by rw [h2], by omega⟩
    · refine ⟨x, h2, by rw [h3], ?_⟩
      rw [hsz, h1]; simp
  rw [hcut]
  generalize (Lib.cut s.data.toList [10]).2.1 = c1
  generalize (Lib.cut s.data.toList [10]).2.2 = c2
  have k1 : (⟨#[10]⟩ : ByteArray).size = 1 := rfl
  have e1 : bs p ++ ⟨#[10]⟩ = bs (p ++ [10]) := by rw [show (⟨#[10]⟩ : ByteArray) = bs [10] from rfl, bs_app]
  simp (decide := true) (maxSteps := 4000000) -implicitDefEqProofs only [evs, tabs, puts, siteD, gget, tget, tset, initT, dstAt, ev, evC, plain, Hp.get, Hp.set, bnd, isCells, isRow, SubA, SubC, Sub, SubL, CvA, Cv, dis, ordB, ite_self, exists_eq', List.mem_cons, List.not_mem_nil, Site.m.injEq, bne_self_eq_false, beq_iff_eq, bne_iff_ne, ↓reduceIte, Int.reduceAdd, Int.reduceSub, Int.reduceToNat, Int.reduceNeg, Nat.reduceAdd, Nat.reduceMul, Nat.reduceSub, exists_eq_left', exists_eq_left, implies_true, forall_const, Site.l.injEq, Site.e.injEq, reduceCtorEq, beq_self_eq_true, ne_eq, bs_size, k1, e1]
  refine ⟨by omega, ?_⟩
  refine call_eq (logRead_ok (bs (p ++ [10])) (by rw [bs_size]; simp; omega)) ?_
  rw [bs_list]
  obtain ⟨q1, _, _⟩ := lnC_nl (p := p) (r := []) hp
  rw [show lnC (p ++ [10]) = lineC p from q1]
  generalize lnO (p ++ [10]) = o1
  generalize lnN (p ++ [10]) = n1
  have e2 : bs (logL K) ++ bs p ++ ⟨#[10]⟩ ++ bs (logL M) = bs (logL K ++ (p ++ 10 :: logL M)) := by
    rw [show (⟨#[10]⟩ : ByteArray) = bs [10] from rfl, bs_app, bs_app, bs_app]
    congr 1
    simp
  have e2l : (logL K ++ (p ++ 10 :: logL M)).length = (logL K).length + p.length + 1 + (logL M).length := by simp; omega
  have hz : ((bs (logL K) ++ bs p ++ ⟨#[10]⟩).size : Int) + (logL M).length = (logL K ++ (p ++ 10 :: logL M)).length := by
    rw [ba_size, ba_size, bs_size, bs_size, k1, e2l]; omega
  have hz2 : ((bs (logL K) ++ bs p).size : Int) = (logL K).length + p.length := by rw [ba_size, bs_size, bs_size]; omega
  simp (decide := true) (maxSteps := 4000000) -implicitDefEqProofs only [evs, tabs, puts, siteD, gget, tget, tset, initT, dstAt, ev, evC, plain, Hp.get, Hp.set, bnd, isCells, isRow, SubA, SubC, Sub, SubL, CvA, Cv, dis, ordB, ite_self, exists_eq', List.mem_cons, List.not_mem_nil, Site.m.injEq, bne_self_eq_false, beq_iff_eq, bne_iff_ne, ↓reduceIte, Int.reduceAdd, Int.reduceSub, Int.reduceToNat, Int.reduceNeg, Nat.reduceAdd, Nat.reduceMul, Nat.reduceSub, exists_eq_left', exists_eq_left, implies_true, forall_const, Site.l.injEq, Site.e.injEq, reduceCtorEq, beq_self_eq_true, ne_eq, bs_size, k1, e2]
  refine ⟨by omega, by omega, by omega, ?_⟩
  by_cases hbig : 20000 < (logL K ++ (p ++ 10 :: logL M)).length
  · rw [if_pos (by omega)]
    trivial
  · rw [if_neg (by omega)]
    have hB := bad_log hka hkb hp hbig
    have hln : ((logL K).length + (p.length + ((logL M).length + 1)) : Nat) = (logL K ++ (p ++ 10 :: logL M)).length := by omega
    refine call_eq (logAll_ok (bs (logL K ++ (p ++ 10 :: logL M))) (by rw [bs_size]; omega)) ?_
    rw [bs_list]
    by_cases h0 : lineC p = 0
    · rw [if_pos h0] at hB
      rw [hB.1, hB.2]
      simp (decide := true) (maxSteps := 4000000) -implicitDefEqProofs only [evs, tabs, puts, siteD, gget, tget, tset, initT, dstAt, ev, evC, plain, Hp.get, Hp.set, bnd, isCells, isRow, SubA, SubC, Sub, SubL, CvA, Cv, dis, ordB, ite_self, exists_eq', List.mem_cons, List.not_mem_nil, Site.m.injEq, bne_self_eq_false, beq_iff_eq, bne_iff_ne, ↓reduceIte, Int.reduceAdd, Int.reduceSub, Int.reduceToNat, Int.reduceNeg, Nat.reduceAdd, Nat.reduceMul, Nat.reduceSub, exists_eq_left', exists_eq_left, implies_true, forall_const, Site.l.injEq, Site.e.injEq, reduceCtorEq, beq_self_eq_true, ne_eq, h0, bs_size]
    · rw [if_neg h0] at hB
      rw [hB]
      simp (decide := true) (maxSteps := 4000000) -implicitDefEqProofs only [evs, tabs, puts, siteD, gget, tget, tset, initT, dstAt, ev, evC, plain, Hp.get, Hp.set, bnd, isCells, isRow, SubA, SubC, Sub, SubL, CvA, Cv, dis, ordB, ite_self, exists_eq', List.mem_cons, List.not_mem_nil, Site.m.injEq, bne_self_eq_false, beq_iff_eq, bne_iff_ne, ↓reduceIte, Int.reduceAdd, Int.reduceSub, Int.reduceToNat, Int.reduceNeg, Nat.reduceAdd, Nat.reduceMul, Nat.reduceSub, exists_eq_left', exists_eq_left, implies_true, forall_const, Site.l.injEq, Site.e.injEq, reduceCtorEq, beq_self_eq_true, ne_eq, h0]
      exact B_eq rfl
end Go.Proofs.YtonolfpnidaflaaDoor.E
