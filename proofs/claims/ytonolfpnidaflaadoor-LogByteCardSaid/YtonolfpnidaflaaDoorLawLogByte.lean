/- Walks: LogByte. No conditions. -/
import Derived.Test.YtonolfpnidaflaaDoorLogB
import Derived.Test.YtonolfpnidaflaaDoorOpE
namespace Go.Proofs.YtonolfpnidaflaaDoor.E
open Go
set_option linter.unusedSimpArgs false
set_option linter.unusedVariables false
set_option linter.unusedSectionVars false
set_option maxRecDepth 20000
set_option maxHeartbeats 1000000
theorem xor_u8 (a b : UInt8) : bits .xor .u8 (a.toNat : Int) (b.toNat : Int) = (((a ^^^ b).toNat : Nat) : Int) := by
  show IntKind.u8.wrap (((BitVec.ofInt 8 (a.toNat : Int)) ^^^ (BitVec.ofInt 8 (b.toNat : Int))).toNat : Int) = _
  have ha := a.toNat_lt
  have hb := b.toNat_lt
  have e : ∀ n : Nat, n < 256 → (BitVec.ofInt 8 (n : Int)).toNat = n := fun n hn => by
    rw [BitVec.ofInt_natCast, BitVec.toNat_ofNat]; exact Nat.mod_eq_of_lt hn
  rw [BitVec.toNat_xor, e _ ha, e _ hb, UInt8.toNat_xor]
  have h : a.toNat ^^^ b.toNat < 2 ^ 8 := Nat.xor_lt_two_pow ha hb
  show ((a.toNat ^^^ b.toNat : Nat) : Int) % 256 = _
  omega
theorem xor_ne {a c : UInt8} (h : c ≠ 0) : a ^^^ c ≠ a := by
  intro e
  apply h
  have : a ^^^ (a ^^^ c) = a ^^^ a := by rw [e]
  rwa [← UInt8.xor_assoc, UInt8.xor_self, UInt8.zero_xor] at this
theorem lineL_min {o : OpS} (h : chkOp o = 0) : 9 ≤ (lineL o).length := by
  have h1 := List.length_pos_iff.2 (itoa_nn (sumL (plainL o)))
  have h2 : 5 ≤ (plainL o).length := by
    unfold plainL
    split
    · have := List.length_pos_iff.2 (itoa_ne o.who.role)
      simp only [numsL, List.flatMap_cons, List.length_append, List.length_cons, List.length_nil]
      omega
    · split
      · have := List.length_pos_iff.2 (itoa_ne o.who.role)
        simp only [numsL, List.flatMap_cons, List.length_append, List.length_cons, List.length_nil]
        omega
      · simp only [List.length_append, List.length_cons, List.length_nil]
        omega
  simp only [lineL, List.length_append, List.length_cons, List.length_nil]
  omega
theorem LogByte_ok (o : OpS) (i : Int) (c : UInt8) (hw : whoI o.who) : Ok Tryd.prog 5 [opV o, I i, .val (.int .u8 c.toNat)] (B true) := by
  refine Ok.of_wp (rs := [.tmp 6]) (n := 84) Tryd.func5 rfl rfl rfl (by simp) fo (by kernel_rfl) ?_
  simp (decide := true) (maxSteps := 4000000) -implicitDefEqProofs only [evs, tabs, puts, siteD, gget, tget, tset, initT, dstAt, ev, evC, plain, Hp.get, Hp.set, bnd, isCells, isRow, SubA, SubC, Sub, SubL, CvA, Cv, dis, ordB, ite_self, exists_eq', List.mem_cons, List.not_mem_nil, Site.m.injEq, bne_self_eq_false, beq_iff_eq, bne_iff_ne, ↓reduceIte, Int.reduceAdd, Int.reduceSub, Int.reduceToNat, Int.reduceNeg, Nat.reduceAdd, Nat.reduceMul, Nat.reduceSub, exists_eq_left', exists_eq_left, implies_true, forall_const, Site.l.injEq, Site.e.injEq, reduceCtorEq, beq_self_eq_true, ne_eq]
  refine call_eq (Sum_ok ⟨#[97, 98]⟩ (by decide)) ?_
  rw [show sumL (⟨#[97, 98]⟩ : ByteArray).data.toList = 293 from rfl]
  simp (decide := true) (maxSteps := 4000000) -implicitDefEqProofs only [evs, tabs, puts, siteD, gget, tget, tset, initT, dstAt, ev, evC, plain, Hp.get, Hp.set, bnd, isCells, isRow, SubA, SubC, Sub, SubL, CvA, Cv, dis, ordB, ite_self, exists_eq', List.mem_cons, List.not_mem_nil, Site.m.injEq, bne_self_eq_false, beq_iff_eq, bne_iff_ne, ↓reduceIte, Int.reduceAdd, Int.reduceSub, Int.reduceToNat, Int.reduceNeg, Nat.reduceAdd, Nat.reduceMul, Nat.reduceSub, exists_eq_left', exists_eq_left, implies_true, forall_const, Site.l.injEq, Site.e.injEq, reduceCtorEq, beq_self_eq_true, ne_eq]
  refine call_eq (logWrite_ok o hw) ?_
  by_cases hc : chkOp o = 0
  · have hwr : writeL o = lineL o := if_pos hc
    rw [hwr]
    have hmin := lineL_min hc
    have hlen := lineL_len hc
    have hbl : (lineL o).length = (bodyL o).length + 1 := by rw [lineL_body]; simp
    by_cases h0 : c = 0
    · subst h0
      simp (decide := true) (maxSteps := 4000000) -implicitDefEqProofs only [evs, tabs, puts, siteD, gget, tget, tset, initT, dstAt, ev, evC, plain, Hp.get, Hp.set, bnd, isCells, isRow, SubA, SubC, Sub, SubL, CvA, Cv, dis, ordB, ite_self, exists_eq', List.mem_cons, List.not_mem_nil, Site.m.injEq, bne_self_eq_false, beq_iff_eq, bne_iff_ne, ↓reduceIte, Int.reduceAdd, Int.reduceSub, Int.reduceToNat, Int.reduceNeg, Nat.reduceAdd, Nat.reduceMul, Nat.reduceSub, exists_eq_left', exists_eq_left, implies_true, forall_const, Site.l.injEq, Site.e.injEq, reduceCtorEq, beq_self_eq_true, ne_eq, hc]
    · have h0' : ¬ (c.toNat : Int) = 0 := fun e => h0 (UInt8.toNat.inj (by simpa using e))
      have h9 : ¬ ((lineL o).length : Int) < 9 := by omega
      have w1 : IntKind.i64.wrap (((lineL o).length : Int) - 1) = (((bodyL o).length : Nat) : Int) := by rw [wr_i64 (by omega) (by omega)]; omega
      simp (decide := true) (maxSteps := 4000000) -implicitDefEqProofs only [evs, tabs, puts, siteD, gget, tget, tset, initT, dstAt, ev, evC, plain, Hp.get, Hp.set, bnd, isCells, isRow, SubA, SubC, Sub, SubL, CvA, Cv, dis, ordB, ite_self, exists_eq', List.mem_cons, List.not_mem_nil, Site.m.injEq, bne_self_eq_false, beq_iff_eq, bne_iff_ne, ↓reduceIte, Int.reduceAdd, Int.reduceSub, Int.reduceToNat, Int.reduceNeg, Nat.reduceAdd, Nat.reduceMul, Nat.reduceSub, exists_eq_left', exists_eq_left, implies_true, forall_const, Site.l.injEq, Site.e.injEq, reduceCtorEq, beq_self_eq_true, ne_eq, hc, h0', bs_size, h9, w1]
      refine call_eq (Within_ok _ _ (by omega) (by omega)) ?_
      obtain ⟨k, ek, hk⟩ := within_lt i (show 0 < (bodyL o).length by omega)
      rw [ek]
      obtain ⟨a, ha⟩ : ∃ a, (bodyL o)[k]? = some a := ⟨_, List.getElem?_eq_getElem hk⟩
      have ha' : (lineL o)[k]? = some a := by rw [lineL_body, List.getElem?_append_left hk]; exact ha
      have ha2 : (bs (lineL o)).data.toList[k]? = some a := ha'
      have w2 : IntKind.i64.wrap ((k : Int) + 1) = ((k + 1 : Nat) : Int) := by rw [wr_i64 (by omega) (by omega)]; omega
      have hT : (bs (lineL o)).extract 0 k ++ bs [a ^^^ c] ++ (bs (lineL o)).extract (k + 1) (lineL o).length = bs ((bodyL o).set k (a ^^^ c) ++ [10]) := by
        rw [bs_extract, bs_extract, bs_app, bs_app, List.take_length, List.drop_zero, lineL_body, List.take_append_of_le_length (by omega), List.drop_append_of_le_length (by omega), List.set_eq_take_append_cons_drop, if_pos hk]
        simp
      have hbad := byte_bad hc ha (xor_ne (a := a) h0)
      obtain ⟨g1, g2⟩ := ln_bad hbad
      have hsz : (bs ((bodyL o).set k (a ^^^ c) ++ [10])).size = (bodyL o).length + 1 := by rw [bs_size]; simp
      have hszs := congrArg ByteArray.size hT
      rw [hsz, ba_size, ba_size] at hszs
      simp (decide := true) (maxSteps := 4000000) -implicitDefEqProofs only [evs, tabs, puts, siteD, gget, tget, tset, initT, dstAt, ev, evC, plain, Hp.get, Hp.set, bnd, isCells, isRow, SubA, SubC, Sub, SubL, CvA, Cv, dis, ordB, ite_self, exists_eq', List.mem_cons, List.not_mem_nil, Site.m.injEq, bne_self_eq_false, beq_iff_eq, bne_iff_ne, ↓reduceIte, Int.reduceAdd, Int.reduceSub, Int.reduceToNat, Int.reduceNeg, Nat.reduceAdd, Nat.reduceMul, Nat.reduceSub, exists_eq_left', exists_eq_left, implies_true, forall_const, Site.l.injEq, Site.e.injEq, reduceCtorEq, beq_self_eq_true, ne_eq, bs_size, ha2, w2, xor_u8]
      refine ⟨by omega, [a ^^^ c], rfl, rfl, by simp, ?_⟩
      rw [show (⟨[a ^^^ c].toArray⟩ : ByteArray) = bs [a ^^^ c] from rfl, hT]
      refine ⟨by omega, by omega, by omega, by rw [ba_size]; omega, ?_⟩
      refine call_eq (logRead_ok (bs ((bodyL o).set k (a ^^^ c) ++ [10])) (by rw [hsz]; omega)) ?_
      rw [bs_list, g1, g2]
      by_cases h10 : ((a ^^^ c).toNat : Int) = 10
      · have h10' := eq_true h10
        simp (decide := true) (maxSteps := 4000000) -implicitDefEqProofs only [evs, tabs, puts, siteD, gget, tget, tset, initT, dstAt, ev, evC, plain, Hp.get, Hp.set, bnd, isCells, isRow, SubA, SubC, Sub, SubL, CvA, Cv, dis, ordB, ite_self, exists_eq', List.mem_cons, List.not_mem_nil, Site.m.injEq, bne_self_eq_false, beq_iff_eq, bne_iff_ne, ↓reduceIte, Int.reduceAdd, Int.reduceSub, Int.reduceToNat, Int.reduceNeg, Nat.reduceAdd, Nat.reduceMul, Nat.reduceSub, exists_eq_left', exists_eq_left, implies_true, forall_const, Site.l.injEq, Site.e.injEq, reduceCtorEq, beq_self_eq_true, ne_eq, ha2, xor_u8, h10', hbad]
      · simp (decide := true) (maxSteps := 4000000) -implicitDefEqProofs only [evs, tabs, puts, siteD, gget, tget, tset, initT, dstAt, ev, evC, plain, Hp.get, Hp.set, bnd, isCells, isRow, SubA, SubC, Sub, SubL, CvA, Cv, dis, ordB, ite_self, exists_eq', List.mem_cons, List.not_mem_nil, Site.m.injEq, bne_self_eq_false, beq_iff_eq, bne_iff_ne, ↓reduceIte, Int.reduceAdd, Int.reduceSub, Int.reduceToNat, Int.reduceNeg, Nat.reduceAdd, Nat.reduceMul, Nat.reduceSub, exists_eq_left', exists_eq_left, implies_true, forall_const, Site.l.injEq, Site.e.injEq, reduceCtorEq, beq_self_eq_true, ne_eq, ha2, xor_u8, h10, hbad]
        refine call_ok (SameOp_ok noOp (by decide) (by decide) (by decide)) (by simp (decide := true) (maxSteps := 4000000) -implicitDefEqProofs only [evs, tabs, puts, siteD, gget, tget, tset, initT, dstAt, ev, evC, plain, Hp.get, Hp.set, bnd, isCells, isRow, SubA, SubC, Sub, SubL, CvA, Cv, dis, ordB, ite_self, exists_eq', List.mem_cons, List.not_mem_nil, Site.m.injEq, bne_self_eq_false, beq_iff_eq, bne_iff_ne, ↓reduceIte, Int.reduceAdd, Int.reduceSub, Int.reduceToNat, Int.reduceNeg, Nat.reduceAdd, Nat.reduceMul, Nat.reduceSub, exists_eq_left', exists_eq_left, implies_true, forall_const, Site.l.injEq, Site.e.injEq, reduceCtorEq, beq_self_eq_true, ne_eq]; exact ⟨rfl, rfl, rfl, rfl, rfl, rfl, rfl, rfl, rfl⟩) ?_
        simp (decide := true) (maxSteps := 4000000) -implicitDefEqProofs only [evs, tabs, puts, siteD, gget, tget, tset, initT, dstAt, ev, evC, plain, Hp.get, Hp.set, bnd, isCells, isRow, SubA, SubC, Sub, SubL, CvA, Cv, dis, ordB, ite_self, exists_eq', List.mem_cons, List.not_mem_nil, Site.m.injEq, bne_self_eq_false, beq_iff_eq, bne_iff_ne, ↓reduceIte, Int.reduceAdd, Int.reduceSub, Int.reduceToNat, Int.reduceNeg, Nat.reduceAdd, Nat.reduceMul, Nat.reduceSub, exists_eq_left', exists_eq_left, implies_true, forall_const, Site.l.injEq, Site.e.injEq, reduceCtorEq, beq_self_eq_true, ne_eq]
  · have hwr : writeL o = [] := if_neg hc
    have he : decide (bs ([] : List UInt8) = ⟨#[]⟩) = true := decide_eq_true rfl
    rw [hwr]
    simp (decide := true) (maxSteps := 4000000) -implicitDefEqProofs only [evs, tabs, puts, siteD, gget, tget, tset, initT, dstAt, ev, evC, plain, Hp.get, Hp.set, bnd, isCells, isRow, SubA, SubC, Sub, SubL, CvA, Cv, dis, ordB, ite_self, exists_eq', List.mem_cons, List.not_mem_nil, Site.m.injEq, bne_self_eq_false, beq_iff_eq, bne_iff_ne, ↓reduceIte, Int.reduceAdd, Int.reduceSub, Int.reduceToNat, Int.reduceNeg, Nat.reduceAdd, Nat.reduceMul, Nat.reduceSub, exists_eq_left', exists_eq_left, implies_true, forall_const, Site.l.injEq, Site.e.injEq, reduceCtorEq, beq_self_eq_true, ne_eq, hc, toList_beq, he]
    exact B_eq (decide_eq_true trivial)
end Go.Proofs.YtonolfpnidaflaaDoor.E
