/- Walks: bits that are counted, of numbers below 256; a label's rank and count. No conditions. -/
import Derived.Test.YthpfjigkhbabnabLabelC
namespace Go.Proofs.Ythpfjigkhbabnab.E
open Go
set_option linter.unusedSimpArgs false
set_option linter.unusedVariables false
set_option linter.unusedSectionVars false
set_option maxRecDepth 20000
def pop (n : Nat) : Nat := (n.testBit 0).toNat + (n.testBit 1).toNat + (n.testBit 2).toNat + (n.testBit 3).toNat + (n.testBit 4).toNat + (n.testBit 5).toNat + (n.testBit 6).toNat + (n.testBit 7).toNat
abbrev U (n : Int) : AV := .val (.int .u64 n)
theorem ones64_ok {n : Nat} (h : n < 256) : Ok Try.prog 36 [U n] (I (pop n)) := by
  refine Ok.of_wp (rs := [.tmp 2]) (n := 35) Try.func36 rfl rfl rfl (by simp) fo (by kernel_rfl) ?_
  simp (decide := true) (maxSteps := 4000000) -implicitDefEqProofs only [evs, tabs, puts, siteD, gget, tget, tset, initT, dstAt, ev, evC, plain, Hp.get, Hp.set, bnd, isCells, isRow, SubA, SubC, Sub, SubL, CvA, Cv, dis, ordB, List.mem_cons, List.not_mem_nil, Site.m.injEq, bne_self_eq_false, beq_iff_eq, bne_iff_ne, ↓reduceIte, Int.reduceAdd, Int.reduceSub, Int.reduceToNat, Int.reduceNeg, Nat.reduceAdd, Nat.reduceMul, Nat.reduceSub, exists_eq_left', exists_eq_left, implies_true, forall_const, Site.l.injEq, Site.e.injEq, reduceCtorEq, beq_self_eq_true, ne_eq]
  refine I_eq ?_
  revert n
  decide +kernel
theorem ones_ok {n : Nat} (h : n < 256) : Ok Try.prog 30 [U n] (I (pop n)) := by
  refine Ok.of_wp (rs := [.tmp 2]) (n := 8) Try.func30 rfl rfl rfl (by simp) fo (by kernel_rfl) ?_
  simp (decide := true) (maxSteps := 4000000) -implicitDefEqProofs only [evs, tabs, puts, siteD, gget, tget, tset, initT, dstAt, ev, evC, plain, Hp.get, Hp.set, bnd, isCells, isRow, SubA, SubC, Sub, SubL, CvA, Cv, dis, ordB, List.mem_cons, List.not_mem_nil, Site.m.injEq, bne_self_eq_false, beq_iff_eq, bne_iff_ne, ↓reduceIte, Int.reduceAdd, Int.reduceSub, Int.reduceToNat, Int.reduceNeg, Nat.reduceAdd, Nat.reduceMul, Nat.reduceSub, exists_eq_left', exists_eq_left, implies_true, forall_const, Site.l.injEq, Site.e.injEq, reduceCtorEq, beq_self_eq_true, ne_eq]
  refine call_eq (ones64_ok h) ?_
  simp (decide := true) (maxSteps := 4000000) -implicitDefEqProofs only [evs, tabs, puts, siteD, gget, tget, tset, initT, dstAt, ev, evC, plain, Hp.get, Hp.set, bnd, isCells, isRow, SubA, SubC, Sub, SubL, CvA, Cv, dis, ordB, List.mem_cons, List.not_mem_nil, Site.m.injEq, bne_self_eq_false, beq_iff_eq, bne_iff_ne, ↓reduceIte, Int.reduceAdd, Int.reduceSub, Int.reduceToNat, Int.reduceNeg, Nat.reduceAdd, Nat.reduceMul, Nat.reduceSub, exists_eq_left', exists_eq_left, implies_true, forall_const, Site.l.injEq, Site.e.injEq, reduceCtorEq, beq_self_eq_true, ne_eq]
theorem pop_le (n : Nat) : pop n ≤ 8 := by
  unfold pop
  have h : ∀ b : Bool, b.toNat ≤ 1 := by decide
  have h0 := h (n.testBit 0); have h1 := h (n.testBit 1); have h2 := h (n.testBit 2); have h3 := h (n.testBit 3)
  have h4 := h (n.testBit 4); have h5 := h (n.testBit 5); have h6 := h (n.testBit 6); have h7 := h (n.testBit 7)
  omega
theorem okLab_nat {x p : Nat} (hx : x < 4) (hp : p < 256) : okLab x p = true := by
  simp only [okLab, decide_eq_true_eq]; omega
theorem Rank_ok {x p : Nat} (hx : x < 4) (hp : p < 256) : Ok Try.prog 19 [lab x p] (.tup [I ((x + pop p : Nat) : Int), I 0]) := by
  refine Ok.of_wp (rs := [.tmp 2, .tmp 3]) (n := 17) Try.func19 rfl rfl rfl (by simp) fo (by kernel_rfl) ?_
  simp (decide := true) (maxSteps := 4000000) -implicitDefEqProofs only [evs, tabs, puts, siteD, gget, tget, tset, initT, dstAt, ev, evC, plain, Hp.get, Hp.set, bnd, isCells, isRow, SubA, SubC, Sub, SubL, CvA, Cv, dis, ordB, List.mem_cons, List.not_mem_nil, Site.m.injEq, bne_self_eq_false, beq_iff_eq, bne_iff_ne, ↓reduceIte, Int.reduceAdd, Int.reduceSub, Int.reduceToNat, Int.reduceNeg, Nat.reduceAdd, Nat.reduceMul, Nat.reduceSub, exists_eq_left', exists_eq_left, implies_true, forall_const, Site.l.injEq, Site.e.injEq, reduceCtorEq, beq_self_eq_true, ne_eq]
  refine call_eq (Check_ok x p) ?_
  rw [okLab_nat hx hp]
  simp (decide := true) (maxSteps := 4000000) -implicitDefEqProofs only [evs, tabs, puts, siteD, gget, tget, tset, initT, dstAt, ev, evC, plain, Hp.get, Hp.set, bnd, isCells, isRow, SubA, SubC, Sub, SubL, CvA, Cv, dis, ordB, List.mem_cons, List.not_mem_nil, Site.m.injEq, bne_self_eq_false, beq_iff_eq, bne_iff_ne, ↓reduceIte, Int.reduceAdd, Int.reduceSub, Int.reduceToNat, Int.reduceNeg, Nat.reduceAdd, Nat.reduceMul, Nat.reduceSub, exists_eq_left', exists_eq_left, implies_true, forall_const, Site.l.injEq, Site.e.injEq, reduceCtorEq, beq_self_eq_true, ne_eq]
  have e : IntKind.u64.wrap (p : Int) = p := Int.emod_eq_of_lt (by omega) (by show (p : Int) < 2 ^ 64; omega)
  rw [e]
  refine call_eq (ones_ok hp) ?_
  have h8 := pop_le p
  have e2 : IntKind.i64.wrap ((x : Int) + (pop p : Nat)) = ((x + pop p : Nat) : Int) := by rw [wr_i64 (by omega) (by omega)]; omega
  simp (decide := true) (maxSteps := 4000000) -implicitDefEqProofs only [evs, tabs, puts, siteD, gget, tget, tset, initT, dstAt, ev, evC, plain, Hp.get, Hp.set, bnd, isCells, isRow, SubA, SubC, Sub, SubL, CvA, Cv, dis, ordB, List.mem_cons, List.not_mem_nil, Site.m.injEq, bne_self_eq_false, beq_iff_eq, bne_iff_ne, ↓reduceIte, Int.reduceAdd, Int.reduceSub, Int.reduceToNat, Int.reduceNeg, Nat.reduceAdd, Nat.reduceMul, Nat.reduceSub, exists_eq_left', exists_eq_left, implies_true, forall_const, Site.l.injEq, Site.e.injEq, reduceCtorEq, beq_self_eq_true, ne_eq, e2]
theorem Count_ok {x p : Nat} (hx : x < 4) (hp : p < 256) : Ok Try.prog 15 [lab x p] (.tup [I (((x + 1) * 2 ^ pop p : Nat) : Int), I 0]) := by
  refine Ok.of_wp (rs := [.tmp 2, .tmp 3]) (n := 18) Try.func15 rfl rfl rfl (by simp) fo (by kernel_rfl) ?_
  simp (decide := true) (maxSteps := 4000000) -implicitDefEqProofs only [evs, tabs, puts, siteD, gget, tget, tset, initT, dstAt, ev, evC, plain, Hp.get, Hp.set, bnd, isCells, isRow, SubA, SubC, Sub, SubL, CvA, Cv, dis, ordB, List.mem_cons, List.not_mem_nil, Site.m.injEq, bne_self_eq_false, beq_iff_eq, bne_iff_ne, ↓reduceIte, Int.reduceAdd, Int.reduceSub, Int.reduceToNat, Int.reduceNeg, Nat.reduceAdd, Nat.reduceMul, Nat.reduceSub, exists_eq_left', exists_eq_left, implies_true, forall_const, Site.l.injEq, Site.e.injEq, reduceCtorEq, beq_self_eq_true, ne_eq]
  refine call_eq (Check_ok x p) ?_
  rw [okLab_nat hx hp]
  simp (decide := true) (maxSteps := 4000000) -implicitDefEqProofs only [evs, tabs, puts, siteD, gget, tget, tset, initT, dstAt, ev, evC, plain, Hp.get, Hp.set, bnd, isCells, isRow, SubA, SubC, Sub, SubL, CvA, Cv, dis, ordB, List.mem_cons, List.not_mem_nil, Site.m.injEq, bne_self_eq_false, beq_iff_eq, bne_iff_ne, ↓reduceIte, Int.reduceAdd, Int.reduceSub, Int.reduceToNat, Int.reduceNeg, Nat.reduceAdd, Nat.reduceMul, Nat.reduceSub, exists_eq_left', exists_eq_left, implies_true, forall_const, Site.l.injEq, Site.e.injEq, reduceCtorEq, beq_self_eq_true, ne_eq]
  have e : IntKind.u64.wrap (p : Int) = p := Int.emod_eq_of_lt (by omega) (by show (p : Int) < 2 ^ 64; omega)
  rw [e]
  refine call_eq (ones_ok hp) ?_
  have h8 := pop_le p
  have e2 : IntKind.i64.wrap ((x : Int) + 1) = (x : Int) + 1 := wr_i64 (by omega) (by omega)
  have h256 : (2 : Nat) ^ pop p ≤ 2 ^ 8 := Nat.pow_le_pow_right (by omega) h8
  have h4 : (x + 1) * 2 ^ pop p ≤ 4 * 2 ^ 8 := Nat.mul_le_mul (by omega) h256
  have e3 : IntKind.i64.wrap (((x : Int) + 1) * 2 ^ min (pop p) IntKind.i64.bits) = (((x + 1) * 2 ^ pop p : Nat) : Int) := by
    rw [i64_bits, Nat.min_eq_left (by omega)]
    have : ((x : Int) + 1) * 2 ^ pop p = (((x + 1) * 2 ^ pop p : Nat) : Int) := by simp
    rw [this]
    exact i64_nat (by omega)
  simp (decide := true) (maxSteps := 4000000) -implicitDefEqProofs only [evs, tabs, puts, siteD, gget, tget, tset, initT, dstAt, ev, evC, plain, Hp.get, Hp.set, bnd, isCells, isRow, SubA, SubC, Sub, SubL, CvA, Cv, dis, ordB, List.mem_cons, List.not_mem_nil, Site.m.injEq, bne_self_eq_false, beq_iff_eq, bne_iff_ne, ↓reduceIte, Int.reduceAdd, Int.reduceSub, Int.reduceToNat, Int.reduceNeg, Nat.reduceAdd, Nat.reduceMul, Nat.reduceSub, exists_eq_left', exists_eq_left, implies_true, forall_const, Site.l.injEq, Site.e.injEq, reduceCtorEq, beq_self_eq_true, ne_eq, e2, e3]
theorem pop_sum (p q : Nat) : pop (p ||| q) + pop (p &&& q) = pop p + pop q := by
  have h : ∀ a b : Bool, (a || b).toNat + (a && b).toNat = a.toNat + b.toNat := by decide
  simp only [pop, Nat.testBit_or, Nat.testBit_and]
  have h0 := h (p.testBit 0) (q.testBit 0); have h1 := h (p.testBit 1) (q.testBit 1); have h2 := h (p.testBit 2) (q.testBit 2); have h3 := h (p.testBit 3) (q.testBit 3)
  have h4 := h (p.testBit 4) (q.testBit 4); have h5 := h (p.testBit 5) (q.testBit 5); have h6 := h (p.testBit 6) (q.testBit 6); have h7 := h (p.testBit 7) (q.testBit 7)
  omega
theorem pop_mono {p q : Nat} : pop p ≤ pop (p ||| q) := by
  have h : ∀ a b : Bool, a.toNat ≤ (a || b).toNat := by decide
  simp only [pop, Nat.testBit_or]
  have h0 := h (p.testBit 0) (q.testBit 0); have h1 := h (p.testBit 1) (q.testBit 1); have h2 := h (p.testBit 2) (q.testBit 2); have h3 := h (p.testBit 3) (q.testBit 3)
  have h4 := h (p.testBit 4) (q.testBit 4); have h5 := h (p.testBit 5) (q.testBit 5); have h6 := h (p.testBit 6) (q.testBit 6); have h7 := h (p.testBit 7) (q.testBit 7)
  omega
theorem pop_eq {p q : Nat} (hp : p < 256) (hq : q < 256) (e : pop (p ||| q) = pop p) : p ||| q = p := by
  have h : ∀ a b : Bool, a.toNat ≤ (a || b).toNat ∧ ((a || b).toNat = a.toNat → (a || b) = a) := by decide
  simp only [pop, Nat.testBit_or] at e
  have h0 := h (p.testBit 0) (q.testBit 0); have h1 := h (p.testBit 1) (q.testBit 1); have h2 := h (p.testBit 2) (q.testBit 2); have h3 := h (p.testBit 3) (q.testBit 3)
  have h4 := h (p.testBit 4) (q.testBit 4); have h5 := h (p.testBit 5) (q.testBit 5); have h6 := h (p.testBit 6) (q.testBit 6); have h7 := h (p.testBit 7) (q.testBit 7)
  apply Nat.eq_of_testBit_eq
  intro i
  rw [Nat.testBit_or]
  rcases Nat.lt_or_ge i 8 with hi | hi
  · have : i = 0 ∨ i = 1 ∨ i = 2 ∨ i = 3 ∨ i = 4 ∨ i = 5 ∨ i = 6 ∨ i = 7 := by omega
    rcases this with rfl | rfl | rfl | rfl | rfl | rfl | rfl | rfl
    · exact h0.2 (by omega)
    · exact h1.2 (by omega)
    · exact h2.2 (by omega)
    · exact h3.2 (by omega)
    · exact h4.2 (by omega)
    · exact h5.2 (by omega)
    · exact h6.2 (by omega)
    · exact h7.2 (by omega)
  · have h28 : 2 ^ 8 ≤ 2 ^ i := Nat.pow_le_pow_right (by omega) hi
    rw [Nat.testBit_lt_two_pow (show p < 2 ^ i by omega), Nat.testBit_lt_two_pow (show q < 2 ^ i by omega)]; rfl
end Go.Proofs.Ythpfjigkhbabnab.E
