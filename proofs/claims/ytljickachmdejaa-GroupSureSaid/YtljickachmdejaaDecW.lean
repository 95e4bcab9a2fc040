/- Walks: wyref.Dec of numbers below a hundred. No conditions. -/
import Derived.Test.YtljickachmdejaaShipM
namespace Go.Proofs.Ytljickachmdejaa.E
open Go
set_option linter.unusedSimpArgs false
set_option linter.unusedVariables false
set_option linter.unusedSectionVars false
set_option maxRecDepth 20000
set_option maxHeartbeats 2000000
theorem dig_size (n : Nat) : (dig n).size ≤ 10 := by
  unfold dig
  rw [ByteArray.size_extract]
  have : (⟨#[48, 49, 50, 51, 52, 53, 54, 55, 56, 57]⟩ : ByteArray).size = 10 := rfl
  omega
theorem Dec1_ok {d : Nat} (h : d < 10) : Ok Try.prog 31 [I d] (S (dig d)) := by
  have h1 : Int.tmod (d : Int) 10 = d := by rw [Int.tmod_eq_emod_of_nonneg (by omega)]; omega
  have h2 : Int.tdiv (d : Int) 10 = 0 := by rw [Int.tdiv_eq_ediv_of_nonneg (by omega)]; omega
  have h3 : ¬ ((d : Int) < 0) := by omega
  have h4 : IntKind.i64.wrap (d : Int) = d := wr_i64 (by omega) (by omega)
  have h5 : IntKind.i64.wrap ((d : Int) + 1) = ((d + 1 : Nat) : Int) := by rw [wr_i64 (by omega) (by omega)]; omega
  have h6 : IntKind.i64.wrap 0 = 0 := rfl
  have h7 : (⟨#[48, 49, 50, 51, 52, 53, 54, 55, 56, 57]⟩ : ByteArray).size = 10 := rfl
  refine Ok.of_wp (rs := [.tmp 2]) (n := 30) Try.func31 rfl rfl rfl (by simp) fo (by kernel_rfl) ?_
  simp (decide := true) (maxSteps := 4000000) -implicitDefEqProofs only [evs, tabs, puts, siteD, gget, tget, tset, initT, dstAt, ev, evC, plain, Hp.get, Hp.set, bnd, isCells, isRow, SubA, SubC, Sub, SubL, CvA, Cv, dis, ordB, ite_self, exists_eq', List.mem_cons, List.not_mem_nil, Site.m.injEq, bne_self_eq_false, beq_iff_eq, bne_iff_ne, ↓reduceIte, Int.reduceAdd, Int.reduceSub, Int.reduceToNat, Int.reduceNeg, Nat.reduceAdd, Nat.reduceMul, Nat.reduceSub, exists_eq_left', exists_eq_left, implies_true, forall_const, Site.l.injEq, Site.e.injEq, reduceCtorEq, beq_self_eq_true, ne_eq, h1, h2, h3, h4, h5, h6]
  exact ⟨by omega, by rw [h7]; omega, rfl⟩
theorem Dec2_ok {n : Nat} (h : n < 100) : Ok Try.prog 31 [I n] (S (dec2 n)) := by
  unfold dec2
  by_cases hn : n < 10
  · rw [if_pos hn]; exact Dec1_ok hn
  rw [if_neg hn]
  have h1 : Int.tmod (n : Int) 10 = ((n % 10 : Nat) : Int) := by rw [Int.tmod_eq_emod_of_nonneg (by omega)]; omega
  have h2 : Int.tdiv (n : Int) 10 = ((n / 10 : Nat) : Int) := by rw [Int.tdiv_eq_ediv_of_nonneg (by omega)]; omega
  have h3 : ¬ ((n : Int) < 0) := by omega
  have h4 : IntKind.i64.wrap ((n % 10 : Nat) : Int) = ((n % 10 : Nat) : Int) := wr_i64 (by omega) (by omega)
  have h5 : IntKind.i64.wrap (((n % 10 : Nat) : Int) + 1) = ((n % 10 + 1 : Nat) : Int) := by rw [wr_i64 (by omega) (by omega)]; omega
  have h6 : IntKind.i64.wrap ((n / 10 : Nat) : Int) = ((n / 10 : Nat) : Int) := wr_i64 (by omega) (by omega)
  have h7 : (⟨#[48, 49, 50, 51, 52, 53, 54, 55, 56, 57]⟩ : ByteArray).size = 10 := rfl
  have h8 : ¬ (((n / 10 : Nat) : Int) = 0) := by omega
  have s1 := dig_size (n / 10)
  have s2 := dig_size (n % 10)
  refine Ok.of_wp (rs := [.tmp 2]) (n := 30) Try.func31 rfl rfl rfl (by simp) fo (by kernel_rfl) ?_
  simp (decide := true) (maxSteps := 4000000) -implicitDefEqProofs only [evs, tabs, puts, siteD, gget, tget, tset, initT, dstAt, ev, evC, plain, Hp.get, Hp.set, bnd, isCells, isRow, SubA, SubC, Sub, SubL, CvA, Cv, dis, ordB, ite_self, exists_eq', List.mem_cons, List.not_mem_nil, Site.m.injEq, bne_self_eq_false, beq_iff_eq, bne_iff_ne, ↓reduceIte, Int.reduceAdd, Int.reduceSub, Int.reduceToNat, Int.reduceNeg, Nat.reduceAdd, Nat.reduceMul, Nat.reduceSub, exists_eq_left', exists_eq_left, implies_true, forall_const, Site.l.injEq, Site.e.injEq, reduceCtorEq, beq_self_eq_true, ne_eq, h1, h2, h3, h4, h5, h6, h8]
  refine ⟨by omega, by rw [h7]; omega, ?_⟩
  refine call_eq (Dec1_ok (d := n / 10) (by omega)) ?_
  simp (decide := true) (maxSteps := 4000000) -implicitDefEqProofs only [evs, tabs, puts, siteD, gget, tget, tset, initT, dstAt, ev, evC, plain, Hp.get, Hp.set, bnd, isCells, isRow, SubA, SubC, Sub, SubL, CvA, Cv, dis, ordB, ite_self, exists_eq', List.mem_cons, List.not_mem_nil, Site.m.injEq, bne_self_eq_false, beq_iff_eq, bne_iff_ne, ↓reduceIte, Int.reduceAdd, Int.reduceSub, Int.reduceToNat, Int.reduceNeg, Nat.reduceAdd, Nat.reduceMul, Nat.reduceSub, exists_eq_left', exists_eq_left, implies_true, forall_const, Site.l.injEq, Site.e.injEq, reduceCtorEq, beq_self_eq_true, ne_eq]
  exact ⟨by have : (ByteArray.extract ⟨#[48, 49, 50, 51, 52, 53, 54, 55, 56, 57]⟩ (n % 10) (n % 10 + 1)).size ≤ 10 := s2; omega, rfl⟩
end Go.Proofs.Ytljickachmdejaa.E
