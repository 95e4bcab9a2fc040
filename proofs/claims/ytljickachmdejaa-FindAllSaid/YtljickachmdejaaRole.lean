/- Walks: package role. No conditions. -/
import Derived.Test.YtljickachmdejaaLabel
namespace Go.Proofs.Ytljickachmdejaa.E
open Go
set_option linter.unusedSimpArgs false
set_option linter.unusedVariables false
set_option linter.unusedSectionVars false
set_option maxRecDepth 20000
/-- Roles that may be, from the k-th on. -/
def upFrom : Nat → List Int → Bool
  | _, [] => true
  | k, x :: l => decide (0 ≤ x ∧ x < 2 ^ k) && upFrom (k + 1) l
def chkUp (l : List Int) : Int := if 8 < l.length then 2 else if upFrom 0 l then 0 else 1
def allL (up : List Nat) : Nat → Nat → Nat
  | 0, out => out
  | k + 1, out => allL up k (if out.testBit k then out ||| up.getD k 0 else out)
def allN (up : List Nat) (i : Nat) : Nat := allL up (i + 1) (2 ^ i)
def allI (l : List Int) (i : Nat) : Int := (allN (l.map Int.toNat) i : Int)
/-- What is said of a role among these. -/
def chkAt (l : List Int) (i : Int) : Int := if chkUp l = 0 then (if 0 ≤ i ∧ i < l.length then 0 else 4) else chkUp l
theorem upFrom_get : ∀ {l : List Int} {k i : Nat} {x : Int}, upFrom k l = true → l[i]? = some x → ∃ n : Nat, x = n ∧ n < 2 ^ (k + i)
  | y :: l, k, 0, x, h, e => by
    simp only [upFrom, Bool.and_eq_true, decide_eq_true_eq] at h
    simp only [List.getElem?_cons_zero, Option.some.injEq] at e
    subst e
    refine ⟨y.toNat, by omega, ?_⟩
    have := h.1.2
    have e2 : ((2 ^ k : Nat) : Int) = 2 ^ k := by simp
    show _ < 2 ^ k
    omega
  | y :: l, k, i + 1, x, h, e => by
    simp only [upFrom, Bool.and_eq_true, decide_eq_true_eq] at h
    obtain ⟨n, e1, e2⟩ := upFrom_get h.2 e
    exact ⟨n, e1, by rwa [show k + (i + 1) = k + 1 + i by omega]⟩
theorem upOk_of {l : List Int} (hc : chkUp l = 0) : l.length ≤ 8 ∧ upFrom 0 l = true := by
  unfold chkUp at hc
  split at hc
  · omega
  · split at hc
    · exact ⟨by omega, by assumption⟩
    · omega
theorem getD_toNat {l : List Int} {i : Nat} {x : Int} (h : l[i]? = some x) : (l.map Int.toNat).getD i 0 = x.toNat := by
  simp [List.getD, h]
def within (k n : Int) : Int := (k % 2 ^ 64) % n
theorem Within_ok (k n : Int) (h : 0 < n) (h2 : n < 2 ^ 63) : Ok Try.prog 15 [I k, I n] (I (within k n)) := by
  refine Ok.of_wp (rs := [.tmp 4]) (n := 11) Try.func15 rfl rfl rfl (by simp) fo (by kernel_rfl) ?_
  simp (decide := true) (maxSteps := 4000000) -implicitDefEqProofs only [evs, tabs, puts, siteD, gget, tget, tset, initT, dstAt, ev, evC, plain, Hp.get, Hp.set, bnd, isCells, isRow, SubA, SubC, Sub, SubL, CvA, Cv, dis, ordB, ite_self, exists_eq', List.mem_cons, List.not_mem_nil, Site.m.injEq, bne_self_eq_false, beq_iff_eq, bne_iff_ne, ↓reduceIte, Int.reduceAdd, Int.reduceSub, Int.reduceToNat, Int.reduceNeg, Nat.reduceAdd, Nat.reduceMul, Nat.reduceSub, exists_eq_left', exists_eq_left, implies_true, forall_const, Site.l.injEq, Site.e.injEq, reduceCtorEq, beq_self_eq_true, ne_eq]
  have e1 : ∀ x : Int, IntKind.u64.wrap x = x % 2 ^ 64 := fun x => rfl
  rw [e1 n, e1 k, Int.emod_eq_of_lt (by omega) (by omega)]
  refine ⟨by omega, I_eq ?_⟩
  have h3 : 0 ≤ k % 2 ^ 64 := Int.emod_nonneg _ (by omega)
  rw [Int.tmod_eq_emod_of_nonneg h3]
  have h4 : 0 ≤ (k % 2 ^ 64) % n := Int.emod_nonneg _ (by omega)
  have h5 : (k % 2 ^ 64) % n < n := Int.emod_lt_of_pos _ h
  exact wr_i64 (by omega) (by omega)
def upsL : Nat → List Int → List Int
  | _, [] => []
  | i, x :: l => within x (2 ^ i : Nat) :: upsL (i + 1) l
theorem upsL_length (k : Nat) (l : List Int) : (upsL k l).length = l.length := by
  induction l generalizing k with
  | nil => rfl
  | cons x l ih => simp [upsL, ih]
theorem upsL_app (k : Nat) (l m : List Int) : upsL k (l ++ m) = upsL k l ++ upsL (k + l.length) m := by
  induction l generalizing k with
  | nil => simp [upsL]
  | cons x l ih => simp [upsL, ih, Nat.add_assoc, Nat.add_comm 1]
end Go.Proofs.Ytljickachmdejaa.E
