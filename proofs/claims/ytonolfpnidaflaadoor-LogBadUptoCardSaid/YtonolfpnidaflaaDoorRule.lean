/- Walks: package rule. No conditions. -/
import Derived.Test.YtonolfpnidaflaaDoorRoleP
import Derived.Test.YtonolfpnidaflaaDoorSlices
import Derived.Test.YtonolfpnidaflaaDoorReadB
namespace Go.Proofs.YtonolfpnidaflaaDoor.E
open Go
set_option linter.unusedSimpArgs false
set_option linter.unusedVariables false
set_option linter.unusedSectionVars false
set_option maxRecDepth 20000
structure Rl where
  role : Int
  why : Int
  fr : Int
  to : Int
  cats : Int
  allow : Bool
structure Wh where
  role : Int
  why : Int
  time : Int
abbrev ruleV (r : Rl) : AV := .agg [I r.role, I r.why, I r.fr, I r.to, I r.cats, B r.allow]
abbrev rules (l : List Rl) : AV := .list 6 (l.map fun r => [I r.role, I r.why, I r.fr, I r.to, I r.cats, B r.allow])
abbrev whoV (w : Wh) : AV := .agg [I w.role, I w.why, I w.time]
def oneOk (r : Rl) : Bool := decide (-1 ≤ r.role ∧ r.role < 8 ∧ -1 ≤ r.why ∧ r.why < 4 ∧ 0 ≤ r.fr ∧ r.to ≤ 1000 ∧ 0 ≤ r.cats ∧ r.cats < 256)
def oneE (r : Rl) : Int := if oneOk r then (if r.fr < r.to then 0 else 3) else 1
def chkR : List Rl → Int
  | [] => 0
  | r :: l => if oneE r = 0 then chkR l else oneE r
def chkRs (l : List Rl) : Int := if 20 < l.length then 2 else chkR l
def whoOk (w : Wh) : Bool := decide (0 ≤ w.role ∧ w.role < 8 ∧ 0 ≤ w.why ∧ w.why < 4 ∧ 0 ≤ w.time ∧ w.time < 1000)
def fitsN (roles : Nat) (w : Wh) (r : Rl) : Bool := (decide (r.role < 0) || roles.testBit r.role.toNat) && (decide (r.why < 0) || decide (r.why = w.why)) && decide (r.fr ≤ w.time) && decide (w.time < r.to)
def yesN (f : Rl → Bool) : List Rl → Nat → Nat
  | [], a => a
  | r :: l, a => yesN f l (if f r && r.allow then a ||| r.cats.toNat else a)
def noN (f : Rl → Bool) : List Rl → Nat → Nat
  | [], a => a
  | r :: l, a => noN f l (if f r && !r.allow then a ||| r.cats.toNat else a)
def seesE (up : List Int) (l : List Rl) (w : Wh) : Int := if chkUp up = 0 then (if chkRs l = 0 then (if whoOk w then chkAt up w.role else 1) else chkRs l) else chkUp up
def seesM (up : List Int) (l : List Rl) (w : Wh) : Nat :=
  let f := fitsN (allN (up.map Int.toNat) w.role.toNat) w
  yesN f l 0 ^^^ (yesN f l 0 &&& noN f l 0)
theorem oneE_bad {r : Rl} (h : ¬ (-1 ≤ r.role ∧ r.role < 8 ∧ -1 ≤ r.why ∧ r.why < 4 ∧ 0 ≤ r.fr ∧ r.to ≤ 1000 ∧ 0 ≤ r.cats ∧ r.cats < 256)) : I 1 = I (oneE r) := by
  rw [oneE, oneOk, decide_eq_false h]; rfl
theorem One_ok (r : Rl) : Ok Tryd.prog 83 [ruleV r] (I (oneE r)) := by
  refine Ok.of_wp (rs := [.tmp 2]) (n := 42) Tryd.func83 rfl rfl rfl (by simp) fo (by kernel_rfl) ?_
  simp (decide := true) (maxSteps := 4000000) -implicitDefEqProofs only [evs, tabs, puts, siteD, gget, tget, tset, initT, dstAt, ev, evC, plain, Hp.get, Hp.set, bnd, isCells, isRow, SubA, SubC, Sub, SubL, CvA, Cv, dis, ordB, ite_self, exists_eq', List.mem_cons, List.not_mem_nil, Site.m.injEq, bne_self_eq_false, beq_iff_eq, bne_iff_ne, ↓reduceIte, Int.reduceAdd, Int.reduceSub, Int.reduceToNat, Int.reduceNeg, Nat.reduceAdd, Nat.reduceMul, Nat.reduceSub, exists_eq_left', exists_eq_left, implies_true, forall_const, Site.l.injEq, Site.e.injEq, reduceCtorEq, beq_self_eq_true, ne_eq]
  split
  · exact oneE_bad (by omega)
  · split
    · exact oneE_bad (by omega)
    · split
      · exact oneE_bad (by omega)
      · split
        · exact oneE_bad (by omega)
        · split
          · exact oneE_bad (by omega)
          · split
            · exact oneE_bad (by omega)
            · refine call_eq (Cats_ok r.cats) ?_
              by_cases hc : 0 ≤ r.cats ∧ r.cats < 256
              · rw [decide_eq_true hc]
                simp (decide := true) (maxSteps := 4000000) -implicitDefEqProofs only [evs, tabs, puts, siteD, gget, tget, tset, initT, dstAt, ev, evC, plain, Hp.get, Hp.set, bnd, isCells, isRow, SubA, SubC, Sub, SubL, CvA, Cv, dis, ordB, ite_self, exists_eq', List.mem_cons, List.not_mem_nil, Site.m.injEq, bne_self_eq_false, beq_iff_eq, bne_iff_ne, ↓reduceIte, Int.reduceAdd, Int.reduceSub, Int.reduceToNat, Int.reduceNeg, Nat.reduceAdd, Nat.reduceMul, Nat.reduceSub, exists_eq_left', exists_eq_left, implies_true, forall_const, Site.l.injEq, Site.e.injEq, reduceCtorEq, beq_self_eq_true, ne_eq]
                have : oneOk r = true := decide_eq_true (by omega)
                split
                · refine I_eq ?_; rw [oneE, this, if_pos rfl, if_neg (by omega)]
                · refine I_eq ?_; rw [oneE, this, if_pos rfl, if_pos (by omega)]
              · rw [decide_eq_false hc]
                simp (decide := true) (maxSteps := 4000000) -implicitDefEqProofs only [evs, tabs, puts, siteD, gget, tget, tset, initT, dstAt, ev, evC, plain, Hp.get, Hp.set, bnd, isCells, isRow, SubA, SubC, Sub, SubL, CvA, Cv, dis, ordB, ite_self, exists_eq', List.mem_cons, List.not_mem_nil, Site.m.injEq, bne_self_eq_false, beq_iff_eq, bne_iff_ne, ↓reduceIte, Int.reduceAdd, Int.reduceSub, Int.reduceToNat, Int.reduceNeg, Nat.reduceAdd, Nat.reduceMul, Nat.reduceSub, exists_eq_left', exists_eq_left, implies_true, forall_const, Site.l.injEq, Site.e.injEq, reduceCtorEq, beq_self_eq_true, ne_eq]
                exact oneE_bad (by omega)
theorem chkRules_ok (l : List Rl) : Ok Tryd.prog 65 [rules l] (I (chkRs l)) := by
  refine Ok.of_wp (rs := [.tmp 2]) (n := 21) Tryd.func65 rfl rfl rfl (by simp) fo (by kernel_rfl) ?_
  simp (decide := true) (maxSteps := 4000000) -implicitDefEqProofs only [evs, tabs, puts, siteD, gget, tget, tset, initT, dstAt, ev, evC, plain, Hp.get, Hp.set, bnd, isCells, isRow, SubA, SubC, Sub, SubL, CvA, Cv, dis, ordB, ite_self, exists_eq', List.mem_cons, List.not_mem_nil, Site.m.injEq, bne_self_eq_false, beq_iff_eq, bne_iff_ne, ↓reduceIte, Int.reduceAdd, Int.reduceSub, Int.reduceToNat, Int.reduceNeg, Nat.reduceAdd, Nat.reduceMul, Nat.reduceSub, exists_eq_left', exists_eq_left, implies_true, forall_const, Site.l.injEq, Site.e.injEq, reduceCtorEq, beq_self_eq_true, ne_eq]
  split
  · refine I_eq ?_; rw [chkRs, if_pos (by omega)]
  · rename_i h8
    have e0 : chkRs l = chkR l := by rw [chkRs, if_neg (by omega)]
    rw [e0]
    refine ALoop.st [2,9,10,11] (fun (i : Nat) => [I 0, rules l, I l.length, I i]) (fun _ => []) (fun i => i ≤ l.length ∧ chkR (l.drop i) = chkR l) (fun i => l.length - i) [] 0 (by simp (decide := true) (maxSteps := 4000000) -implicitDefEqProofs only [evs, tabs, puts, siteD, gget, tget, tset, initT, dstAt, ev, evC, plain, Hp.get, Hp.set, bnd, isCells, isRow, SubA, SubC, Sub, SubL, CvA, Cv, dis, ordB, ite_self, exists_eq', List.mem_cons, List.not_mem_nil, Site.m.injEq, bne_self_eq_false, beq_iff_eq, bne_iff_ne, ↓reduceIte, Int.reduceAdd, Int.reduceSub, Int.reduceToNat, Int.reduceNeg, Nat.reduceAdd, Nat.reduceMul, Nat.reduceSub, exists_eq_left', exists_eq_left, implies_true, forall_const, Site.l.injEq, Site.e.injEq, reduceCtorEq, beq_self_eq_true, ne_eq]; try omega) (by simp (decide := true) (maxSteps := 4000000) -implicitDefEqProofs only [evs, tabs, puts, siteD, gget, tget, tset, initT, dstAt, ev, evC, plain, Hp.get, Hp.set, bnd, isCells, isRow, SubA, SubC, Sub, SubL, CvA, Cv, dis, ordB, ite_self, exists_eq', List.mem_cons, List.not_mem_nil, Site.m.injEq, bne_self_eq_false, beq_iff_eq, bne_iff_ne, ↓reduceIte, Int.reduceAdd, Int.reduceSub, Int.reduceToNat, Int.reduceNeg, Nat.reduceAdd, Nat.reduceMul, Nat.reduceSub, exists_eq_left', exists_eq_left, implies_true, forall_const, Site.l.injEq, Site.e.injEq, reduceCtorEq, beq_self_eq_true, ne_eq]) ⟨by omega, rfl⟩ ?_
    rintro i ⟨hi, hu⟩
    simp (decide := true) (maxSteps := 4000000) -implicitDefEqProofs only [evs, tabs, puts, siteD, gget, tget, tset, initT, dstAt, ev, evC, plain, Hp.get, Hp.set, bnd, isCells, isRow, SubA, SubC, Sub, SubL, CvA, Cv, dis, ordB, ite_self, exists_eq', List.mem_cons, List.not_mem_nil, Site.m.injEq, bne_self_eq_false, beq_iff_eq, bne_iff_ne, ↓reduceIte, Int.reduceAdd, Int.reduceSub, Int.reduceToNat, Int.reduceNeg, Nat.reduceAdd, Nat.reduceMul, Nat.reduceSub, exists_eq_left', exists_eq_left, implies_true, forall_const, Site.l.injEq, Site.e.injEq, reduceCtorEq, beq_self_eq_true, ne_eq]
    split
    · rename_i h
      obtain ⟨x, hx⟩ := get_lt h
      rw [get_drop hx, chkR] at hu
      simp (decide := true) (maxSteps := 4000000) -implicitDefEqProofs only [evs, tabs, puts, siteD, gget, tget, tset, initT, dstAt, ev, evC, plain, Hp.get, Hp.set, bnd, isCells, isRow, SubA, SubC, Sub, SubL, CvA, Cv, dis, ordB, ite_self, exists_eq', List.mem_cons, List.not_mem_nil, Site.m.injEq, bne_self_eq_false, beq_iff_eq, bne_iff_ne, ↓reduceIte, Int.reduceAdd, Int.reduceSub, Int.reduceToNat, Int.reduceNeg, Nat.reduceAdd, Nat.reduceMul, Nat.reduceSub, exists_eq_left', exists_eq_left, implies_true, forall_const, Site.l.injEq, Site.e.injEq, reduceCtorEq, beq_self_eq_true, ne_eq, hx]
      refine call_eq (One_ok x) ?_
      by_cases he : oneE x = 0
      · rw [if_pos he] at hu
        simp (decide := true) (maxSteps := 4000000) -implicitDefEqProofs only [evs, tabs, puts, siteD, gget, tget, tset, initT, dstAt, ev, evC, plain, Hp.get, Hp.set, bnd, isCells, isRow, SubA, SubC, Sub, SubL, CvA, Cv, dis, ordB, ite_self, exists_eq', List.mem_cons, List.not_mem_nil, Site.m.injEq, bne_self_eq_false, beq_iff_eq, bne_iff_ne, ↓reduceIte, Int.reduceAdd, Int.reduceSub, Int.reduceToNat, Int.reduceNeg, Nat.reduceAdd, Nat.reduceMul, Nat.reduceSub, exists_eq_left', exists_eq_left, implies_true, forall_const, Site.l.injEq, Site.e.injEq, reduceCtorEq, beq_self_eq_true, ne_eq, he, wr_add1 h (by omega)]
        exact Nxt.mk [] (i + 1) (by simp (decide := true) (maxSteps := 4000000) -implicitDefEqProofs only [evs, tabs, puts, siteD, gget, tget, tset, initT, dstAt, ev, evC, plain, Hp.get, Hp.set, bnd, isCells, isRow, SubA, SubC, Sub, SubL, CvA, Cv, dis, ordB, ite_self, exists_eq', List.mem_cons, List.not_mem_nil, Site.m.injEq, bne_self_eq_false, beq_iff_eq, bne_iff_ne, ↓reduceIte, Int.reduceAdd, Int.reduceSub, Int.reduceToNat, Int.reduceNeg, Nat.reduceAdd, Nat.reduceMul, Nat.reduceSub, exists_eq_left', exists_eq_left, implies_true, forall_const, Site.l.injEq, Site.e.injEq, reduceCtorEq, beq_self_eq_true, ne_eq]) (by simp (decide := true) (maxSteps := 4000000) -implicitDefEqProofs only [evs, tabs, puts, siteD, gget, tget, tset, initT, dstAt, ev, evC, plain, Hp.get, Hp.set, bnd, isCells, isRow, SubA, SubC, Sub, SubL, CvA, Cv, dis, ordB, ite_self, exists_eq', List.mem_cons, List.not_mem_nil, Site.m.injEq, bne_self_eq_false, beq_iff_eq, bne_iff_ne, ↓reduceIte, Int.reduceAdd, Int.reduceSub, Int.reduceToNat, Int.reduceNeg, Nat.reduceAdd, Nat.reduceMul, Nat.reduceSub, exists_eq_left', exists_eq_left, implies_true, forall_const, Site.l.injEq, Site.e.injEq, reduceCtorEq, beq_self_eq_true, ne_eq]) ⟨by omega, hu⟩ (by omega)
      · rw [if_neg he] at hu
        simp (decide := true) (maxSteps := 4000000) -implicitDefEqProofs only [evs, tabs, puts, siteD, gget, tget, tset, initT, dstAt, ev, evC, plain, Hp.get, Hp.set, bnd, isCells, isRow, SubA, SubC, Sub, SubL, CvA, Cv, dis, ordB, ite_self, exists_eq', List.mem_cons, List.not_mem_nil, Site.m.injEq, bne_self_eq_false, beq_iff_eq, bne_iff_ne, ↓reduceIte, Int.reduceAdd, Int.reduceSub, Int.reduceToNat, Int.reduceNeg, Nat.reduceAdd, Nat.reduceMul, Nat.reduceSub, exists_eq_left', exists_eq_left, implies_true, forall_const, Site.l.injEq, Site.e.injEq, reduceCtorEq, beq_self_eq_true, ne_eq, he]
        rw [← hu]
    · rename_i h
      rw [drop_all h] at hu
      rw [← hu]; rfl
theorem Who_ok (w : Wh) : Ok Tryd.prog 66 [whoV w] (B (whoOk w)) := by
  refine Ok.of_wp (rs := [.tmp 2]) (n := 31) Tryd.func66 rfl rfl rfl (by simp) fo (by kernel_rfl) ?_
  simp (decide := true) (maxSteps := 4000000) -implicitDefEqProofs only [evs, tabs, puts, siteD, gget, tget, tset, initT, dstAt, ev, evC, plain, Hp.get, Hp.set, bnd, isCells, isRow, SubA, SubC, Sub, SubL, CvA, Cv, dis, ordB, ite_self, exists_eq', List.mem_cons, List.not_mem_nil, Site.m.injEq, bne_self_eq_false, beq_iff_eq, bne_iff_ne, ↓reduceIte, Int.reduceAdd, Int.reduceSub, Int.reduceToNat, Int.reduceNeg, Nat.reduceAdd, Nat.reduceMul, Nat.reduceSub, exists_eq_left', exists_eq_left, implies_true, forall_const, Site.l.injEq, Site.e.injEq, reduceCtorEq, beq_self_eq_true, ne_eq]
  have bad : ¬ (0 ≤ w.role ∧ w.role < 8 ∧ 0 ≤ w.why ∧ w.why < 4 ∧ 0 ≤ w.time ∧ w.time < 1000) → B false = B (whoOk w) := fun h => by rw [whoOk, decide_eq_false h]
  split
  · split
    · split
      · split
        · split
          · refine B_eq ?_
            unfold whoOk
            rw [Bool.eq_iff_iff, decide_eq_true_eq, decide_eq_true_eq]
            omega
          · exact bad (by omega)
        · exact bad (by omega)
      · exact bad (by omega)
    · exact bad (by omega)
  · exact bad (by omega)
theorem yesN_lt {f : Rl → Bool} {l : List Rl} {a : Nat} (h : chkR l = 0) (ha : a < 256) : yesN f l a < 256 ∧ noN f l a < 256 := by
  induction l generalizing a with
  | nil => exact ⟨ha, ha⟩
  | cons r l ih =>
    simp only [chkR] at h
    split at h
    · rename_i he
      have hr : r.cats.toNat < 256 := by
        unfold oneE at he
        split at he
        · rename_i ho; simp only [oneOk, decide_eq_true_eq] at ho; omega
        · omega
      have hor : a ||| r.cats.toNat < 256 := Nat.or_lt_two_pow (n := 8) ha hr
      simp only [yesN, noN]
      refine ⟨?_, ?_⟩
      · split
        · exact (ih h hor).1
        · exact (ih h ha).1
      · split
        · exact (ih h hor).2
        · exact (ih h ha).2
    · contradiction
theorem oneOk_of {r : Rl} (h : oneE r = 0) : oneOk r = true := by
  unfold oneE at h
  split at h
  · assumption
  · omega
theorem chkR_mem {l : List Rl} (h : chkR l = 0) {r : Rl} (hr : r ∈ l) : oneOk r = true := by
  induction l with
  | nil => cases hr
  | cons x l ih =>
    simp only [chkR] at h
    split at h
    · rename_i he
      rcases List.mem_cons.1 hr with rfl | hr
      · exact oneOk_of he
      · exact ih h hr
    · contradiction
theorem chkRs_of {l : List Rl} (h : chkRs l = 0) : l.length ≤ 20 ∧ chkR l = 0 := by
  unfold chkRs at h
  split at h
  · omega
  · exact ⟨by omega, h⟩
theorem chkAt_nz {u : List Int} {i : Int} (h : chkUp u = 0) : chkAt u i = 0 ↔ 0 ≤ i ∧ i < u.length := by
  unfold chkAt
  rw [if_pos h]
  split
  · simp_all
  · simp_all
end Go.Proofs.YtonolfpnidaflaaDoor.E
