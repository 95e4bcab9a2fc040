/- Walks: package group. No conditions. -/
import Derived.Test.YtljickachmdejaaGrpM
import Derived.Test.YtljickachmdejaaRoleP
import Derived.Test.YtljickachmdejaaSortI
namespace Go.Proofs.Ytljickachmdejaa.E
open Go
set_option linter.unusedSimpArgs false
set_option linter.unusedVariables false
set_option linter.unusedSectionVars false
set_option maxRecDepth 20000
set_option maxHeartbeats 2000000
abbrev ss1 (l : List ByteArray) : List (List AV) := l.map fun s => [S s]
abbrev is1 (l : List Int) : List (List AV) := l.map fun a => [I a]
abbrev grC (g : Gr) (v u : Nat) : List AV := [I g.n, .own (.e 1) v 1 0 g.log.length, .own (.e 2) u 1 0 g.n, .own (.e 4) u 1 0 g.n]
abbrev grHas (g : Gr) (v : Nat) : List AV := .own (.e 3) v 1 0 g.log.length :: fols g.fol
abbrev grH (g : Gr) : List Blk := [.cells 57 (grC g 0 0), .row 9 1 none (ss1 g.log), .cells 22 (grHas g 0), .row 9 1 none (ss1 g.log), .row 3 1 (some g.n) (is1 g.ack)]
abbrev grHv (g : Gr) (v u : Nat) : List (Nat × Blk) := [(u, .cells 57 (grC g v u)), (v, .row 9 1 none (ss1 g.log)), (u, .cells 22 (grHas g v)), (v, .row 9 1 none (ss1 g.log)), (u, .row 3 1 (some g.n) (is1 g.ack))]
theorem nz {j : Nat} {n : Nat} (h : (j : Int) < n) (P : Prop) : (((j : Nat) : Int) < n) = True := eq_true h
theorem grNew_ok {n : Nat} (h1 : 1 ≤ n) (h5 : n ≤ 5) : OkH Try.prog 12 [I n] [] (.tup [.ptr (.e 0) 1 0, I 0]) (grHv (gNew n) 1 1) := by
  have e1 : ¬ ((n : Int) < 1) := by omega
  have e2 : ¬ ((n : Int) > 5) := by omega
  have e3 : (0 : Int) ≤ n := by omega
  have e4 : (n : Int) ≤ 9223372036854775807 := by omega
  refine OkH.of_wp (rs := [.tmp 2, .tmp 3]) (n := 17) [some (.l 16), none, some (.l 12), none, some (.l 14)] Try.func12 rfl rfl rfl (by simp) fo (by kernel_rfl) ?_
  have hn : n = 1 ∨ n = 2 ∨ n = 3 ∨ n = 4 ∨ n = 5 := by omega
  rcases hn with rfl | rfl | rfl | rfl | rfl
  all_goals simp (decide := true) (maxSteps := 4000000) -implicitDefEqProofs only [evs, tabs, puts, siteD, gget, tget, tset, initT, dstAt, ev, evC, plain, Hp.get, Hp.set, bnd, isCells, isRow, SubA, SubC, Sub, SubL, CvA, Cv, dis, ordB, ite_self, exists_eq', List.mem_cons, List.not_mem_nil, Site.m.injEq, bne_self_eq_false, beq_iff_eq, bne_iff_ne, ↓reduceIte, Int.reduceAdd, Int.reduceSub, Int.reduceToNat, Int.reduceNeg, Nat.reduceAdd, Nat.reduceMul, Nat.reduceSub, exists_eq_left', exists_eq_left, implies_true, forall_const, Site.l.injEq, Site.e.injEq, reduceCtorEq, beq_self_eq_true, ne_eq]
  all_goals simp [gNew, fols, List.replicate]
  all_goals exact ⟨⟨⟨by decide, rfl⟩, rfl, rfl, rfl⟩, by simp [fols, CvC, Cv]⟩
theorem grIs_ok (g : Gr) (i : Int) : OkH Try.prog 29 [.ptr (.e 0) 0 0, I i] (grH g) (B (decide (1 ≤ i ∧ i < g.n))) (grHv g 0 0) := by
  refine OkH.of_wp (rs := [.tmp 4]) (n := 15) [] Try.func29 rfl rfl rfl (by simp) fo (by kernel_rfl) ?_
  by_cases h1 : 1 ≤ i
  · by_cases h2 : i < g.n
    · simp (decide := true) (maxSteps := 4000000) -implicitDefEqProofs only [evs, tabs, puts, siteD, gget, tget, tset, initT, dstAt, ev, evC, plain, Hp.get, Hp.set, bnd, isCells, isRow, SubA, SubC, Sub, SubL, CvA, Cv, dis, ordB, ite_self, exists_eq', List.mem_cons, List.not_mem_nil, Site.m.injEq, bne_self_eq_false, beq_iff_eq, bne_iff_ne, ↓reduceIte, Int.reduceAdd, Int.reduceSub, Int.reduceToNat, Int.reduceNeg, Nat.reduceAdd, Nat.reduceMul, Nat.reduceSub, exists_eq_left', exists_eq_left, implies_true, forall_const, Site.l.injEq, Site.e.injEq, reduceCtorEq, beq_self_eq_true, ne_eq, h1, h2, gfs, Option.getD_some, and_self, decide_true]
    · simp (decide := true) (maxSteps := 4000000) -implicitDefEqProofs only [evs, tabs, puts, siteD, gget, tget, tset, initT, dstAt, ev, evC, plain, Hp.get, Hp.set, bnd, isCells, isRow, SubA, SubC, Sub, SubL, CvA, Cv, dis, ordB, ite_self, exists_eq', List.mem_cons, List.not_mem_nil, Site.m.injEq, bne_self_eq_false, beq_iff_eq, bne_iff_ne, ↓reduceIte, Int.reduceAdd, Int.reduceSub, Int.reduceToNat, Int.reduceNeg, Nat.reduceAdd, Nat.reduceMul, Nat.reduceSub, exists_eq_left', exists_eq_left, implies_true, forall_const, Site.l.injEq, Site.e.injEq, reduceCtorEq, beq_self_eq_true, ne_eq, h1, h2, gfs, Option.getD_some, and_self, and_false, decide_false]
  · simp (decide := true) (maxSteps := 4000000) -implicitDefEqProofs only [evs, tabs, puts, siteD, gget, tget, tset, initT, dstAt, ev, evC, plain, Hp.get, Hp.set, bnd, isCells, isRow, SubA, SubC, Sub, SubL, CvA, Cv, dis, ordB, ite_self, exists_eq', List.mem_cons, List.not_mem_nil, Site.m.injEq, bne_self_eq_false, beq_iff_eq, bne_iff_ne, ↓reduceIte, Int.reduceAdd, Int.reduceSub, Int.reduceToNat, Int.reduceNeg, Nat.reduceAdd, Nat.reduceMul, Nat.reduceSub, exists_eq_left', exists_eq_left, implies_true, forall_const, Site.l.injEq, Site.e.injEq, reduceCtorEq, beq_self_eq_true, ne_eq, h1, gfs, Option.getD_some, false_and, decide_false]
theorem grAdd_ok (g : Gr) (h : g.log.length < 60) (s : ByteArray) (h1 : 1 ≤ g.n) (ha : g.ack.length = g.n) : OkH Try.prog 13 [.ptr (.e 0) 0 0, S s] (grH g) (.tup [I ((g.log.length + 1 : Nat) : Int), I 0]) (grHv (gAdd g s) 1 0) := by
  have hn : ¬ ((g.log.length : Int) = 60) := by omega
  have hl : (g.log ++ [s]).length = g.log.length + 1 := by simp
  obtain ⟨a, r, e⟩ : ∃ a r, g.ack = a :: r := by
    cases e : g.ack with
    | nil => rw [e] at ha; simp at ha; omega
    | cons a r => exact ⟨a, r, rfl⟩
  have hp : (0 : Int) < g.n := by omega
  refine OkH.of_wp (rs := [.tmp 4, .tmp 5]) (n := 51) [] Try.func13 rfl rfl rfl (by simp) fo (by kernel_rfl) ?_
  unfold gAdd
  simp (decide := true) (maxSteps := 4000000) -implicitDefEqProofs only [evs, tabs, puts, siteD, gget, tget, tset, initT, dstAt, ev, evC, plain, Hp.get, Hp.set, bnd, isCells, isRow, SubA, SubC, Sub, SubL, CvA, Cv, dis, ordB, ite_self, exists_eq', List.mem_cons, List.not_mem_nil, Site.m.injEq, bne_self_eq_false, beq_iff_eq, bne_iff_ne, ↓reduceIte, Int.reduceAdd, Int.reduceSub, Int.reduceToNat, Int.reduceNeg, Nat.reduceAdd, Nat.reduceMul, Nat.reduceSub, exists_eq_left', exists_eq_left, implies_true, forall_const, Site.l.injEq, Site.e.injEq, reduceCtorEq, beq_self_eq_true, ne_eq, hn, gfs, hl, hp, e, List.map_append, List.set_cons_zero, Option.getD_some, tk1]
  exact ⟨by omega, by omega, by omega⟩
theorem ss1_drop (l : List ByteArray) (off : Nat) : List.take (l.length - off) (List.drop off (ss1 l)) = ss1 (l.drop off) := by
  unfold ss1
  rw [List.take_of_length_le (by simp), List.map_drop]
theorem cloneOwn_ok (l : List ByteArray) (q : Option Nat) (off : Nat) (hl : l.length ≤ 1000000) (ho : off ≤ l.length) : OkH Try.prog 30 [.own (.e 0) 0 1 off (l.length - off)] [.row 9 1 q (ss1 l)] (.own (.e 1) 1 1 0 (l.length - off)) [(0, .row 9 1 q (ss1 l)), (1, .row 9 1 none (ss1 (l.drop off)))] := by
  have ho2 : off + (l.length - off) ≤ l.length := by omega
  have hz : (l.drop off).length = l.length - off := List.length_drop
  refine OkH.of_wpX (rs := [.tmp 2]) (n := 8) Try.func30 rfl rfl rfl (by simp) fo (by kernel_rfl) ?_
  simp (decide := true) (maxSteps := 4000000) -implicitDefEqProofs only [evs, tabs, puts, siteD, gget, tget, tset, initT, dstAt, ev, evC, plain, Hp.get, Hp.set, bnd, isCells, isRow, SubA, SubC, Sub, SubL, CvA, Cv, dis, ordB, ite_self, exists_eq', List.mem_cons, List.not_mem_nil, Site.m.injEq, bne_self_eq_false, beq_iff_eq, bne_iff_ne, ↓reduceIte, Int.reduceAdd, Int.reduceSub, Int.reduceToNat, Int.reduceNeg, Nat.reduceAdd, Nat.reduceMul, Nat.reduceSub, exists_eq_left', exists_eq_left, implies_true, forall_const, Site.l.injEq, Site.e.injEq, reduceCtorEq, beq_self_eq_true, ne_eq, ho2, ss1_drop]
  refine ⟨fun h => ⟨[none], ?_⟩, by rw [hz]; omega, ⟨[some (.l 5)], ?_⟩⟩
  · have e : l.length - off = 0 := by omega
    have e2 : l.drop off = [] := List.drop_eq_nil_of_le (by omega)
    simp (decide := true) (maxSteps := 4000000) -implicitDefEqProofs only [evs, tabs, puts, siteD, gget, tget, tset, initT, dstAt, ev, evC, plain, Hp.get, Hp.set, bnd, isCells, isRow, SubA, SubC, Sub, SubL, CvA, Cv, dis, ordB, ite_self, exists_eq', List.mem_cons, List.not_mem_nil, Site.m.injEq, bne_self_eq_false, beq_iff_eq, bne_iff_ne, ↓reduceIte, Int.reduceAdd, Int.reduceSub, Int.reduceToNat, Int.reduceNeg, Nat.reduceAdd, Nat.reduceMul, Nat.reduceSub, exists_eq_left', exists_eq_left, implies_true, forall_const, Site.l.injEq, Site.e.injEq, reduceCtorEq, beq_self_eq_true, ne_eq, e, e2, or_true]
  · simp (decide := true) (maxSteps := 4000000) -implicitDefEqProofs only [evs, tabs, puts, siteD, gget, tget, tset, initT, dstAt, ev, evC, plain, Hp.get, Hp.set, bnd, isCells, isRow, SubA, SubC, Sub, SubL, CvA, Cv, dis, ordB, ite_self, exists_eq', List.mem_cons, List.not_mem_nil, Site.m.injEq, bne_self_eq_false, beq_iff_eq, bne_iff_ne, ↓reduceIte, Int.reduceAdd, Int.reduceSub, Int.reduceToNat, Int.reduceNeg, Nat.reduceAdd, Nat.reduceMul, Nat.reduceSub, exists_eq_left', exists_eq_left, implies_true, forall_const, Site.l.injEq, Site.e.injEq, reduceCtorEq, beq_self_eq_true, ne_eq, hz, or_true]
theorem cloneStrsH_ok (l : List ByteArray) (hl : l.length ≤ 1000000) : OkH Try.prog 30 [strs l] [] (.own (.e 0) 1 1 0 l.length) [(1, .row 9 1 none (ss1 l))] := by
  refine OkH.of_wpX (rs := [.tmp 2]) (n := 8) Try.func30 rfl rfl rfl (by simp) fo (by kernel_rfl) ?_
  simp (decide := true) (maxSteps := 4000000) -implicitDefEqProofs only [evs, tabs, puts, siteD, gget, tget, tset, initT, dstAt, ev, evC, plain, Hp.get, Hp.set, bnd, isCells, isRow, SubA, SubC, Sub, SubL, CvA, Cv, dis, ordB, ite_self, exists_eq', List.mem_cons, List.not_mem_nil, Site.m.injEq, bne_self_eq_false, beq_iff_eq, bne_iff_ne, ↓reduceIte, Int.reduceAdd, Int.reduceSub, Int.reduceToNat, Int.reduceNeg, Nat.reduceAdd, Nat.reduceMul, Nat.reduceSub, exists_eq_left', exists_eq_left, implies_true, forall_const, Site.l.injEq, Site.e.injEq, reduceCtorEq, beq_self_eq_true, ne_eq]
  refine ⟨fun e => ⟨[none], ?_⟩, by omega, ⟨[some (.l 5)], ?_⟩⟩
  · obtain rfl := List.map_eq_nil_iff.1 e
    simp (decide := true) (maxSteps := 4000000) -implicitDefEqProofs only [evs, tabs, puts, siteD, gget, tget, tset, initT, dstAt, ev, evC, plain, Hp.get, Hp.set, bnd, isCells, isRow, SubA, SubC, Sub, SubL, CvA, Cv, dis, ordB, ite_self, exists_eq', List.mem_cons, List.not_mem_nil, Site.m.injEq, bne_self_eq_false, beq_iff_eq, bne_iff_ne, ↓reduceIte, Int.reduceAdd, Int.reduceSub, Int.reduceToNat, Int.reduceNeg, Nat.reduceAdd, Nat.reduceMul, Nat.reduceSub, exists_eq_left', exists_eq_left, implies_true, forall_const, Site.l.injEq, Site.e.injEq, reduceCtorEq, beq_self_eq_true, ne_eq]
  · simp (decide := true) (maxSteps := 4000000) -implicitDefEqProofs only [evs, tabs, puts, siteD, gget, tget, tset, initT, dstAt, ev, evC, plain, Hp.get, Hp.set, bnd, isCells, isRow, SubA, SubC, Sub, SubL, CvA, Cv, dis, ordB, ite_self, exists_eq', List.mem_cons, List.not_mem_nil, Site.m.injEq, bne_self_eq_false, beq_iff_eq, bne_iff_ne, ↓reduceIte, Int.reduceAdd, Int.reduceSub, Int.reduceToNat, Int.reduceNeg, Nat.reduceAdd, Nat.reduceMul, Nat.reduceSub, exists_eq_left', exists_eq_left, implies_true, forall_const, Site.l.injEq, Site.e.injEq, reduceCtorEq, beq_self_eq_true, ne_eq]
theorem grSend_ok {g : Gr} (h : grOk g) {i m : Nat} (hi : i + 1 < g.n) (hm : m ≤ g.log.length) : OkH Try.prog 16 [.ptr (.e 0) 0 0, I ((i + 1 : Nat) : Int), I m] (grH g) (.tup [strs (g.log.drop m), I 0]) (grHv g 0 0) := by
  have hd : decide (1 ≤ ((i + 1 : Nat) : Int) ∧ ((i + 1 : Nat) : Int) < g.n) = true := by rw [decide_eq_true_iff]; omega
  have h1 : ¬ ((m : Int) < 0) := by omega
  have h2 : ¬ ((m : Int) > g.log.length) := by omega
  have h3 := h.2.2.2.2.1
  have h4 : List.take (g.log.length - m) (ss1 (g.log.drop m)) = ss1 (g.log.drop m) := List.take_of_length_le (by simp)
  have h6 : g.log.length - m ≤ (g.log.drop m).length := by rw [List.length_drop]; omega
  refine OkH.of_wp (rs := [.tmp 6, .tmp 7]) (n := 30) [] Try.func16 rfl rfl rfl (by simp) fo (by kernel_rfl) ?_
  simp (decide := true) (maxSteps := 4000000) -implicitDefEqProofs only [evs, tabs, puts, siteD, gget, tget, tset, initT, dstAt, ev, evC, plain, Hp.get, Hp.set, bnd, isCells, isRow, SubA, SubC, Sub, SubL, CvA, Cv, dis, ordB, ite_self, exists_eq', List.mem_cons, List.not_mem_nil, Site.m.injEq, bne_self_eq_false, beq_iff_eq, bne_iff_ne, ↓reduceIte, Int.reduceAdd, Int.reduceSub, Int.reduceToNat, Int.reduceNeg, Nat.reduceAdd, Nat.reduceMul, Nat.reduceSub, exists_eq_left', exists_eq_left, implies_true, forall_const, Site.l.injEq, Site.e.injEq, reduceCtorEq, beq_self_eq_true, ne_eq]
  refine callH (grIs_ok g ((i + 1 : Nat) : Int)) [.e 0, .e 1, .e 2, .e 3, .e 4] ?_
  rw [hd]
  simp (decide := true) (maxSteps := 4000000) -implicitDefEqProofs only [evs, tabs, puts, siteD, gget, tget, tset, initT, dstAt, ev, evC, plain, Hp.get, Hp.set, bnd, isCells, isRow, SubA, SubC, Sub, SubL, CvA, Cv, dis, ordB, ite_self, exists_eq', List.mem_cons, List.not_mem_nil, Site.m.injEq, bne_self_eq_false, beq_iff_eq, bne_iff_ne, ↓reduceIte, Int.reduceAdd, Int.reduceSub, Int.reduceToNat, Int.reduceNeg, Nat.reduceAdd, Nat.reduceMul, Nat.reduceSub, exists_eq_left', exists_eq_left, implies_true, forall_const, Site.l.injEq, Site.e.injEq, reduceCtorEq, beq_self_eq_true, ne_eq, gfs, h1, h2]
  refine ⟨by omega, .inr trivial, ?_⟩
  refine callH (cloneOwn_ok g.log none m (by omega) hm) [.e 1, .l 29] ?_
  simp (decide := true) (maxSteps := 4000000) -implicitDefEqProofs only [evs, tabs, puts, siteD, gget, tget, tset, initT, dstAt, ev, evC, plain, Hp.get, Hp.set, bnd, isCells, isRow, SubA, SubC, Sub, SubL, CvA, Cv, dis, ordB, ite_self, exists_eq', List.mem_cons, List.not_mem_nil, Site.m.injEq, bne_self_eq_false, beq_iff_eq, bne_iff_ne, ↓reduceIte, Int.reduceAdd, Int.reduceSub, Int.reduceToNat, Int.reduceNeg, Nat.reduceAdd, Nat.reduceMul, Nat.reduceSub, exists_eq_left', exists_eq_left, implies_true, forall_const, Site.l.injEq, Site.e.injEq, reduceCtorEq, beq_self_eq_true, ne_eq, gfs, h4, h6, Option.getD_some, ss1_drop]
theorem grSend_none (g : Gr) (m : Int) : OkH Try.prog 16 [.ptr (.e 0) 0 0, I 0, I m] (grH g) (.tup [strs [], I 4]) (grHv g 0 0) := by
  refine OkH.of_wp (rs := [.tmp 6, .tmp 7]) (n := 30) [] Try.func16 rfl rfl rfl (by simp) fo (by kernel_rfl) ?_
  simp (decide := true) (maxSteps := 4000000) -implicitDefEqProofs only [evs, tabs, puts, siteD, gget, tget, tset, initT, dstAt, ev, evC, plain, Hp.get, Hp.set, bnd, isCells, isRow, SubA, SubC, Sub, SubL, CvA, Cv, dis, ordB, ite_self, exists_eq', List.mem_cons, List.not_mem_nil, Site.m.injEq, bne_self_eq_false, beq_iff_eq, bne_iff_ne, ↓reduceIte, Int.reduceAdd, Int.reduceSub, Int.reduceToNat, Int.reduceNeg, Nat.reduceAdd, Nat.reduceMul, Nat.reduceSub, exists_eq_left', exists_eq_left, implies_true, forall_const, Site.l.injEq, Site.e.injEq, reduceCtorEq, beq_self_eq_true, ne_eq]
  refine callH (grIs_ok g 0) [.e 0, .e 1, .e 2, .e 3, .e 4] ?_
  simp (decide := true) (maxSteps := 4000000) -implicitDefEqProofs only [evs, tabs, puts, siteD, gget, tget, tset, initT, dstAt, ev, evC, plain, Hp.get, Hp.set, bnd, isCells, isRow, SubA, SubC, Sub, SubL, CvA, Cv, dis, ordB, ite_self, exists_eq', List.mem_cons, List.not_mem_nil, Site.m.injEq, bne_self_eq_false, beq_iff_eq, bne_iff_ne, ↓reduceIte, Int.reduceAdd, Int.reduceSub, Int.reduceToNat, Int.reduceNeg, Nat.reduceAdd, Nat.reduceMul, Nat.reduceSub, exists_eq_left', exists_eq_left, implies_true, forall_const, Site.l.injEq, Site.e.injEq, reduceCtorEq, beq_self_eq_true, ne_eq, gfs, Option.getD_some]
theorem hasF {g : Gr} {i : Nat} (h : grOk g) (hi : i + 1 < g.n) : g.fol[i]? = some (gHas g i) := by
  unfold gHas
  rw [List.getElem?_eq_getElem (by have := h.2.2.1; omega), Option.getD_some]
theorem grLog_ok {g : Gr} (h : grOk g) {i : Nat} (hi : i < g.n) : OkH Try.prog 18 [.ptr (.e 0) 0 0, I i] (grH g) (.tup [strs (gLog g i), I 0]) (grHv g 0 0) := by
  have h1 : ¬ ((i : Int) < 0) := by omega
  have h2 : ¬ ((i : Int) ≥ g.n) := by omega
  have h2' : ((i : Int) < g.n) := by omega
  have h3 := h.2.2.2.2.1
  cases i with
  | zero =>
    have e0 := cloneOwn_ok g.log none 0 (by omega) (by omega)
    rw [Nat.sub_zero] at e0
    refine OkH.of_wp (rs := [.tmp 4, .tmp 5]) (n := 24) [] Try.func18 rfl rfl rfl (by simp) fo (by kernel_rfl) ?_
    simp (decide := true) (maxSteps := 4000000) -implicitDefEqProofs only [evs, tabs, puts, siteD, gget, tget, tset, initT, dstAt, ev, evC, plain, Hp.get, Hp.set, bnd, isCells, isRow, SubA, SubC, Sub, SubL, CvA, Cv, dis, ordB, ite_self, exists_eq', List.mem_cons, List.not_mem_nil, Site.m.injEq, bne_self_eq_false, beq_iff_eq, bne_iff_ne, ↓reduceIte, Int.reduceAdd, Int.reduceSub, Int.reduceToNat, Int.reduceNeg, Nat.reduceAdd, Nat.reduceMul, Nat.reduceSub, exists_eq_left', exists_eq_left, implies_true, forall_const, Site.l.injEq, Site.e.injEq, reduceCtorEq, beq_self_eq_true, ne_eq, gfs, h1, h2, h2']
    refine callH e0 [.e 3, .l 23] ?_
    simp (decide := true) (maxSteps := 4000000) -implicitDefEqProofs only [evs, tabs, puts, siteD, gget, tget, tset, initT, dstAt, ev, evC, plain, Hp.get, Hp.set, bnd, isCells, isRow, SubA, SubC, Sub, SubL, CvA, Cv, dis, ordB, ite_self, exists_eq', List.mem_cons, List.not_mem_nil, Site.m.injEq, bne_self_eq_false, beq_iff_eq, bne_iff_ne, ↓reduceIte, Int.reduceAdd, Int.reduceSub, Int.reduceToNat, Int.reduceNeg, Nat.reduceAdd, Nat.reduceMul, Nat.reduceSub, exists_eq_left', exists_eq_left, implies_true, forall_const, Site.l.injEq, Site.e.injEq, reduceCtorEq, beq_self_eq_true, ne_eq, gfs, Option.getD_some, tk1]
    rfl
  | succ i =>
    have hx := hasF h hi
    have h5 := gHas_len h i
    refine OkH.of_wp (rs := [.tmp 4, .tmp 5]) (n := 24) [] Try.func18 rfl rfl rfl (by simp) fo (by kernel_rfl) ?_
    simp (decide := true) (maxSteps := 4000000) -implicitDefEqProofs only [evs, tabs, puts, siteD, gget, tget, tset, initT, dstAt, ev, evC, plain, Hp.get, Hp.set, bnd, isCells, isRow, SubA, SubC, Sub, SubL, CvA, Cv, dis, ordB, ite_self, exists_eq', List.mem_cons, List.not_mem_nil, Site.m.injEq, bne_self_eq_false, beq_iff_eq, bne_iff_ne, ↓reduceIte, Int.reduceAdd, Int.reduceSub, Int.reduceToNat, Int.reduceNeg, Nat.reduceAdd, Nat.reduceMul, Nat.reduceSub, exists_eq_left', exists_eq_left, implies_true, forall_const, Site.l.injEq, Site.e.injEq, reduceCtorEq, beq_self_eq_true, ne_eq, gfs, h1, h2, h2', Nat.mul_one, List.drop_succ_cons, fols_drop hx]
    refine call_eq (cloneStrs_ok (l := gHas g i) (by omega)) ?_
    simp (decide := true) (maxSteps := 4000000) -implicitDefEqProofs only [evs, tabs, puts, siteD, gget, tget, tset, initT, dstAt, ev, evC, plain, Hp.get, Hp.set, bnd, isCells, isRow, SubA, SubC, Sub, SubL, CvA, Cv, dis, ordB, ite_self, exists_eq', List.mem_cons, List.not_mem_nil, Site.m.injEq, bne_self_eq_false, beq_iff_eq, bne_iff_ne, ↓reduceIte, Int.reduceAdd, Int.reduceSub, Int.reduceToNat, Int.reduceNeg, Nat.reduceAdd, Nat.reduceMul, Nat.reduceSub, exists_eq_left', exists_eq_left, implies_true, forall_const, Site.l.injEq, Site.e.injEq, reduceCtorEq, beq_self_eq_true, ne_eq, gfs, Option.getD_some]
    try rfl
theorem ackF {g : Gr} {i : Nat} (h : grOk g) (hi : i + 1 < g.n) : g.ack[i + 1]? = some ((g.ack[i + 1]?).getD 0) := by
  rw [List.getElem?_eq_getElem (by have := h.2.2.2.1; omega), Option.getD_some]
theorem grAck_ok {g : Gr} (h : grOk g) {i : Nat} (hi : i + 1 < g.n) {m : Int} (h0 : 0 ≤ m) (hm : m ≤ g.log.length) (hk : m ≤ (gHas g i).length) : OkH Try.prog 20 [.ptr (.e 0) 0 0, I ((i + 1 : Nat) : Int), I m] (grH g) (I 0) (grHv (gAck g i m) 0 0) := by
  have hd : decide (1 ≤ ((i + 1 : Nat) : Int) ∧ ((i + 1 : Nat) : Int) < g.n) = true := by rw [decide_eq_true_iff]; omega
  have h1 : ¬ (m < 0) := by omega
  have h2 : ¬ (m > g.log.length) := by omega
  have h3 : ¬ (m > (gHas g i).length) := by omega
  have h4 : ((i + 1 : Nat) : Int) < g.n := by omega
  have hx := hasF h hi
  have ha := ackF h hi
  refine OkH.of_wp (rs := [.tmp 6]) (n := 49) [] Try.func20 rfl rfl rfl (by simp) fo (by kernel_rfl) ?_
  simp (decide := true) (maxSteps := 4000000) -implicitDefEqProofs only [evs, tabs, puts, siteD, gget, tget, tset, initT, dstAt, ev, evC, plain, Hp.get, Hp.set, bnd, isCells, isRow, SubA, SubC, Sub, SubL, CvA, Cv, dis, ordB, ite_self, exists_eq', List.mem_cons, List.not_mem_nil, Site.m.injEq, bne_self_eq_false, beq_iff_eq, bne_iff_ne, ↓reduceIte, Int.reduceAdd, Int.reduceSub, Int.reduceToNat, Int.reduceNeg, Nat.reduceAdd, Nat.reduceMul, Nat.reduceSub, exists_eq_left', exists_eq_left, implies_true, forall_const, Site.l.injEq, Site.e.injEq, reduceCtorEq, beq_self_eq_true, ne_eq]
  refine callH (grIs_ok g ((i + 1 : Nat) : Int)) [.e 0, .e 1, .e 2, .e 3, .e 4] ?_
  rw [hd]
  unfold gAck
  generalize (g.ack[i + 1]?).getD 0 = b at ha ⊢
  simp (decide := true) (maxSteps := 4000000) -implicitDefEqProofs only [evs, tabs, puts, siteD, gget, tget, tset, initT, dstAt, ev, evC, plain, Hp.get, Hp.set, bnd, isCells, isRow, SubA, SubC, Sub, SubL, CvA, Cv, dis, ordB, ite_self, exists_eq', List.mem_cons, List.not_mem_nil, Site.m.injEq, bne_self_eq_false, beq_iff_eq, bne_iff_ne, ↓reduceIte, Int.reduceAdd, Int.reduceSub, Int.reduceToNat, Int.reduceNeg, Nat.reduceAdd, Nat.reduceMul, Nat.reduceSub, exists_eq_left', exists_eq_left, implies_true, forall_const, Site.l.injEq, Site.e.injEq, reduceCtorEq, beq_self_eq_true, ne_eq, gfs, h1, h2, h3, h4, Nat.mul_one, List.drop_succ_cons, fols_drop hx, ha, Option.getD_some, List.map_set]
  have e : max b m = if m > b then m else b := by split <;> omega
  rw [e]
  exact List.prefix_rfl
theorem grAck_bad {g : Gr} (h : grOk g) {i : Nat} (hi : i + 1 < g.n) {m : Int} (hm : (g.log.length : Int) < m) : OkH Try.prog 20 [.ptr (.e 0) 0 0, I ((i + 1 : Nat) : Int), I m] (grH g) (I 1) (grHv g 0 0) := by
  have hd : decide (1 ≤ ((i + 1 : Nat) : Int) ∧ ((i + 1 : Nat) : Int) < g.n) = true := by rw [decide_eq_true_iff]; omega
  have h1 : ¬ (m < 0) := by omega
  have h2 : m > g.log.length := by omega
  refine OkH.of_wp (rs := [.tmp 6]) (n := 49) [] Try.func20 rfl rfl rfl (by simp) fo (by kernel_rfl) ?_
  simp (decide := true) (maxSteps := 4000000) -implicitDefEqProofs only [evs, tabs, puts, siteD, gget, tget, tset, initT, dstAt, ev, evC, plain, Hp.get, Hp.set, bnd, isCells, isRow, SubA, SubC, Sub, SubL, CvA, Cv, dis, ordB, ite_self, exists_eq', List.mem_cons, List.not_mem_nil, Site.m.injEq, bne_self_eq_false, beq_iff_eq, bne_iff_ne, ↓reduceIte, Int.reduceAdd, Int.reduceSub, Int.reduceToNat, Int.reduceNeg, Nat.reduceAdd, Nat.reduceMul, Nat.reduceSub, exists_eq_left', exists_eq_left, implies_true, forall_const, Site.l.injEq, Site.e.injEq, reduceCtorEq, beq_self_eq_true, ne_eq]
  refine callH (grIs_ok g ((i + 1 : Nat) : Int)) [.e 0, .e 1, .e 2, .e 3, .e 4] ?_
  rw [hd]
  simp (decide := true) (maxSteps := 4000000) -implicitDefEqProofs only [evs, tabs, puts, siteD, gget, tget, tset, initT, dstAt, ev, evC, plain, Hp.get, Hp.set, bnd, isCells, isRow, SubA, SubC, Sub, SubL, CvA, Cv, dis, ordB, ite_self, exists_eq', List.mem_cons, List.not_mem_nil, Site.m.injEq, bne_self_eq_false, beq_iff_eq, bne_iff_ne, ↓reduceIte, Int.reduceAdd, Int.reduceSub, Int.reduceToNat, Int.reduceNeg, Nat.reduceAdd, Nat.reduceMul, Nat.reduceSub, exists_eq_left', exists_eq_left, implies_true, forall_const, Site.l.injEq, Site.e.injEq, reduceCtorEq, beq_self_eq_true, ne_eq, gfs, h1, h2, Option.getD_some]
theorem grLose_ok {g : Gr} (h : grOk g) {i m : Nat} (hi : i + 1 < g.n) : OkH Try.prog 22 [.ptr (.e 0) 0 0, I ((i + 1 : Nat) : Int), I m] (grH g) (I (if (g.ack[i + 1]?).getD 0 ≤ (m : Int) ∧ m ≤ (gHas g i).length then 0 else 1)) (grHv (gLose g i m) 0 0) := by
  have hd : decide (1 ≤ ((i + 1 : Nat) : Int) ∧ ((i + 1 : Nat) : Int) < g.n) = true := by rw [decide_eq_true_iff]; omega
  have h4 : ((i + 1 : Nat) : Int) < g.n := by omega
  have hx := hasF h hi
  have ha := ackF h hi
  have hj : i < g.fol.length := by have := h.2.2.1; omega
  have h5 := gHas_len h i
  refine OkH.of_wp (rs := [.tmp 6]) (n := 48) [] Try.func22 rfl rfl rfl (by simp) fo (by kernel_rfl) ?_
  simp (decide := true) (maxSteps := 4000000) -implicitDefEqProofs only [evs, tabs, puts, siteD, gget, tget, tset, initT, dstAt, ev, evC, plain, Hp.get, Hp.set, bnd, isCells, isRow, SubA, SubC, Sub, SubL, CvA, Cv, dis, ordB, ite_self, exists_eq', List.mem_cons, List.not_mem_nil, Site.m.injEq, bne_self_eq_false, beq_iff_eq, bne_iff_ne, ↓reduceIte, Int.reduceAdd, Int.reduceSub, Int.reduceToNat, Int.reduceNeg, Nat.reduceAdd, Nat.reduceMul, Nat.reduceSub, exists_eq_left', exists_eq_left, implies_true, forall_const, Site.l.injEq, Site.e.injEq, reduceCtorEq, beq_self_eq_true, ne_eq]
  refine callH (grIs_ok g ((i + 1 : Nat) : Int)) [.e 0, .e 1, .e 2, .e 3, .e 4] ?_
  rw [hd]
  by_cases h1 : (m : Int) < (g.ack[i + 1]?).getD 0
  · have e : ¬ ((g.ack[i + 1]?).getD 0 ≤ (m : Int) ∧ m ≤ (gHas g i).length) := by omega
    unfold gLose
    rw [if_neg e, if_neg e]
    generalize (g.ack[i + 1]?).getD 0 = b at ha h1
    simp (decide := true) (maxSteps := 4000000) -implicitDefEqProofs only [evs, tabs, puts, siteD, gget, tget, tset, initT, dstAt, ev, evC, plain, Hp.get, Hp.set, bnd, isCells, isRow, SubA, SubC, Sub, SubL, CvA, Cv, dis, ordB, ite_self, exists_eq', List.mem_cons, List.not_mem_nil, Site.m.injEq, bne_self_eq_false, beq_iff_eq, bne_iff_ne, ↓reduceIte, Int.reduceAdd, Int.reduceSub, Int.reduceToNat, Int.reduceNeg, Nat.reduceAdd, Nat.reduceMul, Nat.reduceSub, exists_eq_left', exists_eq_left, implies_true, forall_const, Site.l.injEq, Site.e.injEq, reduceCtorEq, beq_self_eq_true, ne_eq, gfs, h1, h4, Nat.mul_one, List.drop_succ_cons, fols_drop hx, ha, Option.getD_some]
  · by_cases h2 : m ≤ (gHas g i).length
    · have e : ((g.ack[i + 1]?).getD 0 ≤ (m : Int) ∧ m ≤ (gHas g i).length) := by omega
      have h2' : ¬ ((m : Int) > (gHas g i).length) := by omega
      have e3 : List.take m (List.map (fun s => [S s]) (gHas g i)) = ((gHas g i).take m).map (fun s => [S s]) := List.map_take.symm
      unfold gLose gPut
      rw [if_pos e, if_pos e]
      generalize (g.ack[i + 1]?).getD 0 = b at ha h1
      simp (decide := true) (maxSteps := 4000000) -implicitDefEqProofs only [evs, tabs, puts, siteD, gget, tget, tset, initT, dstAt, ev, evC, plain, Hp.get, Hp.set, bnd, isCells, isRow, SubA, SubC, Sub, SubL, CvA, Cv, dis, ordB, ite_self, exists_eq', List.mem_cons, List.not_mem_nil, Site.m.injEq, bne_self_eq_false, beq_iff_eq, bne_iff_ne, ↓reduceIte, Int.reduceAdd, Int.reduceSub, Int.reduceToNat, Int.reduceNeg, Nat.reduceAdd, Nat.reduceMul, Nat.reduceSub, exists_eq_left', exists_eq_left, implies_true, forall_const, Site.l.injEq, Site.e.injEq, reduceCtorEq, beq_self_eq_true, ne_eq, gfs, h1, h4, h2', Nat.mul_one, List.drop_succ_cons, fols_drop hx, ha, Option.getD_some]
      refine ⟨by omega, ?_⟩
      rw [e3]
      refine call_eq (cloneStrs_ok (l := (gHas g i).take m) (by rw [List.length_take]; omega)) ?_
      simp (decide := true) (maxSteps := 4000000) -implicitDefEqProofs only [evs, tabs, puts, siteD, gget, tget, tset, initT, dstAt, ev, evC, plain, Hp.get, Hp.set, bnd, isCells, isRow, SubA, SubC, Sub, SubL, CvA, Cv, dis, ordB, ite_self, exists_eq', List.mem_cons, List.not_mem_nil, Site.m.injEq, bne_self_eq_false, beq_iff_eq, bne_iff_ne, ↓reduceIte, Int.reduceAdd, Int.reduceSub, Int.reduceToNat, Int.reduceNeg, Nat.reduceAdd, Nat.reduceMul, Nat.reduceSub, exists_eq_left', exists_eq_left, implies_true, forall_const, Site.l.injEq, Site.e.injEq, reduceCtorEq, beq_self_eq_true, ne_eq, gfs, Option.getD_some, Nat.mul_one, List.take_succ_cons, List.drop_succ_cons, List.append_assoc, List.cons_append, List.nil_append, fols_put _ hj, h4]
      omega
    · have e : ¬ ((g.ack[i + 1]?).getD 0 ≤ (m : Int) ∧ m ≤ (gHas g i).length) := by omega
      have h2' : ((m : Int) > (gHas g i).length) := by omega
      unfold gLose
      rw [if_neg e, if_neg e]
      generalize (g.ack[i + 1]?).getD 0 = b at ha h1
      simp (decide := true) (maxSteps := 4000000) -implicitDefEqProofs only [evs, tabs, puts, siteD, gget, tget, tset, initT, dstAt, ev, evC, plain, Hp.get, Hp.set, bnd, isCells, isRow, SubA, SubC, Sub, SubL, CvA, Cv, dis, ordB, ite_self, exists_eq', List.mem_cons, List.not_mem_nil, Site.m.injEq, bne_self_eq_false, beq_iff_eq, bne_iff_ne, ↓reduceIte, Int.reduceAdd, Int.reduceSub, Int.reduceToNat, Int.reduceNeg, Nat.reduceAdd, Nat.reduceMul, Nat.reduceSub, exists_eq_left', exists_eq_left, implies_true, forall_const, Site.l.injEq, Site.e.injEq, reduceCtorEq, beq_self_eq_true, ne_eq, gfs, h1, h4, h2', Nat.mul_one, List.drop_succ_cons, fols_drop hx, ha, Option.getD_some]
theorem grLose_none (g : Gr) (m : Int) : OkH Try.prog 22 [.ptr (.e 0) 0 0, I 0, I m] (grH g) (I 4) (grHv g 0 0) := by
  refine OkH.of_wp (rs := [.tmp 6]) (n := 48) [] Try.func22 rfl rfl rfl (by simp) fo (by kernel_rfl) ?_
  simp (decide := true) (maxSteps := 4000000) -implicitDefEqProofs only [evs, tabs, puts, siteD, gget, tget, tset, initT, dstAt, ev, evC, plain, Hp.get, Hp.set, bnd, isCells, isRow, SubA, SubC, Sub, SubL, CvA, Cv, dis, ordB, ite_self, exists_eq', List.mem_cons, List.not_mem_nil, Site.m.injEq, bne_self_eq_false, beq_iff_eq, bne_iff_ne, ↓reduceIte, Int.reduceAdd, Int.reduceSub, Int.reduceToNat, Int.reduceNeg, Nat.reduceAdd, Nat.reduceMul, Nat.reduceSub, exists_eq_left', exists_eq_left, implies_true, forall_const, Site.l.injEq, Site.e.injEq, reduceCtorEq, beq_self_eq_true, ne_eq]
  refine callH (grIs_ok g 0) [.e 0, .e 1, .e 2, .e 3, .e 4] ?_
  simp (decide := true) (maxSteps := 4000000) -implicitDefEqProofs only [evs, tabs, puts, siteD, gget, tget, tset, initT, dstAt, ev, evC, plain, Hp.get, Hp.set, bnd, isCells, isRow, SubA, SubC, Sub, SubL, CvA, Cv, dis, ordB, ite_self, exists_eq', List.mem_cons, List.not_mem_nil, Site.m.injEq, bne_self_eq_false, beq_iff_eq, bne_iff_ne, ↓reduceIte, Int.reduceAdd, Int.reduceSub, Int.reduceToNat, Int.reduceNeg, Nat.reduceAdd, Nat.reduceMul, Nat.reduceSub, exists_eq_left', exists_eq_left, implies_true, forall_const, Site.l.injEq, Site.e.injEq, reduceCtorEq, beq_self_eq_true, ne_eq, gfs, Option.getD_some]
abbrev grL (g : Gr) : Hp := [(.e 0, 0, .cells 57 (grC g 0 0)), (.e 1, 0, .row 9 1 none (ss1 g.log)), (.e 2, 0, .cells 22 (grHas g 0)), (.e 3, 0, .row 9 1 none (ss1 g.log)), (.e 4, 0, .row 3 1 (some g.n) (is1 g.ack))]
theorem agr_nil (l : List ByteArray) : agr [] l = true := by cases l <;> rfl
theorem agr_nil2 (l : List ByteArray) : agr l [] = true := by cases l <;> rfl
theorem grTake_ok {g : Gr} (h : grOk g) {i fr : Nat} (hi : i + 1 < g.n) (l : List ByteArray) (hl : l.length ≤ 60) : OkH Try.prog 17 [.ptr (.e 0) 0 0, I ((i + 1 : Nat) : Int), I fr, strs l] (grH g) (.tup [I (if tkE g i fr l = 0 then (((tkL g i fr l).length : Nat) : Int) else 0), I (tkE g i fr l)]) (grHv (gTake g i fr l) 0 0) := by
  have hd : decide (1 ≤ ((i + 1 : Nat) : Int) ∧ ((i + 1 : Nat) : Int) < g.n) = true := by rw [decide_eq_true_iff]; omega
  have h4 : ((i + 1 : Nat) : Int) < g.n := by omega
  have hx := hasF h hi
  have hj : i < g.fol.length := by have := h.2.2.1; omega
  have h5 := gHas_len h i
  have h1 : ¬ ((fr : Int) < 0) := by omega
  have h2 : ¬ ((l.length : Int) > 60) := by omega
  refine OkH.of_wp (rs := [.tmp 8, .tmp 9]) (n := 92) [] Try.func17 rfl rfl rfl (by simp) fo (by kernel_rfl) ?_
  simp (decide := true) (maxSteps := 4000000) -implicitDefEqProofs only [evs, tabs, puts, siteD, gget, tget, tset, initT, dstAt, ev, evC, plain, Hp.get, Hp.set, bnd, isCells, isRow, SubA, SubC, Sub, SubL, CvA, Cv, dis, ordB, ite_self, exists_eq', List.mem_cons, List.not_mem_nil, Site.m.injEq, bne_self_eq_false, beq_iff_eq, bne_iff_ne, ↓reduceIte, Int.reduceAdd, Int.reduceSub, Int.reduceToNat, Int.reduceNeg, Nat.reduceAdd, Nat.reduceMul, Nat.reduceSub, exists_eq_left', exists_eq_left, implies_true, forall_const, Site.l.injEq, Site.e.injEq, reduceCtorEq, beq_self_eq_true, ne_eq]
  refine callH (grIs_ok g ((i + 1 : Nat) : Int)) [.e 0, .e 1, .e 2, .e 3, .e 4] ?_
  rw [hd]
  have ps := gPut_same g hj
  generalize hF : gHas g i = F at hx h5 ps
  by_cases h3 : F.length < fr
  · have e : tkE g i fr l = 9 := by unfold tkE; rw [hF, if_pos h3]
    have h3' : (fr : Int) > F.length := by omega
    unfold gTake
    rw [e]
    simp (decide := true) (maxSteps := 4000000) -implicitDefEqProofs only [evs, tabs, puts, siteD, gget, tget, tset, initT, dstAt, ev, evC, plain, Hp.get, Hp.set, bnd, isCells, isRow, SubA, SubC, Sub, SubL, CvA, Cv, dis, ordB, ite_self, exists_eq', List.mem_cons, List.not_mem_nil, Site.m.injEq, bne_self_eq_false, beq_iff_eq, bne_iff_ne, ↓reduceIte, Int.reduceAdd, Int.reduceSub, Int.reduceToNat, Int.reduceNeg, Nat.reduceAdd, Nat.reduceMul, Nat.reduceSub, exists_eq_left', exists_eq_left, implies_true, forall_const, Site.l.injEq, Site.e.injEq, reduceCtorEq, beq_self_eq_true, ne_eq, gfs, h1, h2, h3', h4, Nat.mul_one, List.drop_succ_cons, fols_drop hx, Option.getD_some]
  have h3' : ¬ ((fr : Int) > F.length) := by omega
  simp (decide := true) (maxSteps := 4000000) -implicitDefEqProofs only [evs, tabs, puts, siteD, gget, tget, tset, initT, dstAt, ev, evC, plain, Hp.get, Hp.set, bnd, isCells, isRow, SubA, SubC, Sub, SubL, CvA, Cv, dis, ordB, ite_self, exists_eq', List.mem_cons, List.not_mem_nil, Site.m.injEq, bne_self_eq_false, beq_iff_eq, bne_iff_ne, ↓reduceIte, Int.reduceAdd, Int.reduceSub, Int.reduceToNat, Int.reduceNeg, Nat.reduceAdd, Nat.reduceMul, Nat.reduceSub, exists_eq_left', exists_eq_left, implies_true, forall_const, Site.l.injEq, Site.e.injEq, reduceCtorEq, beq_self_eq_true, ne_eq, gfs, h1, h2, h3', h4, Nat.mul_one, List.drop_succ_cons, fols_drop hx, Option.getD_some]
  refine ALoop.st [0, 1, 2, 3, 10, 36, 37, 38] (fun (k : Nat) => [.ptr (.e 0) 0 0, I ((i + 1 : Nat) : Int), I fr, strs l, strs F, strs l, I l.length, I k]) (fun _ => grL g) (fun k => k ≤ l.length ∧ agr (F.drop fr) l = agr (F.drop (fr + k)) (l.drop k)) (fun k => l.length - k) [] 0 (by simp (decide := true) (maxSteps := 4000000) -implicitDefEqProofs only [evs, tabs, puts, siteD, gget, tget, tset, initT, dstAt, ev, evC, plain, Hp.get, Hp.set, bnd, isCells, isRow, SubA, SubC, Sub, SubL, CvA, Cv, dis, ordB, ite_self, exists_eq', List.mem_cons, List.not_mem_nil, Site.m.injEq, bne_self_eq_false, beq_iff_eq, bne_iff_ne, ↓reduceIte, Int.reduceAdd, Int.reduceSub, Int.reduceToNat, Int.reduceNeg, Nat.reduceAdd, Nat.reduceMul, Nat.reduceSub, exists_eq_left', exists_eq_left, implies_true, forall_const, Site.l.injEq, Site.e.injEq, reduceCtorEq, beq_self_eq_true, ne_eq, gfs]) (by simp (decide := true) (maxSteps := 4000000) -implicitDefEqProofs only [evs, tabs, puts, siteD, gget, tget, tset, initT, dstAt, ev, evC, plain, Hp.get, Hp.set, bnd, isCells, isRow, SubA, SubC, Sub, SubL, CvA, Cv, dis, ordB, ite_self, exists_eq', List.mem_cons, List.not_mem_nil, Site.m.injEq, bne_self_eq_false, beq_iff_eq, bne_iff_ne, ↓reduceIte, Int.reduceAdd, Int.reduceSub, Int.reduceToNat, Int.reduceNeg, Nat.reduceAdd, Nat.reduceMul, Nat.reduceSub, exists_eq_left', exists_eq_left, implies_true, forall_const, Site.l.injEq, Site.e.injEq, reduceCtorEq, beq_self_eq_true, ne_eq, gfs]) ⟨by omega, rfl⟩ ?_
  rintro k ⟨hk, ha⟩
  by_cases hk2 : (k : Int) < l.length
  · obtain ⟨s, hs⟩ := lt_get (l := l) (i := k) (by omega)
    have hw := wr_add1 hk2 (by omega)
    have hs2 : l.drop k = s :: l.drop (k + 1) := by
      obtain ⟨q, e⟩ := List.getElem?_eq_some_iff.1 hs
      rw [List.drop_eq_getElem_cons q, e]
    have hw2 : IntKind.i64.wrap ((fr : Int) + k) = ((fr + k : Nat) : Int) := by rw [wr_i64 (by omega) (by omega)]; omega
    by_cases hq : fr + k < F.length
    · obtain ⟨x, hx2⟩ := lt_get (l := F) (i := fr + k) hq
      have hF2 : F.drop (fr + k) = x :: F.drop (fr + k + 1) := by
        obtain ⟨q, e⟩ := List.getElem?_eq_some_iff.1 hx2
        rw [List.drop_eq_getElem_cons q, e]
      have hq' : ((fr + k : Nat) : Int) < F.length := by omega
      rw [hs2, hF2, agr] at ha
      by_cases hxs : x = s
      · rw [decide_eq_true hxs, Bool.true_and] at ha
        simp (decide := true) (maxSteps := 4000000) -implicitDefEqProofs only [evs, tabs, puts, siteD, gget, tget, tset, initT, dstAt, ev, evC, plain, Hp.get, Hp.set, bnd, isCells, isRow, SubA, SubC, Sub, SubL, CvA, Cv, dis, ordB, ite_self, exists_eq', List.mem_cons, List.not_mem_nil, Site.m.injEq, bne_self_eq_false, beq_iff_eq, bne_iff_ne, ↓reduceIte, Int.reduceAdd, Int.reduceSub, Int.reduceToNat, Int.reduceNeg, Nat.reduceAdd, Nat.reduceMul, Nat.reduceSub, exists_eq_left', exists_eq_left, implies_true, forall_const, Site.l.injEq, Site.e.injEq, reduceCtorEq, beq_self_eq_true, ne_eq, gfs, hs, hk2, hw2, hq', hx2, hxs]
        exact Nxt.mk [] (k + 1) (by simp (decide := true) (maxSteps := 4000000) -implicitDefEqProofs only [evs, tabs, puts, siteD, gget, tget, tset, initT, dstAt, ev, evC, plain, Hp.get, Hp.set, bnd, isCells, isRow, SubA, SubC, Sub, SubL, CvA, Cv, dis, ordB, ite_self, exists_eq', List.mem_cons, List.not_mem_nil, Site.m.injEq, bne_self_eq_false, beq_iff_eq, bne_iff_ne, ↓reduceIte, Int.reduceAdd, Int.reduceSub, Int.reduceToNat, Int.reduceNeg, Nat.reduceAdd, Nat.reduceMul, Nat.reduceSub, exists_eq_left', exists_eq_left, implies_true, forall_const, Site.l.injEq, Site.e.injEq, reduceCtorEq, beq_self_eq_true, ne_eq, hw]) (by simp (decide := true) (maxSteps := 4000000) -implicitDefEqProofs only [evs, tabs, puts, siteD, gget, tget, tset, initT, dstAt, ev, evC, plain, Hp.get, Hp.set, bnd, isCells, isRow, SubA, SubC, Sub, SubL, CvA, Cv, dis, ordB, ite_self, exists_eq', List.mem_cons, List.not_mem_nil, Site.m.injEq, bne_self_eq_false, beq_iff_eq, bne_iff_ne, ↓reduceIte, Int.reduceAdd, Int.reduceSub, Int.reduceToNat, Int.reduceNeg, Nat.reduceAdd, Nat.reduceMul, Nat.reduceSub, exists_eq_left', exists_eq_left, implies_true, forall_const, Site.l.injEq, Site.e.injEq, reduceCtorEq, beq_self_eq_true, ne_eq, gfs]) ⟨by omega, ha⟩ (by omega)
      · rw [decide_eq_false hxs, Bool.false_and] at ha
        have e : tkE g i fr l = 3 := by unfold tkE; rw [hF, if_neg h3, ha]; rfl
        have hxs' : decide (x = s) = false := decide_eq_false hxs
        unfold gTake
        rw [e]
        simp (decide := true) (maxSteps := 4000000) -implicitDefEqProofs only [evs, tabs, puts, siteD, gget, tget, tset, initT, dstAt, ev, evC, plain, Hp.get, Hp.set, bnd, isCells, isRow, SubA, SubC, Sub, SubL, CvA, Cv, dis, ordB, ite_self, exists_eq', List.mem_cons, List.not_mem_nil, Site.m.injEq, bne_self_eq_false, beq_iff_eq, bne_iff_ne, ↓reduceIte, Int.reduceAdd, Int.reduceSub, Int.reduceToNat, Int.reduceNeg, Nat.reduceAdd, Nat.reduceMul, Nat.reduceSub, exists_eq_left', exists_eq_left, implies_true, forall_const, Site.l.injEq, Site.e.injEq, reduceCtorEq, beq_self_eq_true, ne_eq, gfs, hs, hk2, hw2, hq', hx2, toList_beq, hxs', Option.getD_some]
    · have hq' : ¬ (((fr + k : Nat) : Int) < F.length) := by omega
      rw [List.drop_eq_nil_of_le (show F.length ≤ fr + k by omega), agr_nil] at ha
      simp (decide := true) (maxSteps := 4000000) -implicitDefEqProofs only [evs, tabs, puts, siteD, gget, tget, tset, initT, dstAt, ev, evC, plain, Hp.get, Hp.set, bnd, isCells, isRow, SubA, SubC, Sub, SubL, CvA, Cv, dis, ordB, ite_self, exists_eq', List.mem_cons, List.not_mem_nil, Site.m.injEq, bne_self_eq_false, beq_iff_eq, bne_iff_ne, ↓reduceIte, Int.reduceAdd, Int.reduceSub, Int.reduceToNat, Int.reduceNeg, Nat.reduceAdd, Nat.reduceMul, Nat.reduceSub, exists_eq_left', exists_eq_left, implies_true, forall_const, Site.l.injEq, Site.e.injEq, reduceCtorEq, beq_self_eq_true, ne_eq, gfs, hs, hk2, hw2, hq']
      exact Nxt.mk [] (k + 1) (by simp (decide := true) (maxSteps := 4000000) -implicitDefEqProofs only [evs, tabs, puts, siteD, gget, tget, tset, initT, dstAt, ev, evC, plain, Hp.get, Hp.set, bnd, isCells, isRow, SubA, SubC, Sub, SubL, CvA, Cv, dis, ordB, ite_self, exists_eq', List.mem_cons, List.not_mem_nil, Site.m.injEq, bne_self_eq_false, beq_iff_eq, bne_iff_ne, ↓reduceIte, Int.reduceAdd, Int.reduceSub, Int.reduceToNat, Int.reduceNeg, Nat.reduceAdd, Nat.reduceMul, Nat.reduceSub, exists_eq_left', exists_eq_left, implies_true, forall_const, Site.l.injEq, Site.e.injEq, reduceCtorEq, beq_self_eq_true, ne_eq, hw]) (by simp (decide := true) (maxSteps := 4000000) -implicitDefEqProofs only [evs, tabs, puts, siteD, gget, tget, tset, initT, dstAt, ev, evC, plain, Hp.get, Hp.set, bnd, isCells, isRow, SubA, SubC, Sub, SubL, CvA, Cv, dis, ordB, ite_self, exists_eq', List.mem_cons, List.not_mem_nil, Site.m.injEq, bne_self_eq_false, beq_iff_eq, bne_iff_ne, ↓reduceIte, Int.reduceAdd, Int.reduceSub, Int.reduceToNat, Int.reduceNeg, Nat.reduceAdd, Nat.reduceMul, Nat.reduceSub, exists_eq_left', exists_eq_left, implies_true, forall_const, Site.l.injEq, Site.e.injEq, reduceCtorEq, beq_self_eq_true, ne_eq, gfs]) ⟨by omega, by rw [ha, List.drop_eq_nil_of_le (by omega), agr_nil]⟩ (by omega)
  · obtain rfl : k = l.length := by omega
    rw [List.drop_eq_nil_of_le (Nat.le_refl l.length), agr_nil2] at ha
    have hw3 : IntKind.i64.wrap ((fr : Int) + l.length) = ((fr + l.length : Nat) : Int) := by rw [wr_i64 (by omega) (by omega)]; omega
    by_cases h60 : 60 < fr + l.length
    · have e : tkE g i fr l = 2 := by unfold tkE; rw [hF, if_neg h3, ha, if_pos rfl, if_pos h60]
      have h60' : ((fr + l.length : Nat) : Int) > 60 := by omega
      unfold gTake
      rw [e]
      simp (decide := true) (maxSteps := 4000000) -implicitDefEqProofs only [evs, tabs, puts, siteD, gget, tget, tset, initT, dstAt, ev, evC, plain, Hp.get, Hp.set, bnd, isCells, isRow, SubA, SubC, Sub, SubL, CvA, Cv, dis, ordB, ite_self, exists_eq', List.mem_cons, List.not_mem_nil, Site.m.injEq, bne_self_eq_false, beq_iff_eq, bne_iff_ne, ↓reduceIte, Int.reduceAdd, Int.reduceSub, Int.reduceToNat, Int.reduceNeg, Nat.reduceAdd, Nat.reduceMul, Nat.reduceSub, exists_eq_left', exists_eq_left, implies_true, forall_const, Site.l.injEq, Site.e.injEq, reduceCtorEq, beq_self_eq_true, ne_eq, gfs, hk2, hw3, h60', Option.getD_some]
    · have e : tkE g i fr l = 0 := by unfold tkE; rw [hF, if_neg h3, ha, if_pos rfl, if_neg h60]
      have h60' : ¬ (((fr + l.length : Nat) : Int) > 60) := by omega
      have e2 : tkL g i fr l = F ++ l.drop (F.length - fr) := by unfold tkL; rw [hF]
      unfold gTake
      rw [e, if_pos rfl, if_pos rfl, e2]
      by_cases hlt : F.length < fr + l.length
      · have hlt' : ((fr + l.length : Nat) : Int) > F.length := by omega
        have hw4 : IntKind.i64.wrap ((F.length : Int) - fr) = ((F.length - fr : Nat) : Int) := by rw [wr_i64 (by omega) (by omega)]; omega
        have q1 : List.drop (F.length - fr) (List.map (fun s => [S s]) l) = ss1 (l.drop (F.length - fr)) := List.map_drop.symm
        have q2 : (l.drop (F.length - fr)).length = l.length - (F.length - fr) := List.length_drop
        have q3 : List.take (F.length + (l.length - (F.length - fr))) (ss1 F ++ ss1 (l.drop (F.length - fr))) = ss1 (F ++ l.drop (F.length - fr)) := by
          rw [List.take_of_length_le (by simp)]
          exact List.map_append.symm
        have q4 : (F ++ l.drop (F.length - fr)).length = F.length + (l.length - (F.length - fr)) := by rw [List.length_append, q2]
        rw [q4]
        unfold gPut
        simp (decide := true) (maxSteps := 4000000) -implicitDefEqProofs only [evs, tabs, puts, siteD, gget, tget, tset, initT, dstAt, ev, evC, plain, Hp.get, Hp.set, bnd, isCells, isRow, SubA, SubC, Sub, SubL, CvA, Cv, dis, ordB, ite_self, exists_eq', List.mem_cons, List.not_mem_nil, Site.m.injEq, bne_self_eq_false, beq_iff_eq, bne_iff_ne, ↓reduceIte, Int.reduceAdd, Int.reduceSub, Int.reduceToNat, Int.reduceNeg, Nat.reduceAdd, Nat.reduceMul, Nat.reduceSub, exists_eq_left', exists_eq_left, implies_true, forall_const, Site.l.injEq, Site.e.injEq, reduceCtorEq, beq_self_eq_true, ne_eq, gfs, hk2, hw3, hw4, h60', hlt', h4, Nat.mul_one, List.drop_succ_cons, fols_drop hx, Option.getD_some]
        refine callH (cloneStrsH_ok F (by omega)) [.l 75] ?_
        simp (decide := true) (maxSteps := 4000000) -implicitDefEqProofs only [evs, tabs, puts, siteD, gget, tget, tset, initT, dstAt, ev, evC, plain, Hp.get, Hp.set, bnd, isCells, isRow, SubA, SubC, Sub, SubL, CvA, Cv, dis, ordB, ite_self, exists_eq', List.mem_cons, List.not_mem_nil, Site.m.injEq, bne_self_eq_false, beq_iff_eq, bne_iff_ne, ↓reduceIte, Int.reduceAdd, Int.reduceSub, Int.reduceToNat, Int.reduceNeg, Nat.reduceAdd, Nat.reduceMul, Nat.reduceSub, exists_eq_left', exists_eq_left, implies_true, forall_const, Site.l.injEq, Site.e.injEq, reduceCtorEq, beq_self_eq_true, ne_eq, gfs, hw4, Option.getD_some, tk1, q1, q2, q3, h4, Nat.mul_one, List.take_succ_cons, List.drop_succ_cons, List.append_assoc, List.cons_append, List.nil_append, fols_mid hj, fols_put _ hj]
        exact ⟨by omega, by omega, by omega, by omega⟩
      · have hlt' : ¬ (((fr + l.length : Nat) : Int) > F.length) := by omega
        have e3 : l.drop (F.length - fr) = [] := List.drop_eq_nil_of_le (by omega)
        rw [e3, List.append_nil, ps]
        simp (decide := true) (maxSteps := 4000000) -implicitDefEqProofs only [evs, tabs, puts, siteD, gget, tget, tset, initT, dstAt, ev, evC, plain, Hp.get, Hp.set, bnd, isCells, isRow, SubA, SubC, Sub, SubL, CvA, Cv, dis, ordB, ite_self, exists_eq', List.mem_cons, List.not_mem_nil, Site.m.injEq, bne_self_eq_false, beq_iff_eq, bne_iff_ne, ↓reduceIte, Int.reduceAdd, Int.reduceSub, Int.reduceToNat, Int.reduceNeg, Nat.reduceAdd, Nat.reduceMul, Nat.reduceSub, exists_eq_left', exists_eq_left, implies_true, forall_const, Site.l.injEq, Site.e.injEq, reduceCtorEq, beq_self_eq_true, ne_eq, gfs, hk2, hw3, h60', hlt', h4, Nat.mul_one, List.drop_succ_cons, fols_drop hx, Option.getD_some]
theorem grH_len {g : Gr} (h : grOk g) : g.ack ≠ [] := by
  intro e
  have := h.1
  have h2 := h.2.2.2.1
  rw [e] at h2
  simp at h2
  omega
theorem grSure_ok {g : Gr} (h : grOk g) : OkH Try.prog 14 [.ptr (.e 0) 0 0] (grH g) (I (gSure g)) (grHv g 0 0) := by
  have hn := h.2.1
  have hn1 := h.1
  have ha := h.2.2.2.1
  obtain ⟨x, hx⟩ := lt_get (l := sortI g.ack) (i := (g.n - 1) / 2) (by rw [sortI_len, ha]; omega)
  have e : gSure g = x := by unfold gSure; rw [show (g.ack.mergeSort fun x y => decide (x ≤ y)) = sortI g.ack from rfl, hx]; rfl
  have w1 : IntKind.i64.wrap ((g.n : Int) - 1) = ((g.n - 1 : Nat) : Int) := by rw [wr_i64 (by omega) (by omega)]; omega
  have w2 : IntKind.i64.wrap (((g.n - 1 : Nat) : Int).tdiv 2) = (((g.n - 1) / 2 : Nat) : Int) := by
    have : ((g.n - 1 : Nat) : Int).tdiv 2 = (((g.n - 1) / 2 : Nat) : Int) := by rw [Int.tdiv_eq_ediv_of_nonneg (by omega)]; omega
    rw [this, wr_i64 (by omega) (by omega)]
  have c1 := valsI_ok g.n (some g.n) (is1 g.ack)
  have c2 := sortedV_ok g.ack (grH_len h) (by omega) 55 (some g.n)
  rw [ha] at c2
  rw [e]
  refine OkH.of_wp (rs := [.tmp 2]) (n := 19) [] Try.func14 rfl rfl rfl (by simp) fo (by kernel_rfl) ?_
  simp (decide := true) (maxSteps := 4000000) -implicitDefEqProofs only [evs, tabs, puts, siteD, gget, tget, tset, initT, dstAt, ev, evC, plain, Hp.get, Hp.set, bnd, isCells, isRow, SubA, SubC, Sub, SubL, CvA, Cv, dis, ordB, ite_self, exists_eq', List.mem_cons, List.not_mem_nil, Site.m.injEq, bne_self_eq_false, beq_iff_eq, bne_iff_ne, ↓reduceIte, Int.reduceAdd, Int.reduceSub, Int.reduceToNat, Int.reduceNeg, Nat.reduceAdd, Nat.reduceMul, Nat.reduceSub, exists_eq_left', exists_eq_left, implies_true, forall_const, Site.l.injEq, Site.e.injEq, reduceCtorEq, beq_self_eq_true, ne_eq]
  refine callH c1 [.e 4, .l 8] ?_
  simp (decide := true) (maxSteps := 4000000) -implicitDefEqProofs only [evs, tabs, puts, siteD, gget, tget, tset, initT, dstAt, ev, evC, plain, Hp.get, Hp.set, bnd, isCells, isRow, SubA, SubC, Sub, SubL, CvA, Cv, dis, ordB, ite_self, exists_eq', List.mem_cons, List.not_mem_nil, Site.m.injEq, bne_self_eq_false, beq_iff_eq, bne_iff_ne, ↓reduceIte, Int.reduceAdd, Int.reduceSub, Int.reduceToNat, Int.reduceNeg, Nat.reduceAdd, Nat.reduceMul, Nat.reduceSub, exists_eq_left', exists_eq_left, implies_true, forall_const, Site.l.injEq, Site.e.injEq, reduceCtorEq, beq_self_eq_true, ne_eq, gfs]
  refine callH c2 [.l 8, .e 4] ?_
  simp (decide := true) (maxSteps := 4000000) -implicitDefEqProofs only [evs, tabs, puts, siteD, gget, tget, tset, initT, dstAt, ev, evC, plain, Hp.get, Hp.set, bnd, isCells, isRow, SubA, SubC, Sub, SubL, CvA, Cv, dis, ordB, ite_self, exists_eq', List.mem_cons, List.not_mem_nil, Site.m.injEq, bne_self_eq_false, beq_iff_eq, bne_iff_ne, ↓reduceIte, Int.reduceAdd, Int.reduceSub, Int.reduceToNat, Int.reduceNeg, Nat.reduceAdd, Nat.reduceMul, Nat.reduceSub, exists_eq_left', exists_eq_left, implies_true, forall_const, Site.l.injEq, Site.e.injEq, reduceCtorEq, beq_self_eq_true, ne_eq, gfs, w1, w2, hx, Option.getD_some]
end Go.Proofs.Ytljickachmdejaa.E
