/- Walks: the document's answers that the laws' stores are made with. No conditions. -/
import Derived.Test.YtnmbglnenmhpiaaDoorStoreC
import Derived.Test.YtnmbglnenmhpiaaDoorShelf
import Derived.Shelf.Strings.SlTrimAscii
namespace Go.Proofs.YtnmbglnenmhpiaaDoor.E
open Go
set_option linter.unusedSimpArgs false
set_option linter.unusedVariables false
set_option linter.unusedSectionVars false
set_option maxRecDepth 20000
theorem within_ok (x a b : Int) : Ok Tryd.prog 29 [I x, I a, I b] (B (decide (a ≤ x ∧ x ≤ b))) := by
  refine Ok.of_wp (rs := [.tmp 6]) (n := 15) Tryd.func29 rfl rfl rfl (by simp) fo (by kernel_rfl) ?_
  simp (decide := true) (maxSteps := 4000000) -implicitDefEqProofs only [evs, tabs, puts, siteD, gget, tget, tset, initT, dstAt, ev, evC, plain, Hp.get, Hp.set, bnd, isCells, isRow, SubA, SubC, Sub, SubL, CvA, Cv, dis, ordB, ite_self, exists_eq', List.mem_cons, List.not_mem_nil, Site.m.injEq, bne_self_eq_false, beq_iff_eq, bne_iff_ne, ↓reduceIte, Int.reduceAdd, Int.reduceSub, Int.reduceToNat, Int.reduceNeg, Nat.reduceAdd, Nat.reduceMul, Nat.reduceSub, exists_eq_left', exists_eq_left, implies_true, forall_const, Site.l.injEq, Site.e.injEq, reduceCtorEq, beq_self_eq_true, ne_eq]
  split
  · refine B_eq ?_
    rw [Bool.eq_iff_iff, decide_eq_true_eq, decide_eq_true_eq]; omega
  · exact B_eq (decide_eq_false (by omega)).symm
def idCut : ByteArray := ⟨#[97, 98, 99, 100, 101, 102, 103, 104, 105, 106, 107, 108, 109, 110, 111, 112, 113, 114, 115, 116, 117, 118, 119, 120, 121, 122, 48, 49, 50, 51, 52, 53, 54, 55, 56, 57]⟩
theorem Trim_ok (s : ByteArray) (hs : s.size ≤ 9223372036854775807) : Ok Tryd.prog 30 [S s, S idCut] (S ⟨(Lib.trimS s.data.toList idCut.data.toList).toArray⟩) := by
  intro w T vs hT hG hv
  simp only [RVL, RV] at hv
  obtain ⟨_, _, rfl, ⟨rfl, _⟩, _, _, rfl, ⟨rfl, _⟩, rfl⟩ := hv
  have hcon := Go.Proofs.Any.strings_Trim_laid Go.Proofs.Tryd.lays160 (by kernel_rfl) s idCut w hs (by decide) (ascii_of_all (by decide))
  change Calls Tryd.prog 30 _ _ _ at hcon
  refine hcon.mono ?_
  rintro e w' ⟨rfl, hB⟩
  exact ⟨_, rfl, hB, by simp only [RV]; exact ⟨trivial, rfl⟩⟩
theorem idCut_mem (c : UInt8) : idCut.data.toList.contains c = idB c := by
  have : ∀ n : Fin 256, idCut.data.toList.contains (UInt8.ofNat n.1) = idB (UInt8.ofNat n.1) := by decide +kernel
  have h := this ⟨c.toNat, c.toNat_lt⟩
  simpa using h
theorem dropWhile_nil {α : Type} (p : α → Bool) (l : List α) : l.dropWhile p = [] ↔ l.all p = true := by
  induction l with
  | nil => simp
  | cons x l ih =>
    simp only [List.dropWhile_cons, List.all_cons, Bool.and_eq_true]
    split
    · rename_i h; simp [ih, h]
    · rename_i h; simp [h]
theorem trim_nil (l : List UInt8) : (Lib.trimS l idCut.data.toList = []) ↔ l.all idB = true := by
  have e : (fun c => idCut.data.toList.contains c) = idB := funext idCut_mem
  unfold Lib.trimS Lib.trimLeftS Lib.trimRightS
  rw [e, dropWhile_nil, List.all_reverse]
  have : (l.reverse.dropWhile idB).all idB = true ↔ l.all idB = true := by
    rw [← List.all_reverse (l := l)]
    generalize l.reverse = m
    induction m with
    | nil => simp
    | cons x m ih =>
      simp only [List.dropWhile_cons, List.all_cons, Bool.and_eq_true]
      split
      · rename_i h; rw [ih]; simp [h]
      · rename_i h; simp [h]
  exact this
theorem rId_ok (s : ByteArray) : Ok Tryd.prog 11 [S s] (B (idOk s)) := by
  refine Ok.of_wp (rs := [.tmp 2]) (n := 11) Tryd.func11 rfl rfl rfl (by simp) fo (by kernel_rfl) ?_
  simp (decide := true) (maxSteps := 4000000) -implicitDefEqProofs only [evs, tabs, puts, siteD, gget, tget, tset, initT, dstAt, ev, evC, plain, Hp.get, Hp.set, bnd, isCells, isRow, SubA, SubC, Sub, SubL, CvA, Cv, dis, ordB, ite_self, exists_eq', List.mem_cons, List.not_mem_nil, Site.m.injEq, bne_self_eq_false, beq_iff_eq, bne_iff_ne, ↓reduceIte, Int.reduceAdd, Int.reduceSub, Int.reduceToNat, Int.reduceNeg, Nat.reduceAdd, Nat.reduceMul, Nat.reduceSub, exists_eq_left', exists_eq_left, implies_true, forall_const, Site.l.injEq, Site.e.injEq, reduceCtorEq, beq_self_eq_true, ne_eq]
  refine call_eq (within_ok s.size 1 8) ?_
  by_cases h : 1 ≤ (s.size : Int) ∧ (s.size : Int) ≤ 8
  · rw [decide_eq_true h]
    simp (decide := true) (maxSteps := 4000000) -implicitDefEqProofs only [evs, tabs, puts, siteD, gget, tget, tset, initT, dstAt, ev, evC, plain, Hp.get, Hp.set, bnd, isCells, isRow, SubA, SubC, Sub, SubL, CvA, Cv, dis, ordB, ite_self, exists_eq', List.mem_cons, List.not_mem_nil, Site.m.injEq, bne_self_eq_false, beq_iff_eq, bne_iff_ne, ↓reduceIte, Int.reduceAdd, Int.reduceSub, Int.reduceToNat, Int.reduceNeg, Nat.reduceAdd, Nat.reduceMul, Nat.reduceSub, exists_eq_left', exists_eq_left, implies_true, forall_const, Site.l.injEq, Site.e.injEq, reduceCtorEq, beq_self_eq_true, ne_eq]
    refine call_eq (Trim_ok s (by omega)) ?_
    simp (decide := true) (maxSteps := 4000000) -implicitDefEqProofs only [evs, tabs, puts, siteD, gget, tget, tset, initT, dstAt, ev, evC, plain, Hp.get, Hp.set, bnd, isCells, isRow, SubA, SubC, Sub, SubL, CvA, Cv, dis, ordB, ite_self, exists_eq', List.mem_cons, List.not_mem_nil, Site.m.injEq, bne_self_eq_false, beq_iff_eq, bne_iff_ne, ↓reduceIte, Int.reduceAdd, Int.reduceSub, Int.reduceToNat, Int.reduceNeg, Nat.reduceAdd, Nat.reduceMul, Nat.reduceSub, exists_eq_left', exists_eq_left, implies_true, forall_const, Site.l.injEq, Site.e.injEq, reduceCtorEq, beq_self_eq_true, ne_eq, beq_empty]
    refine B_eq ?_
    rw [idOk, decide_eq_false (p := s.size = 0) (by omega), decide_eq_true (p := s.size ≤ 8) (by omega), Bool.eq_iff_iff, decide_eq_true_eq, size_eq]
    simp only [Bool.not_false, Bool.true_and, ← trim_nil]
    exact List.length_eq_zero_iff
  · rw [decide_eq_false h]
    simp (decide := true) (maxSteps := 4000000) -implicitDefEqProofs only [evs, tabs, puts, siteD, gget, tget, tset, initT, dstAt, ev, evC, plain, Hp.get, Hp.set, bnd, isCells, isRow, SubA, SubC, Sub, SubL, CvA, Cv, dis, ordB, ite_self, exists_eq', List.mem_cons, List.not_mem_nil, Site.m.injEq, bne_self_eq_false, beq_iff_eq, bne_iff_ne, ↓reduceIte, Int.reduceAdd, Int.reduceSub, Int.reduceToNat, Int.reduceNeg, Nat.reduceAdd, Nat.reduceMul, Nat.reduceSub, exists_eq_left', exists_eq_left, implies_true, forall_const, Site.l.injEq, Site.e.injEq, reduceCtorEq, beq_self_eq_true, ne_eq]
    refine B_eq ?_
    rw [idOk]
    by_cases h0 : s.size = 0
    · rw [decide_eq_true h0]; rfl
    · rw [decide_eq_false (p := s.size ≤ 8) (by omega), Bool.and_false]; rfl
def lastR (id : ByteArray) (c : Int) : List Vn → Int
  | [] => -1
  | v :: l => if v.r.id = id ∧ v.r.cats = c then (if v.gone = true then -1 else (l.length : Nat)) else lastR id c l
theorem lastR_lives (l : List Vn) (id : ByteArray) (c : Int) : lastR id c l.reverse < 0 ↔ lives l id c = false := by
  unfold lives
  rw [← List.foldr_reverse]
  generalize l.reverse = m
  induction m with
  | nil => simp [lastR]
  | cons v m ih =>
    simp only [lastR, List.foldr_cons, lStep]
    by_cases h : v.r.id = id ∧ v.r.cats = c
    · rw [if_pos h, if_pos h]
      cases v.gone <;> simp
    · rw [if_neg h, if_neg h]; exact ih
abbrev verZ : List AV := [S ⟨#[]⟩, I 0, .val (.slice none 0 0), .val (.slice none 0 0), B false]
theorem sumlen_le {α : Type} (ls : List (List α)) (j : Nat) : (ls.take j).flatten.length ≤ ls.flatten.length := by
  induction ls generalizing j with
  | nil => simp
  | cons x ls ih => cases j with
    | zero => simp
    | succ j => simp; have := ih j; simp at this; omega
theorem flat_take {α : Type} {ls : List (List α)} {j : Nat} {x : List α} (h : ls[j]? = some x) : (ls.take (j + 1)).flatten = (ls.take j).flatten ++ x := by
  rw [take_get h]; simp
end Go.Proofs.YtnmbglnenmhpiaaDoor.E
