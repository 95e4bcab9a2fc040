/- Several texts in one: RefA RefB StoreP Part PartB May. No conditions. -/
import Derived.Test.YtpdenloeacaadaaDoorGSt
import Derived.Test.YtpdenloeacaadaaDoorShelf
import Derived.Shelf.Strings.SlTrimAscii
import Derived.Test.YtpdenloeacaadaaDoorGLa
namespace Go.Proofs.YtpdenloeacaadaaDoor.E
open Go
set_option linter.unusedSimpArgs false
set_option linter.unusedVariables false
set_option linter.unusedSectionVars false
set_option maxRecDepth 20000
theorem within_ok (x a b : Int) : Ok Tryd.prog 45 [I x, I a, I b] (B (decide (a ≤ x ∧ x ≤ b))) := by
 refine Ok.of_wp (rs := [.tmp 6]) (n := 15) Tryd.func45 rfl rfl rfl (by simp) fo (by kernel_rfl) ?_
 simp (decide := true) (maxSteps := 4000000) -implicitDefEqProofs only [S0, ↓reduceIte, Int.reduceAdd, Int.reduceSub, Int.reduceToNat, Int.reduceNeg, Nat.reduceAdd, Nat.reduceMul, Nat.reduceSub, reduceCtorEq]
 split
 ·refine B_eq ?_
  rw [Bool.eq_iff_iff, decide_eq_true_eq, decide_eq_true_eq]; omega
 ·exact B_eq (decide_eq_false (by omega)).symm
theorem rCats_ok (x : Int) : Ok Tryd.prog 32 [I x] (B (decide (0 ≤ x ∧ x < 256))) := by
 refine Ok.of_wp (rs := [.tmp 2]) (n := 5) Tryd.func32 rfl rfl rfl (by simp) fo (by kernel_rfl) ?_
 simp (decide := true) (maxSteps := 4000000) -implicitDefEqProofs only [S0, ↓reduceIte, Int.reduceAdd, Int.reduceSub, Int.reduceToNat, Int.reduceNeg, Nat.reduceAdd, Nat.reduceMul, Nat.reduceSub, reduceCtorEq]
 refine call_eq (within_ok x 0 255) ?_
 simp (decide := true) (maxSteps := 4000000) -implicitDefEqProofs only [S0, ↓reduceIte, Int.reduceAdd, Int.reduceSub, Int.reduceToNat, Int.reduceNeg, Nat.reduceAdd, Nat.reduceMul, Nat.reduceSub, reduceCtorEq]
 exact B_eq (by rw [Bool.eq_iff_iff, decide_eq_true_eq, decide_eq_true_eq]; omega)
def idCut : ByteArray := ⟨#[97, 98, 99, 100, 101, 102, 103, 104, 105, 106, 107, 108, 109, 110, 111, 112, 113, 114, 115, 116, 117, 118, 119, 120, 121, 122, 48, 49, 50, 51, 52, 53, 54, 55, 56, 57]⟩
theorem Trim_ok (s : ByteArray) (hs : s.size ≤ 9223372036854775807) : Ok Tryd.prog 46 [S s, S idCut] (S ⟨(Lib.trimS s.data.toList idCut.data.toList).toArray⟩) := by
 intro w T vs hT hG hv
 simp only [RVL, RV] at hv
 obtain ⟨_, _, rfl, ⟨rfl, _⟩, _, _, rfl, ⟨rfl, _⟩, rfl⟩ := hv
 have hcon := Go.Proofs.Any.strings_Trim_laid Go.Proofs.Tryd.lays160 (by kernel_rfl) s idCut w hs (by decide) (ascii_of_all (by decide))
 change Calls Tryd.prog 46 _ _ _ at hcon
 refine hcon.mono ?_
 rintro e w' ⟨rfl, hB⟩
 exact ⟨_, rfl, hB, by simp only [RV]; exact ⟨trivial, rfl⟩⟩
theorem idCut_mem (c : UInt8) : idCut.data.toList.contains c = idB c := by
 have : ∀ n : Fin 256, idCut.data.toList.contains (UInt8.ofNat n.1) = idB (UInt8.ofNat n.1) := by decide +kernel
 have h := this ⟨c.toNat, c.toNat_lt⟩
 simpa using h
theorem dropWhile_nil {α : Type} (p : α → Bool) (l : List α) : l.dropWhile p = [] ↔ l.all p = true := by
 induction l with
 | nil => simp
 | cons x l ih =>
  simp only [List.dropWhile_cons, List.all_cons, Bool.and_eq_true]
  split
  ·rename_i h; simp [ih, h]
  ·rename_i h; simp [h]
theorem trim_nil (l : List UInt8) : (Lib.trimS l idCut.data.toList = []) ↔ l.all idB = true := by
 have e : (fun c => idCut.data.toList.contains c) = idB := funext idCut_mem
 unfold Lib.trimS Lib.trimLeftS Lib.trimRightS
 rw [e, dropWhile_nil, List.all_reverse]
 have : (l.reverse.dropWhile idB).all idB = true ↔ l.all idB = true := by
  rw [← List.all_reverse (l := l)]
  generalize l.reverse = m
  induction m with
  | nil => simp
  | cons x m ih =>
   simp only [List.dropWhile_cons, List.all_cons, Bool.and_eq_true]
   split
   ·rename_i h; rw [ih]; simp [h]
   ·rename_i h; simp [h]
 exact this
theorem rId_ok (s : ByteArray) : Ok Tryd.prog 31 [S s] (B (idOk s)) := by
 refine Ok.of_wp (rs := [.tmp 2]) (n := 11) Tryd.func31 rfl rfl rfl (by simp) fo (by kernel_rfl) ?_
 simp (decide := true) (maxSteps := 4000000) -implicitDefEqProofs only [S0, ↓reduceIte, Int.reduceAdd, Int.reduceSub, Int.reduceToNat, Int.reduceNeg, Nat.reduceAdd, Nat.reduceMul, Nat.reduceSub, reduceCtorEq]
 refine call_eq (within_ok s.size 1 8) ?_
 by_cases h : 1 ≤ (s.size : Int) ∧ (s.size : Int) ≤ 8
 ·rw [decide_eq_true h]
  simp (decide := true) (maxSteps := 4000000) -implicitDefEqProofs only [S0, ↓reduceIte, Int.reduceAdd, Int.reduceSub, Int.reduceToNat, Int.reduceNeg, Nat.reduceAdd, Nat.reduceMul, Nat.reduceSub, reduceCtorEq]
  refine call_eq (Trim_ok s (by omega)) ?_
  simp (decide := true) (maxSteps := 4000000) -implicitDefEqProofs only [S0, ↓reduceIte, Int.reduceAdd, Int.reduceSub, Int.reduceToNat, Int.reduceNeg, Nat.reduceAdd, Nat.reduceMul, Nat.reduceSub, reduceCtorEq, beq_empty]
  refine B_eq ?_
  rw [idOk, decide_eq_false (p := s.size = 0) (by omega), decide_eq_true (p := s.size ≤ 8) (by omega), Bool.eq_iff_iff, decide_eq_true_eq, size_eq]
  simp only [Bool.not_false, Bool.true_and, ← trim_nil]
  exact List.length_eq_zero_iff
 ·rw [decide_eq_false h]
  simp (decide := true) (maxSteps := 4000000) -implicitDefEqProofs only [S0, ↓reduceIte, Int.reduceAdd, Int.reduceSub, Int.reduceToNat, Int.reduceNeg, Nat.reduceAdd, Nat.reduceMul, Nat.reduceSub, reduceCtorEq]
  refine B_eq ?_
  rw [idOk]
  by_cases h0 : s.size = 0
  ·rw [decide_eq_true h0]; rfl
  ·rw [decide_eq_false (p := s.size ≤ 8) (by omega), Bool.and_false]; rfl
def lastR (id : ByteArray) (c : Int) : List Vn → Int
 | [] => -1
 | v :: l => if v.r.id = id ∧ v.r.cats = c then (if v.gone = true then -1 else (l.length : Nat)) else lastR id c l
theorem lastR_lives (l : List Vn) (id : ByteArray) (c : Int) : lastR id c l.reverse < 0 ↔ lives l id c = false := by
 unfold lives
 rw [← List.foldr_reverse]
 generalize l.reverse = m
 induction m with
 | nil => simp [lastR]
 | cons v m ih =>
  simp only [lastR, List.foldr_cons, lStep]
  by_cases h : v.r.id = id ∧ v.r.cats = c
  ·rw [if_pos h, if_pos h]
   cases v.gone <;> simp
  ·rw [if_neg h, if_neg h]; exact ih
theorem rLives_ok (l : List Vn) (id : ByteArray) (c : Int) (hl : l.length ≤ 1000000) : Ok Tryd.prog 33 [vers l, S id, I c] (I (lastR id c l.reverse)) := by
 refine Ok.of_wp (rs := [.tmp 6]) (n := 34) Tryd.func33 rfl rfl rfl (by simp) fo (by kernel_rfl) ?_
 simp (decide := true) (maxSteps := 4000000) -implicitDefEqProofs only [S0, ↓reduceIte, Int.reduceAdd, Int.reduceSub, Int.reduceToNat, Int.reduceNeg, Nat.reduceAdd, Nat.reduceMul, Nat.reduceSub, reduceCtorEq]
 refine ALoop.st [1, 2, 7, 10, 11, 12] (fun (i : Nat) => [S id, I c, I (lastR id c (l.take i).reverse), vers l, I l.length, I i]) (fun _ => []) (fun i => i ≤ l.length) (fun i => l.length - i) [] 0 (by simp (decide := true) (maxSteps := 4000000) -implicitDefEqProofs only [S0, ↓reduceIte, Int.reduceAdd, Int.reduceSub, Int.reduceToNat, Int.reduceNeg, Nat.reduceAdd, Nat.reduceMul, Nat.reduceSub, reduceCtorEq]; try rfl) (by simp (decide := true) (maxSteps := 4000000) -implicitDefEqProofs only [S0, ↓reduceIte, Int.reduceAdd, Int.reduceSub, Int.reduceToNat, Int.reduceNeg, Nat.reduceAdd, Nat.reduceMul, Nat.reduceSub, reduceCtorEq]) (by omega) ?_
 intro i hi
 simp (decide := true) (maxSteps := 4000000) -implicitDefEqProofs only [S0, ↓reduceIte, Int.reduceAdd, Int.reduceSub, Int.reduceToNat, Int.reduceNeg, Nat.reduceAdd, Nat.reduceMul, Nat.reduceSub, reduceCtorEq]
 split
 ·rename_i h
  obtain ⟨v, hv⟩ := get_lt h
  have hw := wr_add1 h (by omega)
  have e1 := congrArg (lastR id c) (rev_take hv)
  rw [lastR, List.length_reverse, List.length_take, Nat.min_eq_left (by omega)] at e1
  by_cases h1 : v.r.id = id
  ·have h1' : decide (v.r.id = id) = true := decide_eq_true h1
   by_cases h2 : v.r.cats = c
   ·rw [if_pos ⟨h1, h2⟩] at e1
    cases h3 : v.gone with
    | true =>
     rw [h3, if_pos rfl] at e1
     simp (decide := true) (maxSteps := 4000000) -implicitDefEqProofs only [S0, ↓reduceIte, Int.reduceAdd, Int.reduceSub, Int.reduceToNat, Int.reduceNeg, Nat.reduceAdd, Nat.reduceMul, Nat.reduceSub, reduceCtorEq, hv, toList_beq, h1', h2, h3]
     exact Nxt.mk [] (i + 1) (by simp (decide := true) (maxSteps := 4000000) -implicitDefEqProofs only [S0, ↓reduceIte, Int.reduceAdd, Int.reduceSub, Int.reduceToNat, Int.reduceNeg, Nat.reduceAdd, Nat.reduceMul, Nat.reduceSub, reduceCtorEq, hw, e1]) (by simp (decide := true) (maxSteps := 4000000) -implicitDefEqProofs only [S0, ↓reduceIte, Int.reduceAdd, Int.reduceSub, Int.reduceToNat, Int.reduceNeg, Nat.reduceAdd, Nat.reduceMul, Nat.reduceSub, reduceCtorEq]) (by omega) (by omega)
    | false =>
     rw [h3, if_neg (by simp)] at e1
     simp (decide := true) (maxSteps := 4000000) -implicitDefEqProofs only [S0, ↓reduceIte, Int.reduceAdd, Int.reduceSub, Int.reduceToNat, Int.reduceNeg, Nat.reduceAdd, Nat.reduceMul, Nat.reduceSub, reduceCtorEq, hv, toList_beq, h1', h2, h3]
     exact Nxt.mk [] (i + 1) (by simp (decide := true) (maxSteps := 4000000) -implicitDefEqProofs only [S0, ↓reduceIte, Int.reduceAdd, Int.reduceSub, Int.reduceToNat, Int.reduceNeg, Nat.reduceAdd, Nat.reduceMul, Nat.reduceSub, reduceCtorEq, hw, e1]) (by simp (decide := true) (maxSteps := 4000000) -implicitDefEqProofs only [S0, ↓reduceIte, Int.reduceAdd, Int.reduceSub, Int.reduceToNat, Int.reduceNeg, Nat.reduceAdd, Nat.reduceMul, Nat.reduceSub, reduceCtorEq]) (by omega) (by omega)
   ·rw [if_neg (fun h => h2 h.2)] at e1
    simp (decide := true) (maxSteps := 4000000) -implicitDefEqProofs only [S0, ↓reduceIte, Int.reduceAdd, Int.reduceSub, Int.reduceToNat, Int.reduceNeg, Nat.reduceAdd, Nat.reduceMul, Nat.reduceSub, reduceCtorEq, hv, toList_beq, h1', h2]
    exact Nxt.mk [] (i + 1) (by simp (decide := true) (maxSteps := 4000000) -implicitDefEqProofs only [S0, ↓reduceIte, Int.reduceAdd, Int.reduceSub, Int.reduceToNat, Int.reduceNeg, Nat.reduceAdd, Nat.reduceMul, Nat.reduceSub, reduceCtorEq, hw, e1]) (by simp (decide := true) (maxSteps := 4000000) -implicitDefEqProofs only [S0, ↓reduceIte, Int.reduceAdd, Int.reduceSub, Int.reduceToNat, Int.reduceNeg, Nat.reduceAdd, Nat.reduceMul, Nat.reduceSub, reduceCtorEq]) (by omega) (by omega)
  ·have h1' : decide (v.r.id = id) = false := decide_eq_false h1
   rw [if_neg (fun h => h1 h.1)] at e1
   simp (decide := true) (maxSteps := 4000000) -implicitDefEqProofs only [S0, ↓reduceIte, Int.reduceAdd, Int.reduceSub, Int.reduceToNat, Int.reduceNeg, Nat.reduceAdd, Nat.reduceMul, Nat.reduceSub, reduceCtorEq, hv, toList_beq, h1']
   exact Nxt.mk [] (i + 1) (by simp (decide := true) (maxSteps := 4000000) -implicitDefEqProofs only [S0, ↓reduceIte, Int.reduceAdd, Int.reduceSub, Int.reduceToNat, Int.reduceNeg, Nat.reduceAdd, Nat.reduceMul, Nat.reduceSub, reduceCtorEq, hw, e1]) (by simp (decide := true) (maxSteps := 4000000) -implicitDefEqProofs only [S0, ↓reduceIte, Int.reduceAdd, Int.reduceSub, Int.reduceToNat, Int.reduceNeg, Nat.reduceAdd, Nat.reduceMul, Nat.reduceSub, reduceCtorEq]) (by omega) (by omega)
 ·rename_i h
  rw [List.take_of_length_le (by omega)]
theorem rSame_ok (l : List Vn) (c : Int) (hl : l.length ≤ 1000000) : Ok Tryd.prog 34 [vers l, I c] (I (cnt l c)) := by
 refine Ok.of_wp (rs := [.tmp 4]) (n := 23) Tryd.func34 rfl rfl rfl (by simp) fo (by kernel_rfl) ?_
 simp (decide := true) (maxSteps := 4000000) -implicitDefEqProofs only [S0, ↓reduceIte, Int.reduceAdd, Int.reduceSub, Int.reduceToNat, Int.reduceNeg, Nat.reduceAdd, Nat.reduceMul, Nat.reduceSub, reduceCtorEq]
 refine ALoop.st [1, 5, 8, 9, 10] (fun (i : Nat) => [I c, I (cnt (l.take i) c), vers l, I l.length, I i]) (fun _ => []) (fun i => i ≤ l.length) (fun i => l.length - i) [] 0 (by simp (decide := true) (maxSteps := 4000000) -implicitDefEqProofs only [S0, ↓reduceIte, Int.reduceAdd, Int.reduceSub, Int.reduceToNat, Int.reduceNeg, Nat.reduceAdd, Nat.reduceMul, Nat.reduceSub, reduceCtorEq]; try rfl) (by simp (decide := true) (maxSteps := 4000000) -implicitDefEqProofs only [S0, ↓reduceIte, Int.reduceAdd, Int.reduceSub, Int.reduceToNat, Int.reduceNeg, Nat.reduceAdd, Nat.reduceMul, Nat.reduceSub, reduceCtorEq]) (by omega) ?_
 intro i hi
 simp (decide := true) (maxSteps := 4000000) -implicitDefEqProofs only [S0, ↓reduceIte, Int.reduceAdd, Int.reduceSub, Int.reduceToNat, Int.reduceNeg, Nat.reduceAdd, Nat.reduceMul, Nat.reduceSub, reduceCtorEq]
 split
 ·rename_i h
  obtain ⟨v, hv⟩ := get_lt h
  have hw := wr_add1 h (by omega)
  have hc := cnt_le (l.take i) c
  have hc2 : cnt (l.take i) c ≤ 1000000 := by rw [List.length_take] at hc; omega
  have e1 : cnt (l.take (i + 1)) c = cnt (l.take i) c + if v.r.cats = c then 1 else 0 := by rw [take_get hv, cnt_add]
  have e2 : IntKind.i64.wrap ((cnt (l.take i) c : Int) + 1) = ((cnt (l.take i) c + 1 : Nat) : Int) := by rw [wr_i64 (by omega) (by omega)]; omega
  by_cases h2 : v.r.cats = c
  ·rw [if_pos h2] at e1
   simp (decide := true) (maxSteps := 4000000) -implicitDefEqProofs only [S0, ↓reduceIte, Int.reduceAdd, Int.reduceSub, Int.reduceToNat, Int.reduceNeg, Nat.reduceAdd, Nat.reduceMul, Nat.reduceSub, reduceCtorEq, hv, h2]
   exact Nxt.mk [] (i + 1) (by simp (decide := true) (maxSteps := 4000000) -implicitDefEqProofs only [S0, ↓reduceIte, Int.reduceAdd, Int.reduceSub, Int.reduceToNat, Int.reduceNeg, Nat.reduceAdd, Nat.reduceMul, Nat.reduceSub, reduceCtorEq, hw, e1, e2]) (by simp (decide := true) (maxSteps := 4000000) -implicitDefEqProofs only [S0, ↓reduceIte, Int.reduceAdd, Int.reduceSub, Int.reduceToNat, Int.reduceNeg, Nat.reduceAdd, Nat.reduceMul, Nat.reduceSub, reduceCtorEq]) (by omega) (by omega)
  ·rw [if_neg h2] at e1
   simp (decide := true) (maxSteps := 4000000) -implicitDefEqProofs only [S0, ↓reduceIte, Int.reduceAdd, Int.reduceSub, Int.reduceToNat, Int.reduceNeg, Nat.reduceAdd, Nat.reduceMul, Nat.reduceSub, reduceCtorEq, hv, h2]
   exact Nxt.mk [] (i + 1) (by simp (decide := true) (maxSteps := 4000000) -implicitDefEqProofs only [S0, ↓reduceIte, Int.reduceAdd, Int.reduceSub, Int.reduceToNat, Int.reduceNeg, Nat.reduceAdd, Nat.reduceMul, Nat.reduceSub, reduceCtorEq, hw, e1]) (by simp (decide := true) (maxSteps := 4000000) -implicitDefEqProofs only [S0, ↓reduceIte, Int.reduceAdd, Int.reduceSub, Int.reduceToNat, Int.reduceNeg, Nat.reduceAdd, Nat.reduceMul, Nat.reduceSub, reduceCtorEq]) (by omega) (by omega)
 ·rename_i h
  rw [List.take_of_length_le (by omega)]
abbrev verZ : List AV := [S ⟨#[]⟩, I 0, .val (.slice none 0 0), .val (.slice none 0 0), B false]
theorem growVers_ok (n : Nat) (hn : n ≤ 1000000) : OkH Tryd.prog 47 [.val (.slice none 0 0), I n] [] (.own (.e 0) 1 5 0 0) [(1, .row 51 5 none (List.replicate n verZ))] := by
 refine OkH.of_wpX (rs := [.tmp 4]) (n := 27) Tryd.func47 rfl rfl rfl (by simp) fo (by kernel_rfl) ?_
 have e1 : IntKind.i64.wrap ((0 : Int) - 0) = 0 := by decide
 have e2 : IntKind.i64.wrap ((n : Int) - 0) = n := by rw [wr_i64 (by omega) (by omega)]; omega
 rcases n with _ | n
 ·simp (decide := true) (maxSteps := 4000000) -implicitDefEqProofs only [S0, ↓reduceIte, Int.reduceAdd, Int.reduceSub, Int.reduceToNat, Int.reduceNeg, Nat.reduceAdd, Nat.reduceMul, Nat.reduceSub, reduceCtorEq, e1, e2]
  refine ⟨[none], ?_⟩
  simp (decide := true) (maxSteps := 4000000) -implicitDefEqProofs only [S0, ↓reduceIte, Int.reduceAdd, Int.reduceSub, Int.reduceToNat, Int.reduceNeg, Nat.reduceAdd, Nat.reduceMul, Nat.reduceSub, reduceCtorEq]
 ·simp (decide := true) (maxSteps := 4000000) -implicitDefEqProofs only [S0, ↓reduceIte, Int.reduceAdd, Int.reduceSub, Int.reduceToNat, Int.reduceNeg, Nat.reduceAdd, Nat.reduceMul, Nat.reduceSub, reduceCtorEq, e1, e2, show ¬ (((n + 1 : Nat) : Int) < 0) by omega, show ((n + 1 : Nat) : Int) > 0 by omega]
  refine ⟨by omega, by omega, by rw [List.length_replicate]; omega, fun r hr => ?_, .inl trivial, ⟨[some (.l 22)], ?_⟩⟩
  ·rcases hr with rfl | hr
   ·rfl
   ·rw [List.eq_of_mem_replicate hr]; rfl
  ·simp (decide := true) (maxSteps := 4000000) -implicitDefEqProofs only [S0, ↓reduceIte, Int.reduceAdd, Int.reduceSub, Int.reduceToNat, Int.reduceNeg, Nat.reduceAdd, Nat.reduceMul, Nat.reduceSub, reduceCtorEq, List.length_replicate]
theorem sumlen_le {α : Type} (ls : List (List α)) (j : Nat) : (ls.take j).flatten.length ≤ ls.flatten.length := by
 induction ls generalizing j with
 | nil => simp
 | cons x ls ih => cases j with
  | zero => simp
  | succ j => simp; have := ih j; simp at this; omega
theorem flat_take {α : Type} {ls : List (List α)} {j : Nat} {x : List α} (h : ls[j]? = some x) : (ls.take (j + 1)).flatten = (ls.take j).flatten ++ x := by
 rw [take_get h]; simp
theorem concatVers_ok (ls : List (List Vn)) (hls : ls.length ≤ 1000000) (hn : ls.flatten.length ≤ 1000000) : OkH Tryd.prog 35 [.list 1 (ls.map fun l => [vers l])] [] (.own (.e 0) 1 5 0 ls.flatten.length) [(1, .row 51 5 none (ls.flatten.map verC))] := by
 refine OkH.of_wpX (rs := [.tmp 2]) (n := 36) Tryd.func35 rfl rfl rfl (by simp) fo (by kernel_rfl) ?_
 simp (decide := true) (maxSteps := 4000000) -implicitDefEqProofs only [S0, ↓reduceIte, Int.reduceAdd, Int.reduceSub, Int.reduceToNat, Int.reduceNeg, Nat.reduceAdd, Nat.reduceMul, Nat.reduceSub, reduceCtorEq]
 refine ALoop.st [0, 3, 9, 10, 11] (fun (j : Nat) => [.list 1 (ls.map fun l => [vers l]), I (ls.take j).flatten.length, .list 1 (ls.map fun l => [vers l]), I ls.length, I j]) (fun _ => []) (fun j => j ≤ ls.length) (fun j => ls.length - j) [] 0 (by simp (decide := true) (maxSteps := 4000000) -implicitDefEqProofs only [S0, ↓reduceIte, Int.reduceAdd, Int.reduceSub, Int.reduceToNat, Int.reduceNeg, Nat.reduceAdd, Nat.reduceMul, Nat.reduceSub, reduceCtorEq]; try rfl) (by simp (decide := true) (maxSteps := 4000000) -implicitDefEqProofs only [S0, ↓reduceIte, Int.reduceAdd, Int.reduceSub, Int.reduceToNat, Int.reduceNeg, Nat.reduceAdd, Nat.reduceMul, Nat.reduceSub, reduceCtorEq]) (by omega) ?_
 intro j hj
 simp (decide := true) (maxSteps := 4000000) -implicitDefEqProofs only [S0, ↓reduceIte, Int.reduceAdd, Int.reduceSub, Int.reduceToNat, Int.reduceNeg, Nat.reduceAdd, Nat.reduceMul, Nat.reduceSub, reduceCtorEq]
 have hs := sumlen_le ls j
 split
 ·rename_i h
  obtain ⟨x, hx⟩ := get_lt h
  have hw := wr_add1 h (by omega)
  have hs1 := sumlen_le ls (j + 1)
  have e1 : ((ls.take j).flatten.length : Int) + x.length = ((ls.take (j + 1)).flatten.length : Nat) := by rw [flat_take hx, List.length_append]; omega
  have e2 : IntKind.i64.wrap (((ls.take (j + 1)).flatten.length : Nat) : Int) = ((ls.take (j + 1)).flatten.length : Nat) := wr_i64 (by omega) (by omega)
  simp (decide := true) (maxSteps := 4000000) -implicitDefEqProofs only [S0, ↓reduceIte, Int.reduceAdd, Int.reduceSub, Int.reduceToNat, Int.reduceNeg, Nat.reduceAdd, Nat.reduceMul, Nat.reduceSub, reduceCtorEq, hx, e1, e2, show ¬ (((ls.take (j + 1)).flatten.length : Nat) : Int) < 0 by omega]
  exact Nxt.mk [] (j + 1) (by simp (decide := true) (maxSteps := 4000000) -implicitDefEqProofs only [S0, ↓reduceIte, Int.reduceAdd, Int.reduceSub, Int.reduceToNat, Int.reduceNeg, Nat.reduceAdd, Nat.reduceMul, Nat.reduceSub, reduceCtorEq, hw]) (by simp (decide := true) (maxSteps := 4000000) -implicitDefEqProofs only [S0, ↓reduceIte, Int.reduceAdd, Int.reduceSub, Int.reduceToNat, Int.reduceNeg, Nat.reduceAdd, Nat.reduceMul, Nat.reduceSub, reduceCtorEq]) (by omega) (by omega)
 ·rename_i h
  rw [List.take_of_length_le (by omega)]
  refine callH (growVers_ok ls.flatten.length hn) [.l 24] ?_
  simp (decide := true) (maxSteps := 4000000) -implicitDefEqProofs only [S0, ↓reduceIte, Int.reduceAdd, Int.reduceSub, Int.reduceToNat, Int.reduceNeg, Nat.reduceAdd, Nat.reduceMul, Nat.reduceSub, reduceCtorEq]
  refine ALoop.st [0, 6, 25, 26, 27] (fun (j : Nat) => [.list 1 (ls.map fun l => [vers l]), .own (.l 24) 0 5 0 (ls.take j).flatten.length, .list 1 (ls.map fun l => [vers l]), I ls.length, I j]) (fun j => [(.l 24, 0, .row 51 5 none (if j = 0 then List.replicate ls.flatten.length verZ else (ls.take j).flatten.map verC))]) (fun j => j ≤ ls.length) (fun j => ls.length - j) [] 0 (by simp (decide := true) (maxSteps := 4000000) -implicitDefEqProofs only [S0, ↓reduceIte, Int.reduceAdd, Int.reduceSub, Int.reduceToNat, Int.reduceNeg, Nat.reduceAdd, Nat.reduceMul, Nat.reduceSub, reduceCtorEq]; try simp) (by simp (decide := true) (maxSteps := 4000000) -implicitDefEqProofs only [S0, ↓reduceIte, Int.reduceAdd, Int.reduceSub, Int.reduceToNat, Int.reduceNeg, Nat.reduceAdd, Nat.reduceMul, Nat.reduceSub, reduceCtorEq]; try simp) (by omega) ?_
  intro j hj
  have hs := sumlen_le ls j
  by_cases h : (j : Int) < ls.length
  ·obtain ⟨x, hx⟩ := get_lt h
   have hw := wr_add1 h (by omega)
   have hs1 := sumlen_le ls (j + 1)
   have e1 := flat_take hx
   have e2 : ((ls.take j).flatten.length) + x.length = (ls.take (j + 1)).flatten.length := by rw [e1, List.length_append]
   rcases j with _ | j
   ·simp only [List.take_zero, List.flatten_nil, List.length_nil, Nat.zero_add] at e2 hs1
    simp (decide := true) (maxSteps := 4000000) -implicitDefEqProofs only [S0, ↓reduceIte, Int.reduceAdd, Int.reduceSub, Int.reduceToNat, Int.reduceNeg, Nat.reduceAdd, Nat.reduceMul, Nat.reduceSub, reduceCtorEq, hx, List.flatten_nil, List.length_map, List.length_replicate, h, Nat.zero_le]
    refine ⟨by omega, Nxt.mk [] 1 (by simp (decide := true) (maxSteps := 4000000) -implicitDefEqProofs only [S0, ↓reduceIte, Int.reduceAdd, Int.reduceSub, Int.reduceToNat, Int.reduceNeg, Nat.reduceAdd, Nat.reduceMul, Nat.reduceSub, reduceCtorEq, e2]; try rfl) (by simp (decide := true) (maxSteps := 4000000) -implicitDefEqProofs only [S0, ↓reduceIte, Int.reduceAdd, Int.reduceSub, Int.reduceToNat, Int.reduceNeg, Nat.reduceAdd, Nat.reduceMul, Nat.reduceSub, reduceCtorEq]; simpa using congrArg (List.map verC) e1.symm) (by omega) (by omega)⟩
   ·have e3 : List.take (ls.take (j + 1)).flatten.length ((ls.take (j + 1)).flatten.map verC) = (ls.take (j + 1)).flatten.map verC := List.take_of_length_le (by rw [List.length_map]; exact Nat.le_refl _)
    simp (decide := true) (maxSteps := 4000000) -implicitDefEqProofs only [S0, ↓reduceIte, Int.reduceAdd, Int.reduceSub, Int.reduceToNat, Int.reduceNeg, Nat.reduceAdd, Nat.reduceMul, Nat.reduceSub, reduceCtorEq, hx, show ¬ (j + 1 = 0) by omega, List.length_map, e2, e3, h]
    refine ⟨by omega, Nxt.mk [] (j + 1 + 1) (by simp (decide := true) (maxSteps := 4000000) -implicitDefEqProofs only [S0, ↓reduceIte, Int.reduceAdd, Int.reduceSub, Int.reduceToNat, Int.reduceNeg, Nat.reduceAdd, Nat.reduceMul, Nat.reduceSub, reduceCtorEq, hw]) (by simp (decide := true) (maxSteps := 4000000) -implicitDefEqProofs only [S0, ↓reduceIte, Int.reduceAdd, Int.reduceSub, Int.reduceToNat, Int.reduceNeg, Nat.reduceAdd, Nat.reduceMul, Nat.reduceSub, reduceCtorEq]; rw [e1, List.map_append]) (by omega) (by omega)⟩
  ·have hj2 : j = ls.length := by omega
   subst hj2
   have e1 : ls.take ls.length = ls := List.take_length
   have e4 : (if ls.length = 0 then List.replicate ls.flatten.length verZ else ls.flatten.map verC) = ls.flatten.map verC := by
    split
    ·rename_i h0
     rw [List.eq_nil_of_length_eq_zero h0]; rfl
    ·rfl
   rw [e1, e4]
   simp (decide := true) (maxSteps := 4000000) -implicitDefEqProofs only [S0, ↓reduceIte, Int.reduceAdd, Int.reduceSub, Int.reduceToNat, Int.reduceNeg, Nat.reduceAdd, Nat.reduceMul, Nat.reduceSub, reduceCtorEq, show ¬ ((ls.length : Int) < ls.length) by omega]
   refine ⟨[some (.l 24)], ?_⟩
   simp (decide := true) (maxSteps := 4000000) -implicitDefEqProofs only [S0, ↓reduceIte, Int.reduceAdd, Int.reduceSub, Int.reduceToNat, Int.reduceNeg, Nat.reduceAdd, Nat.reduceMul, Nat.reduceSub, reduceCtorEq]
end Go.Proofs.YtpdenloeacaadaaDoor.E

namespace Go.Proofs.YtpdenloeacaadaaDoor.E
open Go
set_option linter.unusedSimpArgs false
set_option linter.unusedVariables false
set_option linter.unusedSectionVars false
set_option maxRecDepth 20000
def cutR (l : List Vn) (id : ByteArray) (c : Int) : Int := if idOk id = true then (if 0 ≤ c ∧ c < 256 then (if lives l id c = true then (if 20 ≤ cnt l c then 2 else 0) else 4) else 1) else 3
theorem rCut_ok {l : List Vn} {id : ByteArray} {c : Int} (hl : l.length ≤ 1000) (h : cutR l id c = 0) : OkH Tryd.prog 14 [.own (.e 0) 0 5 0 l.length, S id, I c] [.row 51 5 none (l.map verC)] (.tup [.own (.e 1) 1 5 0 (l.length + 1), I 0]) [(0, .ice 5 (l.map verC)), (1, .row 51 5 none ((l ++ [(⟨⟨id, c, [], []⟩, true⟩ : Vn)]).map verC))] := by
 have hh : idOk id = true ∧ (0 ≤ c ∧ c < 256) ∧ lives l id c = true ∧ ¬ 20 ≤ cnt l c := by
  unfold cutR at h
  repeat' split at h
  all_goals first | contradiction | (refine ⟨?_, ?_, ?_, ?_⟩ <;> assumption)
 obtain ⟨h1, h2, h3, h4⟩ := hh
 refine OkH.of_wp (rs := [.tmp 6, .tmp 7]) (n := 35) [some (.l 34)] Tryd.func14 rfl rfl rfl (by simp) fo (by kernel_rfl) ?_
 simp (decide := true) (maxSteps := 4000000) -implicitDefEqProofs only [S0, ↓reduceIte, Int.reduceAdd, Int.reduceSub, Int.reduceToNat, Int.reduceNeg, Nat.reduceAdd, Nat.reduceMul, Nat.reduceSub, reduceCtorEq]
 refine call_eq (rId_ok id) ?_
 rw [h1]
 simp (decide := true) (maxSteps := 4000000) -implicitDefEqProofs only [S0, ↓reduceIte, Int.reduceAdd, Int.reduceSub, Int.reduceToNat, Int.reduceNeg, Nat.reduceAdd, Nat.reduceMul, Nat.reduceSub, reduceCtorEq]
 refine call_eq (rCats_ok c) ?_
 rw [decide_eq_true h2]
 simp (decide := true) (maxSteps := 4000000) -implicitDefEqProofs only [S0, ↓reduceIte, Int.reduceAdd, Int.reduceSub, Int.reduceToNat, Int.reduceNeg, Nat.reduceAdd, Nat.reduceMul, Nat.reduceSub, reduceCtorEq, tk1]
 refine lend_eq (rLives_ok l id c (by omega)) rfl ?_
 have h5 : ¬ lastR id c l.reverse < 0 := fun h => by rw [lastR_lives, h3] at h; cases h
 simp (decide := true) (maxSteps := 4000000) -implicitDefEqProofs only [S0, ↓reduceIte, Int.reduceAdd, Int.reduceSub, Int.reduceToNat, Int.reduceNeg, Nat.reduceAdd, Nat.reduceMul, Nat.reduceSub, reduceCtorEq, h5, tk1]
 refine lend_eq (rSame_ok l c (by omega)) rfl ?_
 simp (decide := true) (maxSteps := 4000000) -implicitDefEqProofs only [S0, ↓reduceIte, Int.reduceAdd, Int.reduceSub, Int.reduceToNat, Int.reduceNeg, Nat.reduceAdd, Nat.reduceMul, Nat.reduceSub, reduceCtorEq, show ¬ ((cnt l c : Nat) : Int) ≥ 20 by omega, tk1]
 have app : [l, [⟨⟨id, c, [], []⟩, true⟩]].flatten = l ++ [⟨⟨id, c, [], []⟩, true⟩] := by simp
 have con := concatVers_ok [l, [⟨⟨id, c, [], []⟩, true⟩]] (by simp) (by rw [app]; simp; omega)
 rw [app] at con
 refine callHF con [.l 34] ?_
 simp (decide := true) (maxSteps := 4000000) -implicitDefEqProofs only [S0, ↓reduceIte, Int.reduceAdd, Int.reduceSub, Int.reduceToNat, Int.reduceNeg, Nat.reduceAdd, Nat.reduceMul, Nat.reduceSub, reduceCtorEq]
 exact rfl
theorem rCut_bad {l : List Vn} {id : ByteArray} {c : Int} (hl : l.length ≤ 1000) (h : cutR l id c ≠ 0) : OkH Tryd.prog 14 [.own (.e 0) 0 5 0 l.length, S id, I c] [.row 51 5 none (l.map verC)] (.tup [.val (.slice none 0 0), I (cutR l id c)]) [(0, .row 51 5 none (l.map verC))] := by
 refine OkH.of_wp (rs := [.tmp 6, .tmp 7]) (n := 35) [] Tryd.func14 rfl rfl rfl (by simp) fo (by kernel_rfl) ?_
 simp (decide := true) (maxSteps := 4000000) -implicitDefEqProofs only [S0, ↓reduceIte, Int.reduceAdd, Int.reduceSub, Int.reduceToNat, Int.reduceNeg, Nat.reduceAdd, Nat.reduceMul, Nat.reduceSub, reduceCtorEq]
 refine call_eq (rId_ok id) ?_
 by_cases h1 : idOk id = true
 ·rw [h1]
  simp (decide := true) (maxSteps := 4000000) -implicitDefEqProofs only [S0, ↓reduceIte, Int.reduceAdd, Int.reduceSub, Int.reduceToNat, Int.reduceNeg, Nat.reduceAdd, Nat.reduceMul, Nat.reduceSub, reduceCtorEq]
  refine call_eq (rCats_ok c) ?_
  by_cases h2 : 0 ≤ c ∧ c < 256
  ·rw [decide_eq_true h2]
   simp (decide := true) (maxSteps := 4000000) -implicitDefEqProofs only [S0, ↓reduceIte, Int.reduceAdd, Int.reduceSub, Int.reduceToNat, Int.reduceNeg, Nat.reduceAdd, Nat.reduceMul, Nat.reduceSub, reduceCtorEq, tk1]
   refine lend_eq (rLives_ok l id c (by omega)) rfl ?_
   by_cases h3 : lives l id c = true
   ·have h5 : ¬ lastR id c l.reverse < 0 := fun h => by rw [lastR_lives, h3] at h; cases h
    simp (decide := true) (maxSteps := 4000000) -implicitDefEqProofs only [S0, ↓reduceIte, Int.reduceAdd, Int.reduceSub, Int.reduceToNat, Int.reduceNeg, Nat.reduceAdd, Nat.reduceMul, Nat.reduceSub, reduceCtorEq, h5, tk1]
    refine lend_eq (rSame_ok l c (by omega)) rfl ?_
    by_cases h4 : 20 ≤ cnt l c
    ·have e0 : cutR l id c = 2 := by rw [cutR, if_pos h1, if_pos h2, if_pos h3, if_pos h4]
     simp (decide := true) (maxSteps := 4000000) -implicitDefEqProofs only [S0, ↓reduceIte, Int.reduceAdd, Int.reduceSub, Int.reduceToNat, Int.reduceNeg, Nat.reduceAdd, Nat.reduceMul, Nat.reduceSub, reduceCtorEq, show ((cnt l c : Nat) : Int) ≥ 20 by omega, e0]
    ·exact absurd (show cutR l id c = 0 by rw [cutR, if_pos h1, if_pos h2, if_pos h3, if_neg h4]) h
   ·have h5 : lastR id c l.reverse < 0 := (lastR_lives l id c).2 (by simpa using h3)
    have e0 : cutR l id c = 4 := by rw [cutR, if_pos h1, if_pos h2, if_neg h3]
    simp (decide := true) (maxSteps := 4000000) -implicitDefEqProofs only [S0, ↓reduceIte, Int.reduceAdd, Int.reduceSub, Int.reduceToNat, Int.reduceNeg, Nat.reduceAdd, Nat.reduceMul, Nat.reduceSub, reduceCtorEq, h5, e0]
  ·have e0 : cutR l id c = 1 := by rw [cutR, if_pos h1, if_neg h2]
   rw [decide_eq_false h2]
   simp (decide := true) (maxSteps := 4000000) -implicitDefEqProofs only [S0, ↓reduceIte, Int.reduceAdd, Int.reduceSub, Int.reduceToNat, Int.reduceNeg, Nat.reduceAdd, Nat.reduceMul, Nat.reduceSub, reduceCtorEq, e0]
 ·have e0 : cutR l id c = 3 := by rw [cutR, if_neg h1]
  rw [Bool.eq_false_iff.2 h1]
  simp (decide := true) (maxSteps := 4000000) -implicitDefEqProofs only [S0, ↓reduceIte, Int.reduceAdd, Int.reduceSub, Int.reduceToNat, Int.reduceNeg, Nat.reduceAdd, Nat.reduceMul, Nat.reduceSub, reduceCtorEq, e0]
def nmS (n : Nat) : ByteArray := if n = 0 then ⟨#[97]⟩ else if n = 1 then ⟨#[98]⟩ else ⟨#[99]⟩
def xyS (n : Nat) : ByteArray := if n = 0 then ⟨#[120]⟩ else ⟨#[121]⟩
def grow1 (l : List Vn) (c : List Int) : List Vn :=
 match c with
 | a :: b :: d :: _ =>
  if wN d 4 = 0 then (if cutR l (nmS (wN a 3)) (wN b 8) = 0 then l ++ [⟨⟨nmS (wN a 3), wN b 8, [], []⟩, true⟩] else l)
  else l ++ [⟨⟨nmS (wN a 3), wN b 8, [⟨⟨#[107]⟩, xyS (wN d 2)⟩], if wN d 3 = 0 then [nmS (wN b 3)] else []⟩, false⟩]
 | _ => l
def grownL (l : List (List Int)) : List Vn := (l.take 15).foldl grow1 []
theorem grow1_len (l : List Vn) (c : List Int) : (grow1 l c).length ≤ l.length + 1 := by
 unfold grow1
 split
 ·split
  ·split <;> simp
  ·simp
 ·omega
theorem grow1_short {l : List Vn} {c : List Int} (h : c.length < 3) : grow1 l c = l := by
 rcases c with _ | ⟨a, _ | ⟨b, _ | ⟨d, c⟩⟩⟩
 ·rfl
 ·rfl
 ·rfl
 ·simp only [List.length_cons] at h; omega
theorem long_of {c : List Int} (h : ¬ c.length < 3) : ∃ a b d c', c = a :: b :: d :: c' := by
 rcases c with _ | ⟨a, _ | ⟨b, _ | ⟨d, c⟩⟩⟩
 ·simp at h
 ·simp at h
 ·simp at h
 ·exact ⟨a, b, d, c, rfl⟩
set_option maxHeartbeats 2000000 in
theorem grown_ok (l : List (List Int)) : Ok Tryd.prog 5 [.list 1 (l.map fun c => [ints c])] (vers (grownL l)) := by
 refine Ok.of_wp (rs := [.tmp 2]) (n := 83) Tryd.func5 rfl rfl rfl (by simp) fo (by kernel_rfl) ?_
 simp (decide := true) (maxSteps := 4000000) -implicitDefEqProofs only [S0, ↓reduceIte, Int.reduceAdd, Int.reduceSub, Int.reduceToNat, Int.reduceNeg, Nat.reduceAdd, Nat.reduceMul, Nat.reduceSub, reduceCtorEq]
 refine ⟨by omega, by omega, ?_⟩
 have e2 : List.take (if 15 < (l.length : Int) then (15 : Int) else (l.length : Int)).toNat (List.map (fun c => [ints c]) l) = (l.take 15).map (fun c => [ints c]) := by
  rw [List.map_take]
  split
  ·rfl
  ·rw [List.take_of_length_le (by simp), List.take_of_length_le (by simp; omega)]
 rw [e2]
 have hg : grownL l = (l.take 15).foldl grow1 [] := rfl
 rw [hg]
 have hm : (l.take 15).length ≤ 15 := by rw [List.length_take]; omega
 generalize l.take 15 = m at hm e2 ⊢
 have hlen : ∀ i, i ≤ m.length → ((m.take i).foldl grow1 []).length ≤ i := by
  intro i
  induction i with
  | zero => intro _; simp
  | succ i ih =>
   intro h
   obtain ⟨c, hc⟩ := lt_get (l := m) (i := i) (by omega)
   rw [take_get hc, List.foldl_append]
   have := grow1_len ((m.take i).foldl grow1 []) c
   have := ih (by omega)
   simp only [List.foldl_cons, List.foldl_nil]
   omega
 refine ALoop.st [3, 15, 16, 17] (fun (s : Nat × Site) => [.own s.2 0 5 0 ((m.take s.1).foldl grow1 []).length, .list 1 (m.map fun c => [ints c]), I m.length, I s.1]) (fun s => [(s.2, 0, .row 51 5 none (((m.take s.1).foldl grow1 []).map verC))]) (fun s => s.1 ≤ m.length ∧ (s.2 = .l 80 ∨ s.2 = .m 44 0 ∨ s.2 = .m 44 1)) (fun s => m.length - s.1) [.l 80] (0, .l 80) (by simp (decide := true) (maxSteps := 4000000) -implicitDefEqProofs only [S0, ↓reduceIte, Int.reduceAdd, Int.reduceSub, Int.reduceToNat, Int.reduceNeg, Nat.reduceAdd, Nat.reduceMul, Nat.reduceSub, reduceCtorEq, List.length_map, List.take_zero, List.foldl_nil, List.length_nil]) (by simp (decide := true) (maxSteps := 4000000) -implicitDefEqProofs only [S0, ↓reduceIte, Int.reduceAdd, Int.reduceSub, Int.reduceToNat, Int.reduceNeg, Nat.reduceAdd, Nat.reduceMul, Nat.reduceSub, reduceCtorEq, List.take_zero, List.foldl_nil, List.map_nil]) ⟨by simp, by simp⟩ ?_
 rintro ⟨i, st⟩ ⟨hi, hst⟩
 simp only at hi hst
 by_cases h : (i : Int) < m.length
 ·obtain ⟨c, hc⟩ := get_lt h
  have hw := wr_add1 h (by omega)
  have hstep : (m.take (i + 1)).foldl grow1 [] = grow1 ((m.take i).foldl grow1 []) c := by rw [take_get hc, List.foldl_append]; rfl
  have hL := hlen i (by omega)
  generalize hLL : (m.take i).foldl grow1 [] = L at *
  have shortc : c.length < 3 → grow1 L c = L := grow1_short
  by_cases hsc : c.length < 3
  ·rw [shortc hsc] at hstep
   have hsc' : (c.length : Int) < 3 := by omega
   have g1 : ∀ {st : Site}, (st = .l 80 ∨ st = .m 44 0 ∨ st = .m 44 1) → (i + 1 ≤ m.length ∧ (st = .l 80 ∨ st = .m 44 0 ∨ st = .m 44 1)) := fun hs => ⟨by omega, hs⟩
   rcases hst with rfl | rfl | rfl
   ·simp (decide := true) (maxSteps := 4000000) -implicitDefEqProofs only [S0, ↓reduceIte, Int.reduceAdd, Int.reduceSub, Int.reduceToNat, Int.reduceNeg, Nat.reduceAdd, Nat.reduceMul, Nat.reduceSub, reduceCtorEq, hc, h, hsc']
    exact Nxt.mk [] (i + 1, .l 80) (by simp (decide := true) (maxSteps := 4000000) -implicitDefEqProofs only [S0, ↓reduceIte, Int.reduceAdd, Int.reduceSub, Int.reduceToNat, Int.reduceNeg, Nat.reduceAdd, Nat.reduceMul, Nat.reduceSub, reduceCtorEq, hw, hstep]) (by simp (decide := true) (maxSteps := 4000000) -implicitDefEqProofs only [S0, ↓reduceIte, Int.reduceAdd, Int.reduceSub, Int.reduceToNat, Int.reduceNeg, Nat.reduceAdd, Nat.reduceMul, Nat.reduceSub, reduceCtorEq, hstep]) (g1 (.inl rfl)) (by simp only; omega)
   ·simp (decide := true) (maxSteps := 4000000) -implicitDefEqProofs only [S0, ↓reduceIte, Int.reduceAdd, Int.reduceSub, Int.reduceToNat, Int.reduceNeg, Nat.reduceAdd, Nat.reduceMul, Nat.reduceSub, reduceCtorEq, hc, h, hsc']
    exact Nxt.mk [] (i + 1, .m 44 0) (by simp (decide := true) (maxSteps := 4000000) -implicitDefEqProofs only [S0, ↓reduceIte, Int.reduceAdd, Int.reduceSub, Int.reduceToNat, Int.reduceNeg, Nat.reduceAdd, Nat.reduceMul, Nat.reduceSub, reduceCtorEq, hw, hstep]) (by simp (decide := true) (maxSteps := 4000000) -implicitDefEqProofs only [S0, ↓reduceIte, Int.reduceAdd, Int.reduceSub, Int.reduceToNat, Int.reduceNeg, Nat.reduceAdd, Nat.reduceMul, Nat.reduceSub, reduceCtorEq, hstep]) (g1 (.inr (.inl rfl))) (by simp only; omega)
   ·simp (decide := true) (maxSteps := 4000000) -implicitDefEqProofs only [S0, ↓reduceIte, Int.reduceAdd, Int.reduceSub, Int.reduceToNat, Int.reduceNeg, Nat.reduceAdd, Nat.reduceMul, Nat.reduceSub, reduceCtorEq, hc, h, hsc']
    exact Nxt.mk [] (i + 1, .m 44 1) (by simp (decide := true) (maxSteps := 4000000) -implicitDefEqProofs only [S0, ↓reduceIte, Int.reduceAdd, Int.reduceSub, Int.reduceToNat, Int.reduceNeg, Nat.reduceAdd, Nat.reduceMul, Nat.reduceSub, reduceCtorEq, hw, hstep]) (by simp (decide := true) (maxSteps := 4000000) -implicitDefEqProofs only [S0, ↓reduceIte, Int.reduceAdd, Int.reduceSub, Int.reduceToNat, Int.reduceNeg, Nat.reduceAdd, Nat.reduceMul, Nat.reduceSub, reduceCtorEq, hstep]) (g1 (.inr (.inr rfl))) (by simp only; omega)
  ·obtain ⟨a, b, d, c, rfl⟩ := long_of hsc
   have hsc' : ¬ ((((a :: b :: d :: c).length : Nat) : Int) < 3) := by omega
   obtain ⟨ea, ha⟩ := wN_eq a (show 0 < 3 by omega)
   obtain ⟨eb, hb⟩ := wN_eq b (show 0 < 8 by omega)
   obtain ⟨eb3, hb3⟩ := wN_eq b (show 0 < 3 by omega)
   obtain ⟨ed, hd⟩ := wN_eq d (show 0 < 4 by omega)
   obtain ⟨ed2, hd2⟩ := wN_eq d (show 0 < 2 by omega)
   obtain ⟨ed3, hd3⟩ := wN_eq d (show 0 < 3 by omega)
   simp only [grow1] at hstep
   generalize wN a 3 = na at *
   generalize wN b 8 = nb at *
   generalize wN b 3 = nb3 at *
   generalize wN d 4 = nd at *
   generalize wN d 2 = nd2 at *
   generalize wN d 3 = nd3 at *
   have ea' : within a 3 = na := ea
   have eb' : within b 8 = nb := eb
   have eb3' : within b 3 = nb3 := eb3
   have ed' : within d 4 = nd := ed
   have ed2' : within d 2 = nd2 := ed2
   have ed3' : within d 3 = nd3 := ed3
   have hsc3 : ¬ (((c.length + 1 + 1 + 1 : Nat) : Int) < 3) := by omega
   have names : ∀ n, n < 3 → ([[S ⟨#[97]⟩], [S ⟨#[98]⟩], [S ⟨#[99]⟩]] : List (List AV))[n]? = some [S (nmS n)] := fun n hn => by
    match n, hn with
    | 0, _ => rfl
    | 1, _ => rfl
    | 2, _ => rfl
   have ways : ([[S ⟨#[120]⟩], [S ⟨#[121]⟩]] : List (List AV))[nd2]? = some [S (xyS nd2)] := by
    match nd2, hd2 with
    | 0, _ => rfl
    | 1, _ => rfl
   have hna := names na ha
   have hnb3 := names nb3 hb3
   have hna' : (na : Int) < 3 := by omega
   have hnb3' : (nb3 : Int) < 3 := by omega
   have hnd2' : (nd2 : Int) < 2 := by omega
   rcases hst with rfl | rfl | rfl
   ·simp (decide := true) (maxSteps := 4000000) -implicitDefEqProofs only [S0, ↓reduceIte, Int.reduceAdd, Int.reduceSub, Int.reduceToNat, Int.reduceNeg, Nat.reduceAdd, Nat.reduceMul, Nat.reduceSub, reduceCtorEq, hc, h, List.length_cons, hsc3]
    refine call_eq (Within_ok a 3 (by omega) (by omega)) ?_
    rw [ea']
    simp (decide := true) (maxSteps := 4000000) -implicitDefEqProofs only [S0, ↓reduceIte, Int.reduceAdd, Int.reduceSub, Int.reduceToNat, Int.reduceNeg, Nat.reduceAdd, Nat.reduceMul, Nat.reduceSub, reduceCtorEq, hna, hna']
    refine ⟨by omega, ?_⟩
    refine call_eq (Within_ok b 8 (by omega) (by omega)) ?_
    rw [eb']
    simp (decide := true) (maxSteps := 4000000) -implicitDefEqProofs only [S0, ↓reduceIte, Int.reduceAdd, Int.reduceSub, Int.reduceToNat, Int.reduceNeg, Nat.reduceAdd, Nat.reduceMul, Nat.reduceSub, reduceCtorEq]
    refine call_eq (Within_ok d 4 (by omega) (by omega)) ?_
    rw [ed']
    by_cases hz : nd = 0
    ·rw [if_pos hz] at hstep
     simp (decide := true) (maxSteps := 4000000) -implicitDefEqProofs only [S0, ↓reduceIte, Int.reduceAdd, Int.reduceSub, Int.reduceToNat, Int.reduceNeg, Nat.reduceAdd, Nat.reduceMul, Nat.reduceSub, reduceCtorEq, show (nd : Int) = 0 by omega]
     by_cases hcut : cutR L (nmS na) nb = 0
     ·rw [if_pos hcut] at hstep
      refine callH (rCut_ok (by omega) hcut) [.l 80, .m 44 0] ?_
      simp (decide := true) (maxSteps := 4000000) -implicitDefEqProofs only [S0, ↓reduceIte, Int.reduceAdd, Int.reduceSub, Int.reduceToNat, Int.reduceNeg, Nat.reduceAdd, Nat.reduceMul, Nat.reduceSub, reduceCtorEq]
      exact Nxt.mk [] (i + 1, .m 44 0) (by simp (decide := true) (maxSteps := 4000000) -implicitDefEqProofs only [S0, ↓reduceIte, Int.reduceAdd, Int.reduceSub, Int.reduceToNat, Int.reduceNeg, Nat.reduceAdd, Nat.reduceMul, Nat.reduceSub, reduceCtorEq, hw, hstep]) (by simp (decide := true) (maxSteps := 4000000) -implicitDefEqProofs only [S0, ↓reduceIte, Int.reduceAdd, Int.reduceSub, Int.reduceToNat, Int.reduceNeg, Nat.reduceAdd, Nat.reduceMul, Nat.reduceSub, reduceCtorEq, hstep]) ⟨by simp only; omega, .inr (.inl rfl)⟩ (by simp only; omega)
     ·rw [if_neg hcut] at hstep
      refine callH (rCut_bad (by omega) hcut) [.l 80] ?_
      simp (decide := true) (maxSteps := 4000000) -implicitDefEqProofs only [S0, ↓reduceIte, Int.reduceAdd, Int.reduceSub, Int.reduceToNat, Int.reduceNeg, Nat.reduceAdd, Nat.reduceMul, Nat.reduceSub, reduceCtorEq, hcut]
      exact Nxt.mk [] (i + 1, .l 80) (by simp (decide := true) (maxSteps := 4000000) -implicitDefEqProofs only [S0, ↓reduceIte, Int.reduceAdd, Int.reduceSub, Int.reduceToNat, Int.reduceNeg, Nat.reduceAdd, Nat.reduceMul, Nat.reduceSub, reduceCtorEq, hw, hstep]) (by simp (decide := true) (maxSteps := 4000000) -implicitDefEqProofs only [S0, ↓reduceIte, Int.reduceAdd, Int.reduceSub, Int.reduceToNat, Int.reduceNeg, Nat.reduceAdd, Nat.reduceMul, Nat.reduceSub, reduceCtorEq, hstep]) ⟨by simp only; omega, .inl rfl⟩ (by simp only; omega)
    ·rw [if_neg hz] at hstep
     simp (decide := true) (maxSteps := 4000000) -implicitDefEqProofs only [S0, ↓reduceIte, Int.reduceAdd, Int.reduceSub, Int.reduceToNat, Int.reduceNeg, Nat.reduceAdd, Nat.reduceMul, Nat.reduceSub, reduceCtorEq, show ¬ (nd : Int) = 0 by omega]
     refine call_eq (Within_ok d 2 (by omega) (by omega)) ?_
     rw [ed2']
     simp (decide := true) (maxSteps := 4000000) -implicitDefEqProofs only [S0, ↓reduceIte, Int.reduceAdd, Int.reduceSub, Int.reduceToNat, Int.reduceNeg, Nat.reduceAdd, Nat.reduceMul, Nat.reduceSub, reduceCtorEq, ways, hnd2']
     refine ⟨by omega, ?_⟩
     refine call_eq (Within_ok d 3 (by omega) (by omega)) ?_
     rw [ed3']
     by_cases hz3 : nd3 = 0
     ·rw [if_pos hz3] at hstep
      simp (decide := true) (maxSteps := 4000000) -implicitDefEqProofs only [S0, ↓reduceIte, Int.reduceAdd, Int.reduceSub, Int.reduceToNat, Int.reduceNeg, Nat.reduceAdd, Nat.reduceMul, Nat.reduceSub, reduceCtorEq, show (nd3 : Int) = 0 by omega]
      refine call_eq (Within_ok b 3 (by omega) (by omega)) ?_
      rw [eb3']
      simp (decide := true) (maxSteps := 4000000) -implicitDefEqProofs only [S0, ↓reduceIte, Int.reduceAdd, Int.reduceSub, Int.reduceToNat, Int.reduceNeg, Nat.reduceAdd, Nat.reduceMul, Nat.reduceSub, reduceCtorEq, hnb3, hnb3', tk1]
      refine ⟨by omega, by omega, ?_⟩
      exact Nxt.mk [] (i + 1, .l 80) (by simp (decide := true) (maxSteps := 4000000) -implicitDefEqProofs only [S0, ↓reduceIte, Int.reduceAdd, Int.reduceSub, Int.reduceToNat, Int.reduceNeg, Nat.reduceAdd, Nat.reduceMul, Nat.reduceSub, reduceCtorEq, hw, hstep]) (by simp (decide := true) (maxSteps := 4000000) -implicitDefEqProofs only [S0, ↓reduceIte, Int.reduceAdd, Int.reduceSub, Int.reduceToNat, Int.reduceNeg, Nat.reduceAdd, Nat.reduceMul, Nat.reduceSub, reduceCtorEq, hstep, List.map_append]; try rfl) ⟨by simp only; omega, .inl rfl⟩ (by simp only; omega)
     ·rw [if_neg hz3] at hstep
      simp (decide := true) (maxSteps := 4000000) -implicitDefEqProofs only [S0, ↓reduceIte, Int.reduceAdd, Int.reduceSub, Int.reduceToNat, Int.reduceNeg, Nat.reduceAdd, Nat.reduceMul, Nat.reduceSub, reduceCtorEq, show ¬ (nd3 : Int) = 0 by omega, tk1]
      refine ⟨by omega, ?_⟩
      exact Nxt.mk [] (i + 1, .l 80) (by simp (decide := true) (maxSteps := 4000000) -implicitDefEqProofs only [S0, ↓reduceIte, Int.reduceAdd, Int.reduceSub, Int.reduceToNat, Int.reduceNeg, Nat.reduceAdd, Nat.reduceMul, Nat.reduceSub, reduceCtorEq, hw, hstep]) (by simp (decide := true) (maxSteps := 4000000) -implicitDefEqProofs only [S0, ↓reduceIte, Int.reduceAdd, Int.reduceSub, Int.reduceToNat, Int.reduceNeg, Nat.reduceAdd, Nat.reduceMul, Nat.reduceSub, reduceCtorEq, hstep, List.map_append]; try rfl) ⟨by simp only; omega, .inl rfl⟩ (by simp only; omega)
   ·simp (decide := true) (maxSteps := 4000000) -implicitDefEqProofs only [S0, ↓reduceIte, Int.reduceAdd, Int.reduceSub, Int.reduceToNat, Int.reduceNeg, Nat.reduceAdd, Nat.reduceMul, Nat.reduceSub, reduceCtorEq, hc, h, List.length_cons, hsc3]
    refine call_eq (Within_ok a 3 (by omega) (by omega)) ?_
    rw [ea']
    simp (decide := true) (maxSteps := 4000000) -implicitDefEqProofs only [S0, ↓reduceIte, Int.reduceAdd, Int.reduceSub, Int.reduceToNat, Int.reduceNeg, Nat.reduceAdd, Nat.reduceMul, Nat.reduceSub, reduceCtorEq, hna, hna']
    refine ⟨by omega, ?_⟩
    refine call_eq (Within_ok b 8 (by omega) (by omega)) ?_
    rw [eb']
    simp (decide := true) (maxSteps := 4000000) -implicitDefEqProofs only [S0, ↓reduceIte, Int.reduceAdd, Int.reduceSub, Int.reduceToNat, Int.reduceNeg, Nat.reduceAdd, Nat.reduceMul, Nat.reduceSub, reduceCtorEq]
    refine call_eq (Within_ok d 4 (by omega) (by omega)) ?_
    rw [ed']
    by_cases hz : nd = 0
    ·rw [if_pos hz] at hstep
     simp (decide := true) (maxSteps := 4000000) -implicitDefEqProofs only [S0, ↓reduceIte, Int.reduceAdd, Int.reduceSub, Int.reduceToNat, Int.reduceNeg, Nat.reduceAdd, Nat.reduceMul, Nat.reduceSub, reduceCtorEq, show (nd : Int) = 0 by omega]
     by_cases hcut : cutR L (nmS na) nb = 0
     ·rw [if_pos hcut] at hstep
      refine callH (rCut_ok (by omega) hcut) [.m 44 0, .m 44 1] ?_
      simp (decide := true) (maxSteps := 4000000) -implicitDefEqProofs only [S0, ↓reduceIte, Int.reduceAdd, Int.reduceSub, Int.reduceToNat, Int.reduceNeg, Nat.reduceAdd, Nat.reduceMul, Nat.reduceSub, reduceCtorEq]
      exact Nxt.mk [] (i + 1, .m 44 1) (by simp (decide := true) (maxSteps := 4000000) -implicitDefEqProofs only [S0, ↓reduceIte, Int.reduceAdd, Int.reduceSub, Int.reduceToNat, Int.reduceNeg, Nat.reduceAdd, Nat.reduceMul, Nat.reduceSub, reduceCtorEq, hw, hstep]) (by simp (decide := true) (maxSteps := 4000000) -implicitDefEqProofs only [S0, ↓reduceIte, Int.reduceAdd, Int.reduceSub, Int.reduceToNat, Int.reduceNeg, Nat.reduceAdd, Nat.reduceMul, Nat.reduceSub, reduceCtorEq, hstep]) ⟨by simp only; omega, .inr (.inr rfl)⟩ (by simp only; omega)
     ·rw [if_neg hcut] at hstep
      refine callH (rCut_bad (by omega) hcut) [.m 44 0] ?_
      simp (decide := true) (maxSteps := 4000000) -implicitDefEqProofs only [S0, ↓reduceIte, Int.reduceAdd, Int.reduceSub, Int.reduceToNat, Int.reduceNeg, Nat.reduceAdd, Nat.reduceMul, Nat.reduceSub, reduceCtorEq, hcut]
      exact Nxt.mk [] (i + 1, .m 44 0) (by simp (decide := true) (maxSteps := 4000000) -implicitDefEqProofs only [S0, ↓reduceIte, Int.reduceAdd, Int.reduceSub, Int.reduceToNat, Int.reduceNeg, Nat.reduceAdd, Nat.reduceMul, Nat.reduceSub, reduceCtorEq, hw, hstep]) (by simp (decide := true) (maxSteps := 4000000) -implicitDefEqProofs only [S0, ↓reduceIte, Int.reduceAdd, Int.reduceSub, Int.reduceToNat, Int.reduceNeg, Nat.reduceAdd, Nat.reduceMul, Nat.reduceSub, reduceCtorEq, hstep]) ⟨by simp only; omega, .inr (.inl rfl)⟩ (by simp only; omega)
    ·rw [if_neg hz] at hstep
     simp (decide := true) (maxSteps := 4000000) -implicitDefEqProofs only [S0, ↓reduceIte, Int.reduceAdd, Int.reduceSub, Int.reduceToNat, Int.reduceNeg, Nat.reduceAdd, Nat.reduceMul, Nat.reduceSub, reduceCtorEq, show ¬ (nd : Int) = 0 by omega]
     refine call_eq (Within_ok d 2 (by omega) (by omega)) ?_
     rw [ed2']
     simp (decide := true) (maxSteps := 4000000) -implicitDefEqProofs only [S0, ↓reduceIte, Int.reduceAdd, Int.reduceSub, Int.reduceToNat, Int.reduceNeg, Nat.reduceAdd, Nat.reduceMul, Nat.reduceSub, reduceCtorEq, ways, hnd2']
     refine ⟨by omega, ?_⟩
     refine call_eq (Within_ok d 3 (by omega) (by omega)) ?_
     rw [ed3']
     by_cases hz3 : nd3 = 0
     ·rw [if_pos hz3] at hstep
      simp (decide := true) (maxSteps := 4000000) -implicitDefEqProofs only [S0, ↓reduceIte, Int.reduceAdd, Int.reduceSub, Int.reduceToNat, Int.reduceNeg, Nat.reduceAdd, Nat.reduceMul, Nat.reduceSub, reduceCtorEq, show (nd3 : Int) = 0 by omega]
      refine call_eq (Within_ok b 3 (by omega) (by omega)) ?_
      rw [eb3']
      simp (decide := true) (maxSteps := 4000000) -implicitDefEqProofs only [S0, ↓reduceIte, Int.reduceAdd, Int.reduceSub, Int.reduceToNat, Int.reduceNeg, Nat.reduceAdd, Nat.reduceMul, Nat.reduceSub, reduceCtorEq, hnb3, hnb3', tk1]
      refine ⟨by omega, by omega, ?_⟩
      exact Nxt.mk [] (i + 1, .m 44 0) (by simp (decide := true) (maxSteps := 4000000) -implicitDefEqProofs only [S0, ↓reduceIte, Int.reduceAdd, Int.reduceSub, Int.reduceToNat, Int.reduceNeg, Nat.reduceAdd, Nat.reduceMul, Nat.reduceSub, reduceCtorEq, hw, hstep]) (by simp (decide := true) (maxSteps := 4000000) -implicitDefEqProofs only [S0, ↓reduceIte, Int.reduceAdd, Int.reduceSub, Int.reduceToNat, Int.reduceNeg, Nat.reduceAdd, Nat.reduceMul, Nat.reduceSub, reduceCtorEq, hstep, List.map_append]; try rfl) ⟨by simp only; omega, .inr (.inl rfl)⟩ (by simp only; omega)
     ·rw [if_neg hz3] at hstep
      simp (decide := true) (maxSteps := 4000000) -implicitDefEqProofs only [S0, ↓reduceIte, Int.reduceAdd, Int.reduceSub, Int.reduceToNat, Int.reduceNeg, Nat.reduceAdd, Nat.reduceMul, Nat.reduceSub, reduceCtorEq, show ¬ (nd3 : Int) = 0 by omega, tk1]
      refine ⟨by omega, ?_⟩
      exact Nxt.mk [] (i + 1, .m 44 0) (by simp (decide := true) (maxSteps := 4000000) -implicitDefEqProofs only [S0, ↓reduceIte, Int.reduceAdd, Int.reduceSub, Int.reduceToNat, Int.reduceNeg, Nat.reduceAdd, Nat.reduceMul, Nat.reduceSub, reduceCtorEq, hw, hstep]) (by simp (decide := true) (maxSteps := 4000000) -implicitDefEqProofs only [S0, ↓reduceIte, Int.reduceAdd, Int.reduceSub, Int.reduceToNat, Int.reduceNeg, Nat.reduceAdd, Nat.reduceMul, Nat.reduceSub, reduceCtorEq, hstep, List.map_append]; try rfl) ⟨by simp only; omega, .inr (.inl rfl)⟩ (by simp only; omega)
   ·simp (decide := true) (maxSteps := 4000000) -implicitDefEqProofs only [S0, ↓reduceIte, Int.reduceAdd, Int.reduceSub, Int.reduceToNat, Int.reduceNeg, Nat.reduceAdd, Nat.reduceMul, Nat.reduceSub, reduceCtorEq, hc, h, List.length_cons, hsc3]
    refine call_eq (Within_ok a 3 (by omega) (by omega)) ?_
    rw [ea']
    simp (decide := true) (maxSteps := 4000000) -implicitDefEqProofs only [S0, ↓reduceIte, Int.reduceAdd, Int.reduceSub, Int.reduceToNat, Int.reduceNeg, Nat.reduceAdd, Nat.reduceMul, Nat.reduceSub, reduceCtorEq, hna, hna']
    refine ⟨by omega, ?_⟩
    refine call_eq (Within_ok b 8 (by omega) (by omega)) ?_
    rw [eb']
    simp (decide := true) (maxSteps := 4000000) -implicitDefEqProofs only [S0, ↓reduceIte, Int.reduceAdd, Int.reduceSub, Int.reduceToNat, Int.reduceNeg, Nat.reduceAdd, Nat.reduceMul, Nat.reduceSub, reduceCtorEq]
    refine call_eq (Within_ok d 4 (by omega) (by omega)) ?_
    rw [ed']
    by_cases hz : nd = 0
    ·rw [if_pos hz] at hstep
     simp (decide := true) (maxSteps := 4000000) -implicitDefEqProofs only [S0, ↓reduceIte, Int.reduceAdd, Int.reduceSub, Int.reduceToNat, Int.reduceNeg, Nat.reduceAdd, Nat.reduceMul, Nat.reduceSub, reduceCtorEq, show (nd : Int) = 0 by omega]
     by_cases hcut : cutR L (nmS na) nb = 0
     ·rw [if_pos hcut] at hstep
      refine callH (rCut_ok (by omega) hcut) [.m 44 1, .m 44 0] ?_
      simp (decide := true) (maxSteps := 4000000) -implicitDefEqProofs only [S0, ↓reduceIte, Int.reduceAdd, Int.reduceSub, Int.reduceToNat, Int.reduceNeg, Nat.reduceAdd, Nat.reduceMul, Nat.reduceSub, reduceCtorEq]
      exact Nxt.mk [] (i + 1, .m 44 0) (by simp (decide := true) (maxSteps := 4000000) -implicitDefEqProofs only [S0, ↓reduceIte, Int.reduceAdd, Int.reduceSub, Int.reduceToNat, Int.reduceNeg, Nat.reduceAdd, Nat.reduceMul, Nat.reduceSub, reduceCtorEq, hw, hstep]) (by simp (decide := true) (maxSteps := 4000000) -implicitDefEqProofs only [S0, ↓reduceIte, Int.reduceAdd, Int.reduceSub, Int.reduceToNat, Int.reduceNeg, Nat.reduceAdd, Nat.reduceMul, Nat.reduceSub, reduceCtorEq, hstep]) ⟨by simp only; omega, .inr (.inl rfl)⟩ (by simp only; omega)
     ·rw [if_neg hcut] at hstep
      refine callH (rCut_bad (by omega) hcut) [.m 44 1] ?_
      simp (decide := true) (maxSteps := 4000000) -implicitDefEqProofs only [S0, ↓reduceIte, Int.reduceAdd, Int.reduceSub, Int.reduceToNat, Int.reduceNeg, Nat.reduceAdd, Nat.reduceMul, Nat.reduceSub, reduceCtorEq, hcut]
      exact Nxt.mk [] (i + 1, .m 44 1) (by simp (decide := true) (maxSteps := 4000000) -implicitDefEqProofs only [S0, ↓reduceIte, Int.reduceAdd, Int.reduceSub, Int.reduceToNat, Int.reduceNeg, Nat.reduceAdd, Nat.reduceMul, Nat.reduceSub, reduceCtorEq, hw, hstep]) (by simp (decide := true) (maxSteps := 4000000) -implicitDefEqProofs only [S0, ↓reduceIte, Int.reduceAdd, Int.reduceSub, Int.reduceToNat, Int.reduceNeg, Nat.reduceAdd, Nat.reduceMul, Nat.reduceSub, reduceCtorEq, hstep]) ⟨by simp only; omega, .inr (.inr rfl)⟩ (by simp only; omega)
    ·rw [if_neg hz] at hstep
     simp (decide := true) (maxSteps := 4000000) -implicitDefEqProofs only [S0, ↓reduceIte, Int.reduceAdd, Int.reduceSub, Int.reduceToNat, Int.reduceNeg, Nat.reduceAdd, Nat.reduceMul, Nat.reduceSub, reduceCtorEq, show ¬ (nd : Int) = 0 by omega]
     refine call_eq (Within_ok d 2 (by omega) (by omega)) ?_
     rw [ed2']
     simp (decide := true) (maxSteps := 4000000) -implicitDefEqProofs only [S0, ↓reduceIte, Int.reduceAdd, Int.reduceSub, Int.reduceToNat, Int.reduceNeg, Nat.reduceAdd, Nat.reduceMul, Nat.reduceSub, reduceCtorEq, ways, hnd2']
     refine ⟨by omega, ?_⟩
     refine call_eq (Within_ok d 3 (by omega) (by omega)) ?_
     rw [ed3']
     by_cases hz3 : nd3 = 0
     ·rw [if_pos hz3] at hstep
      simp (decide := true) (maxSteps := 4000000) -implicitDefEqProofs only [S0, ↓reduceIte, Int.reduceAdd, Int.reduceSub, Int.reduceToNat, Int.reduceNeg, Nat.reduceAdd, Nat.reduceMul, Nat.reduceSub, reduceCtorEq, show (nd3 : Int) = 0 by omega]
      refine call_eq (Within_ok b 3 (by omega) (by omega)) ?_
      rw [eb3']
      simp (decide := true) (maxSteps := 4000000) -implicitDefEqProofs only [S0, ↓reduceIte, Int.reduceAdd, Int.reduceSub, Int.reduceToNat, Int.reduceNeg, Nat.reduceAdd, Nat.reduceMul, Nat.reduceSub, reduceCtorEq, hnb3, hnb3', tk1]
      refine ⟨by omega, by omega, ?_⟩
      exact Nxt.mk [] (i + 1, .m 44 1) (by simp (decide := true) (maxSteps := 4000000) -implicitDefEqProofs only [S0, ↓reduceIte, Int.reduceAdd, Int.reduceSub, Int.reduceToNat, Int.reduceNeg, Nat.reduceAdd, Nat.reduceMul, Nat.reduceSub, reduceCtorEq, hw, hstep]) (by simp (decide := true) (maxSteps := 4000000) -implicitDefEqProofs only [S0, ↓reduceIte, Int.reduceAdd, Int.reduceSub, Int.reduceToNat, Int.reduceNeg, Nat.reduceAdd, Nat.reduceMul, Nat.reduceSub, reduceCtorEq, hstep, List.map_append]; try rfl) ⟨by simp only; omega, .inr (.inr rfl)⟩ (by simp only; omega)
     ·rw [if_neg hz3] at hstep
      simp (decide := true) (maxSteps := 4000000) -implicitDefEqProofs only [S0, ↓reduceIte, Int.reduceAdd, Int.reduceSub, Int.reduceToNat, Int.reduceNeg, Nat.reduceAdd, Nat.reduceMul, Nat.reduceSub, reduceCtorEq, show ¬ (nd3 : Int) = 0 by omega, tk1]
      refine ⟨by omega, ?_⟩
      exact Nxt.mk [] (i + 1, .m 44 1) (by simp (decide := true) (maxSteps := 4000000) -implicitDefEqProofs only [S0, ↓reduceIte, Int.reduceAdd, Int.reduceSub, Int.reduceToNat, Int.reduceNeg, Nat.reduceAdd, Nat.reduceMul, Nat.reduceSub, reduceCtorEq, hw, hstep]) (by simp (decide := true) (maxSteps := 4000000) -implicitDefEqProofs only [S0, ↓reduceIte, Int.reduceAdd, Int.reduceSub, Int.reduceToNat, Int.reduceNeg, Nat.reduceAdd, Nat.reduceMul, Nat.reduceSub, reduceCtorEq, hstep, List.map_append]; try rfl) ⟨by simp only; omega, .inr (.inr rfl)⟩ (by simp only; omega)
 ·have hi2 : i = m.length := by omega
  subst hi2
  rw [List.take_length]
  have e9 : List.take (List.foldl grow1 [] m).length (List.map verC (List.foldl grow1 [] m)) = List.map verC (List.foldl grow1 [] m) := tk1 _ _
  rcases hst with rfl | rfl | rfl
  ·simp (decide := true) (maxSteps := 4000000) -implicitDefEqProofs only [S0, ↓reduceIte, Int.reduceAdd, Int.reduceSub, Int.reduceToNat, Int.reduceNeg, Nat.reduceAdd, Nat.reduceMul, Nat.reduceSub, reduceCtorEq, h, e9]
  ·simp (decide := true) (maxSteps := 4000000) -implicitDefEqProofs only [S0, ↓reduceIte, Int.reduceAdd, Int.reduceSub, Int.reduceToNat, Int.reduceNeg, Nat.reduceAdd, Nat.reduceMul, Nat.reduceSub, reduceCtorEq, h, e9]
  ·simp (decide := true) (maxSteps := 4000000) -implicitDefEqProofs only [S0, ↓reduceIte, Int.reduceAdd, Int.reduceSub, Int.reduceToNat, Int.reduceNeg, Nat.reduceAdd, Nat.reduceMul, Nat.reduceSub, reduceCtorEq, h, e9]
end Go.Proofs.YtpdenloeacaadaaDoor.E

namespace Go.Proofs.YtpdenloeacaadaaDoor.E
open Go
set_option linter.unusedSimpArgs false
set_option linter.unusedVariables false
set_option linter.unusedSectionVars false
set_option maxRecDepth 20000
theorem chkGo_app (p l : List Vn) (v : Vn) : chkGo p (l ++ [v]) = if chkGo p l = 0 then stepE (p ++ l) v else chkGo p l := by
 induction l generalizing p with
 | nil =>
  simp only [List.nil_append, chkGo, if_true, List.append_nil]
  split
  ·rename_i h; exact h.symm
  ·rfl
 | cons x l ih =>
  simp only [List.cons_append, chkGo]
  split
  ·rw [ih]; simp [List.append_assoc]
  ·rename_i h; first | rfl | rw [if_neg h]
theorem chkSt_add {l : List Vn} (h : chkSt l = 0) (hl : l.length < 5120) (v : Vn) : chkSt (l ++ [v]) = stepE l v := by
 have h0 : chkGo [] l = 0 := by
  unfold chkSt at h
  rwa [if_neg (by omega)] at h
 rw [chkSt, if_neg (by simp; omega), chkGo_app, if_pos h0, List.nil_append]
theorem stepE_put {l : List Vn} {r : Rc} (h : chkRec r = 0) (hc : cnt l r.cats < 20) : stepE l ⟨r, false⟩ = 0 := by
 rw [stepE, if_pos h, if_neg (show ¬ 20 < cnt l r.cats + 1 by omega), if_neg (by simp)]
theorem chkRec_iff {r : Rc} : chkRec r = 0 ↔ idOk r.id = true ∧ (0 ≤ r.cats ∧ r.cats < 256) ∧ r.fields.length ≤ 6 ∧ r.refs.length ≤ 4 ∧ fOk none r.fields = true ∧ rOk none r.refs = true := by
 unfold chkRec
 by_cases h1 : idOk r.id = true
 ·rw [if_pos h1]
  by_cases h2 : 0 ≤ r.cats ∧ r.cats < 256
  ·rw [if_pos h2]
   by_cases h3 : 6 < r.fields.length ∨ 4 < r.refs.length
   ·rw [if_pos h3]; constructor
    ·intro h; contradiction
    ·intro h; omega
   ·rw [if_neg h3]
    by_cases h4 : (fOk none r.fields && rOk none r.refs) = true
    ·rw [if_pos h4]
     rw [Bool.and_eq_true] at h4
     exact ⟨fun _ => ⟨h1, h2, by omega, by omega, h4⟩, fun _ => rfl⟩
    ·rw [if_neg h4]
     rw [Bool.and_eq_true] at h4
     constructor
     ·intro h; contradiction
     ·intro h; exact absurd h.2.2.2.2 h4
  ·rw [if_neg h2]; constructor
   ·intro h; contradiction
   ·intro h; exact absurd h.2.1 h2
 ·rw [if_neg h1]; constructor
  ·intro h; contradiction
  ·intro h; exact absurd h.1 h1
theorem chkRec_bare {id : ByteArray} {c : Int} (h : idOk id = true) (hc : 0 ≤ c ∧ c < 256) : chkRec ⟨id, c, [], []⟩ = 0 := chkRec_iff.2 ⟨h, hc, by simp, by simp, rfl, rfl⟩
theorem stepE_cut {l : List Vn} {id : ByteArray} {c : Int} (h : idOk id = true) (hc : 0 ≤ c ∧ c < 256) (hl : lives l id c = true) (hn : cnt l c < 20) : stepE l ⟨⟨id, c, [], []⟩, true⟩ = 0 := by
 rw [stepE, if_pos (chkRec_bare h hc), if_neg (show ¬ 20 < cnt l c + 1 by omega), if_neg (by simp [hl])]
theorem grown_rec {na nb nx nr : Nat} (ha : na < 3) (hb : nb < 8) (hx : nx < 2) (hr : nr < 3) : chkRec ⟨nmS na, nb, [⟨⟨#[107]⟩, xyS nx⟩], []⟩ = 0 ∧ chkRec ⟨nmS na, nb, [⟨⟨#[107]⟩, xyS nx⟩], [nmS nr]⟩ = 0 := by
 have h1 : ∀ n : Fin 3, idOk (nmS n.1) = true := by decide +kernel
 have h2 : ∀ n : Fin 2, fOk none [⟨⟨#[107]⟩, xyS n.1⟩] = true := by decide +kernel
 have h3 : ∀ n : Fin 3, rOk none [nmS n.1] = true := by decide +kernel
 have ha' := h1 ⟨na, ha⟩
 have hx' := h2 ⟨nx, hx⟩
 have hr' := h3 ⟨nr, hr⟩
 exact ⟨chkRec_iff.2 ⟨ha', by simp only; omega, by simp, by simp, hx', rfl⟩, chkRec_iff.2 ⟨ha', by simp only; omega, by simp, by simp, hx', hr'⟩⟩
theorem cutR_zero {l : List Vn} {id : ByteArray} {c : Int} (h : cutR l id c = 0) : idOk id = true ∧ (0 ≤ c ∧ c < 256) ∧ lives l id c = true ∧ cnt l c < 20 := by
 unfold cutR at h
 repeat' split at h
 all_goals first | contradiction | (refine ⟨?_, ?_, ?_, ?_⟩ <;> first | assumption | omega)
theorem grow1_ok {l : List Vn} {c : List Int} (h : chkSt l = 0) (hl : l.length < 15) : chkSt (grow1 l c) = 0 := by
 by_cases hc : c.length < 3
 ·rw [grow1_short hc]; exact h
 ·obtain ⟨a, b, d, c, rfl⟩ := long_of hc
  have ha := (wN_eq a (show 0 < 3 by omega)).2
  have hb := (wN_eq b (show 0 < 8 by omega)).2
  have hb3 := (wN_eq b (show 0 < 3 by omega)).2
  have hd2 := (wN_eq d (show 0 < 2 by omega)).2
  obtain ⟨r1, r2⟩ := grown_rec ha hb hd2 hb3
  have hcnt : ∀ k, cnt l k < 20 := fun k => by have := cnt_le l k; omega
  simp only [grow1]
  split
  ·split
   ·rename_i h0
    obtain ⟨g1, g2, g3, g4⟩ := cutR_zero h0
    rw [chkSt_add h (by omega)]
    exact stepE_cut g1 g2 g3 g4
   ·exact h
  ·rw [chkSt_add h (by omega)]
   split
   ·exact stepE_put r2 (hcnt _)
   ·exact stepE_put r1 (hcnt _)
theorem grown_fold (m : List (List Int)) (hm : m.length ≤ 15) : chkSt (m.foldl grow1 []) = 0 ∧ (m.foldl grow1 []).length ≤ m.length := by
 have key : ∀ (m : List (List Int)) (l : List Vn), chkSt l = 0 → l.length + m.length ≤ 15 → chkSt (m.foldl grow1 l) = 0 ∧ (m.foldl grow1 l).length ≤ l.length + m.length := by
  intro m
  induction m with
  | nil => intro l h _; exact ⟨h, by simp⟩
  | cons c m ih =>
   intro l h hl
   simp only [List.length_cons] at hl
   have g1 := grow1_len l c
   obtain ⟨g2, g3⟩ := ih (grow1 l c) (grow1_ok h (by omega)) (by omega)
   exact ⟨g2, by simp only [List.foldl_cons, List.length_cons]; omega⟩
 have := key m [] (by decide) (by simpa using hm)
 exact ⟨this.1, by simpa using this.2⟩
/-- What is grown is a store, of no more than fifteen versions. -/
theorem grown_st (l : List (List Int)) : chkSt (grownL l) = 0 ∧ (grownL l).length ≤ 15 := by
 have h := grown_fold (l.take 15) (by rw [List.length_take]; omega)
 exact ⟨h.1, by have := h.2; rw [List.length_take] at this; unfold grownL; omega⟩
theorem getRev_cons (id : ByteArray) (v : Vn) (l : List Vn) (g : Int → Bool) : getRev id (v :: l) g = if v.r.id = id then (if v.gone = false ∧ g v.r.cats = false then some v.r else getRev id l (fun c => decide (v.r.cats = c) || g c)) else getRev id l g := rfl
theorem getN_add (l : List Vn) (v : Vn) (id : ByteArray) : getN (l ++ [v]) id = if v.r.id = id then (if v.gone = false then some v.r else getRev id l.reverse (fun c => decide (v.r.cats = c))) else getN l id := by
 unfold getN
 rw [List.reverse_append]
 simp only [List.reverse_cons, List.reverse_nil, List.nil_append, List.cons_append, getRev_cons, and_true, Bool.or_false]
theorem getN_put (l : List Vn) (r : Rc) : getN (l ++ [⟨r, false⟩]) r.id = some r := by
 rw [getN_add, if_pos rfl, if_pos rfl]
theorem putE_zero {l : List Vn} {r : Rc} (h : chkSt l = 0) (hr : chkRec r = 0) (hc : cnt l r.cats < 20) : putE l r = 0 := by
 rw [putE, if_pos h, if_pos hr, if_neg (by omega)]
theorem putE_inv {l : List Vn} {r : Rc} (h : putE l r = 0) : chkSt l = 0 ∧ chkRec r = 0 := by
 unfold putE at h
 repeat' split at h
 all_goals first | contradiction | (refine ⟨?_, ?_⟩ <;> assumption)
theorem cutE_zero {l : List Vn} {id : ByteArray} {c : Int} (h : chkSt l = 0) (hi : idOk id = true) (hc : 0 ≤ c ∧ c < 256) (hl : lives l id c = true) (hn : cnt l c < 20) : cutE l id c = 0 := by
 rw [cutE, if_pos h, if_pos hi, if_pos hc, if_pos hl, if_neg (by omega)]
theorem cutE_none {l : List Vn} {id : ByteArray} {c : Int} (h : chkSt l = 0) (hi : idOk id = true) (hc : 0 ≤ c ∧ c < 256) (hl : lives l id c = false) : cutE l id c = 4 := by
 rw [cutE, if_pos h, if_pos hi, if_pos hc, if_neg (by rw [hl]; simp)]
theorem getRev_some {id : ByteArray} {l : List Vn} {g : Int → Bool} {r : Rc} (h : getRev id l g = some r) : g r.cats = false ∧ r.id = id ∧ ∃ v ∈ l, v.r = r := by
 induction l generalizing g with
 | nil => cases h
 | cons v l ih =>
  rw [getRev_cons] at h
  split at h
  ·rename_i h1
   split at h
   ·rename_i h2
    cases h
    exact ⟨h2.2, h1, v, by simp, rfl⟩
   ·obtain ⟨g1, g2, w, g3, g4⟩ := ih h
    simp only [Bool.or_eq_false_iff] at g1
    exact ⟨g1.2, g2, w, List.mem_cons_of_mem _ g3, g4⟩
  ·obtain ⟨g1, g2, w, g3, g4⟩ := ih h
   exact ⟨g1, g2, w, List.mem_cons_of_mem _ g3, g4⟩
theorem getN_some {l : List Vn} {id : ByteArray} {r : Rc} (h : getN l id = some r) : r.id = id ∧ ∃ v ∈ l, v.r = r := by
 obtain ⟨_, h1, v, h2, h3⟩ := getRev_some h
 exact ⟨h1, v, List.mem_reverse.1 h2, h3⟩
/-- What hides other kinds hides not this one. -/
theorem getRev_more {id : ByteArray} {l : List Vn} {g : Int → Bool} {r : Rc} {c : Int} (h : getRev id l g = some r) (hc : r.cats ≠ c) : getRev id l (fun k => decide (c = k) || g k) = some r := by
 induction l generalizing g with
 | nil => cases h
 | cons v l ih =>
  rw [getRev_cons] at h ⊢
  split at h
  ·rename_i h1
   rw [if_pos h1]
   split at h
   ·rename_i h2
    cases h
    rw [if_pos ⟨h2.1, by simp only [Bool.or_eq_false_iff, decide_eq_false_iff_not]; exact ⟨fun e => hc e.symm, h2.2⟩⟩]
   ·rename_i h2
    rw [if_neg (by
     intro h3
     simp only [Bool.or_eq_false_iff] at h3
     exact h2 ⟨h3.1, h3.2.2⟩)]
    have := ih h
    rw [← this]
    congr 1
    funext k
    simp only [Bool.or_left_comm]
  ·rename_i h1
   rw [if_neg h1]
   exact ih h
theorem getD_lens {l : List Vn} (h : chkSt l = 0) (id : ByteArray) : ((getN l id).getD noRec).fields.length ≤ 6 ∧ ((getN l id).getD noRec).refs.length ≤ 4 := by
 cases e : getN l id with
 | none => exact ⟨by simp, by simp⟩
 | some r =>
  obtain ⟨_, v, hv, rfl⟩ := getN_some e
  exact chkRec_len ((chkSt_len h).2 v hv)
theorem getE_eq {l : List Vn} (h : chkSt l = 0) (id : ByteArray) : getE l id = if (getN l id).isSome then 0 else 4 := by rw [getE, if_pos h]
end Go.Proofs.YtpdenloeacaadaaDoor.E

namespace Go.Proofs.YtpdenloeacaadaaDoor.E
open Go
set_option linter.unusedSimpArgs false
set_option linter.unusedVariables false
set_option linter.unusedSectionVars false
set_option maxRecDepth 20000
set_option maxHeartbeats 1000000
/-- Who sees only these kinds sees not this version. -/
def hid (a : Int) (v : Vn) : Bool := !decide (bnot v.r.cats a = 0)
def partL (a : Int) (l : List Vn) : List Vn := l.filter fun v => !hid a v
def idxH (a : Int) : Nat → List Vn → Int
 | _, [] => -1
 | i, v :: l => if hid a v then i else idxH a (i + 1) l
abbrev verA (v : Vn) : AV := .agg (verC v)
theorem idxH_none {a : Int} {l : List Vn} : ∀ {n : Nat}, idxH a n l = -1 → partL a l = l := by
 induction l with
 | nil => intro n _; rfl
 | cons v l ih =>
  intro n h
  rw [idxH] at h
  cases e : hid a v with
  | true => rw [e, if_pos rfl] at h; omega
  | false =>
   rw [e, if_neg (by simp)] at h
   have := ih h
   unfold partL at this ⊢
   rw [List.filter_cons, e, this]
   rfl
theorem idxH_some {a : Int} {l : List Vn} : ∀ {n : Nat} {k : Int}, idxH a n l = k → k ≠ -1 → ∃ i v, k = ((n + i : Nat) : Int) ∧ l[i]? = some v ∧ hid a v = true ∧ partL a (l.take i) = l.take i := by
 induction l with
 | nil => intro n k h hk; exact absurd h.symm hk
 | cons v l ih =>
  intro n k h hk
  rw [idxH] at h
  cases e : hid a v with
  | true =>
   rw [e, if_pos rfl] at h
   exact ⟨0, v, h.symm, rfl, e, rfl⟩
  | false =>
   rw [e, if_neg (by simp)] at h
   obtain ⟨i, w, h1, h2, h3, h4⟩ := ih h hk
   refine ⟨i + 1, w, by omega, h2, h3, ?_⟩
   unfold partL at h4 ⊢
   rw [List.take_succ_cons, List.filter_cons, e, h4]
   rfl
theorem partL_len (a : Int) (l : List Vn) : (partL a l).length ≤ l.length := List.length_filter_le _ _
theorem partL_snoc {a : Int} {l : List Vn} {i : Nat} {v : Vn} (h : l[i]? = some v) : partL a (l.take (i + 1)) = if hid a v then partL a (l.take i) else partL a (l.take i) ++ [v] := by
 rw [take_get h]
 unfold partL
 rw [List.filter_append]
 cases e : hid a v with
 | true => simp [e]
 | false => simp [e]
def partE (l : List Vn) (a : Int) : Int := if chkSt l = 0 then (if 0 ≤ a ∧ a < 256 then 0 else 1) else chkSt l
end Go.Proofs.YtpdenloeacaadaaDoor.E

namespace Go.Proofs.YtpdenloeacaadaaDoor.E
open Go
set_option linter.unusedSimpArgs false
set_option linter.unusedVariables false
set_option linter.unusedSectionVars false
set_option maxRecDepth 20000
set_option maxHeartbeats 1000000
def sameV (a b : Vn) : Bool := decide (a = b)
/-! Parts of parts. -/
theorem hid_iff {a : Nat} {v : Vn} (ha : a < 256) (hv : 0 ≤ v.r.cats ∧ v.r.cats < 256) : hid a v = false ↔ ∀ i, v.r.cats.toNat.testBit i = true → a.testBit i = true := by
 have e : v.r.cats = (v.r.cats.toNat : Int) := by omega
 unfold hid
 rw [Bool.not_eq_false', decide_eq_true_eq]
 generalize v.r.cats.toNat = c at e
 have hc : c < 256 := by omega
 rw [e, bnot_sub (by omega) (by omega)]
theorem hid_eq {a b : Bool} (h : a = false ↔ b = false) : a = b := by
 cases a <;> cases b <;> simp_all
theorem mem_cats {l : List Vn} (h : chkSt l = 0) {v : Vn} (hv : v ∈ l) : 0 ≤ v.r.cats ∧ v.r.cats < 256 := (chkRec_iff.1 ((chkSt_len h).2 v hv)).2.1
theorem partL_part {l : List Vn} {a b c : Nat} (h : chkSt l = 0) (ha : a < 256) (hb : b < 256) (hc : c < 256) (hab : ∀ i, c.testBit i = true ↔ a.testBit i = true ∧ b.testBit i = true) : partL b (partL a l) = partL c l := by
 unfold partL
 rw [List.filter_filter]
 refine List.filter_congr fun v hv => ?_
 have hv := mem_cats h hv
 rw [Bool.eq_iff_iff, Bool.and_eq_true, Bool.not_eq_true', Bool.not_eq_true', Bool.not_eq_true', hid_iff ha hv, hid_iff hb hv, hid_iff hc hv]
 simp only [hab]
 exact ⟨fun h i hi => ⟨h.2 i hi, h.1 i hi⟩, fun h => ⟨fun i hi => (h i hi).2, fun i hi => (h i hi).1⟩⟩
theorem partL_all {l : List Vn} (h : chkSt l = 0) : partL (255 : Nat) l = l := by
 unfold partL
 rw [List.filter_eq_self]
 intro v hv
 have hv := mem_cats h hv
 rw [Bool.not_eq_true', hid_iff (by omega) hv]
 intro i hi
 have : v.r.cats.toNat < 2 ^ 8 := by omega
 have hi8 : i < 8 := Classical.byContradiction fun hn => by
  have := Nat.testBit_lt_two_pow (Nat.lt_of_lt_of_le this (Nat.pow_le_pow_right (by omega) (show 8 ≤ i by omega)))
  rw [hi] at this; cases this
 rw [show (255 : Nat) = 2 ^ 8 - 1 by rfl, Nat.testBit_two_pow_sub_one]
 simp [hi8]
theorem partL_sub {a b : Nat} {l : List Vn} (h : chkSt l = 0) (ha : a < 256) (hb : b < 256) (hab : ∀ i, a.testBit i = true → b.testBit i = true) : (partL a l).length ≤ (partL b l).length := by
 rw [← partL_part h hb ha ha (fun i => ⟨fun h => ⟨hab i h, h⟩, fun h => h.2⟩)]
 exact partL_len _ _
theorem partL_add (a : Int) (l : List Vn) (v : Vn) : partL a (l ++ [v]) = if hid a v then partL a l else partL a l ++ [v] := by
 unfold partL
 rw [List.filter_append]
 cases e : hid a v with
 | true => simp [e]
 | false => simp [e]
theorem hid_cats {a : Int} {v w : Vn} (h : v.r.cats = w.r.cats) : hid a v = hid a w := by unfold hid; rw [h]
theorem cnt_part_le (a : Int) (l : List Vn) (c : Int) : cnt (partL a l) c ≤ cnt l c := by
 unfold cnt partL
 rw [List.filter_filter, ← List.countP_eq_length_filter, ← List.countP_eq_length_filter]
 exact List.countP_mono_left fun x _ h => by simp only [Bool.and_eq_true] at h; exact h.1
theorem snoc_ind {α : Type} {P : List α → Prop} (h0 : P []) (h1 : ∀ l x, P l → P (l ++ [x])) (l : List α) : P l := by
 have key : ∀ n (l : List α), l.length = n → P l := by
  intro n
  induction n with
  | zero => intro l h; rw [List.eq_nil_of_length_eq_zero h]; exact h0
  | succ n ih =>
   intro l h
   have hne : l ≠ [] := fun e => by rw [e] at h; cases h
   rw [← List.dropLast_concat_getLast hne]
   exact h1 _ _ (ih _ (by rw [List.length_dropLast, h]; rfl))
 exact key l.length l rfl
/-- What may be seen has just aS many of its kinds in the part. -/
theorem cnt_part (a : Int) (l : List Vn) (c : Int) (hc : bnot c a = 0) : cnt (partL a l) c = cnt l c := by
 unfold cnt partL
 rw [List.filter_filter]
 congr 1
 refine List.filter_congr fun v _ => ?_
 by_cases h : v.r.cats = c
 ·simp [h, hid, hc]
 ·simp [h]
theorem lives_part (a : Int) (l : List Vn) (id : ByteArray) (c : Int) (hc : bnot c a = 0) : lives (partL a l) id c = lives l id c := by
 induction l using snoc_ind with
 | h0 => rfl
 | h1 l v ih =>
  rw [partL_add, lives_add]
  cases e : hid a v with
  | true =>
   rw [if_pos rfl, ih, lStep, if_neg]
   rintro ⟨_, h⟩
   unfold hid at e
   rw [h, hc] at e
   simp at e
  | false =>
   rw [if_neg (by simp), lives_add, ih]
theorem chkGo_part (a : Int) : ∀ (m p : List Vn), chkGo p m = 0 → chkGo (partL a p) (partL a m) = 0 := by
 intro m
 induction m with
 | nil => intro p _; rfl
 | cons v m ih =>
  intro p h
  simp only [chkGo] at h
  split at h
  ·rename_i h0
   have := ih _ h
   rw [partL_add] at this
   cases e : hid a v with
   | true =>
    rw [e, if_pos rfl] at this
    have e2 : partL a (v :: m) = partL a m := by unfold partL; rw [List.filter_cons, e]; rfl
    rw [e2]; exact this
   | false =>
    rw [e, if_neg (by simp)] at this
    have e2 : partL a (v :: m) = v :: partL a m := by unfold partL; rw [List.filter_cons, e]; rfl
    have hc : bnot v.r.cats a = 0 := by unfold hid at e; simpa using e
    rw [e2, chkGo]
    have e3 : stepE (partL a p) v = stepE p v := by unfold stepE; rw [cnt_part a p _ hc, lives_part a p _ _ hc]
    rw [e3, h0, if_pos rfl]
    exact this
  ·rename_i h0; exact absurd h h0
/-- A part of a store is a store. -/
theorem chkSt_part {a : Int} {l : List Vn} (h : chkSt l = 0) : chkSt (partL a l) = 0 := by
 have hl := (chkSt_len h).1
 have := partL_len a l
 unfold chkSt at h ⊢
 rw [if_neg (by omega)] at h ⊢
 exact chkGo_part a l [] h
end Go.Proofs.YtpdenloeacaadaaDoor.E

namespace Go.Proofs.YtpdenloeacaadaaDoor.E
open Go
set_option linter.unusedSimpArgs false
set_option linter.unusedVariables false
set_option linter.unusedSectionVars false
set_option maxRecDepth 20000
theorem low255 (k : Int) : ∃ n : Nat, n < 256 ∧ bits .and .i64 k 255 = n := band_low k 8 (by omega)
end Go.Proofs.YtpdenloeacaadaaDoor.E
