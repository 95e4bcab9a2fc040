/- Walks: slices.DeleteFunc of a name, in place, with a captured one. No conditions. -/
import Derived.Test.YtpdenloeacaadaaGreatDoorIdxR
import Derived.Test.YtpdenloeacaadaaGreatDoorGRe
namespace Go.Proofs.YtpdenloeacaadaaGreatDoor.E
open Go
set_option linter.unusedSimpArgs false
set_option linter.unusedVariables false
set_option linter.unusedSectionVars false
set_option maxRecDepth 20000
set_option maxHeartbeats 1000000
def isN (a v : ByteArray) : Bool := decide (v = a)
def dlN (a : ByteArray) (l : List ByteArray) : List ByteArray := l.filter fun v => !isN a v
def ixN (a : ByteArray) : Nat → List ByteArray → Int
 | _, [] => -1
 | i, v :: l => if isN a v then i else ixN a (i + 1) l
theorem none1_ok (v a : ByteArray) : OkH Tryz.prog 15 [S v, .ptr (.e 0) 0 0] [.cells 9 [S a]] (B (isN a v)) [(0, .cells 9 [S a])] := by
 refine OkH.of_wp (rs := [.tmp 3]) (n := 7) [] Tryz.func15 rfl rfl rfl (by simp) fo (by kernel_rfl) ?_
 simp (decide := true) (maxSteps := 4000000) -implicitDefEqProofs only [S0, ↓reduceIte, Int.reduceAdd, Int.reduceSub, Int.reduceToNat, Int.reduceNeg, Nat.reduceAdd, Nat.reduceMul, Nat.reduceSub, reduceCtorEq, toList_beq]
 rfl
theorem ixNO_ok (l : List ByteArray) (hl : l.length ≤ 1000000) (a : ByteArray) : OkH Tryz.prog 31 [.own (.e 0) 0 1 0 l.length, .func 15 [.ptr (.e 1) 0 0]] [.row 9 1 none (l.map ssC), .cells 9 [S a]] (I (ixN a 0 l)) [(0, .row 9 1 none (l.map ssC)), (0, .cells 9 [S a])] := by
 refine OkH.of_wp (rs := [.tmp 4]) (n := 19) [] Tryz.func31 rfl rfl rfl (by simp) fo (by kernel_rfl) ?_
 simp (decide := true) (maxSteps := 4000000) -implicitDefEqProofs only [S0, ↓reduceIte, Int.reduceAdd, Int.reduceSub, Int.reduceToNat, Int.reduceNeg, Nat.reduceAdd, Nat.reduceMul, Nat.reduceSub, reduceCtorEq]
 refine ALoop.st [0, 1, 6, 7, 8] (fun (i : Nat) => [.own (.e 0) 0 1 0 l.length, .func 15 [.ptr (.e 1) 0 0], .own (.e 0) 0 1 0 l.length, I l.length, I i]) (fun _ => [(.e 0, 0, .row 9 1 none (l.map ssC)), (.e 1, 0, .cells 9 [S a])]) (fun i => i ≤ l.length ∧ ixN a i (l.drop i) = ixN a 0 l) (fun i => l.length - i) [] 0 (by simp (decide := true) (maxSteps := 4000000) -implicitDefEqProofs only [S0, ↓reduceIte, Int.reduceAdd, Int.reduceSub, Int.reduceToNat, Int.reduceNeg, Nat.reduceAdd, Nat.reduceMul, Nat.reduceSub, reduceCtorEq]; try rfl) (by simp (decide := true) (maxSteps := 4000000) -implicitDefEqProofs only [S0, ↓reduceIte, Int.reduceAdd, Int.reduceSub, Int.reduceToNat, Int.reduceNeg, Nat.reduceAdd, Nat.reduceMul, Nat.reduceSub, reduceCtorEq]) ⟨by omega, rfl⟩ ?_
 rintro i ⟨hi, hu⟩
 by_cases h : (i : Int) < l.length
 ·obtain ⟨v, hv⟩ := lt_get (l := l) (i := i) (by omega)
  have hw := wr_add1 h (by omega)
  have hd : l.drop i = v :: l.drop (i + 1) := by
   obtain ⟨h', e⟩ := List.getElem?_eq_some_iff.1 hv
   rw [← e, List.drop_eq_getElem_cons]
  rw [hd, ixN] at hu
  simp (decide := true) (maxSteps := 4000000) -implicitDefEqProofs only [S0, ↓reduceIte, Int.reduceAdd, Int.reduceSub, Int.reduceToNat, Int.reduceNeg, Nat.reduceAdd, Nat.reduceMul, Nat.reduceSub, reduceCtorEq, h, hv]
  refine callH (none1_ok v a) [.e 1] ?_
  cases e : isN a v with
  | true =>
   rw [e, if_pos rfl] at hu
   simp (decide := true) (maxSteps := 4000000) -implicitDefEqProofs only [S0, ↓reduceIte, Int.reduceAdd, Int.reduceSub, Int.reduceToNat, Int.reduceNeg, Nat.reduceAdd, Nat.reduceMul, Nat.reduceSub, reduceCtorEq, hu]
  | false =>
   rw [e, if_neg (by simp)] at hu
   simp (decide := true) (maxSteps := 4000000) -implicitDefEqProofs only [S0, ↓reduceIte, Int.reduceAdd, Int.reduceSub, Int.reduceToNat, Int.reduceNeg, Nat.reduceAdd, Nat.reduceMul, Nat.reduceSub, reduceCtorEq]
   exact Nxt.mk [] (i + 1) (by simp (decide := true) (maxSteps := 4000000) -implicitDefEqProofs only [S0, ↓reduceIte, Int.reduceAdd, Int.reduceSub, Int.reduceToNat, Int.reduceNeg, Nat.reduceAdd, Nat.reduceMul, Nat.reduceSub, reduceCtorEq, hw]) (by simp (decide := true) (maxSteps := 4000000) -implicitDefEqProofs only [S0, ↓reduceIte, Int.reduceAdd, Int.reduceSub, Int.reduceToNat, Int.reduceNeg, Nat.reduceAdd, Nat.reduceMul, Nat.reduceSub, reduceCtorEq]) ⟨by omega, hu⟩ (by omega)
 ·rw [List.drop_eq_nil_of_le (by omega), ixN] at hu
  simp (decide := true) (maxSteps := 4000000) -implicitDefEqProofs only [S0, ↓reduceIte, Int.reduceAdd, Int.reduceSub, Int.reduceToNat, Int.reduceNeg, Nat.reduceAdd, Nat.reduceMul, Nat.reduceSub, reduceCtorEq, h, hu]
theorem ixN_none {a : ByteArray} {l : List ByteArray} : ∀ {n : Nat}, ixN a n l = -1 → dlN a l = l := by
 induction l with
 | nil => intro n _; rfl
 | cons v l ih =>
  intro n h
  rw [ixN] at h
  cases e : isN a v with
  | true => rw [e, if_pos rfl] at h; omega
  | false =>
   rw [e, if_neg (by simp)] at h
   have := ih h
   unfold dlN at this ⊢
   rw [List.filter_cons, e, this]
   rfl
theorem ixN_some {a : ByteArray} {l : List ByteArray} : ∀ {n : Nat} {k : Int}, ixN a n l = k → k ≠ -1 → ∃ i v, k = ((n + i : Nat) : Int) ∧ l[i]? = some v ∧ isN a v = true ∧ dlN a (l.take i) = l.take i := by
 induction l with
 | nil => intro n k h hk; exact absurd h.symm hk
 | cons v l ih =>
  intro n k h hk
  rw [ixN] at h
  cases e : isN a v with
  | true =>
   rw [e, if_pos rfl] at h
   exact ⟨0, v, h.symm, rfl, e, rfl⟩
  | false =>
   rw [e, if_neg (by simp)] at h
   obtain ⟨i, w, h1, h2, h3, h4⟩ := ih h hk
   refine ⟨i + 1, w, by omega, h2, h3, ?_⟩
   unfold dlN at h4 ⊢
   rw [List.take_succ_cons, List.filter_cons, e, h4]
   rfl
theorem dlN_len (a : ByteArray) (l : List ByteArray) : (dlN a l).length ≤ l.length := List.length_filter_le _ _
theorem dlN_snoc {a : ByteArray} {l : List ByteArray} {i : Nat} {v : ByteArray} (h : l[i]? = some v) : dlN a (l.take (i + 1)) = if isN a v then dlN a (l.take i) else dlN a (l.take i) ++ [v] := by
 rw [take_get h]
 unfold dlN
 rw [List.filter_append]
 cases e : isN a v with
 | true => simp [e]
 | false => simp [e]
theorem delN_ok (l : List ByteArray) (hl : l.length ≤ 1000000) (a : ByteArray) : OkH Tryz.prog 14 [.own (.e 0) 0 1 0 l.length, .func 15 [.ptr (.e 1) 0 0]] [.row 9 1 none (l.map ssC), .cells 9 [S a]] (.own (.e 0) 0 1 0 (dlN a l).length) [(0, .row 9 1 none ((dlN a l).map ssC ++ List.replicate (l.length - (dlN a l).length) [S ⟨#[]⟩])), (0, .cells 9 [S a])] := by
 refine OkH.of_wp (rs := [.tmp 4]) (n := 42) [] Tryz.func14 rfl rfl rfl (by simp) fo (by kernel_rfl) ?_
 simp (decide := true) (maxSteps := 4000000) -implicitDefEqProofs only [S0, ↓reduceIte, Int.reduceAdd, Int.reduceSub, Int.reduceToNat, Int.reduceNeg, Nat.reduceAdd, Nat.reduceMul, Nat.reduceSub, reduceCtorEq]
 refine callH (ixNO_ok l hl a) [.e 0, .e 1] ?_
 by_cases hk : ixN a 0 l = -1
 ·have e := ixN_none hk
  rw [e, hk]
  simp (decide := true) (maxSteps := 4000000) -implicitDefEqProofs only [S0, ↓reduceIte, Int.reduceAdd, Int.reduceSub, Int.reduceToNat, Int.reduceNeg, Nat.reduceAdd, Nat.reduceMul, Nat.reduceSub, reduceCtorEq, Nat.sub_self, List.replicate_zero, List.append_nil, Option.getD_some]
 ·obtain ⟨k, v, hk1, hv, hh, hp⟩ := ixN_some rfl hk
  rw [Nat.zero_add] at hk1
  have hkl : k < l.length := by
   obtain ⟨h', _⟩ := List.getElem?_eq_some_iff.1 hv
   exact h'
  have hw := wr_add1 (n := l.length) (i := k) (by omega) (by omega)
  rw [hk1] at hk ⊢
  simp (decide := true) (maxSteps := 4000000) -implicitDefEqProofs only [S0, ↓reduceIte, Int.reduceAdd, Int.reduceSub, Int.reduceToNat, Int.reduceNeg, Nat.reduceAdd, Nat.reduceMul, Nat.reduceSub, reduceCtorEq, hk, hw]
  refine ALoop.st [0, 1, 5, 6] (fun (j : Nat) => [.own (.e 0) 0 1 0 l.length, .func 15 [.ptr (.e 1) 0 0], I (dlN a (l.take j)).length, I j]) (fun j => [(.e 0, 0, .row 9 1 none ((dlN a (l.take j) ++ l.drop (dlN a (l.take j)).length).map ssC)), (.e 1, 0, .cells 9 [S a])]) (fun j => k < j ∧ j ≤ l.length) (fun j => l.length - j) [] (k + 1)
   (by rw [dlN_snoc hv, hh, if_pos rfl, hp]; simp (decide := true) (maxSteps := 4000000) -implicitDefEqProofs only [S0, ↓reduceIte, Int.reduceAdd, Int.reduceSub, Int.reduceToNat, Int.reduceNeg, Nat.reduceAdd, Nat.reduceMul, Nat.reduceSub, reduceCtorEq, List.length_take, Nat.min_eq_left (Nat.le_of_lt hkl)])
   (by rw [dlN_snoc hv, hh, if_pos rfl, hp]; simp (decide := true) (maxSteps := 4000000) -implicitDefEqProofs only [S0, ↓reduceIte, Int.reduceAdd, Int.reduceSub, Int.reduceToNat, Int.reduceNeg, Nat.reduceAdd, Nat.reduceMul, Nat.reduceSub, reduceCtorEq, List.length_take, Nat.min_eq_left (Nat.le_of_lt hkl), List.take_append_drop]) ⟨by omega, by omega⟩ ?_
  rintro j ⟨hj, hjl⟩
  have lp := dlN_len a (l.take j)
  rw [List.length_take] at lp
  have lp2 : (dlN a (l.take j)).length < j := by
   have e : l.take j = l.take (k + 1) ++ (l.drop (k + 1)).take (j - (k + 1)) := by
    rw [← List.take_add]; congr 1; omega
   have sn := dlN_snoc (a := a) hv
   rw [hh, if_pos rfl, hp] at sn
   have sp : dlN a (l.take j) = l.take k ++ dlN a ((l.drop (k + 1)).take (j - (k + 1))) := by
    rw [e, ← sn]; exact List.filter_append ..
   have := dlN_len a ((l.drop (k + 1)).take (j - (k + 1)))
   rw [List.length_take] at this
   rw [sp, List.length_append, List.length_take]
   omega
  by_cases h : (j : Int) < l.length
  ·obtain ⟨w, hw2⟩ := lt_get (l := l) (i := j) (by omega)
   have hwj := wr_add1 h (by omega)
   have sn := dlN_snoc (a := a) hw2
   have rd : (dlN a (l.take j) ++ l.drop (dlN a (l.take j)).length)[j]? = some w := by
    rw [List.getElem?_append_right (by omega), List.getElem?_drop, ← hw2]
    congr 1
    omega
   generalize hF : dlN a (l.take j) = F at *
   simp (decide := true) (maxSteps := 4000000) -implicitDefEqProofs only [S0, ↓reduceIte, Int.reduceAdd, Int.reduceSub, Int.reduceToNat, Int.reduceNeg, Nat.reduceAdd, Nat.reduceMul, Nat.reduceSub, reduceCtorEq, h, rd]
   refine callH (none1_ok w a) [.e 1] ?_
   cases e : isN a w with
   | true =>
    rw [e, if_pos rfl] at sn
    simp (decide := true) (maxSteps := 4000000) -implicitDefEqProofs only [S0, ↓reduceIte, Int.reduceAdd, Int.reduceSub, Int.reduceToNat, Int.reduceNeg, Nat.reduceAdd, Nat.reduceMul, Nat.reduceSub, reduceCtorEq]
    exact Nxt.mk [] (j + 1) (by simp (decide := true) (maxSteps := 4000000) -implicitDefEqProofs only [S0, ↓reduceIte, Int.reduceAdd, Int.reduceSub, Int.reduceToNat, Int.reduceNeg, Nat.reduceAdd, Nat.reduceMul, Nat.reduceSub, reduceCtorEq, hwj, sn]) (by simp (decide := true) (maxSteps := 4000000) -implicitDefEqProofs only [S0, ↓reduceIte, Int.reduceAdd, Int.reduceSub, Int.reduceToNat, Int.reduceNeg, Nat.reduceAdd, Nat.reduceMul, Nat.reduceSub, reduceCtorEq, sn]) ⟨by omega, by omega⟩ (by omega)
   | false =>
    rw [e, if_neg (by simp)] at sn
    have hwF := wr_add1 (n := l.length) (i := F.length) (by omega) (by omega)
    have st : (List.map ssC (F ++ l.drop F.length)).set F.length (ssC w) = List.map ssC (F ++ [w] ++ l.drop (F ++ [w]).length) := by
     rw [← List.map_set]
     congr 1
     rw [List.set_append_right _ _ (Nat.le_refl _), Nat.sub_self, List.length_append, List.length_singleton, List.append_assoc]
     congr 1
     rw [List.drop_eq_getElem_cons (show F.length < l.length by omega)]
     rfl
    obtain ⟨u, hu⟩ := lt_get (l := l) (i := F.length) (by omega)
    have ru : (F ++ l.drop F.length)[F.length]? = some u := by
     rw [List.getElem?_append_right (Nat.le_refl _), List.getElem?_drop, ← hu]
     congr 1
     omega
    simp (decide := true) (maxSteps := 4000000) -implicitDefEqProofs only [S0, ↓reduceIte, Int.reduceAdd, Int.reduceSub, Int.reduceToNat, Int.reduceNeg, Nat.reduceAdd, Nat.reduceMul, Nat.reduceSub, reduceCtorEq, hwF, ru, hwj]
    refine ⟨by omega, ?_⟩
    exact Nxt.mk [] (j + 1) (by simp (decide := true) (maxSteps := 4000000) -implicitDefEqProofs only [S0, ↓reduceIte, Int.reduceAdd, Int.reduceSub, Int.reduceToNat, Int.reduceNeg, Nat.reduceAdd, Nat.reduceMul, Nat.reduceSub, reduceCtorEq, sn, List.length_append, List.length_singleton]) (by rw [sn, ← st]; simp (decide := true) (maxSteps := 4000000) -implicitDefEqProofs only [S0, ↓reduceIte, Int.reduceAdd, Int.reduceSub, Int.reduceToNat, Int.reduceNeg, Nat.reduceAdd, Nat.reduceMul, Nat.reduceSub, reduceCtorEq]) ⟨by omega, by omega⟩ (by omega)
  ·obtain rfl : j = l.length := by omega
   have ta := List.take_of_length_le (Nat.le_refl l.length)
   rw [ta] at lp lp2 ⊢
   generalize hF : dlN a l = F at *
   have e1 : List.take F.length (List.map ssC (F ++ List.drop F.length l)) = List.map ssC F := by
    rw [← List.map_take, List.take_left]
   have e2 : List.drop (F.length + (l.length - F.length)) (List.map ssC (F ++ List.drop F.length l)) = [] := by
    rw [List.drop_eq_nil_of_le]; simp
   simp (decide := true) (maxSteps := 4000000) -implicitDefEqProofs only [S0, ↓reduceIte, Int.reduceAdd, Int.reduceSub, Int.reduceToNat, Int.reduceNeg, Nat.reduceAdd, Nat.reduceMul, Nat.reduceSub, reduceCtorEq, h, Option.getD_some, e1, e2, List.append_nil]
   exact ⟨by omega, .inl (by omega), by simp, .inl (by omega), rfl⟩
end Go.Proofs.YtpdenloeacaadaaGreatDoor.E
