/- Walks: package store: what may be. No conditions. -/
import Derived.Test.YtonolfpnidaflaaDoorRecB
namespace Go.Proofs.YtonolfpnidaflaaDoor.E
open Go
set_option linter.unusedSimpArgs false
set_option linter.unusedVariables false
set_option linter.unusedSectionVars false
set_option maxRecDepth 20000
structure Vn where
  r : Rc
  gone : Bool
  deriving DecidableEq
abbrev verC (v : Vn) : List AV := [S v.r.id, I v.r.cats, fds v.r.fields, strs v.r.refs, B v.gone]
abbrev vers (l : List Vn) : AV := .list 5 (l.map verC)
/-- Lives a record behind a version? -/
def lStep (id : ByteArray) (c : Int) (b : Bool) (v : Vn) : Bool := if v.r.id = id ∧ v.r.cats = c then !v.gone else b
def lives (l : List Vn) (id : ByteArray) (c : Int) : Bool := l.foldl (lStep id c) false
theorem lives_nil (id : ByteArray) (c : Int) : lives [] id c = false := rfl
theorem lives_add (l : List Vn) (v : Vn) (id : ByteArray) (c : Int) : lives (l ++ [v]) id c = lStep id c (lives l id c) v := by simp [lives]
/-- How many have just these kinds. -/
def cnt (l : List Vn) (c : Int) : Nat := (l.filter fun v => v.r.cats = c).length
theorem cnt_nil (c : Int) : cnt [] c = 0 := rfl
theorem cnt_add (l : List Vn) (v : Vn) (c : Int) : cnt (l ++ [v]) c = cnt l c + if v.r.cats = c then 1 else 0 := by
  unfold cnt
  rw [List.filter_append, List.length_append]
  by_cases h : v.r.cats = c
  · rw [if_pos h, List.filter_cons_of_pos (by simp [h]), List.filter_nil]; rfl
  · rw [if_neg h, List.filter_cons_of_neg (by simp [h]), List.filter_nil]; rfl
theorem cnt_le (l : List Vn) (c : Int) : cnt l c ≤ l.length := List.length_filter_le _ _
/-- A version behind others: may it be? -/
def stepE (p : List Vn) (v : Vn) : Int :=
  if chkRec v.r = 0 then (if 20 < cnt p v.r.cats + 1 then 2 else if v.gone = true ∧ (0 < v.r.fields.length ∨ 0 < v.r.refs.length ∨ lives p v.r.id v.r.cats = false) then 3 else 0) else chkRec v.r
def chkGo : List Vn → List Vn → Int
  | _, [] => 0
  | p, v :: l => if stepE p v = 0 then chkGo (p ++ [v]) l else stepE p v
def chkSt (l : List Vn) : Int := if 5120 < l.length then 2 else chkGo [] l
theorem mget_put_i (es : List (Value × Value)) (a b : Int) (v : Value) : mget (mput es (.int .i64 a) v) (.int .i64 b) = if a = b then some v else mget es (.int .i64 b) := by
  induction es with
  | nil => simp [mput, mget, keyEq]
  | cons e es ih =>
    obtain ⟨x, y⟩ := e
    simp only [mput]
    by_cases h : keyEq x (.int .i64 a) = true
    · rw [if_pos h]
      simp only [mget]
      by_cases h2 : a = b
      · subst h2; simp [keyEq]
      · rw [if_neg (by simpa [keyEq] using h2), if_neg h2, if_neg]
        cases x <;> simp_all [keyEq]
    · rw [if_neg h]
      simp only [mget, ih]
      by_cases h2 : a = b
      · subst h2; rw [if_neg h]; simp
      · simp only [h2, if_false]
theorem ba_beq (a b : ByteArray) : (a == b) = decide (a = b) := by rw [beq_toListBytes, toList_beq]
theorem mget_put_s (es : List (Value × Value)) (a b : ByteArray) (v : Value) : mget (mput es (.string a) v) (.string b) = if a = b then some v else mget es (.string b) := by
  induction es with
  | nil => simp [mput, mget, keyEq, ba_beq]
  | cons e es ih =>
    obtain ⟨x, y⟩ := e
    simp only [mput]
    by_cases h : keyEq x (.string a) = true
    · rw [if_pos h]
      simp only [mget]
      by_cases h2 : a = b
      · subst h2; simp [keyEq, ba_beq]
      · rw [if_neg (by simpa [keyEq, ba_beq] using h2), if_neg h2, if_neg]
        cases x <;> simp_all [keyEq, ba_beq]
    · rw [if_neg h]
      simp only [mget, ih]
      by_cases h2 : a = b
      · subst h2; rw [if_neg h]; simp
      · simp only [h2, if_false]
end Go.Proofs.YtonolfpnidaflaaDoor.E
