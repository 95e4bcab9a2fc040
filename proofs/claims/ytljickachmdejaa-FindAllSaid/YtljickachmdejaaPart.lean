/- Walks: the part of a store. No conditions. -/
import Derived.Test.YtljickachmdejaaStoreP
namespace Go.Proofs.Ytljickachmdejaa.E
open Go
set_option linter.unusedSimpArgs false
set_option linter.unusedVariables false
set_option linter.unusedSectionVars false
set_option maxRecDepth 20000
set_option maxHeartbeats 1000000
/-- Who sees only these kinds sees not this version. -/
def hid (a : Int) (v : Vn) : Bool := !decide (bnot v.r.cats a = 0)
def partL (a : Int) (l : List Vn) : List Vn := l.filter fun v => !hid a v
def idxH (a : Int) : Nat → List Vn → Int
  | _, [] => -1
  | i, v :: l => if hid a v then i else idxH a (i + 1) l
abbrev verA (v : Vn) : AV := .agg (verC v)
theorem idxH_none {a : Int} {l : List Vn} : ∀ {n : Nat}, idxH a n l = -1 → partL a l = l := by
  induction l with
  | nil => intro n _; rfl
  | cons v l ih =>
    intro n h
    rw [idxH] at h
    cases e : hid a v with
    | true => rw [e, if_pos rfl] at h; omega
    | false =>
      rw [e, if_neg (by simp)] at h
      have := ih h
      unfold partL at this ⊢
      rw [List.filter_cons, e, this]
      rfl
theorem idxH_some {a : Int} {l : List Vn} : ∀ {n : Nat} {k : Int}, idxH a n l = k → k ≠ -1 → ∃ i v, k = ((n + i : Nat) : Int) ∧ l[i]? = some v ∧ hid a v = true ∧ partL a (l.take i) = l.take i := by
  induction l with
  | nil => intro n k h hk; exact absurd h.symm hk
  | cons v l ih =>
    intro n k h hk
    rw [idxH] at h
    cases e : hid a v with
    | true =>
      rw [e, if_pos rfl] at h
      exact ⟨0, v, h.symm, rfl, e, rfl⟩
    | false =>
      rw [e, if_neg (by simp)] at h
      obtain ⟨i, w, h1, h2, h3, h4⟩ := ih h hk
      refine ⟨i + 1, w, by omega, h2, h3, ?_⟩
      unfold partL at h4 ⊢
      rw [List.take_succ_cons, List.filter_cons, e, h4]
      rfl
theorem partL_len (a : Int) (l : List Vn) : (partL a l).length ≤ l.length := List.length_filter_le _ _
theorem partL_snoc {a : Int} {l : List Vn} {i : Nat} {v : Vn} (h : l[i]? = some v) : partL a (l.take (i + 1)) = if hid a v then partL a (l.take i) else partL a (l.take i) ++ [v] := by
  rw [take_get h]
  unfold partL
  rw [List.filter_append]
  cases e : hid a v with
  | true => simp [e]
  | false => simp [e]
def partE (l : List Vn) (a : Int) : Int := if chkSt l = 0 then (if 0 ≤ a ∧ a < 256 then 0 else 1) else chkSt l
end Go.Proofs.Ytljickachmdejaa.E
