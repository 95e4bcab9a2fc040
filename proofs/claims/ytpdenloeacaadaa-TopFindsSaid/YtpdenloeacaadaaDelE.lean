/- Walks: slices.DeleteFunc of an index's entries without names, in place. No conditions. -/
import Derived.Test.YtpdenloeacaadaaIdxR
namespace Go.Proofs.Ytpdenloeacaadaa.E
open Go
set_option linter.unusedSimpArgs false
set_option linter.unusedVariables false
set_option linter.unusedSectionVars false
set_option maxRecDepth 20000
set_option maxHeartbeats 1000000
def noNm (r : RE) : Bool := decide (r.n = 0)
def keptE (l : List RE) : List RE := l.filter fun r => !decide (r.n = 0)
abbrev entZ : List AV := [S ⟨#[]⟩, S ⟨#[]⟩, .val (.slice none 0 0)]
def idxN : Nat → List RE → Int
 | _, [] => -1
 | n, v :: l => if noNm v then (n : Int) else idxN (n + 1) l
theorem keptE_len (l : List RE) : (keptE l).length ≤ l.length := List.length_filter_le _ _
theorem keptE_snoc {l : List RE} {i : Nat} {v : RE} (h : l[i]? = some v) : keptE (l.take (i + 1)) = if noNm v then keptE (l.take i) else keptE (l.take i) ++ [v] := by
 rw [take_get h]
 unfold keptE noNm
 rw [List.filter_append]
 cases e : decide (v.n = 0) with
 | true => simp [e]
 | false => simp [e]
theorem idxN_none {l : List RE} : ∀ {n : Nat}, idxN n l = -1 → keptE l = l := by
 induction l with
 | nil => intro n _; rfl
 | cons v l ih =>
  intro n h
  rw [idxN] at h
  cases e : noNm v with
  | true => rw [e, if_pos rfl] at h; omega
  | false =>
   rw [e, if_neg (by simp)] at h
   have := ih h
   unfold keptE noNm at *
   rw [List.filter_cons, e, this]
   rfl
theorem idxN_some {l : List RE} : ∀ {n : Nat} {k : Int}, idxN n l = k → k ≠ -1 → ∃ i v, k = ((n + i : Nat) : Int) ∧ l[i]? = some v ∧ noNm v = true ∧ keptE (l.take i) = l.take i := by
 induction l with
 | nil => intro n k h hk; exact absurd h.symm hk
 | cons v l ih =>
  intro n k h hk
  rw [idxN] at h
  cases e : noNm v with
  | true =>
   rw [e, if_pos rfl] at h
   exact ⟨0, v, h.symm, rfl, e, rfl⟩
  | false =>
   rw [e, if_neg (by simp)] at h
   obtain ⟨i, w, h1, h2, h3, h4⟩ := ih h hk
   refine ⟨i + 1, w, by omega, h2, h3, ?_⟩
   unfold keptE noNm at *
   rw [List.take_succ_cons, List.filter_cons, e, h4]
   rfl
end Go.Proofs.Ytpdenloeacaadaa.E
