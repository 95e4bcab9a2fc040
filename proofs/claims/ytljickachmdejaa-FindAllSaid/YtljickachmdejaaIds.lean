/- Walks: all names of a store. No conditions. -/
import Derived.Test.YtljickachmdejaaSortS
namespace Go.Proofs.Ytljickachmdejaa.E
open Go
set_option linter.unusedSimpArgs false
set_option linter.unusedVariables false
set_option linter.unusedSectionVars false
set_option maxRecDepth 20000
set_option maxHeartbeats 1000000
def hasB (l : List ByteArray) (x : ByteArray) : Bool := l.any fun y => decide (y = x)
theorem hasB_iff {l : List ByteArray} {x : ByteArray} : hasB l x = true ↔ x ∈ l := by
  unfold hasB
  rw [List.any_eq_true]
  constructor
  · rintro ⟨y, hy, e⟩; rw [← of_decide_eq_true e]; exact hy
  · intro h; exact ⟨x, h, by simp⟩
/-- Each name once, in the order in which they come first. -/
def dist (l : List Vn) : List ByteArray := l.foldl (fun out v => if hasB out v.r.id then out else out ++ [v.r.id]) []
theorem dist_add (l : List Vn) (v : Vn) : dist (l ++ [v]) = if hasB (dist l) v.r.id then dist l else dist l ++ [v.r.id] := by
  unfold dist
  rw [List.foldl_append]
  rfl
def idsF (l m : List Vn) : List ByteArray := (dist m).filter fun id => (getN l id).isSome
def idsL (l : List Vn) : List ByteArray := sortL (idsF l l)
theorem dist_len (l : List Vn) : (dist l).length ≤ l.length := by
  have key : ∀ n, (dist (l.take n)).length ≤ n := by
    intro n
    induction n with
    | zero => simp [dist]
    | succ n ih =>
      by_cases h : n < l.length
      · obtain ⟨v, hv⟩ := lt_get (l := l) (i := n) h
        rw [take_get hv, dist_add]
        split
        · omega
        · simp; omega
      · have e : l.take (n + 1) = l.take n := by rw [List.take_of_length_le (by omega), List.take_of_length_le (by omega)]
        rw [e]; omega
  have := key l.length
  rwa [List.take_of_length_le (Nat.le_refl _)] at this
theorem idsF_nil (l : List Vn) : idsF l [] = [] := rfl
end Go.Proofs.Ytljickachmdejaa.E
