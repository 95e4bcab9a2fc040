/- Plain law: who is found with others. No conditions. -/
import Derived.Test.YtbnbpmjfpfdenaaDoorSlicesC
namespace Go.Proofs.YtbnbpmjfpfdenaaDoor.E
open Go
set_option linter.unusedSimpArgs false
set_option linter.unusedVariables false
set_option linter.unusedSectionVars false
set_option maxRecDepth 20000
theorem withF_mem {l : List Vn} {ids : List ByteArray} {x : ByteArray} : x ∈ withF l ids ↔ ∃ id ∈ ids, hasB (idsL l) id = true ∧ (x = id ∨ x ∈ refsOf l id) ∧ hasB (idsL l) x = true := by
  unfold withF with1
  rw [List.mem_flatMap]
  constructor
  · rintro ⟨id, h1, h2⟩
    split at h2
    · rename_i h3
      rw [List.mem_filter, List.mem_cons] at h2
      exact ⟨id, h1, h3, h2⟩
    · cases h2
  · rintro ⟨id, h1, h3, h2⟩
    refine ⟨id, h1, ?_⟩
    rw [if_pos h3, List.mem_filter, List.mem_cons]
    exact h2
theorem withL_mem {l : List Vn} {ids : List ByteArray} {x : ByteArray} : x ∈ withL l ids ↔ ∃ id ∈ ids, hasB (idsL l) id = true ∧ (x = id ∨ x ∈ refsOf l id) ∧ hasB (idsL l) x = true := by
  unfold withL
  rw [compL_mem, (sortL_perm _).mem_iff, withF_mem]
theorem withF_len {l : List Vn} (h : chkSt l = 0) (ids : List ByteArray) : (withF l ids).length ≤ 5 * ids.length := by
  unfold withF
  induction ids with
  | nil => simp
  | cons x ids ih =>
    rw [List.flatMap_cons, List.length_append, List.length_cons]
    have : (with1 l x).length ≤ 5 := by
      unfold with1
      split
      · have h1 := List.length_filter_le (hasB (idsL l)) (x :: refsOf l x)
        have h2 : (refsOf l x).length ≤ 4 := (getD_lens h x).2
        simp only [List.length_cons] at *
        omega
      · simp
    omega
theorem withL_len {l : List Vn} (h : chkSt l = 0) (ids : List ByteArray) : (withL l ids).length ≤ 5 * ids.length := by
  unfold withL
  refine Nat.le_trans (compP_len _ _) ?_
  rw [sortL_len]
  exact withF_len h ids
end Go.Proofs.YtbnbpmjfpfdenaaDoor.E
