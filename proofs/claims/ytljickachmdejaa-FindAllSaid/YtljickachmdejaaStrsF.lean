/- Walks: slices.Index, slices.Contains, slices.IsSorted of strings. No conditions. -/
import Derived.Test.YtljickachmdejaaIds
import Derived.Test.YtljickachmdejaaPartB
namespace Go.Proofs.Ytljickachmdejaa.E
open Go
set_option linter.unusedSimpArgs false
set_option linter.unusedVariables false
set_option linter.unusedSectionVars false
set_option maxRecDepth 20000
set_option maxHeartbeats 1000000
def idxB (x : ByteArray) : Nat → List ByteArray → Int
  | _, [] => -1
  | i, y :: l => if decide (x = y) then i else idxB x (i + 1) l
theorem idxB_iff (x : ByteArray) (i : Nat) (l : List ByteArray) : 0 ≤ idxB x i l ↔ hasB l x = true := by
  induction l generalizing i with
  | nil => simp [idxB, hasB]
  | cons y l ih =>
    rw [idxB]
    by_cases h : x = y
    · rw [decide_eq_true h, if_pos rfl]
      simp [hasB, h]
    · rw [decide_eq_false h, if_neg (by simp), ih]
      have h' : ¬ y = x := fun e => h e.symm
      simp [hasB, h']
/-! Names. -/
theorem sortL_perm (l : List ByteArray) : (sortL l).Perm l := by
  unfold sortL
  have h := (List.mergeSort_perm (l.map fun s => s.data.toList) (fun x y => decide (x ≤ y))).map fun b : List UInt8 => (⟨b.toArray⟩ : ByteArray)
  rw [List.map_map] at h
  have e : l.map ((fun b : List UInt8 => (⟨b.toArray⟩ : ByteArray)) ∘ fun s => s.data.toList) = l := by
    conv => rhs; rw [← List.map_id l]
    rfl
  rwa [e] at h
theorem dist_mem {l : List Vn} {x : ByteArray} : x ∈ dist l ↔ ∃ v ∈ l, v.r.id = x := by
  induction l using snoc_ind with
  | h0 => simp [dist]
  | h1 l v ih =>
    rw [dist_add]
    by_cases h : hasB (dist l) v.r.id = true
    · rw [if_pos h, ih]
      constructor
      · rintro ⟨w, hw, e⟩; exact ⟨w, by simp [hw], e⟩
      · rintro ⟨w, hw, e⟩
        rcases List.mem_append.1 hw with hw | hw
        · exact ⟨w, hw, e⟩
        · rw [List.mem_singleton.1 hw] at e
          subst e
          exact ih.1 (hasB_iff.1 h)
    · rw [if_neg h, List.mem_append, ih, List.mem_singleton]
      constructor
      · rintro (⟨w, hw, e⟩ | e)
        · exact ⟨w, by simp [hw], e⟩
        · exact ⟨v, by simp, e.symm⟩
      · rintro ⟨w, hw, e⟩
        rcases List.mem_append.1 hw with hw | hw
        · exact .inl ⟨w, hw, e⟩
        · rw [List.mem_singleton.1 hw] at e; exact .inr e.symm
theorem ids_mem {l : List Vn} {x : ByteArray} : x ∈ idsL l ↔ (getN l x).isSome = true := by
  unfold idsL
  rw [(sortL_perm _).mem_iff]
  unfold idsF
  rw [List.mem_filter, dist_mem]
  refine ⟨fun h => h.2, fun h => ⟨?_, h⟩⟩
  obtain ⟨r, hr⟩ := Option.isSome_iff_exists.1 h
  obtain ⟨e, v, hv, e2⟩ := getN_some hr
  exact ⟨v, hv, by rw [e2]; exact e⟩
theorem ids_len (l : List Vn) : (idsL l).length ≤ l.length := by
  unfold idsL
  rw [sortL_len]
  exact Nat.le_trans (List.length_filter_le _ _) (dist_len l)
/-- What a part tells of a name. -/
theorem getRev_part (a : Int) (id : ByteArray) : ∀ (l : List Vn) (g g' : Int → Bool), (∀ c, bnot c a = 0 → g c = g' c) → ((getRev id (partL a l) g').isSome = true → (getRev id l g).isSome = true) ∧ (∀ r, getRev id l g = some r → bnot r.cats a = 0 → getRev id (partL a l) g' = some r) := by
  intro l
  induction l with
  | nil => intro g g' _; exact ⟨fun h => h, fun r h => by cases h⟩
  | cons v l ih =>
    intro g g' hg
    cases e : hid a v with
    | true =>
      have hc : bnot v.r.cats a ≠ 0 := by unfold hid at e; simpa using e
      have e2 : partL a (v :: l) = partL a l := by unfold partL; rw [List.filter_cons, e]; rfl
      rw [e2, getRev_cons]
      have hg2 : ∀ c, bnot c a = 0 → (decide (v.r.cats = c) || g c) = g' c := fun c h => by
        have : ¬ v.r.cats = c := fun e => hc (e ▸ h)
        rw [decide_eq_false this, Bool.false_or]; exact hg c h
      by_cases h1 : v.r.id = id
      · rw [if_pos h1]
        by_cases h2 : v.gone = false ∧ g v.r.cats = false
        · rw [if_pos h2]
          exact ⟨fun _ => rfl, fun r h hr => by cases h; exact absurd hr hc⟩
        · rw [if_neg h2]; exact ih _ _ hg2
      · rw [if_neg h1]; exact ih _ _ hg
    | false =>
      have hc : bnot v.r.cats a = 0 := by unfold hid at e; simpa using e
      have e2 : partL a (v :: l) = v :: partL a l := by unfold partL; rw [List.filter_cons, e]; rfl
      rw [e2, getRev_cons, getRev_cons, ← hg _ hc]
      by_cases h1 : v.r.id = id
      · rw [if_pos h1, if_pos h1]
        by_cases h2 : v.gone = false ∧ g v.r.cats = false
        · rw [if_pos h2, if_pos h2]; exact ⟨fun h => h, fun r h _ => h⟩
        · rw [if_neg h2, if_neg h2]; exact ih _ _ fun c h => by rw [hg c h]
      · rw [if_neg h1, if_neg h1]; exact ih _ _ hg
theorem getN_part {a : Int} {id : ByteArray} {l : List Vn} : ((getN (partL a l) id).isSome = true → (getN l id).isSome = true) ∧ (∀ r, getN l id = some r → bnot r.cats a = 0 → getN (partL a l) id = some r) := by
  have h := getRev_part a id l.reverse (fun _ => false) (fun _ => false) (fun _ _ => rfl)
  have e : partL a l.reverse = (partL a l).reverse := List.filter_reverse ..
  rw [e] at h
  exact h
end Go.Proofs.Ytljickachmdejaa.E
