/- Plain law: all of a name. No conditions. -/
import Derived.Test.YtfglieambpfbfaaHist
namespace Go.Proofs.Ytfglieambpfbfaa.E
open Go
set_option linter.unusedSimpArgs false
set_option linter.unusedVariables false
set_option linter.unusedSectionVars false
set_option maxRecDepth 20000
theorem hist_part (id : ByteArray) (a : Int) (l : List Vn) : histL id (partL a l) = partL a (histL id l) := by
  unfold histL partL
  rw [List.filter_filter, List.filter_filter]
  refine List.filter_congr fun v _ => ?_
  rw [Bool.and_comm]
theorem cnt_hist_le (id : ByteArray) (l : List Vn) (c : Int) : cnt (histL id l) c ≤ cnt l c := by
  unfold cnt histL
  rw [List.filter_filter, ← List.countP_eq_length_filter, ← List.countP_eq_length_filter]
  exact List.countP_mono_left fun x _ h => by simp only [Bool.and_eq_true] at h; exact h.1
theorem histL_add (a : ByteArray) (l : List Vn) (v : Vn) : histL a (l ++ [v]) = if hidI a v then histL a l else histL a l ++ [v] := by
  unfold histL
  rw [List.filter_append]
  cases e : hidI a v with
  | true => simp [e]
  | false => simp [e]
theorem lives_hist (l : List Vn) (id : ByteArray) (c : Int) : lives (histL id l) id c = lives l id c := by
  induction l using snoc_ind with
  | h0 => rfl
  | h1 l v ih =>
    rw [histL_add, lives_add]
    cases e : hidI id v with
    | true =>
      rw [if_pos rfl, ih, lStep, if_neg]
      rintro ⟨h, _⟩
      unfold hidI at e
      rw [h] at e
      simp at e
    | false =>
      rw [if_neg (by simp), lives_add, ih]
theorem chkGo_hist (a : ByteArray) : ∀ (m p : List Vn), chkGo p m = 0 → chkGo (histL a p) (histL a m) = 0 := by
  intro m
  induction m with
  | nil => intro p _; rfl
  | cons v m ih =>
    intro p h
    simp only [chkGo] at h
    split at h
    · rename_i h0
      have := ih _ h
      rw [histL_add] at this
      cases e : hidI a v with
      | true =>
        rw [e, if_pos rfl] at this
        have e2 : histL a (v :: m) = histL a m := by unfold histL; rw [List.filter_cons, e]; rfl
        rw [e2]; exact this
      | false =>
        rw [e, if_neg (by simp)] at this
        have e2 : histL a (v :: m) = v :: histL a m := by unfold histL; rw [List.filter_cons, e]; rfl
        have hc : v.r.id = a := by unfold hidI at e; simpa using e
        rw [e2, chkGo]
        have e3 : stepE (histL a p) v = 0 := by
          have hl : lives (histL a p) v.r.id v.r.cats = lives p v.r.id v.r.cats := by rw [hc]; exact lives_hist p a _
          have hn := cnt_hist_le a p v.r.cats
          unfold stepE at h0 ⊢
          rw [hl]
          split at h0
          · rename_i h1
            rw [if_pos h1]
            split at h0
            · cases h0
            · rename_i h2
              rw [if_neg (by omega)]
              exact h0
          · rename_i h1; rw [if_neg h1]; exact h0
        rw [e3, if_pos rfl]
        exact this
    · rename_i h0; exact absurd h h0
theorem chkSt_hist {id : ByteArray} {l : List Vn} (h : chkSt l = 0) : chkSt (histL id l) = 0 := by
  have hl := (chkSt_len h).1
  have := histL_len id l
  unfold chkSt at h ⊢
  rw [if_neg (by omega)] at h ⊢
  exact chkGo_hist id l [] h
end Go.Proofs.Ytfglieambpfbfaa.E
