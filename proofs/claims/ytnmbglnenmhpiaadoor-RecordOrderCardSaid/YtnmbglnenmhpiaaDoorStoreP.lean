/- Plain law: stores. No conditions. -/
import Derived.Test.YtnmbglnenmhpiaaDoorRefB
namespace Go.Proofs.YtnmbglnenmhpiaaDoor.E
open Go
set_option linter.unusedSimpArgs false
set_option linter.unusedVariables false
set_option linter.unusedSectionVars false
set_option maxRecDepth 20000
theorem chkGo_app (p l : List Vn) (v : Vn) : chkGo p (l ++ [v]) = if chkGo p l = 0 then stepE (p ++ l) v else chkGo p l := by
  induction l generalizing p with
  | nil =>
    simp only [List.nil_append, chkGo, if_true, List.append_nil]
    split
    · rename_i h; exact h.symm
    · rfl
  | cons x l ih =>
    simp only [List.cons_append, chkGo]
    split
    · rw [ih]; simp [List.append_assoc]
    · rename_i h; first | rfl | rw [if_neg h]
theorem chkSt_add {l : List Vn} (h : chkSt l = 0) (hl : l.length < 5120) (v : Vn) : chkSt (l ++ [v]) = stepE l v := by
  have h0 : chkGo [] l = 0 := by
    unfold chkSt at h
    rwa [if_neg (by omega)] at h
  rw [chkSt, if_neg (by simp; omega), chkGo_app, if_pos h0, List.nil_append]
theorem stepE_put {l : List Vn} {r : Rc} (h : chkRec r = 0) (hc : cnt l r.cats < 20) : stepE l ⟨r, false⟩ = 0 := by
  rw [stepE, if_pos h, if_neg (show ¬ 20 < cnt l r.cats + 1 by omega), if_neg (by simp)]
theorem chkRec_iff {r : Rc} : chkRec r = 0 ↔ idOk r.id = true ∧ (0 ≤ r.cats ∧ r.cats < 256) ∧ r.fields.length ≤ 6 ∧ r.refs.length ≤ 4 ∧ fOk none r.fields = true ∧ rOk none r.refs = true := by
  unfold chkRec
  by_cases h1 : idOk r.id = true
  · rw [if_pos h1]
    by_cases h2 : 0 ≤ r.cats ∧ r.cats < 256
    · rw [if_pos h2]
      by_cases h3 : 6 < r.fields.length ∨ 4 < r.refs.length
      · rw [if_pos h3]; constructor
        · intro h; contradiction
        · intro h; omega
      · rw [if_neg h3]
        by_cases h4 : (fOk none r.fields && rOk none r.refs) = true
        · rw [if_pos h4]
          rw [Bool.and_eq_true] at h4
          exact ⟨fun _ => ⟨h1, h2, by omega, by omega, h4⟩, fun _ => rfl⟩
        · rw [if_neg h4]
          rw [Bool.and_eq_true] at h4
          constructor
          · intro h; contradiction
          · intro h; exact absurd h.2.2.2.2 h4
    · rw [if_neg h2]; constructor
      · intro h; contradiction
      · intro h; exact absurd h.2.1 h2
  · rw [if_neg h1]; constructor
    · intro h; contradiction
    · intro h; exact absurd h.1 h1
theorem chkRec_bare {id : ByteArray} {c : Int} (h : idOk id = true) (hc : 0 ≤ c ∧ c < 256) : chkRec ⟨id, c, [], []⟩ = 0 := chkRec_iff.2 ⟨h, hc, by simp, by simp, rfl, rfl⟩
theorem stepE_cut {l : List Vn} {id : ByteArray} {c : Int} (h : idOk id = true) (hc : 0 ≤ c ∧ c < 256) (hl : lives l id c = true) (hn : cnt l c < 20) : stepE l ⟨⟨id, c, [], []⟩, true⟩ = 0 := by
  rw [stepE, if_pos (chkRec_bare h hc), if_neg (show ¬ 20 < cnt l c + 1 by omega), if_neg (by simp [hl])]
theorem grown_rec {na nb nx nr : Nat} (ha : na < 3) (hb : nb < 8) (hx : nx < 2) (hr : nr < 3) : chkRec ⟨nmS na, nb, [⟨⟨#[107]⟩, xyS nx⟩], []⟩ = 0 ∧ chkRec ⟨nmS na, nb, [⟨⟨#[107]⟩, xyS nx⟩], [nmS nr]⟩ = 0 := by
  have h1 : ∀ n : Fin 3, idOk (nmS n.1) = true := by decide +kernel
  have h2 : ∀ n : Fin 2, fOk none [⟨⟨#[107]⟩, xyS n.1⟩] = true := by decide +kernel
  have h3 : ∀ n : Fin 3, rOk none [nmS n.1] = true := by decide +kernel
  have ha' := h1 ⟨na, ha⟩
  have hx' := h2 ⟨nx, hx⟩
  have hr' := h3 ⟨nr, hr⟩
  exact ⟨chkRec_iff.2 ⟨ha', by simp only; omega, by simp, by simp, hx', rfl⟩, chkRec_iff.2 ⟨ha', by simp only; omega, by simp, by simp, hx', hr'⟩⟩
theorem cutR_zero {l : List Vn} {id : ByteArray} {c : Int} (h : cutR l id c = 0) : idOk id = true ∧ (0 ≤ c ∧ c < 256) ∧ lives l id c = true ∧ cnt l c < 20 := by
  unfold cutR at h
  repeat' split at h
  all_goals first | contradiction | (refine ⟨?_, ?_, ?_, ?_⟩ <;> first | assumption | omega)
theorem grow1_ok {l : List Vn} {c : List Int} (h : chkSt l = 0) (hl : l.length < 15) : chkSt (grow1 l c) = 0 := by
  by_cases hc : c.length < 3
  · rw [grow1_short hc]; exact h
  · obtain ⟨a, b, d, c, rfl⟩ := long_of hc
    have ha := (wN_eq a (show 0 < 3 by omega)).2
    have hb := (wN_eq b (show 0 < 8 by omega)).2
    have hb3 := (wN_eq b (show 0 < 3 by omega)).2
    have hd2 := (wN_eq d (show 0 < 2 by omega)).2
    obtain ⟨r1, r2⟩ := grown_rec ha hb hd2 hb3
    have hcnt : ∀ k, cnt l k < 20 := fun k => by have := cnt_le l k; omega
    simp only [grow1]
    split
    · split
      · rename_i h0
        obtain ⟨g1, g2, g3, g4⟩ := cutR_zero h0
        rw [chkSt_add h (by omega)]
        exact stepE_cut g1 g2 g3 g4
      · exact h
    · rw [chkSt_add h (by omega)]
      split
      · exact stepE_put r2 (hcnt _)
      · exact stepE_put r1 (hcnt _)
theorem grown_fold (m : List (List Int)) (hm : m.length ≤ 15) : chkSt (m.foldl grow1 []) = 0 ∧ (m.foldl grow1 []).length ≤ m.length := by
  have key : ∀ (m : List (List Int)) (l : List Vn), chkSt l = 0 → l.length + m.length ≤ 15 → chkSt (m.foldl grow1 l) = 0 ∧ (m.foldl grow1 l).length ≤ l.length + m.length := by
    intro m
    induction m with
    | nil => intro l h _; exact ⟨h, by simp⟩
    | cons c m ih =>
      intro l h hl
      simp only [List.length_cons] at hl
      have g1 := grow1_len l c
      obtain ⟨g2, g3⟩ := ih (grow1 l c) (grow1_ok h (by omega)) (by omega)
      exact ⟨g2, by simp only [List.foldl_cons, List.length_cons]; omega⟩
  have := key m [] (by decide) (by simpa using hm)
  exact ⟨this.1, by simpa using this.2⟩
/-- What is grown is a store, of no more than fifteen versions. -/
theorem grown_st (l : List (List Int)) : chkSt (grownL l) = 0 ∧ (grownL l).length ≤ 15 := by
  have h := grown_fold (l.take 15) (by rw [List.length_take]; omega)
  exact ⟨h.1, by have := h.2; rw [List.length_take] at this; unfold grownL; omega⟩
theorem getRev_cons (id : ByteArray) (v : Vn) (l : List Vn) (g : Int → Bool) : getRev id (v :: l) g = if v.r.id = id then (if v.gone = false ∧ g v.r.cats = false then some v.r else getRev id l (fun c => decide (v.r.cats = c) || g c)) else getRev id l g := rfl
theorem getN_add (l : List Vn) (v : Vn) (id : ByteArray) : getN (l ++ [v]) id = if v.r.id = id then (if v.gone = false then some v.r else getRev id l.reverse (fun c => decide (v.r.cats = c))) else getN l id := by
  unfold getN
  rw [List.reverse_append]
  simp only [List.reverse_cons, List.reverse_nil, List.nil_append, List.cons_append, getRev_cons, and_true, Bool.or_false]
theorem getN_put (l : List Vn) (r : Rc) : getN (l ++ [⟨r, false⟩]) r.id = some r := by
  rw [getN_add, if_pos rfl, if_pos rfl]
theorem putE_zero {l : List Vn} {r : Rc} (h : chkSt l = 0) (hr : chkRec r = 0) (hc : cnt l r.cats < 20) : putE l r = 0 := by
  rw [putE, if_pos h, if_pos hr, if_neg (by omega)]
theorem putE_inv {l : List Vn} {r : Rc} (h : putE l r = 0) : chkSt l = 0 ∧ chkRec r = 0 := by
  unfold putE at h
  repeat' split at h
  all_goals first | contradiction | (refine ⟨?_, ?_⟩ <;> assumption)
theorem cutE_zero {l : List Vn} {id : ByteArray} {c : Int} (h : chkSt l = 0) (hi : idOk id = true) (hc : 0 ≤ c ∧ c < 256) (hl : lives l id c = true) (hn : cnt l c < 20) : cutE l id c = 0 := by
  rw [cutE, if_pos h, if_pos hi, if_pos hc, if_pos hl, if_neg (by omega)]
theorem cutE_none {l : List Vn} {id : ByteArray} {c : Int} (h : chkSt l = 0) (hi : idOk id = true) (hc : 0 ≤ c ∧ c < 256) (hl : lives l id c = false) : cutE l id c = 4 := by
  rw [cutE, if_pos h, if_pos hi, if_pos hc, if_neg (by rw [hl]; simp)]
theorem getRev_some {id : ByteArray} {l : List Vn} {g : Int → Bool} {r : Rc} (h : getRev id l g = some r) : g r.cats = false ∧ r.id = id ∧ ∃ v ∈ l, v.r = r := by
  induction l generalizing g with
  | nil => cases h
  | cons v l ih =>
    rw [getRev_cons] at h
    split at h
    · rename_i h1
      split at h
      · rename_i h2
        cases h
        exact ⟨h2.2, h1, v, by simp, rfl⟩
      · obtain ⟨g1, g2, w, g3, g4⟩ := ih h
        simp only [Bool.or_eq_false_iff] at g1
        exact ⟨g1.2, g2, w, List.mem_cons_of_mem _ g3, g4⟩
    · obtain ⟨g1, g2, w, g3, g4⟩ := ih h
      exact ⟨g1, g2, w, List.mem_cons_of_mem _ g3, g4⟩
theorem getN_some {l : List Vn} {id : ByteArray} {r : Rc} (h : getN l id = some r) : r.id = id ∧ ∃ v ∈ l, v.r = r := by
  obtain ⟨_, h1, v, h2, h3⟩ := getRev_some h
  exact ⟨h1, v, List.mem_reverse.1 h2, h3⟩
/-- What hides other kinds hides not this one. -/
theorem getRev_more {id : ByteArray} {l : List Vn} {g : Int → Bool} {r : Rc} {c : Int} (h : getRev id l g = some r) (hc : r.cats ≠ c) : getRev id l (fun k => decide (c = k) || g k) = some r := by
  induction l generalizing g with
  | nil => cases h
  | cons v l ih =>
    rw [getRev_cons] at h ⊢
    split at h
    · rename_i h1
      rw [if_pos h1]
      split at h
      · rename_i h2
        cases h
        rw [if_pos ⟨h2.1, by simp only [Bool.or_eq_false_iff, decide_eq_false_iff_not]; exact ⟨fun e => hc e.symm, h2.2⟩⟩]
      · rename_i h2
        rw [if_neg (by
          intro h3
          simp only [Bool.or_eq_false_iff] at h3
          exact h2 ⟨h3.1, h3.2.2⟩)]
        have := ih h
        rw [← this]
        congr 1
        funext k
        simp only [Bool.or_left_comm]
    · rename_i h1
      rw [if_neg h1]
      exact ih h
theorem getD_lens {l : List Vn} (h : chkSt l = 0) (id : ByteArray) : ((getN l id).getD noRec).fields.length ≤ 6 ∧ ((getN l id).getD noRec).refs.length ≤ 4 := by
  cases e : getN l id with
  | none => exact ⟨by simp, by simp⟩
  | some r =>
    obtain ⟨_, v, hv, rfl⟩ := getN_some e
    exact chkRec_len ((chkSt_len h).2 v hv)
theorem getE_eq {l : List Vn} (h : chkSt l = 0) (id : ByteArray) : getE l id = if (getN l id).isSome then 0 else 4 := by rw [getE, if_pos h]
end Go.Proofs.YtnmbglnenmhpiaaDoor.E
