/- Plain law: fields in whatever order. No conditions. -/
import Derived.Test.YtnmbglnenmhpiaaDoorSetP
namespace Go.Proofs.YtnmbglnenmhpiaaDoor.E
open Go
set_option linter.unusedSimpArgs false
set_option linter.unusedVariables false
set_option linter.unusedSectionVars false
set_option maxRecDepth 20000
def hasK (l : List Fd) (f : Fd) : Bool := l.any fun g => decide (g.key = f.key)
def takes (l : List Fd) (f : Fd) : Bool := idOk f.key && valOk f.val && decide (l.length < 6) && !hasK l f
def someS (l : List Fd) (f : Fd) : List Fd := if takes l f then l ++ [f] else l
def someL (l : List Fd) : List Fd := l.foldl someS []
theorem someL_snoc {l : List Fd} {i : Nat} {f : Fd} (h : l[i]? = some f) : someL (l.take (i + 1)) = someS (someL (l.take i)) f := by
  unfold someL
  rw [take_get h, List.foldl_append]
  rfl
/-- Few fields of distinct keys. -/
def Few (l : List Fd) : Prop := l.length ≤ 6 ∧ l.Pairwise (fun f g => f.key ≠ g.key) ∧ ∀ f ∈ l, idOk f.key = true ∧ valOk f.val = true
theorem hasK_not {l : List Fd} {f : Fd} (h : hasK l f = false) : ∀ g ∈ l, g.key ≠ f.key := by
  intro g hg e
  have : hasK l f = true := List.any_eq_true.2 ⟨g, hg, decide_eq_true e⟩
  rw [this] at h
  cases h
theorem few_some (l : List Fd) : Few (someL l) := by
  unfold someL
  suffices ∀ (m p : List Fd), Few p → Few (m.foldl someS p) from this l [] ⟨by simp, by simp, by simp⟩
  intro m
  induction m with
  | nil => intro p h; exact h
  | cons f m ih =>
    intro p h
    refine ih _ ?_
    unfold someS
    by_cases e : takes p f = true
    · rw [if_pos e]
      unfold takes at e
      simp only [Bool.and_eq_true, decide_eq_true_eq, Bool.not_eq_true'] at e
      obtain ⟨⟨⟨e1, e2⟩, e3⟩, e4⟩ := e
      refine ⟨by rw [List.length_append]; simp; omega, ?_, fun g hg => ?_⟩
      · rw [List.pairwise_append]
        refine ⟨h.2.1, by simp, fun g hg f' hf' => ?_⟩
        rw [List.mem_singleton] at hf'
        subst hf'
        exact hasK_not e4 g hg
      · rcases List.mem_append.1 hg with hg | hg
        · exact h.2.2 g hg
        · rw [List.mem_singleton] at hg
          subst hg
          exact ⟨e1, e2⟩
    · rw [if_neg e]; exact h
/-- What comes of setting them. -/
def madeF (l : List Fd) : List Fd := l.foldl setL []
def madeR (l : List Fd) : Rc := ⟨⟨#[97]⟩, 0, madeF l, []⟩
theorem madeF_snoc {l : List Fd} {i : Nat} {f : Fd} (h : l[i]? = some f) : madeF (l.take (i + 1)) = setL (madeF (l.take i)) f := by
  unfold madeF
  rw [take_get h, List.foldl_append]
  rfl
theorem made_few {l : List Fd} (h : Few l) : ∀ i, i ≤ l.length → chkRec (madeR (l.take i)) = 0 ∧ (madeF (l.take i)).length = i ∧ ∀ x, x ∈ madeF (l.take i) ↔ x ∈ l.take i := by
  intro i
  induction i with
  | zero => intro _; exact ⟨by rw [List.take_zero]; decide +kernel, rfl, by simp [madeF]⟩
  | succ i ih =>
    intro hi
    obtain ⟨h1, h2, h3⟩ := ih (by omega)
    obtain ⟨f, hf⟩ := lt_get (l := l) (i := i) (by omega)
    obtain ⟨hk1, hk2⟩ := h.2.2 f (List.mem_of_getElem? hf)
    have hno : (((madeR (l.take i)).fields.any fun g => decide (g.key = f.key))) = false := by
      rw [Bool.eq_false_iff]
      intro ha
      obtain ⟨g, hg, e⟩ := List.any_eq_true.1 ha
      have e := of_decide_eq_true e
      have hg := (h3 g).1 hg
      obtain ⟨j, hj⟩ := List.getElem?_of_mem hg
      rw [List.getElem?_take] at hj
      split at hj
      · obtain ⟨a1, a2⟩ := List.getElem?_eq_some_iff.1 hj
        obtain ⟨b1, b2⟩ := List.getElem?_eq_some_iff.1 hf
        have := List.pairwise_iff_getElem.1 h.2.1 j i a1 b1 (by assumption)
        rw [a2, b2] at this
        exact this e
      · cases hj
    have h6 := h.1
    have hE : setE (madeR (l.take i)) f = 0 := setE_of h1 hk1 hk2 (.inr (by show (madeF (l.take i)).length ≠ 6; omega))
    have hR : madeR (l.take (i + 1)) = setR (madeR (l.take i)) f := by
      unfold madeR
      rw [madeF_snoc hf]
    refine ⟨by rw [hR]; exact set_rec hE, ?_, fun x => ?_⟩
    · rw [madeF_snoc hf]
      have := len_set_none (rec_up h1).1 hno
      rw [show (madeR (l.take i)).fields = madeF (l.take i) from rfl, h2] at this
      exact this
    · rw [madeF_snoc hf, mem_setL, take_get hf, List.mem_append, List.mem_singleton, h3]
      constructor
      · rintro (e | ⟨e, _⟩)
        · exact .inr e
        · exact .inl e
      · rintro (e | e)
        · by_cases ek : x.key = f.key
          · exfalso
            have := List.any_eq_false.1 hno x ((h3 x).2 e)
            exact this (decide_eq_true ek)
          · exact .inr ⟨e, ek⟩
        · exact .inl e
theorem made_same {l m : List Fd} (h : Few l) (k : Few m) (e : ∀ x, x ∈ l ↔ x ∈ m) : madeR l = madeR m := by
  obtain ⟨a1, _, a3⟩ := made_few h l.length (Nat.le_refl _)
  obtain ⟨b1, _, b3⟩ := made_few k m.length (Nat.le_refl _)
  rw [List.take_length] at a1 a3 b1 b3
  have : madeF l = madeF m := keys_ext (rec_up a1).1 (rec_up b1).1 fun x => by rw [a3, b3]; exact e x
  unfold madeR
  rw [this]
theorem few_turn {l : List Fd} (h : Few l) (n : Nat) : Few (l.drop n ++ l.take n) ∧ ∀ x, x ∈ l ↔ x ∈ l.drop n ++ l.take n := by
  have hp : (l.drop n ++ l.take n).Perm l := by
    have := List.perm_append_comm (l₁ := l.drop n) (l₂ := l.take n)
    rwa [List.take_append_drop] at this
  refine ⟨⟨by rw [hp.length_eq]; exact h.1, (hp.pairwise_iff fun e => Ne.symm e).2 h.2.1, fun f hf => h.2.2 f (hp.mem_iff.1 hf)⟩, fun x => hp.mem_iff.symm⟩
end Go.Proofs.YtnmbglnenmhpiaaDoor.E
