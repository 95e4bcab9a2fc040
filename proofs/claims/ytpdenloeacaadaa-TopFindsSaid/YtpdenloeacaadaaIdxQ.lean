/- What an index says of a store, in plain lists. No conditions. -/
import Derived.Test.YtpdenloeacaadaaIdxT
import Derived.Test.YtpdenloeacaadaaGSo
namespace Go.Proofs.Ytpdenloeacaadaa.E
open Go
set_option linter.unusedSimpArgs false
set_option linter.unusedVariables false
set_option linter.unusedSectionVars false
set_option maxRecDepth 20000
set_option maxHeartbeats 1000000
/-! ### Names in order -/
theorem dist_nodup (l : List Vn) : (dist l).Nodup := by
 have key : ∀ n, (dist (l.take n)).Nodup := by
  intro n
  induction n with
  | zero => simp [dist]
  | succ n ih =>
   by_cases h : n < l.length
   ·obtain ⟨v, hv⟩ := lt_get (l := l) (i := n) h
    rw [take_get hv, dist_add]
    split
    ·exact ih
    ·rename_i hb
     rw [List.nodup_append]
     refine ⟨ih, by simp, fun a ha b hb2 e => ?_⟩
     rw [List.mem_singleton] at hb2
     subst hb2
     exact hb (hasB_iff.2 (e ▸ ha))
   ·rw [List.take_of_length_le (by omega)]
    rw [List.take_of_length_le (by omega)] at ih
    exact ih
 have := key l.length
 rwa [List.take_length] at this
theorem ids_up (l : List Vn) : StrUp (idsL l) := by
 have h1 : (idsL l).Nodup := (sortL_perm (idsF l l)).nodup_iff.2 ((dist_nodup l).filter _)
 have h2 := sortL_pw (idsF l l)
 unfold StrUp
 have h3 := h2.and (List.nodup_iff_pairwise_ne.1 h1)
 refine h3.imp fun {a b} h => ?_
 cases e : sLt a b with
 | true => rfl
 | false => exact absurd (sLt_total e h.1) h.2
theorem byL_up (l : List Vn) (f : Fd) : StrUp (byL l f) := (ids_up l).filter _
theorem byL_in {l : List Vn} {f : Fd} {x : ByteArray} : x ∈ byL l f ↔ x ∈ idsL l ∧ f ∈ (recOf l x).fields := by
 unfold byL hasF
 rw [List.mem_filter, decide_eq_true_eq]
/-! ### A new index -/
theorem newN_mem {l : List Vn} {f : Fd} {x : ByteArray} : ∀ (ids : List ByteArray), (∀ id ∈ ids, (recOf l id).id = id) → (memE (newN l ids) f x ↔ x ∈ ids ∧ f ∈ (recOf l x).fields) := by
 have key : ∀ (ids : List ByteArray) (es : Es), EsUp es → (∀ id ∈ ids, (recOf l id).id = id) → (memE (ids.foldl (fun es id => addL (recOf l id).id (recOf l id).fields es) es) f x ↔ memE es f x ∨ (x ∈ ids ∧ f ∈ (recOf l x).fields)) := fun ids => by
  induction ids with
  | nil => intro es _ _; simp
  | cons i ids ih =>
   intro es hs hid
   rw [List.foldl_cons, ih _ (addL_up hs) (fun j hj => hid j (List.mem_cons_of_mem _ hj)), addL_mem hs, hid i (by simp), List.mem_cons]
   constructor
   ·rintro ((h | ⟨h, rfl⟩) | h)
    ·exact .inl h
    ·exact .inr ⟨.inl rfl, h⟩
    ·exact .inr ⟨.inr h.1, h.2⟩
   ·rintro (h | ⟨rfl | h, k⟩)
    ·exact .inl (.inl h)
    ·exact .inl (.inr ⟨k, rfl⟩)
    ·exact .inr ⟨h, k⟩
 intro ids hid
 rw [newN, key ids [] EsUp_nil hid]
 constructor
 ·rintro (⟨e, he, _⟩ | h)
  ·cases he
  ·exact h
 ·exact .inr
theorem rec_id {l : List Vn} {x : ByteArray} (h : (getN l x).isSome = true) : (recOf l x).id = x := by
 obtain ⟨r, hr⟩ := Option.isSome_iff_exists.1 h
 unfold recOf
 rw [hr]
 exact (getN_some hr).1
theorem newL_mem {l : List Vn} {f : Fd} {x : ByteArray} : memE (newL l) f x ↔ x ∈ idsL l ∧ f ∈ (recOf l x).fields := newN_mem (idsL l) fun id hid => rec_id (ids_mem.1 hid)
theorem newL_up (l : List Vn) : EsUp (newL l) := newN_up l _
theorem names_new (l : List Vn) (f : Fd) : namesOf f (newL l) = byL l f :=
 strict_ext (namesOf_up (newL_up l)) (byL_up l f) fun x => by rw [namesOf_mem (newL_up l), newL_mem, byL_in]
theorem says_new (l : List Vn) (f : Fd) : saysL f (newL l) = if byOk f then byL l f else [] := by
 unfold saysL
 rw [names_new]
theorem fd_ok {l : List Vn} (h : chkSt l = 0) {x : ByteArray} {f : Fd} (hf : f ∈ (recOf l x).fields) : byOk f = true := by
 cases hg : getN l x with
 | none => unfold recOf at hf; rw [hg] at hf; cases hf
 | some r =>
  unfold recOf at hf
  rw [hg] at hf
  obtain ⟨_, v, hv, rfl⟩ := getN_some hg
  have h1 := (chkSt_len h).2 v hv
  unfold chkRec at h1
  split at h1
  ·split at h1
   ·split at h1
    ·contradiction
    ·split at h1
     ·rename_i h2
      rw [Bool.and_eq_true] at h2
      have key : ∀ (l : List Fd) (p : Option ByteArray), fOk p l = true → f ∈ l → idOk f.key = true ∧ valOk f.val = true := fun l => by
       induction l with
       | nil => intro p _ h; cases h
       | cons g l ih =>
        intro p h hm
        simp only [fOk, Bool.and_eq_true] at h
        rcases List.mem_cons.1 hm with rfl | hm
        ·exact ⟨h.1, h.2.1⟩
        ·exact ih _ h.2.2.2 hm
      obtain ⟨k1, k2⟩ := key _ _ h2.1 hf
      unfold byOk
      rw [k1, k2]; rfl
     ·contradiction
   ·contradiction
  ·contradiction
theorem names_at {es : Es} (hs : EsUp es) {e : Fd × List ByteArray} (he : e ∈ es) : namesOf e.1 es = e.2 := by
 obtain ⟨m, hm⟩ := List.getElem?_of_mem he
 have hF : isF e.1 es = true := List.any_eq_true.2 ⟨e, he, by simp⟩
 refine strict_ext (namesOf_up hs) (hs.2 e he).1 fun x => ?_
 rw [namesOf_mem hs]
 constructor
 ·rintro ⟨d, hd, d1, hx⟩
  obtain ⟨n, hn⟩ := List.getElem?_of_mem hd
  have : m = n := by
   obtain ⟨a1, a2⟩ := List.getElem?_eq_some_iff.1 hm
   obtain ⟨b1, b2⟩ := List.getElem?_eq_some_iff.1 hn
   rcases Nat.lt_trichotomy m n with h | h | h
   ·have := List.pairwise_iff_getElem.1 hs.1 _ _ a1 b1 h
    rw [a2, b2, d1, fLt_irrefl] at this; cases this
   ·exact h
   ·have := List.pairwise_iff_getElem.1 hs.1 _ _ b1 a1 h
    rw [a2, b2, d1, fLt_irrefl] at this; cases this
  rw [this, hn] at hm
  cases hm
  exact hx
 ·intro hx; exact ⟨e, he, rfl, hx⟩
theorem same_new {l : List Vn} (h : chkSt l = 0) : (eqL (newL l) (newL l) && sameAll l (newL l)) = true := by
 rw [Bool.and_eq_true, eqL_iff]
 refine ⟨rfl, ?_⟩
 unfold sameAll
 rw [List.all_eq_true]
 intro e he
 rw [decide_eq_true_eq]
 have hok : byOk e.1 = true := by
  obtain ⟨x, hx⟩ := List.exists_mem_of_ne_nil _ ((newL_up l).2 e he).2
  exact fd_ok h (newL_mem.1 ⟨e, he, rfl, hx⟩).2
 rw [if_pos hok, ← names_new, names_at (newL_up l) he]
/-! ### A name that is noted -/
theorem noteL_mem {l : List Vn} {id x : ByteArray} {f : Fd} {es : Es} (hs : EsUp es) : memE (noteL l id es) f x ↔ (memE es f x ∧ x ≠ id) ∨ (x = id ∧ x ∈ idsL l ∧ f ∈ (recOf l x).fields) := by
 unfold noteL
 cases hg : (getN l id).isSome with
 | true =>
  rw [if_pos rfl, addL_mem (dropL_up hs), dropL_mem, rec_id hg]
  constructor
  ·rintro (h | ⟨h, rfl⟩)
   ·exact .inl h
   ·exact .inr ⟨rfl, ids_mem.2 hg, h⟩
  ·rintro (h | ⟨rfl, _, h⟩)
   ·exact .inl h
   ·exact .inr ⟨h, rfl⟩
 | false =>
  rw [if_neg (by simp), dropL_mem]
  constructor
  ·exact .inl
  ·rintro (h | ⟨rfl, h, _⟩)
   ·exact h
   ·rw [ids_mem, hg] at h; cases h
/-- An index that says of all other names what is so is right once this one is noted. -/
theorem note_new {l : List Vn} {id : ByteArray} {es : Es} (hs : EsUp es) (h : ∀ f x, x ≠ id → (memE es f x ↔ memE (newL l) f x)) : noteL l id es = newL l := by
 refine es_ext (noteL_up hs) (newL_up l) fun f x => ?_
 rw [noteL_mem hs, newL_mem]
 by_cases e : x = id
 ·constructor
  ·rintro (h | h)
   ·exact absurd e h.2
   ·exact h.2
  ·intro h; exact .inr ⟨e, h⟩
 ·rw [h f x e, newL_mem]
  constructor
  ·rintro (h | h)
   ·exact h.1
   ·exact absurd h.1 e
  ·intro h; exact .inl ⟨h, e⟩
/-! ### Stores that grow -/
theorem chkSt_take {l : List Vn} (h : chkSt l = 0) (i : Nat) : chkSt (l.take i) = 0 := by
 have hl := (chkSt_len h).1
 have hg : ∀ (b a : List Vn), chkGo [] (a ++ b) = 0 → chkGo [] a = 0 := fun b => by
  induction b with
  | nil => intro a h; simpa using h
  | cons v b ih =>
   intro a h
   rw [show a ++ v :: b = (a ++ [v]) ++ b by simp] at h
   have := ih (a ++ [v]) h
   rw [chkGo_app] at this
   split at this
   ·assumption
   ·exact this
 have h0 : chkGo [] l = 0 := by
  unfold chkSt at h
  split at h
  ·omega
  ·exact h
 unfold chkSt
 rw [if_neg (by rw [List.length_take]; omega)]
 refine hg (l.drop i) _ ?_
 rw [List.take_append_drop]
 exact h0
theorem getN_other {l : List Vn} {v : Vn} {x : ByteArray} (h : x ≠ v.r.id) : getN (l ++ [v]) x = getN l x := by
 rw [getN_add, if_neg (fun e => h e.symm)]
theorem new_other {l : List Vn} {v : Vn} {f : Fd} {x : ByteArray} (h : x ≠ v.r.id) : memE (newL l) f x ↔ memE (newL (l ++ [v])) f x := by
 rw [newL_mem, newL_mem, ids_mem, ids_mem]
 unfold recOf
 rw [getN_other h]
theorem note_step (l : List Vn) (v : Vn) : noteL (l ++ [v]) v.r.id (newL l) = newL (l ++ [v]) := note_new (newL_up l) fun f x h => new_other h
theorem note_again (l : List Vn) (id : ByteArray) : noteL l id (newL l) = newL l := note_new (newL_up l) fun f x _ => Iff.rfl
/-- Names of what is grown. -/
theorem grown_names (l : List (List Int)) : ∀ v ∈ grownL l, v.r.id = ⟨#[97]⟩ ∨ v.r.id = ⟨#[98]⟩ ∨ v.r.id = ⟨#[99]⟩ := by
 have nm : ∀ n, nmS n = ⟨#[97]⟩ ∨ nmS n = ⟨#[98]⟩ ∨ nmS n = ⟨#[99]⟩ := fun n => by
  unfold nmS
  split
  ·exact .inl rfl
  ·split
   ·exact .inr (.inl rfl)
   ·exact .inr (.inr rfl)
 have key : ∀ (m : List (List Int)) (s : List Vn), (∀ v ∈ s, v.r.id = ⟨#[97]⟩ ∨ v.r.id = ⟨#[98]⟩ ∨ v.r.id = ⟨#[99]⟩) → ∀ v ∈ m.foldl grow1 s, v.r.id = ⟨#[97]⟩ ∨ v.r.id = ⟨#[98]⟩ ∨ v.r.id = ⟨#[99]⟩ := fun m => by
  induction m with
  | nil => intro s h; exact h
  | cons c m ih =>
   intro s h
   refine ih _ fun v hv => ?_
   unfold grow1 at hv
   split at hv
   ·split at hv
    ·split at hv
     ·rcases List.mem_append.1 hv with hv | hv
      ·exact h v hv
      ·rw [List.mem_singleton.1 hv]; exact nm _
     ·exact h v hv
    ·rcases List.mem_append.1 hv with hv | hv
     ·exact h v hv
     ·rw [List.mem_singleton.1 hv]; exact nm _
   ·exact h v hv
 exact key _ [] fun v hv => by cases hv
theorem grown_ids (l : List (List Int)) : ∀ x ∈ idsL (grownL l), x = ⟨#[97]⟩ ∨ x = ⟨#[98]⟩ ∨ x = ⟨#[99]⟩ := fun x hx => by
 obtain ⟨r, hr⟩ := Option.isSome_iff_exists.1 (ids_mem.1 hx)
 obtain ⟨h1, v, hv, h2⟩ := getN_some hr
 have := grown_names l v hv
 rw [h2, h1] at this
 exact this
theorem names_drop {es : Es} (hs : EsUp es) (f : Fd) (id : ByteArray) : namesOf f (dropL id es) = (namesOf f es).filter fun x => !decide (x = id) := by
 refine strict_ext (namesOf_up (dropL_up hs)) ((namesOf_up hs).filter _) fun x => ?_
 rw [namesOf_mem (dropL_up hs), dropL_mem, List.mem_filter, namesOf_mem hs]
 simp
theorem note_nil (id : ByteArray) (es : Es) : noteL [] id es = dropL id es := rfl
end Go.Proofs.Ytpdenloeacaadaa.E
