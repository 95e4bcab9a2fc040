/- What an index says, in plain lists: its order, its members. No conditions. -/
import Derived.Test.YtpdenloeacaadaaIdxP
namespace Go.Proofs.Ytpdenloeacaadaa.E
open Go
set_option linter.unusedSimpArgs false
set_option linter.unusedVariables false
set_option linter.unusedSectionVars false
set_option maxRecDepth 20000
set_option maxHeartbeats 1000000
theorem pw_ins {α : Type} {R : α → α → Prop} {l : List α} {i : Nat} {x : α} (h : l.Pairwise R) (h1 : ∀ y ∈ l.take i, R y x) (h2 : ∀ y ∈ l.drop i, R x y) : (l.take i ++ [x] ++ l.drop i).Pairwise R := by
 rw [← List.take_append_drop i l, List.pairwise_append] at h
 rw [List.pairwise_append, List.pairwise_append]
 refine ⟨⟨h.1, List.pairwise_singleton _ _, fun a ha b hb => by rw [List.mem_singleton] at hb; subst hb; exact h1 a ha⟩, h.2.1, fun a ha b hb => ?_⟩
 rcases List.mem_append.1 ha with ha | ha
 ·exact h.2.2 a ha b hb
 ·rw [List.mem_singleton] at ha; subst ha; exact h2 b hb
theorem mem_ins {α : Type} {l : List α} {i : Nat} {x y : α} : y ∈ l.take i ++ [x] ++ l.drop i ↔ y ∈ l ∨ y = x := by
 have e : y ∈ l ↔ y ∈ l.take i ∨ y ∈ l.drop i := by
  rw [← List.mem_append, List.take_append_drop]
 rw [List.mem_append, List.mem_append, List.mem_singleton, e]
 constructor
 ·rintro ((h | h) | h)
  ·exact .inl (.inl h)
  ·exact .inr h
  ·exact .inl (.inr h)
 ·rintro ((h | h) | h)
  ·exact .inl (.inl h)
  ·exact .inr h
  ·exact .inl (.inr h)
theorem mem_take_at {α : Type} {l : List α} {i : Nat} {y : α} (h : y ∈ l.take i) : ∃ m, m < i ∧ l[m]? = some y := by
 obtain ⟨m, hm⟩ := List.getElem?_of_mem h
 rw [List.getElem?_take] at hm
 split at hm
 ·exact ⟨m, by assumption, hm⟩
 ·cases hm
theorem mem_drop_at {α : Type} {l : List α} {i : Nat} {y : α} (h : y ∈ l.drop i) : ∃ m, i ≤ m ∧ l[m]? = some y := by
 obtain ⟨m, hm⟩ := List.getElem?_of_mem h
 rw [List.getElem?_drop] at hm
 exact ⟨i + m, by omega, hm⟩
/-! ### Names -/
theorem insN_mem {id x : ByteArray} {l : List ByteArray} : x ∈ insN id l ↔ x ∈ l ∨ x = id := by
 unfold insN
 split
 ·rename_i h
  obtain ⟨y, hy, e⟩ := List.any_eq_true.1 h
  have e := of_decide_eq_true e
  subst e
  constructor
  ·exact .inl
  ·rintro (h | rfl)
   ·exact h
   ·exact hy
 ·exact mem_ins
theorem posS_split {id : ByteArray} {l : List ByteArray} (hs : StrUp l) (h : ¬ (l.any fun f => decide (f = id)) = true) : (∀ y ∈ l.take (posS id l), sLt y id = true) ∧ ∀ y ∈ l.drop (posS id l), sLt id y = true := by
 constructor
 ·intro y hy
  obtain ⟨m, hm, e⟩ := mem_take_at hy
  exact (posS_iff hs e).2 hm
 ·intro y hy
  obtain ⟨m, hm, e⟩ := mem_drop_at hy
  have h1 : sLt y id = false := by
   rw [Bool.eq_false_iff]
   intro h2
   have := (posS_iff hs e).1 h2
   omega
  cases h2 : sLt id y with
  | true => rfl
  | false => exact absurd (List.any_eq_true.2 ⟨y, List.mem_of_getElem? e, decide_eq_true (sLt_total h1 h2)⟩) h
theorem insN_up {id : ByteArray} {l : List ByteArray} (hs : StrUp l) : StrUp (insN id l) := by
 unfold insN
 split
 ·exact hs
 ·rename_i h
  obtain ⟨h1, h2⟩ := posS_split hs h
  exact pw_ins hs h1 h2
theorem insN_len (id : ByteArray) (l : List ByteArray) : (insN id l).length ≤ l.length + 1 := by
 unfold insN
 split
 ·omega
 ·simp only [List.length_append, List.length_take, List.length_drop, List.length_singleton]; have := posS_le id l; omega
theorem insN_ne (id : ByteArray) (l : List ByteArray) : insN id l ≠ [] := fun e => by
 have : id ∈ insN id l := insN_mem.2 (.inr rfl)
 rw [e] at this
 cases this
/-- A name that is there, taken out. -/
theorem del_at {id : ByteArray} {l : List ByteArray} (hs : StrUp l) (h : (l.any fun f => decide (f = id)) = true) : posS id l < l.length ∧ l.take (posS id l) ++ l.drop (posS id l + 1) = l.filter fun x => !decide (x = id) := by
 have hlt : posS id l < l.length := by
  rcases Nat.lt_or_ge (posS id l) l.length with h1 | h1
  ·exact h1
  ·rw [anyS_none hs h1] at h; cases h
 obtain ⟨y, hy⟩ : ∃ y, l[posS id l]? = some y := ⟨_, List.getElem?_eq_getElem hlt⟩
 have hyid : y = id := by rw [anyS_at hs hy] at h; exact of_decide_eq_true h
 subst hyid
 refine ⟨hlt, ?_⟩
 generalize posS y l = i at *
 have e : l = l.take i ++ y :: l.drop (i + 1) := by
  have h1 := (List.getElem?_eq_some_iff.1 hy).2
  rw [← h1, ← List.drop_eq_getElem_cons hlt, List.take_append_drop]
 have hp := hs
 rw [e] at hp
 unfold StrUp at hp
 rw [List.pairwise_append, List.pairwise_cons] at hp
 rw [e, List.filter_append, List.filter_cons]
 have f1 : (l.take i).filter (fun x => !decide (x = y)) = l.take i := List.filter_eq_self.2 fun x hx => by
  have := hp.2.2 x hx y (by simp)
  have : x ≠ y := fun e => by rw [e, sLt_irrefl] at this; cases this
  simp [this]
 have f2 : (l.drop (i + 1)).filter (fun x => !decide (x = y)) = l.drop (i + 1) := List.filter_eq_self.2 fun x hx => by
  have := hp.2.1.1 x hx
  have : x ≠ y := fun e => by rw [e, sLt_irrefl] at this; cases this
  simp [this]
 rw [f1, f2]
 simp only [decide_true, Bool.not_true, Bool.false_eq_true, if_false]
 have g1 : List.take i (l.take i ++ y :: l.drop (i + 1)) = l.take i := by rw [← e]
 have g2 : List.drop (i + 1) (l.take i ++ y :: l.drop (i + 1)) = l.drop (i + 1) := by rw [← e]
 rw [g1, g2]
/-! ### Entries -/
def toRE (e : Fd × List ByteArray) : RE := ⟨e.1, none, 0, 0⟩
theorem posF_eq (k : Fd) (es : Es) : posF k es = posE k (es.map toRE) := by
 unfold posF posE
 rw [List.filter_map, List.length_map]
 rfl
theorem isF_eq (k : Fd) (es : Es) : isF k es = (es.map toRE).any fun f => decide (f.fd = k) := by
 unfold isF
 rw [List.any_map]
 rfl
theorem up_RE {es : Es} (h : EsUp es) : EntUp (es.map toRE) := by
 unfold EntUp
 rw [List.pairwise_map]
 exact h.1
theorem posF_iff {k : Fd} {es : Es} (hs : EsUp es) {m : Nat} {e : Fd × List ByteArray} (h : es[m]? = some e) : (fLt e.1 k = true ↔ m < posF k es) := by
 rw [posF_eq]
 exact posE_iff (up_RE hs) (f := toRE e) (by rw [List.getElem?_map, h]; rfl)
theorem fLt_total {a b : Fd} (h : fLt a b = false) (k : fLt b a = false) : a = b := by
 rw [Bool.eq_false_iff, Ne, fLt_iff] at h k
 simp only [not_or, not_and] at h k
 have h1 : a.key = b.key := sLt_total (by simpa using h.1) (by simpa using k.1)
 have h2 : a.val = b.val := sLt_total (by simpa using h.2 h1) (by simpa using k.2 h1.symm)
 cases a; cases b; simp only at h1 h2; rw [h1, h2]
theorem isF_at {k : Fd} {es : Es} (hs : EsUp es) (h : isF k es = true) : ∃ e, es[posF k es]? = some e ∧ e.1 = k := by
 rw [isF_eq] at h
 have hlt : posE k (es.map toRE) < (es.map toRE).length := by
  rcases Nat.lt_or_ge (posE k (es.map toRE)) (es.map toRE).length with h1 | h1
  ·exact h1
  ·rw [anyE_none (up_RE hs) h1] at h; cases h
 obtain ⟨y, hy⟩ : ∃ y, (es.map toRE)[posE k (es.map toRE)]? = some y := ⟨_, List.getElem?_eq_getElem hlt⟩
 rw [anyE_at (up_RE hs) hy] at h
 have h := of_decide_eq_true h
 rw [← posF_eq, List.getElem?_map] at hy
 obtain ⟨e, he, rfl⟩ := Option.map_eq_some_iff.1 hy
 exact ⟨e, he, h⟩
theorem posF_split {k : Fd} {es : Es} (hs : EsUp es) (h : ¬ isF k es = true) : (∀ y ∈ es.take (posF k es), fLt y.1 k = true) ∧ ∀ y ∈ es.drop (posF k es), fLt k y.1 = true := by
 constructor
 ·intro y hy
  obtain ⟨m, hm, e⟩ := mem_take_at hy
  exact (posF_iff hs e).2 hm
 ·intro y hy
  obtain ⟨m, hm, e⟩ := mem_drop_at hy
  have h1 : fLt y.1 k = false := by
   rw [Bool.eq_false_iff]
   intro h2
   have := (posF_iff hs e).1 h2
   omega
  cases h2 : fLt k y.1 with
  | true => rfl
  | false => exact absurd (List.any_eq_true.2 ⟨y, List.mem_of_getElem? e, decide_eq_true (fLt_total h1 h2)⟩) h
theorem add1_has {id : ByteArray} {f : Fd} {es : Es} (hs : EsUp es) {e : Fd × List ByteArray} (h : isF f es = true) (he : es[posF f es]? = some e) : add1 id f es = es.set (posF f es) (f, insN id e.2) := by
 unfold add1
 rw [if_pos h, he]
theorem set_pw {α : Type} {R : α → α → Prop} {l : List α} {i : Nat} {x y : α} (h : l.Pairwise R) (hx : l[i]? = some x) (h1 : ∀ z, R z x → R z y) (h2 : ∀ z, R x z → R y z) : (l.set i y).Pairwise R := by
 obtain ⟨hi, hx⟩ := List.getElem?_eq_some_iff.1 hx
 rw [List.pairwise_iff_getElem] at h ⊢
 intro a b ha hb hab
 rw [List.length_set] at ha hb
 rw [List.getElem_set, List.getElem_set]
 by_cases e1 : i = a
 ·rw [if_pos e1, if_neg (by omega)]
  subst e1
  exact h2 _ (hx ▸ h i b ha hb hab)
 ·rw [if_neg e1]
  by_cases e2 : i = b
  ·rw [if_pos e2]
   subst e2
   exact h1 _ (hx ▸ h a i ha hb hab)
  ·rw [if_neg e2]; exact h a b ha hb hab
theorem add1_up {id : ByteArray} {f : Fd} {es : Es} (hs : EsUp es) : EsUp (add1 id f es) := by
 by_cases h : isF f es = true
 ·obtain ⟨e, he, h1⟩ := isF_at hs h
  rw [add1_has hs h he]
  refine ⟨set_pw hs.1 he (fun z hz => by rw [← h1]; exact hz) (fun z hz => by rw [← h1]; exact hz), fun x hx => ?_⟩
  obtain ⟨j, hj⟩ := List.getElem?_of_mem hx
  rw [List.getElem?_set] at hj
  split at hj
  ·split at hj
   ·cases hj
    exact ⟨insN_up (hs.2 e (List.mem_of_getElem? he)).1, insN_ne _ _⟩
   ·cases hj
  ·exact hs.2 x (List.mem_of_getElem? hj)
 ·unfold add1
  rw [if_neg h]
  obtain ⟨h1, h2⟩ := posF_split hs h
  refine ⟨pw_ins hs.1 h1 h2, fun x hx => ?_⟩
  rcases mem_ins.1 hx with hx | rfl
  ·exact hs.2 x hx
  ·exact ⟨List.pairwise_singleton _ _, by simp⟩
theorem add1_mem {id x : ByteArray} {f g : Fd} {es : Es} (hs : EsUp es) : memE (add1 id f es) g x ↔ memE es g x ∨ (g = f ∧ x = id) := by
 by_cases h : isF f es = true
 ·obtain ⟨e, he, h1⟩ := isF_at hs h
  rw [add1_has hs h he]
  obtain ⟨hlt, _⟩ := List.getElem?_eq_some_iff.1 he
  unfold memE
  constructor
  ·rintro ⟨y, hy, rfl, hx⟩
   obtain ⟨j, hj⟩ := List.getElem?_of_mem hy
   by_cases e2 : posF f es = j
   ·subst e2
    rw [List.getElem?_set_self hlt] at hj
    cases hj
    rcases insN_mem.1 hx with hx | rfl
    ·exact .inl ⟨e, List.mem_of_getElem? he, h1, hx⟩
    ·exact .inr ⟨rfl, rfl⟩
   ·rw [List.getElem?_set_ne e2] at hj
    exact .inl ⟨y, List.mem_of_getElem? hj, rfl, hx⟩
  ·rintro (⟨y, hy, rfl, hx⟩ | ⟨rfl, rfl⟩)
   ·obtain ⟨j, hj⟩ := List.getElem?_of_mem hy
    by_cases e2 : posF f es = j
    ·subst e2
     rw [he] at hj
     cases hj
     refine ⟨(f, insN id e.2), List.mem_of_getElem? (i := posF f es) (by rw [List.getElem?_set_self hlt]), h1.symm, insN_mem.2 (.inl hx)⟩
    ·exact ⟨y, List.mem_of_getElem? (i := j) (by rw [List.getElem?_set_ne e2]; exact hj), rfl, hx⟩
   ·exact ⟨_, List.mem_of_getElem? (i := posF g es) (by rw [List.getElem?_set_self hlt]), rfl, insN_mem.2 (.inr rfl)⟩
 ·unfold add1 memE
  rw [if_neg h]
  constructor
  ·rintro ⟨y, hy, rfl, hx⟩
   rcases mem_ins.1 hy with hy | rfl
   ·exact .inl ⟨y, hy, rfl, hx⟩
   ·exact .inr ⟨rfl, by simpa using hx⟩
  ·rintro (⟨y, hy, rfl, hx⟩ | ⟨rfl, rfl⟩)
   ·exact ⟨y, mem_ins.2 (.inl hy), rfl, hx⟩
   ·exact ⟨_, mem_ins.2 (.inr rfl), rfl, by simp⟩
theorem addL_up {id : ByteArray} {fs : List Fd} : ∀ {es : Es}, EsUp es → EsUp (addL id fs es) := by
 induction fs with
 | nil => intro es h; exact h
 | cons f fs ih => intro es h; exact ih (add1_up h)
theorem addL_mem {id x : ByteArray} {g : Fd} {fs : List Fd} : ∀ {es : Es}, EsUp es → (memE (addL id fs es) g x ↔ memE es g x ∨ (g ∈ fs ∧ x = id)) := by
 induction fs with
 | nil => intro es h; simp [addL]
 | cons f fs ih =>
  intro es h
  have : addL id (f :: fs) es = addL id fs (add1 id f es) := rfl
  rw [this, ih (add1_up h), add1_mem h, List.mem_cons]
  constructor
  ·rintro ((h | h) | h)
   ·exact .inl h
   ·exact .inr ⟨.inl h.1, h.2⟩
   ·exact .inr ⟨.inr h.1, h.2⟩
  ·rintro (h | ⟨h | h, k⟩)
   ·exact .inl (.inl h)
   ·exact .inl (.inr ⟨h, k⟩)
   ·exact .inr ⟨h, k⟩
theorem addL_snoc (id : ByteArray) (fs : List Fd) (f : Fd) (es : Es) : addL id (fs ++ [f]) es = add1 id f (addL id fs es) := by
 unfold addL
 rw [List.foldl_append]
 rfl
theorem dropL_up {id : ByteArray} {es : Es} (hs : EsUp es) : EsUp (dropL id es) := by
 unfold dropL
 refine ⟨?_, fun e he => ?_⟩
 ·refine List.Pairwise.filter _ ?_
  rw [List.pairwise_map]
  exact hs.1
 ·rw [List.mem_filter, List.mem_map] at he
  obtain ⟨⟨e0, he0, rfl⟩, h2⟩ := he
  exact ⟨(hs.2 e0 he0).1.filter _, fun h => by
   have h3 : (e0.2.filter fun x => !decide (x = id)) = [] := h
   simp only [h3] at h2
   cases h2⟩
theorem dropL_mem {id x : ByteArray} {g : Fd} {es : Es} : memE (dropL id es) g x ↔ memE es g x ∧ x ≠ id := by
 unfold dropL memE
 constructor
 ·rintro ⟨e, he, rfl, hx⟩
  rw [List.mem_filter, List.mem_map] at he
  obtain ⟨⟨e0, he0, rfl⟩, _⟩ := he
  rw [List.mem_filter] at hx
  exact ⟨⟨e0, he0, rfl, hx.1⟩, by simpa using hx.2⟩
 ·rintro ⟨⟨e, he, rfl, hx⟩, hne⟩
  have hm : x ∈ e.2.filter fun y => !decide (y = id) := List.mem_filter.2 ⟨hx, by simp [hne]⟩
  refine ⟨(e.1, e.2.filter fun y => !decide (y = id)), List.mem_filter.2 ⟨List.mem_map.2 ⟨e, he, rfl⟩, ?_⟩, rfl, hm⟩
  cases h : e.2.filter fun y => !decide (y = id) with
  | nil => rw [h] at hm; cases hm
  | cons a l => simp only [h]; rfl
/-- In order, without empty lists: told by the members. -/
theorem es_ext {a b : Es} (ha : EsUp a) (hb : EsUp b) (h : ∀ f x, memE a f x ↔ memE b f x) : a = b := by
 induction a generalizing b with
 | nil =>
  cases b with
  | nil => rfl
  | cons e b =>
   obtain ⟨x, hx⟩ := List.exists_mem_of_ne_nil _ (hb.2 e (by simp)).2
   obtain ⟨y, hy, _⟩ := (h e.1 x).2 ⟨e, by simp, rfl, hx⟩
   cases hy
 | cons d a ih =>
  cases b with
  | nil =>
   obtain ⟨x, hx⟩ := List.exists_mem_of_ne_nil _ (ha.2 d (by simp)).2
   obtain ⟨y, hy, _⟩ := (h d.1 x).1 ⟨d, by simp, rfl, hx⟩
   cases hy
  | cons e b =>
   have pa := List.pairwise_cons.1 ha.1
   have pb := List.pairwise_cons.1 hb.1
   have ua : ∀ {y}, y ∈ d :: a → y.1 = d.1 → y = d := fun {y} hy e => by
    rcases List.mem_cons.1 hy with rfl | hy
    ·rfl
    ·have := pa.1 y hy; rw [e, fLt_irrefl] at this; cases this
   have ub : ∀ {y}, y ∈ e :: b → y.1 = e.1 → y = e := fun {y} hy e' => by
    rcases List.mem_cons.1 hy with rfl | hy
    ·rfl
    ·have := pb.1 y hy; rw [e', fLt_irrefl] at this; cases this
   have hk : d.1 = e.1 := by
    obtain ⟨x, hx⟩ := List.exists_mem_of_ne_nil _ (ha.2 d (by simp)).2
    obtain ⟨z, hz⟩ := List.exists_mem_of_ne_nil _ (hb.2 e (by simp)).2
    obtain ⟨y, hy, e1, _⟩ := (h d.1 x).1 ⟨d, by simp, rfl, hx⟩
    obtain ⟨u, hu, e2, _⟩ := (h e.1 z).2 ⟨e, by simp, rfl, hz⟩
    rcases List.mem_cons.1 hy with rfl | hy
    ·exact e1.symm
    ·rcases List.mem_cons.1 hu with rfl | hu
     ·exact e2
     ·have q1 := pb.1 y hy
      have q2 := pa.1 u hu
      rw [e1] at q1
      rw [e2] at q2
      have := fLt_trans q1 q2
      rw [fLt_irrefl] at this
      cases this
   have hd : d.2 = e.2 := strict_ext (ha.2 d (by simp)).1 (hb.2 e (by simp)).1 fun x => by
    constructor
    ·intro hx
     obtain ⟨y, hy, e1, h1⟩ := (h d.1 x).1 ⟨d, by simp, rfl, hx⟩
     rw [ub hy (e1.trans hk)] at h1; exact h1
    ·intro hx
     obtain ⟨y, hy, e1, h1⟩ := (h e.1 x).2 ⟨e, by simp, rfl, hx⟩
     rw [ua hy (e1.trans hk.symm)] at h1; exact h1
   have hde : d = e := Prod.ext hk hd
   subst hde
   congr 1
   refine ih ⟨pa.2, fun y hy => ha.2 y (List.mem_cons_of_mem _ hy)⟩ ⟨pb.2, fun y hy => hb.2 y (List.mem_cons_of_mem _ hy)⟩ fun f x => ?_
   have hf := h f x
   constructor
   ·rintro ⟨y, hy, rfl, hx⟩
    obtain ⟨z, hz, e1, h1⟩ := hf.1 ⟨y, List.mem_cons_of_mem _ hy, rfl, hx⟩
    rcases List.mem_cons.1 hz with rfl | hz
    ·have := pa.1 y hy; rw [e1, fLt_irrefl] at this; cases this
    ·exact ⟨z, hz, e1, h1⟩
   ·rintro ⟨y, hy, rfl, hx⟩
    obtain ⟨z, hz, e1, h1⟩ := hf.2 ⟨y, List.mem_cons_of_mem _ hy, rfl, hx⟩
    rcases List.mem_cons.1 hz with rfl | hz
    ·have := pb.1 y hy; rw [e1, fLt_irrefl] at this; cases this
    ·exact ⟨z, hz, e1, h1⟩
/-! ### Sizes -/
def EsB (m k : Nat) (es : Es) : Prop := es.length ≤ m ∧ ∀ e ∈ es, e.2.length ≤ k
theorem add1_B {m k : Nat} {id : ByteArray} {f : Fd} {es : Es} (hs : EsUp es) (h : EsB m k es) : EsB (m + 1) (k + 1) (add1 id f es) := by
 by_cases hf : isF f es = true
 ·obtain ⟨e, he, h1⟩ := isF_at hs hf
  rw [add1_has hs hf he]
  refine ⟨by rw [List.length_set]; exact Nat.le_succ_of_le h.1, fun x hx => ?_⟩
  obtain ⟨j, hj⟩ := List.getElem?_of_mem hx
  rw [List.getElem?_set] at hj
  split at hj
  ·split at hj
   ·cases hj
    have := insN_len id e.2
    have := h.2 e (List.mem_of_getElem? he)
    simp only
    omega
   ·cases hj
  ·exact Nat.le_succ_of_le (h.2 x (List.mem_of_getElem? hj))
 ·unfold add1
  rw [if_neg hf]
  refine ⟨by simp only [List.length_append, List.length_take, List.length_drop, List.length_singleton]; have := posF_le f es; have := h.1; omega, fun x hx => ?_⟩
  rcases mem_ins.1 hx with hx | rfl
  ·exact Nat.le_succ_of_le (h.2 x hx)
  ·simp
theorem addL_B {id : ByteArray} {fs : List Fd} : ∀ {m k : Nat} {es : Es}, EsUp es → EsB m k es → EsB (m + fs.length) (k + fs.length) (addL id fs es) := by
 induction fs with
 | nil => intro m k es _ h; exact h
 | cons f fs ih =>
  intro m k es hs h
  have := ih (add1_up (id := id) (f := f) hs) (add1_B hs h)
  rw [List.length_cons]
  rw [show m + (fs.length + 1) = m + 1 + fs.length by omega, show k + (fs.length + 1) = k + 1 + fs.length by omega]
  exact this
theorem dropL_B {m k : Nat} {id : ByteArray} {es : Es} (h : EsB m k es) : EsB m k (dropL id es) := by
 unfold dropL
 refine ⟨Nat.le_trans (List.length_filter_le _ _) (by rw [List.length_map]; exact h.1), fun e he => ?_⟩
 rw [List.mem_filter, List.mem_map] at he
 obtain ⟨⟨e0, he0, rfl⟩, _⟩ := he
 exact Nat.le_trans (List.length_filter_le _ _) (h.2 e0 he0)
end Go.Proofs.Ytpdenloeacaadaa.E
