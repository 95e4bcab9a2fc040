/- Plain law: fields set in a record, by key. No conditions. -/
import Derived.Test.YtnmbglnenmhpiaaDoorBSF
import Derived.Test.YtnmbglnenmhpiaaDoorStoreP
namespace Go.Proofs.YtnmbglnenmhpiaaDoor.E
open Go
set_option linter.unusedSimpArgs false
set_option linter.unusedVariables false
set_option linter.unusedSectionVars false
set_option maxRecDepth 20000
/-- The fields, with f at its key. -/
def setL (l : List Fd) (f : Fd) : List Fd := l.filter (fun h => sLt h.key f.key) ++ [f] ++ l.filter (fun h => sLt f.key h.key)
theorem mem_setL {l : List Fd} {f h : Fd} : h ∈ setL l f ↔ h = f ∨ (h ∈ l ∧ h.key ≠ f.key) := by
  unfold setL
  simp only [List.mem_append, List.mem_filter, List.mem_singleton]
  constructor
  · rintro ((⟨h1, h2⟩ | h1) | ⟨h1, h2⟩)
    · exact .inr ⟨h1, sLt_ne h2⟩
    · exact .inl h1
    · exact .inr ⟨h1, fun e => sLt_ne h2 e.symm⟩
  · rintro (h1 | ⟨h1, h2⟩)
    · exact .inl (.inr h1)
    · rcases sLt_tri h.key f.key with h3 | h3 | h3
      · exact .inl (.inl ⟨h1, h3⟩)
      · exact absurd h3 h2
      · exact .inr ⟨h1, h3⟩
theorem up_setL {l : List Fd} {f : Fd} (hs : KeysUp l) : KeysUp (setL l f) := by
  unfold setL KeysUp
  rw [List.pairwise_append, List.pairwise_append]
  refine ⟨⟨hs.filter _, List.pairwise_singleton _ _, fun a ha b hb => ?_⟩, hs.filter _, fun a ha b hb => ?_⟩
  · simp only [List.mem_singleton] at hb
    subst hb
    exact (List.mem_filter.1 ha).2
  · have hb2 := (List.mem_filter.1 hb).2
    rcases List.mem_append.1 ha with ha | ha
    · exact sLt_trans (List.mem_filter.1 ha).2 hb2
    · simp only [List.mem_singleton] at ha
      subst ha
      exact hb2
/-- Fields in order of keys are told by which they are. -/
theorem keys_ext : ∀ {l m : List Fd}, KeysUp l → KeysUp m → (∀ x, x ∈ l ↔ x ∈ m) → l = m
  | [], [], _, _, _ => rfl
  | [], y :: m, _, _, h => by have := (h y).2 (by simp); cases this
  | x :: l, [], _, _, h => by have := (h x).1 (by simp); cases this
  | x :: l, y :: m, hl, hm, h => by
    have hl' := List.pairwise_cons.1 hl
    have hm' := List.pairwise_cons.1 hm
    have e : x = y := by
      rcases List.mem_cons.1 ((h x).1 (by simp)) with e | hx
      · exact e
      · rcases List.mem_cons.1 ((h y).2 (by simp)) with e | hy
        · exact e.symm
        · have := sLt_trans (hl'.1 y hy) (hm'.1 x hx)
          rw [sLt_irrefl] at this
          cases this
    subst e
    congr 1
    refine keys_ext hl'.2 hm'.2 fun z => ?_
    constructor
    · intro hz
      rcases List.mem_cons.1 ((h z).1 (List.mem_cons_of_mem _ hz)) with e | hz2
      · subst e
        have := hl'.1 z hz
        rw [sLt_irrefl] at this
        cases this
      · exact hz2
    · intro hz
      rcases List.mem_cons.1 ((h z).2 (List.mem_cons_of_mem _ hz)) with e | hz2
      · subst e
        have := hm'.1 z hz
        rw [sLt_irrefl] at this
        cases this
      · exact hz2
theorem keys_inj {l : List Fd} (hs : KeysUp l) {f g : Fd} (hf : f ∈ l) (hg : g ∈ l) (e : f.key = g.key) : f = g := by
  obtain ⟨i, hi⟩ := List.getElem?_of_mem hf
  obtain ⟨j, hj⟩ := List.getElem?_of_mem hg
  obtain ⟨a1, a2⟩ := List.getElem?_eq_some_iff.1 hi
  obtain ⟨b1, b2⟩ := List.getElem?_eq_some_iff.1 hj
  rcases Nat.lt_trichotomy i j with h | h | h
  · have := List.pairwise_iff_getElem.1 hs i j a1 b1 h
    rw [a2, b2, e, sLt_irrefl] at this
    cases this
  · subst h; rw [hi] at hj; cases hj; rfl
  · have := List.pairwise_iff_getElem.1 hs j i b1 a1 h
    rw [a2, b2, e, sLt_irrefl] at this
    cases this
theorem setL_same (l : List Fd) (f g : Fd) (hs : KeysUp l) (e : g.key = f.key) : setL (setL l f) g = setL l g := by
  refine keys_ext (up_setL (up_setL hs)) (up_setL hs) fun x => ?_
  rw [mem_setL, mem_setL, mem_setL]
  constructor
  · rintro (h | ⟨h | ⟨h1, h2⟩, h3⟩)
    · exact .inl h
    · exact absurd (by rw [h, e]) h3
    · exact .inr ⟨h1, h3⟩
  · rintro (h | ⟨h1, h2⟩)
    · exact .inl h
    · exact .inr ⟨.inr ⟨h1, by rw [← e]; exact h2⟩, h2⟩
theorem setL_comm (l : List Fd) (f g : Fd) (hs : KeysUp l) (e : g.key ≠ f.key) : setL (setL l f) g = setL (setL l g) f := by
  refine keys_ext (up_setL (up_setL hs)) (up_setL (up_setL hs)) fun x => ?_
  simp only [mem_setL]
  constructor
  · rintro (h | ⟨h | ⟨h1, h2⟩, h3⟩)
    · exact .inr ⟨.inl h, by rw [h]; exact e⟩
    · exact .inl h
    · exact .inr ⟨.inr ⟨h1, h3⟩, h2⟩
  · rintro (h | ⟨h | ⟨h1, h2⟩, h3⟩)
    · exact .inr ⟨.inl h, by rw [h]; exact fun q => e q.symm⟩
    · exact .inl h
    · exact .inr ⟨.inr ⟨h1, h3⟩, h2⟩
/-! ### What the code does -/
theorem take_pos {k : ByteArray} {l : List Fd} (hs : KeysUp l) : l.take (posF k l) = l.filter (fun h => sLt h.key k) ∧ l.drop (posF k l) = l.filter (fun h => !sLt h.key k) := by
  induction l with
  | nil => exact ⟨rfl, rfl⟩
  | cons g l ih =>
    have hs' := List.pairwise_cons.1 hs
    cases e : sLt g.key k with
    | true =>
      have e2 : posF k (g :: l) = posF k l + 1 := by unfold posF; rw [List.filter_cons, e]; rfl
      rw [e2, List.take_succ_cons, List.drop_succ_cons, List.filter_cons, List.filter_cons, e, (ih hs'.2).1, (ih hs'.2).2]
      exact ⟨rfl, rfl⟩
    | false =>
      have all : ∀ h ∈ g :: l, sLt h.key k = false := fun h hh => by
        rcases List.mem_cons.1 hh with e2 | hh
        · rw [e2]; exact e
        · exact sLt_of_ge e (hs'.1 h hh)
      rw [posF_zero hs e, List.take_zero, List.drop_zero]
      refine ⟨(List.filter_eq_nil_iff.2 fun h hh => by rw [all h hh]; simp).symm, (List.filter_eq_self.2 fun h hh => by rw [all h hh]; rfl).symm⟩
theorem set_at {l : List Fd} {f : Fd} (hs : KeysUp l) (ha : (l.any fun g => decide (g.key = f.key)) = true) : l.set (posF f.key l) f = setL l f ∧ posF f.key l < l.length := by
  obtain ⟨h1, h2⟩ := take_pos (k := f.key) hs
  have hlt : posF f.key l < l.length := Classical.byContradiction fun hn => by
    rw [any_none hs (by omega)] at ha
    cases ha
  refine ⟨?_, hlt⟩
  obtain ⟨g, hg⟩ := lt_get hlt
  have hk : g.key = f.key := by rw [any_at hs hg, decide_eq_true_eq] at ha; exact ha
  obtain ⟨a1, a2⟩ := List.getElem?_eq_some_iff.1 hg
  have hd : l.drop (posF f.key l) = g :: l.drop (posF f.key l + 1) := by rw [List.drop_eq_getElem_cons hlt, a2]
  have hrest : l.drop (posF f.key l + 1) = l.filter (fun h => sLt f.key h.key) := by
    have hp : KeysUp (g :: l.drop (posF f.key l + 1)) := by rw [← hd]; exact List.Pairwise.drop hs
    have hgt := (List.pairwise_cons.1 hp).1
    have e : l.filter (fun h => sLt f.key h.key) = (l.take (posF f.key l)).filter (fun h => sLt f.key h.key) ++ (l.drop (posF f.key l)).filter (fun h => sLt f.key h.key) := by
      rw [← List.filter_append, List.take_append_drop]
    rw [e, hd, List.filter_cons]
    have e1 : (l.take (posF f.key l)).filter (fun h => sLt f.key h.key) = [] := by
      rw [List.filter_eq_nil_iff]
      intro h hh
      rw [h1] at hh
      rw [sLt_asymm (List.mem_filter.1 hh).2]
      simp
    have e2 : sLt f.key g.key = false := by rw [hk]; exact sLt_irrefl _
    have e3 : (l.drop (posF f.key l + 1)).filter (fun h => sLt f.key h.key) = l.drop (posF f.key l + 1) := by
      rw [List.filter_eq_self]
      intro h hh
      rw [← hk]
      exact hgt h hh
    rw [e1, e2, if_neg (by simp), e3, List.nil_append]
  rw [List.set_eq_take_append_cons_drop, if_pos hlt, hrest, h1]
  unfold setL
  simp
theorem ins_at {l : List Fd} {f : Fd} (hs : KeysUp l) (ha : (l.any fun g => decide (g.key = f.key)) = false) : l.take (posF f.key l) ++ [f] ++ l.drop (posF f.key l) = setL l f := by
  obtain ⟨h1, h2⟩ := take_pos (k := f.key) hs
  rw [h1, h2]
  unfold setL
  congr 1
  apply List.filter_congr
  intro h hh
  have hne : h.key ≠ f.key := fun e => by
    have : (l.any fun g => decide (g.key = f.key)) = true := List.any_eq_true.2 ⟨h, hh, by simp [e]⟩
    rw [ha] at this
    cases this
  rcases sLt_tri h.key f.key with h3 | h3 | h3
  · rw [h3, sLt_asymm h3]; rfl
  · exact absurd h3 hne
  · rw [h3, sLt_asymm h3]; rfl
theorem posF_le (k : ByteArray) (l : List Fd) : posF k l ≤ l.length := List.length_filter_le _ _
/-! ### Records -/
def setE (r : Rc) (f : Fd) : Int := if chkRec r = 0 then (if idOk f.key && valOk f.val then (if (r.fields.any fun g => decide (g.key = f.key)) then 0 else (if r.fields.length = 6 then 2 else 0)) else 3) else chkRec r
theorem fOk_iff {l : List Fd} : ∀ {p : Option ByteArray}, fOk p l = true ↔ KeysUp l ∧ (∀ f ∈ l, idOk f.key = true ∧ valOk f.val = true) ∧ (∀ k, p = some k → ∀ f ∈ l, sLt k f.key = true) := by
  induction l with
  | nil => intro p; simp [fOk, KeysUp]
  | cons g l ih =>
    intro p
    simp only [fOk, Bool.and_eq_true, ih]
    have ha : aft p g.key = true ↔ ∀ k, p = some k → sLt k g.key = true := by
      unfold aft
      cases p <;> simp
    rw [ha]
    unfold KeysUp
    rw [List.pairwise_cons]
    constructor
    · rintro ⟨h1, h2, h3, h4, h5, h6⟩
      refine ⟨⟨h6 g.key rfl, h4⟩, fun f hf => ?_, fun k hk f hf => ?_⟩
      · rcases List.mem_cons.1 hf with e | hf
        · rw [e]; exact ⟨h1, h2⟩
        · exact h5 f hf
      · rcases List.mem_cons.1 hf with e | hf
        · rw [e]; exact h3 k hk
        · exact sLt_trans (h3 k hk) (h6 g.key rfl f hf)
    · rintro ⟨⟨h1, h2⟩, h3, h4⟩
      refine ⟨(h3 g (by simp)).1, (h3 g (by simp)).2, fun k hk => h4 k hk g (by simp), h2, fun f hf => h3 f (by simp [hf]), fun k hk f hf => ?_⟩
      cases hk
      exact h1 f hf
theorem rec_up {r : Rc} (h : chkRec r = 0) : KeysUp r.fields ∧ r.fields.length ≤ 6 ∧ r.refs.length ≤ 4 := by
  have h := chkRec_iff.1 h
  exact ⟨(fOk_iff.1 h.2.2.2.2.1).1, h.2.2.1, h.2.2.2.1⟩
theorem len_set_any {l : List Fd} {f : Fd} (hs : KeysUp l) (ha : (l.any fun g => decide (g.key = f.key)) = true) : (setL l f).length = l.length := by
  rw [← (set_at hs ha).1, List.length_set]
theorem len_set_none {l : List Fd} {f : Fd} (hs : KeysUp l) (ha : (l.any fun g => decide (g.key = f.key)) = false) : (setL l f).length = l.length + 1 := by
  rw [← ins_at hs ha]
  have := posF_le f.key l
  simp only [List.length_append, List.length_take, List.length_drop, List.length_singleton]
  omega
theorem setE_inv {r : Rc} {f : Fd} (h : setE r f = 0) : chkRec r = 0 ∧ idOk f.key = true ∧ valOk f.val = true ∧ ((r.fields.any fun g => decide (g.key = f.key)) = true ∨ r.fields.length ≠ 6) := by
  unfold setE at h
  split at h
  · rename_i h1
    split at h
    · rename_i h2
      rw [Bool.and_eq_true] at h2
      refine ⟨h1, h2.1, h2.2, ?_⟩
      split at h
      · rename_i h3; exact .inl h3
      · split at h
        · cases h
        · rename_i h4; exact .inr h4
    · cases h
  · rename_i h1; exact absurd h h1
theorem setE_of {r : Rc} {f : Fd} (h1 : chkRec r = 0) (h2 : idOk f.key = true) (h3 : valOk f.val = true) (h4 : (r.fields.any fun g => decide (g.key = f.key)) = true ∨ r.fields.length ≠ 6) : setE r f = 0 := by
  unfold setE
  rw [if_pos h1, if_pos (by rw [h2, h3]; rfl)]
  rcases h4 with h4 | h4
  · rw [if_pos h4]
  · rw [if_neg h4]; split <;> rfl
abbrev setR (r : Rc) (f : Fd) : Rc := ⟨r.id, r.cats, setL r.fields f, r.refs⟩
theorem set_rec {r : Rc} {f : Fd} (h : setE r f = 0) : chkRec (setR r f) = 0 := by
  obtain ⟨h1, h2, h3, h4⟩ := setE_inv h
  have hu := rec_up h1
  have hc := chkRec_iff.1 h1
  refine chkRec_iff.2 ⟨hc.1, hc.2.1, ?_, hc.2.2.2.1, fOk_iff.2 ⟨up_setL hu.1, fun g hg => ?_, fun k hk => by cases hk⟩, hc.2.2.2.2.2⟩
  · show (setL r.fields f).length ≤ 6
    cases ha : (r.fields.any fun g => decide (g.key = f.key)) with
    | true => rw [len_set_any hu.1 ha]; exact hu.2.1
    | false =>
      rw [len_set_none hu.1 ha]
      rcases h4 with h4 | h4
      · rw [ha] at h4; cases h4
      · have := hu.2.1; omega
  · rcases mem_setL.1 hg with e | ⟨hg, _⟩
    · rw [e]; exact ⟨h2, h3⟩
    · exact (fOk_iff.1 hc.2.2.2.2.1).2.1 g hg
theorem any_set {l : List Fd} {f : Fd} {k : ByteArray} : ((setL l f).any fun g => decide (g.key = k)) = true ↔ f.key = k ∨ (l.any fun g => decide (g.key = k)) = true := by
  simp only [List.any_eq_true, decide_eq_true_eq]
  constructor
  · rintro ⟨g, hg, e⟩
    rcases mem_setL.1 hg with e2 | ⟨hg, _⟩
    · exact .inl (by rw [← e2]; exact e)
    · exact .inr ⟨g, hg, e⟩
  · rintro (e | ⟨g, hg, e⟩)
    · exact ⟨f, mem_setL.2 (.inl rfl), e⟩
    · by_cases h : g.key = f.key
      · exact ⟨f, mem_setL.2 (.inl rfl), h.symm.trans e⟩
      · exact ⟨g, mem_setL.2 (.inr ⟨hg, h⟩), e⟩
theorem len_set {l : List Fd} (f : Fd) (hs : KeysUp l) : l.length ≤ (setL l f).length ∧ (setL l f).length ≤ l.length + 1 := by
  cases ha : (l.any fun g => decide (g.key = f.key)) with
  | true => rw [len_set_any hs ha]; omega
  | false => rw [len_set_none hs ha]; omega
/-- What may be set behind another field may be set ahead of it. -/
theorem set_swap {r : Rc} {f g : Fd} (hx : setE r f = 0) (hy : setE (setR r f) g = 0) (hne : g.key ≠ f.key) : setE r g = 0 ∧ setE (setR r g) f = 0 := by
  obtain ⟨hr, hk, hv, hroom⟩ := setE_inv hx
  obtain ⟨hxr, hk2, hv2, hroom2⟩ := setE_inv hy
  obtain ⟨hu, hf6, _⟩ := rec_up hr
  have hx6 : (setL r.fields f).length ≤ 6 := (rec_up hxr).2.1
  have l1 := len_set f hu
  have hroom2 : ((setL r.fields f).any fun h => decide (h.key = g.key)) = true ∨ (setL r.fields f).length ≠ 6 := hroom2
  have hg : (r.fields.any fun h => decide (h.key = g.key)) = true ∨ (setL r.fields f).length ≠ 6 := by
    rcases hroom2 with h | h
    · rcases any_set.1 h with e | h
      · exact absurd e.symm hne
      · exact .inl h
    · exact .inr h
  have z1 : setE r g = 0 := setE_of hr hk2 hv2 (by
    rcases hg with h | h
    · exact .inl h
    · exact .inr (by omega))
  refine ⟨z1, setE_of (set_rec z1) hk hv ?_⟩
  cases hf : (r.fields.any fun h => decide (h.key = f.key)) with
  | true => exact .inl (any_set.2 (.inr hf))
  | false =>
    right
    show (setL r.fields g).length ≠ 6
    have e1 := len_set_none hu hf
    rcases hg with h | h
    · rw [len_set_any hu h]
      rcases hroom with h2 | h2
      · rw [hf] at h2; cases h2
      · exact h2
    · have := (len_set g hu).2
      omega
theorem set_again {r : Rc} {f g : Fd} (hx : setE r f = 0) (hy : setE (setR r f) g = 0) (he : g.key = f.key) : setE r g = 0 := by
  obtain ⟨hr, _, _, hroom⟩ := setE_inv hx
  obtain ⟨_, hk2, hv2, _⟩ := setE_inv hy
  exact setE_of hr hk2 hv2 (by rw [he]; exact hroom)
end Go.Proofs.YtnmbglnenmhpiaaDoor.E
