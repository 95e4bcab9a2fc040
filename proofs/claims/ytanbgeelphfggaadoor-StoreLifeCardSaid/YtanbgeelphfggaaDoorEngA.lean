/- The abstract machine of this claim, part A: abstract values, the local heap, and what they mean in a world. No conditions. -/
import Derived.Still
import Derived.Below
import Derived.Laws.Entries
import Derived.Laws.Cells
import Derived.Laws.Rows
import Derived.Laws.Sem
namespace Go.Proofs.YtanbgeelphfggaaDoor.E
open Go
set_option linter.unusedSimpArgs false
set_option linter.unusedVariables false
set_option linter.unusedSectionVars false
set_option maxRecDepth 20000

/-- A place of the local heap: handed in, or made at a temporary. -/
inductive Site where
  | e (i : Nat)
  | l (t : Nat)
  | m (t i : Nat)
  deriving DecidableEq

/-- Abstract values. -/
inductive AV where
  | val (v : Value)
  | list (k : Nat) (rows : List (List AV))
  | agg (cs : List AV)
  | tup (vs : List AV)
  | rop (cs : List AV)
  | func (f : FuncId) (cap : List AV)
  | iface (t : TypeId) (x : AV)
  | ptr (s : Site) (ver off : Nat)
  | ept (s : Site) (ver k i off : Nat)
  | own (s : Site) (ver k off len : Nat)
  | map (s : Site) (ver : Nat)
  | junk
  | dead

/-- A value that leads to no memory. -/
def plain : Value → Bool
  | .bool _ | .int _ _ | .string _ | .pointer none | .map none | .nilFunc | .nilIface => true
  | .slice none 0 0 => true
  | .tuple vs => vs.size == 0
  | _ => false

/-- What stands at a place of the local heap. -/
inductive MK where
  | i (k : IntKind)
  | s
  deriving DecidableEq
inductive Blk where
  | gone
  | cells (t : TypeId) (cs : List AV)
  | icc (t : TypeId) (cs : List AV)
  | row (t : TypeId) (k : Nat) (q : Option Nat) (rows : List (List AV))
  | ice (k : Nat) (rows : List (List AV))
  | map (t : MK) (es : List (Value × Value))

abbrev Hp := List (Site × Nat × Blk)
def Hp.get : Hp → Site → Nat × Blk
  | [], _ => (0, .gone)
  | (s', n, b) :: r, s => if s' = s then (n, b) else Hp.get r s
def Hp.set : Hp → Site → Nat → Blk → Hp
  | [], s, n, b => [(s, n, b)]
  | (s', n', b') :: r, s, n, b => if s' = s then (s, n, b) :: r else (s', n', b') :: Hp.set r s n b

theorem Hp.get_set (h : Hp) (s s' : Site) (n : Nat) (b : Blk) : (h.set s n b).get s' = if s = s' then (n, b) else h.get s' := by
  induction h with
  | nil => simp only [Hp.set, Hp.get]
  | cons x r ih =>
    obtain ⟨t, m, c⟩ := x
    simp only [Hp.set]
    by_cases e : t = s
    · subst e
      simp only [if_true, Hp.get]
      by_cases e2 : t = s' <;> simp [e2]
    · simp only [e, if_false, Hp.get, ih]
      by_cases e2 : t = s'
      · subst e2
        have : ¬ s = t := fun x => e x.symm
        simp [this]
      · simp [e2]

/-! What a value means that leads to memory that nobody writes to (the blocks of S) alone. -/
section
variable (w : World) (S : Nat → Prop)
mutual
def RV : AV → Value → Prop
  | .val u, v => v = u ∧ plain u = true
  | .list k rows, v => ∃ a cap, v = .slice a rows.length cap ∧ rows.length ≤ cap ∧ (a = none → cap = 0) ∧ (rows = [] ∨ ∃ b off, a = some ⟨b, off, none⟩ ∧ S b ∧ RVRows k rows b off)
  | .agg cs, v => ∃ vs : List Value, v = .agg vs.toArray ∧ (∀ u ∈ vs, u.oneCell' = true) ∧ RVL cs vs
  | .tup cs, v => ∃ vs : List Value, v = .tuple vs.toArray ∧ RVL cs vs
  | .rop cs, v => ∃ b off, v = .pointer (some ⟨b, off, none⟩) ∧ (cs = [] ∨ S b) ∧ RVAt cs b off
  | .func f cap, v => ∃ vs : List Value, v = .func (.func f) #[] vs.toArray ∧ RVL cap vs
  | .iface t x, v => ∃ u, v = .iface t u ∧ RV x u
  | .junk, v => v.oneCell' = true
  | .dead, _ => True
  | .ptr _ _ _, _ => False
  | .ept _ _ _ _ _, _ => False
  | .own _ _ _ _ _, _ => False
  | .map _ _, _ => False
def RVL : List AV → List Value → Prop
  | [], vs => vs = []
  | x :: xs, vs => ∃ u us, vs = u :: us ∧ RV x u ∧ RVL xs us
def RVAt : List AV → Nat → Nat → Prop
  | [], _, _ => True
  | x :: xs, b, off => (∃ u, w.cell? ⟨b, off, none⟩ = some u ∧ u.oneCell' = true ∧ RV x u) ∧ RVAt xs b (off + 1)
def RVRows (k : Nat) : List (List AV) → Nat → Nat → Prop
  | [], _, _ => True
  | r :: rs, b, off => r.length = k ∧ RVAt r b off ∧ RVRows k rs b (off + k)
end
end

theorem cell_of_heap {w w' : World} {a : Addr} (h : w'.heap[a.block]? = w.heap[a.block]?) : w'.cell? a = w.cell? a := by simp [World.cell?, h]

section
variable {w w' : World} {S S' : Nat → Prop}
mutual
theorem RV.mono (h : ∀ b, S b → S' b ∧ w'.heap[b]? = w.heap[b]?) : ∀ (a : AV) (v : Value), RV w S a v → RV w' S' a v
  | .val u, v, r => by simpa only [RV] using r
  | .list k rows, v, r => by
    simp only [RV] at r ⊢
    obtain ⟨a, cap, e, hc, hn, hr⟩ := r
    refine ⟨a, cap, e, hc, hn, ?_⟩
    rcases hr with hr | ⟨b, off, e, hs, hr⟩
    · exact .inl hr
    · exact .inr ⟨b, off, e, (h b hs).1, RVRows.mono k h rows b off hs hr⟩
  | .agg cs, v, r => by
    simp only [RV] at r ⊢
    obtain ⟨vs, e, ho, hr⟩ := r
    exact ⟨vs, e, ho, RVL.mono h cs vs hr⟩
  | .tup cs, v, r => by
    simp only [RV] at r ⊢
    obtain ⟨vs, e, hr⟩ := r
    exact ⟨vs, e, RVL.mono h cs vs hr⟩
  | .rop cs, v, r => by
    simp only [RV] at r ⊢
    obtain ⟨b, off, e, hs, hr⟩ := r
    rcases hs with hs | hs
    · subst hs
      exact ⟨b, off, e, .inl rfl, by simp only [RVAt]⟩
    · exact ⟨b, off, e, .inr (h b hs).1, RVAt.mono h cs b off hs hr⟩
  | .func f cap, v, r => by
    simp only [RV] at r ⊢
    obtain ⟨vs, e, hr⟩ := r
    exact ⟨vs, e, RVL.mono h cap vs hr⟩
  | .iface t x, v, r => by
    simp only [RV] at r ⊢
    obtain ⟨u, e, hr⟩ := r
    exact ⟨u, e, RV.mono h x u hr⟩
  | .junk, v, r => by simpa only [RV] using r
  | .dead, v, r => by simp only [RV]
  | .ptr _ _ _, _, r => by simp only [RV] at r
  | .ept _ _ _ _ _, _, r => by simp only [RV] at r
  | .own _ _ _ _ _, _, r => by simp only [RV] at r
  | .map _ _, _, r => by simp only [RV] at r
theorem RVL.mono (h : ∀ b, S b → S' b ∧ w'.heap[b]? = w.heap[b]?) : ∀ (a : List AV) (v : List Value), RVL w S a v → RVL w' S' a v
  | [], v, r => by simpa only [RVL] using r
  | x :: xs, v, r => by
    simp only [RVL] at r ⊢
    obtain ⟨u, us, e, h1, h2⟩ := r
    exact ⟨u, us, e, RV.mono h x u h1, RVL.mono h xs us h2⟩
theorem RVAt.mono (h : ∀ b, S b → S' b ∧ w'.heap[b]? = w.heap[b]?) : ∀ (a : List AV) (b off : Nat), S b → RVAt w S a b off → RVAt w' S' a b off
  | [], _, _, _, _ => by simp only [RVAt]
  | x :: xs, b, off, hs, r => by
    simp only [RVAt] at r ⊢
    obtain ⟨⟨u, e, ho, h1⟩, h2⟩ := r
    exact ⟨⟨u, by rw [cell_of_heap (a := ⟨b, off, none⟩) (h b hs).2]; exact e, ho, RV.mono h x u h1⟩, RVAt.mono h xs b (off + 1) hs h2⟩
theorem RVRows.mono (k : Nat) (h : ∀ b, S b → S' b ∧ w'.heap[b]? = w.heap[b]?) : ∀ (a : List (List AV)) (b off : Nat), S b → RVRows w S k a b off → RVRows w' S' k a b off
  | [], _, _, _, _ => by simp only [RVRows]
  | x :: xs, b, off, hs, r => by
    simp only [RVRows] at r ⊢
    obtain ⟨e, h1, h2⟩ := r
    exact ⟨e, RVAt.mono h x b off hs h1, RVRows.mono k h xs b (off + k) hs h2⟩
end
end

/-! Lists of related things. -/
section
variable {w : World} {S : Nat → Prop}
theorem RVL.length {xs : List AV} {vs : List Value} (h : RVL w S xs vs) : vs.length = xs.length := by
  induction xs generalizing vs with
  | nil => simp only [RVL] at h; subst h; rfl
  | cons x xs ih =>
    simp only [RVL] at h
    obtain ⟨u, us, rfl, _, h2⟩ := h
    simp [ih h2]
theorem RVL.get {xs : List AV} {vs : List Value} (h : RVL w S xs vs) (i : Nat) (x : AV) (hx : xs[i]? = some x) : ∃ u, vs[i]? = some u ∧ RV w S x u := by
  induction xs generalizing vs i with
  | nil => simp at hx
  | cons y xs ih =>
    simp only [RVL] at h
    obtain ⟨u, us, rfl, h1, h2⟩ := h
    cases i with
    | zero => simp at hx; subst hx; exact ⟨u, rfl, h1⟩
    | succ i => simpa using ih h2 i (by simpa using hx)
theorem RVL.append {xs ys : List AV} {vs us : List Value} (h : RVL w S xs vs) (k : RVL w S ys us) : RVL w S (xs ++ ys) (vs ++ us) := by
  induction xs generalizing vs with
  | nil => simp only [RVL] at h; subst h; simpa using k
  | cons x xs ih =>
    simp only [RVL] at h
    obtain ⟨u, us', rfl, h1, h2⟩ := h
    simp only [List.cons_append, RVL]
    exact ⟨u, us' ++ us, rfl, h1, ih h2⟩
theorem RVL.split {xs ys : List AV} {vs : List Value} (h : RVL w S (xs ++ ys) vs) : ∃ v1 v2, vs = v1 ++ v2 ∧ RVL w S xs v1 ∧ RVL w S ys v2 := by
  induction xs generalizing vs with
  | nil => exact ⟨[], vs, rfl, by simp only [RVL], by simpa using h⟩
  | cons x xs ih =>
    simp only [List.cons_append, RVL] at h
    obtain ⟨u, us, rfl, h1, h2⟩ := h
    obtain ⟨v1, v2, rfl, h3, h4⟩ := ih h2
    exact ⟨u :: v1, v2, rfl, by simp only [RVL]; exact ⟨u, v1, rfl, h1, h3⟩, h4⟩
theorem RVAt.get {xs : List AV} {b off : Nat} (h : RVAt w S xs b off) (i : Nat) (x : AV) (hx : xs[i]? = some x) : ∃ u, w.cell? ⟨b, off + i, none⟩ = some u ∧ u.oneCell' = true ∧ RV w S x u := by
  induction xs generalizing off i with
  | nil => simp at hx
  | cons y xs ih =>
    simp only [RVAt] at h
    cases i with
    | zero => simp at hx; subst hx; exact h.1
    | succ i =>
      obtain ⟨u, e, r⟩ := ih h.2 i (by simpa using hx)
      exact ⟨u, by rw [← e]; congr 2; omega, r⟩
theorem RVAt.drop {xs : List AV} {b off : Nat} (h : RVAt w S xs b off) (i : Nat) : RVAt w S (xs.drop i) b (off + i) := by
  induction xs generalizing off i with
  | nil => simp only [List.drop_nil, RVAt]
  | cons y xs ih =>
    cases i with
    | zero => simpa using h
    | succ i =>
      simp only [RVAt] at h
      have := ih h.2 i
      simp only [List.drop_succ_cons]
      rwa [show off + 1 + i = off + (i + 1) by omega] at this
/-- The cells, as a list of values. -/
theorem RVAt.vals {xs : List AV} {b off : Nat} (h : RVAt w S xs b off) : ∃ vs, RVL w S xs vs ∧ (∀ u ∈ vs, u.oneCell' = true) ∧ ∀ i v, vs[i]? = some v → w.cell? ⟨b, off + i, none⟩ = some v := by
  induction xs generalizing off with
  | nil => exact ⟨[], by simp only [RVL], fun u hu => by simp at hu, fun i v e => by simp at e⟩
  | cons y xs ih =>
    simp only [RVAt] at h
    obtain ⟨⟨u, e, ho, r⟩, h2⟩ := h
    obtain ⟨vs, h3, ho2, h4⟩ := ih h2
    refine ⟨u :: vs, by simp only [RVL]; exact ⟨u, vs, rfl, r, h3⟩, fun x hx => ?_, fun i v hv => ?_⟩
    · rcases List.mem_cons.1 hx with rfl | hx
      · exact ho
      · exact ho2 x hx
    cases i with
    | zero => simp at hv; subst hv; exact e
    | succ i =>
      have := h4 i v (by simpa using hv)
      rwa [show off + 1 + i = off + (i + 1) by omega] at this
theorem RVAt.of_vals {xs : List AV} {b off : Nat} {vs : List Value} (h : RVL w S xs vs) (ho : ∀ u ∈ vs, u.oneCell' = true) (hc : ∀ i v, vs[i]? = some v → w.cell? ⟨b, off + i, none⟩ = some v) : RVAt w S xs b off := by
  induction xs generalizing off vs with
  | nil => simp only [RVAt]
  | cons y xs ih =>
    simp only [RVL] at h
    obtain ⟨u, us, rfl, h1, h2⟩ := h
    simp only [RVAt]
    refine ⟨⟨u, by simpa using hc 0 u rfl, ho u (by simp), h1⟩, ih h2 (fun x hx => ho x (by simp [hx])) fun i v hv => ?_⟩
    have := hc (i + 1) v (by simpa using hv)
    rwa [show off + (i + 1) = off + 1 + i by omega] at this
theorem RVRows.get {k : Nat} {xs : List (List AV)} {b off : Nat} (h : RVRows w S k xs b off) (i : Nat) (x : List AV) (hx : xs[i]? = some x) : x.length = k ∧ RVAt w S x b (off + i * k) := by
  induction xs generalizing off i with
  | nil => simp at hx
  | cons y xs ih =>
    simp only [RVRows] at h
    cases i with
    | zero => simp at hx; subst hx; exact ⟨h.1, by simpa using h.2.1⟩
    | succ i =>
      obtain ⟨e, r⟩ := ih h.2.2 i (by simpa using hx)
      exact ⟨e, by rwa [show off + k + i * k = off + (i + 1) * k by rw [Nat.add_mul]; omega] at r⟩
theorem RVRows.drop {k : Nat} {xs : List (List AV)} {b off : Nat} (h : RVRows w S k xs b off) (i : Nat) : RVRows w S k (xs.drop i) b (off + i * k) := by
  induction xs generalizing off i with
  | nil => simp only [List.drop_nil, RVRows]
  | cons y xs ih =>
    cases i with
    | zero => simpa using h
    | succ i =>
      simp only [RVRows] at h
      have := ih h.2.2 i
      simp only [List.drop_succ_cons]
      rwa [show off + k + i * k = off + (i + 1) * k by rw [Nat.add_mul]; omega] at this
theorem RVRows.take {k : Nat} {xs : List (List AV)} {b off : Nat} (h : RVRows w S k xs b off) (i : Nat) : RVRows w S k (xs.take i) b off := by
  induction xs generalizing off i with
  | nil => simp only [List.take_nil, RVRows]
  | cons y xs ih =>
    cases i with
    | zero => simp only [List.take_zero, RVRows]
    | succ i =>
      simp only [RVRows] at h
      simp only [List.take_succ_cons, RVRows]
      exact ⟨h.1, h.2.1, ih h.2.2 i⟩
/-- Rows side by side are one row of cells. -/
theorem RVRows.flat {k : Nat} {xs : List (List AV)} {b off : Nat} (h : RVRows w S k xs b off) : RVAt w S xs.flatten b off := by
  induction xs generalizing off with
  | nil => simp only [List.flatten_nil, RVAt]
  | cons y xs ih =>
    simp only [RVRows] at h
    obtain ⟨e, h1, h2⟩ := h
    have h3 := ih h2
    simp only [List.flatten_cons]
    clear ih h2
    induction y generalizing off k with
    | nil =>
      simp only [List.length_nil] at e
      subst e
      simpa using h3
    | cons z y ih =>
      simp only [List.cons_append, RVAt] at h1 ⊢
      refine ⟨h1.1, ih (k := k - 1) (by simp only [List.length_cons] at e; omega) h1.2 ?_⟩
      rwa [show off + 1 + (k - 1) = off + k by simp only [List.length_cons] at e; omega]
theorem RVRows.of_flat {k : Nat} {xs : List (List AV)} {b off : Nat} (hk : ∀ x ∈ xs, x.length = k) (h : RVAt w S xs.flatten b off) : RVRows w S k xs b off := by
  induction xs generalizing off with
  | nil => simp only [RVRows]
  | cons y xs ih =>
    simp only [List.flatten_cons] at h
    have e := hk y (by simp)
    have key : ∀ (y : List AV) (off : Nat), RVAt w S (y ++ xs.flatten) b off → RVAt w S y b off ∧ RVAt w S xs.flatten b (off + y.length) := by
      intro y
      induction y with
      | nil => intro off h; exact ⟨by simp only [RVAt], by simpa using h⟩
      | cons z y ih =>
        intro off h
        simp only [List.cons_append, RVAt] at h ⊢
        obtain ⟨h1, h2⟩ := ih _ h.2
        refine ⟨⟨h.1, h1⟩, ?_⟩
        rwa [show off + (z :: y).length = off + 1 + y.length by simp only [List.length_cons]; omega]
    obtain ⟨h1, h2⟩ := key y off h
    simp only [RVRows]
    exact ⟨e, h1, ih (fun x hx => hk x (by simp [hx])) (by rwa [e] at h2)⟩
end
end Go.Proofs.YtanbgeelphfggaaDoor.E
