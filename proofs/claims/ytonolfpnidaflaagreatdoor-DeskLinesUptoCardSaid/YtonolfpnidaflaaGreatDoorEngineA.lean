/- The abstract machine of this claim: parts A B C D E F G H I. No conditions. -/
import Derived.Still
import Derived.Below
import Derived.Laws.Entries
import Derived.Laws.Cells
import Derived.Laws.Rows
import Derived.Laws.Sem
import Derived.Laws.AppendOwn
import Derived.Laws.Slices
import Derived.Laws.Small
import Derived.Laws.StructEq
import Derived.Laws.OwnMore
import Derived.Maps.AppendAt
import Derived.Deep.AppendSrc
import Derived.Laws.IdiomStrings
import Derived.Lib.ItoaNum
/- The abstract machine of this claim, part A: abstract values, the local heap, and what they mean in a world. No conditions. -/
namespace Go.Proofs.YtonolfpnidaflaaGreatDoor.E
open Go
set_option linter.unusedSimpArgs false
set_option linter.unusedVariables false
set_option linter.unusedSectionVars false
set_option maxRecDepth 20000

/-- A place of the local heap: handed in, or made at a temporary. -/
inductive Site where
 | e (i : Nat)
 | l (t : Nat)
 | m (t i : Nat)
 deriving DecidableEq

/-- Abstract values. -/
inductive AV where
 | val (v : Value)
 | list (k : Nat) (rows : List (List AV))
 | agg (cs : List AV)
 | tup (vs : List AV)
 | rop (cs : List AV)
 | func (f : FuncId) (cap : List AV)
 | iface (t : TypeId) (x : AV)
 | ptr (s : Site) (ver off : Nat)
 | ept (s : Site) (ver k i off : Nat)
 | own (s : Site) (ver k off len : Nat)
 | map (s : Site) (ver : Nat)
 | junk
 | dead

/-- A value that leads to no memory. -/
def plain : Value → Bool
 | .bool _ | .int _ _ | .string _ | .pointer none | .map none | .nilFunc | .nilIface => true
 | .slice _ _ _ => true
 | .tuple vs => vs.size == 0
 | _ => false

/-- What stands at a place of the local heap. -/
inductive MK where
 | i (k : IntKind)
 | s
 deriving DecidableEq
inductive Blk where
 | gone
 | cells (t : TypeId) (cs : List AV)
 | icc (t : TypeId) (cs : List AV)
 | row (t : TypeId) (k : Nat) (q : Option Nat) (rows : List (List AV))
 | ice (k : Nat) (rows : List (List AV))
 | rowx (t : TypeId) (k : Nat) (cs : List AV)
 | sem (R : Option (Nat × Nat) → (Nat → Prop) → World → Prop)
 | map (t : MK) (es : List (Value × Value))

abbrev Hp := List (Site × Nat × Blk)
def Hp.get : Hp → Site → Nat × Blk
 | [], _ => (0, .gone)
 | (s', n, b) :: r, s => if s' = s then (n, b) else Hp.get r s
def Hp.set : Hp → Site → Nat → Blk → Hp
 | [], s, n, b => [(s, n, b)]
 | (s', n', b') :: r, s, n, b => if s' = s then (s, n, b) :: r else (s', n', b') :: Hp.set r s n b

theorem Hp.get_set (h : Hp) (s s' : Site) (n : Nat) (b : Blk) : (h.set s n b).get s' = if s = s' then (n, b) else h.get s' := by
 induction h with
 | nil => simp only [Hp.set, Hp.get]
 | cons x r ih =>
  obtain ⟨t, m, c⟩ := x
  simp only [Hp.set]
  by_cases e : t = s
  ·subst e
   simp only [if_true, Hp.get]
   by_cases e2 : t = s' <;> simp [e2]
  ·simp only [e, if_false, Hp.get, ih]
   by_cases e2 : t = s'
   ·subst e2
    have : ¬ s = t := fun x => e x.symm
    simp [this]
   ·simp [e2]

/-! What a value means that leads to memory that nobody writes to (the blocks of S) alone. -/
section
variable (w : World) (S : Nat → Prop)
mutual
def RV : AV → Value → Prop
 | .val u, v => v = u ∧ plain u = true
 | .list k rows, v => ∃ a cap, v = .slice a rows.length cap ∧ rows.length ≤ cap ∧ (a = none → cap = 0) ∧ (rows = [] ∨ ∃ b off, a = some ⟨b, off, none⟩ ∧ S b ∧ RVRows k rows b off)
 | .agg cs, v => ∃ vs : List Value, v = .agg vs.toArray ∧ (∀ u ∈ vs, u.oneCell' = true) ∧ RVL cs vs
 | .tup cs, v => ∃ vs : List Value, v = .tuple vs.toArray ∧ RVL cs vs
 | .rop cs, v => ∃ b off, v = .pointer (some ⟨b, off, none⟩) ∧ (cs = [] ∨ S b) ∧ RVAt cs b off
 | .func f cap, v => ∃ vs : List Value, v = .func (.func f) #[] vs.toArray ∧ RVL cap vs
 | .iface t x, v => ∃ u, v = .iface t u ∧ RV x u
 | .junk, v => v.oneCell' = true
 | .dead, _ => True
 | .ptr _ _ _, _ => False
 | .ept _ _ _ _ _, _ => False
 | .own _ _ _ _ _, _ => False
 | .map _ _, _ => False
def RVL : List AV → List Value → Prop
 | [], vs => vs = []
 | x :: xs, vs => ∃ u us, vs = u :: us ∧ RV x u ∧ RVL xs us
def RVAt : List AV → Nat → Nat → Prop
 | [], _, _ => True
 | x :: xs, b, off => (∃ u, w.cell? ⟨b, off, none⟩ = some u ∧ u.oneCell' = true ∧ RV x u) ∧ RVAt xs b (off + 1)
def RVRows (k : Nat) : List (List AV) → Nat → Nat → Prop
 | [], _, _ => True
 | r :: rs, b, off => r.length = k ∧ RVAt r b off ∧ RVRows k rs b (off + k)
end
end

theorem cell_of_heap {w w' : World} {a : Addr} (h : w'.heap[a.block]? = w.heap[a.block]?) : w'.cell? a = w.cell? a := by simp [World.cell?, h]

section
variable {w w' : World} {S S' : Nat → Prop}
mutual
theorem RV.mono (h : ∀ b, S b → S' b ∧ w'.heap[b]? = w.heap[b]?) : ∀ (a : AV) (v : Value), RV w S a v → RV w' S' a v
 | .val u, v, r => by simpa only [RV] using r
 | .list k rows, v, r => by
  simp only [RV] at r ⊢
  obtain ⟨a, cap, e, hc, hn, hr⟩ := r
  refine ⟨a, cap, e, hc, hn, ?_⟩
  rcases hr with hr | ⟨b, off, e, hs, hr⟩
  ·exact .inl hr
  ·exact .inr ⟨b, off, e, (h b hs).1, RVRows.mono k h rows b off hs hr⟩
 | .agg cs, v, r => by
  simp only [RV] at r ⊢
  obtain ⟨vs, e, ho, hr⟩ := r
  exact ⟨vs, e, ho, RVL.mono h cs vs hr⟩
 | .tup cs, v, r => by
  simp only [RV] at r ⊢
  obtain ⟨vs, e, hr⟩ := r
  exact ⟨vs, e, RVL.mono h cs vs hr⟩
 | .rop cs, v, r => by
  simp only [RV] at r ⊢
  obtain ⟨b, off, e, hs, hr⟩ := r
  rcases hs with hs | hs
  ·subst hs
   exact ⟨b, off, e, .inl rfl, by simp only [RVAt]⟩
  ·exact ⟨b, off, e, .inr (h b hs).1, RVAt.mono h cs b off hs hr⟩
 | .func f cap, v, r => by
  simp only [RV] at r ⊢
  obtain ⟨vs, e, hr⟩ := r
  exact ⟨vs, e, RVL.mono h cap vs hr⟩
 | .iface t x, v, r => by
  simp only [RV] at r ⊢
  obtain ⟨u, e, hr⟩ := r
  exact ⟨u, e, RV.mono h x u hr⟩
 | .junk, v, r => by simpa only [RV] using r
 | .dead, v, r => by simp only [RV]
 | .ptr _ _ _, _, r => by simp only [RV] at r
 | .ept _ _ _ _ _, _, r => by simp only [RV] at r
 | .own _ _ _ _ _, _, r => by simp only [RV] at r
 | .map _ _, _, r => by simp only [RV] at r
theorem RVL.mono (h : ∀ b, S b → S' b ∧ w'.heap[b]? = w.heap[b]?) : ∀ (a : List AV) (v : List Value), RVL w S a v → RVL w' S' a v
 | [], v, r => by simpa only [RVL] using r
 | x :: xs, v, r => by
  simp only [RVL] at r ⊢
  obtain ⟨u, us, e, h1, h2⟩ := r
  exact ⟨u, us, e, RV.mono h x u h1, RVL.mono h xs us h2⟩
theorem RVAt.mono (h : ∀ b, S b → S' b ∧ w'.heap[b]? = w.heap[b]?) : ∀ (a : List AV) (b off : Nat), S b → RVAt w S a b off → RVAt w' S' a b off
 | [], _, _, _, _ => by simp only [RVAt]
 | x :: xs, b, off, hs, r => by
  simp only [RVAt] at r ⊢
  obtain ⟨⟨u, e, ho, h1⟩, h2⟩ := r
  exact ⟨⟨u, by rw [cell_of_heap (a := ⟨b, off, none⟩) (h b hs).2]; exact e, ho, RV.mono h x u h1⟩, RVAt.mono h xs b (off + 1) hs h2⟩
theorem RVRows.mono (k : Nat) (h : ∀ b, S b → S' b ∧ w'.heap[b]? = w.heap[b]?) : ∀ (a : List (List AV)) (b off : Nat), S b → RVRows w S k a b off → RVRows w' S' k a b off
 | [], _, _, _, _ => by simp only [RVRows]
 | x :: xs, b, off, hs, r => by
  simp only [RVRows] at r ⊢
  obtain ⟨e, h1, h2⟩ := r
  exact ⟨e, RVAt.mono h x b off hs h1, RVRows.mono k h xs b (off + k) hs h2⟩
end
end

/-! Lists of related things. -/
section
variable {w : World} {S : Nat → Prop}
theorem RVL.length {xs : List AV} {vs : List Value} (h : RVL w S xs vs) : vs.length = xs.length := by
 induction xs generalizing vs with
 | nil => simp only [RVL] at h; subst h; rfl
 | cons x xs ih =>
  simp only [RVL] at h
  obtain ⟨u, us, rfl, _, h2⟩ := h
  simp [ih h2]
theorem RVL.get {xs : List AV} {vs : List Value} (h : RVL w S xs vs) (i : Nat) (x : AV) (hx : xs[i]? = some x) : ∃ u, vs[i]? = some u ∧ RV w S x u := by
 induction xs generalizing vs i with
 | nil => simp at hx
 | cons y xs ih =>
  simp only [RVL] at h
  obtain ⟨u, us, rfl, h1, h2⟩ := h
  cases i with
  | zero => simp at hx; subst hx; exact ⟨u, rfl, h1⟩
  | succ i => simpa using ih h2 i (by simpa using hx)
theorem RVL.append {xs ys : List AV} {vs us : List Value} (h : RVL w S xs vs) (k : RVL w S ys us) : RVL w S (xs ++ ys) (vs ++ us) := by
 induction xs generalizing vs with
 | nil => simp only [RVL] at h; subst h; simpa using k
 | cons x xs ih =>
  simp only [RVL] at h
  obtain ⟨u, us', rfl, h1, h2⟩ := h
  simp only [List.cons_append, RVL]
  exact ⟨u, us' ++ us, rfl, h1, ih h2⟩
theorem RVL.split {xs ys : List AV} {vs : List Value} (h : RVL w S (xs ++ ys) vs) : ∃ v1 v2, vs = v1 ++ v2 ∧ RVL w S xs v1 ∧ RVL w S ys v2 := by
 induction xs generalizing vs with
 | nil => exact ⟨[], vs, rfl, by simp only [RVL], by simpa using h⟩
 | cons x xs ih =>
  simp only [List.cons_append, RVL] at h
  obtain ⟨u, us, rfl, h1, h2⟩ := h
  obtain ⟨v1, v2, rfl, h3, h4⟩ := ih h2
  exact ⟨u :: v1, v2, rfl, by simp only [RVL]; exact ⟨u, v1, rfl, h1, h3⟩, h4⟩
theorem RVAt.get {xs : List AV} {b off : Nat} (h : RVAt w S xs b off) (i : Nat) (x : AV) (hx : xs[i]? = some x) : ∃ u, w.cell? ⟨b, off + i, none⟩ = some u ∧ u.oneCell' = true ∧ RV w S x u := by
 induction xs generalizing off i with
 | nil => simp at hx
 | cons y xs ih =>
  simp only [RVAt] at h
  cases i with
  | zero => simp at hx; subst hx; exact h.1
  | succ i =>
   obtain ⟨u, e, r⟩ := ih h.2 i (by simpa using hx)
   exact ⟨u, by rw [← e]; congr 2; omega, r⟩
theorem RVAt.drop {xs : List AV} {b off : Nat} (h : RVAt w S xs b off) (i : Nat) : RVAt w S (xs.drop i) b (off + i) := by
 induction xs generalizing off i with
 | nil => simp only [List.drop_nil, RVAt]
 | cons y xs ih =>
  cases i with
  | zero => simpa using h
  | succ i =>
   simp only [RVAt] at h
   have := ih h.2 i
   simp only [List.drop_succ_cons]
   rwa [show off + 1 + i = off + (i + 1) by omega] at this
/-- The cells, as a list of values. -/
theorem RVAt.vals {xs : List AV} {b off : Nat} (h : RVAt w S xs b off) : ∃ vs, RVL w S xs vs ∧ (∀ u ∈ vs, u.oneCell' = true) ∧ ∀ i v, vs[i]? = some v → w.cell? ⟨b, off + i, none⟩ = some v := by
 induction xs generalizing off with
 | nil => exact ⟨[], by simp only [RVL], fun u hu => by simp at hu, fun i v e => by simp at e⟩
 | cons y xs ih =>
  simp only [RVAt] at h
  obtain ⟨⟨u, e, ho, r⟩, h2⟩ := h
  obtain ⟨vs, h3, ho2, h4⟩ := ih h2
  refine ⟨u :: vs, by simp only [RVL]; exact ⟨u, vs, rfl, r, h3⟩, fun x hx => ?_, fun i v hv => ?_⟩
  ·rcases List.mem_cons.1 hx with rfl | hx
   ·exact ho
   ·exact ho2 x hx
  cases i with
  | zero => simp at hv; subst hv; exact e
  | succ i =>
   have := h4 i v (by simpa using hv)
   rwa [show off + 1 + i = off + (i + 1) by omega] at this
theorem RVAt.of_vals {xs : List AV} {b off : Nat} {vs : List Value} (h : RVL w S xs vs) (ho : ∀ u ∈ vs, u.oneCell' = true) (hc : ∀ i v, vs[i]? = some v → w.cell? ⟨b, off + i, none⟩ = some v) : RVAt w S xs b off := by
 induction xs generalizing off vs with
 | nil => simp only [RVAt]
 | cons y xs ih =>
  simp only [RVL] at h
  obtain ⟨u, us, rfl, h1, h2⟩ := h
  simp only [RVAt]
  refine ⟨⟨u, by simpa using hc 0 u rfl, ho u (by simp), h1⟩, ih h2 (fun x hx => ho x (by simp [hx])) fun i v hv => ?_⟩
  have := hc (i + 1) v (by simpa using hv)
  rwa [show off + (i + 1) = off + 1 + i by omega] at this
theorem RVRows.get {k : Nat} {xs : List (List AV)} {b off : Nat} (h : RVRows w S k xs b off) (i : Nat) (x : List AV) (hx : xs[i]? = some x) : x.length = k ∧ RVAt w S x b (off + i * k) := by
 induction xs generalizing off i with
 | nil => simp at hx
 | cons y xs ih =>
  simp only [RVRows] at h
  cases i with
  | zero => simp at hx; subst hx; exact ⟨h.1, by simpa using h.2.1⟩
  | succ i =>
   obtain ⟨e, r⟩ := ih h.2.2 i (by simpa using hx)
   exact ⟨e, by rwa [show off + k + i * k = off + (i + 1) * k by rw [Nat.add_mul]; omega] at r⟩
theorem RVRows.drop {k : Nat} {xs : List (List AV)} {b off : Nat} (h : RVRows w S k xs b off) (i : Nat) : RVRows w S k (xs.drop i) b (off + i * k) := by
 induction xs generalizing off i with
 | nil => simp only [List.drop_nil, RVRows]
 | cons y xs ih =>
  cases i with
  | zero => simpa using h
  | succ i =>
   simp only [RVRows] at h
   have := ih h.2.2 i
   simp only [List.drop_succ_cons]
   rwa [show off + k + i * k = off + (i + 1) * k by rw [Nat.add_mul]; omega] at this
theorem RVRows.take {k : Nat} {xs : List (List AV)} {b off : Nat} (h : RVRows w S k xs b off) (i : Nat) : RVRows w S k (xs.take i) b off := by
 induction xs generalizing off i with
 | nil => simp only [List.take_nil, RVRows]
 | cons y xs ih =>
  cases i with
  | zero => simp only [List.take_zero, RVRows]
  | succ i =>
   simp only [RVRows] at h
   simp only [List.take_succ_cons, RVRows]
   exact ⟨h.1, h.2.1, ih h.2.2 i⟩
/-- Rows side by side are one row of cells. -/
theorem RVRows.flat {k : Nat} {xs : List (List AV)} {b off : Nat} (h : RVRows w S k xs b off) : RVAt w S xs.flatten b off := by
 induction xs generalizing off with
 | nil => simp only [List.flatten_nil, RVAt]
 | cons y xs ih =>
  simp only [RVRows] at h
  obtain ⟨e, h1, h2⟩ := h
  have h3 := ih h2
  simp only [List.flatten_cons]
  clear ih h2
  induction y generalizing off k with
  | nil =>
   simp only [List.length_nil] at e
   subst e
   simpa using h3
  | cons z y ih =>
   simp only [List.cons_append, RVAt] at h1 ⊢
   refine ⟨h1.1, ih (k := k - 1) (by simp only [List.length_cons] at e; omega) h1.2 ?_⟩
   rwa [show off + 1 + (k - 1) = off + k by simp only [List.length_cons] at e; omega]
theorem RVRows.of_flat {k : Nat} {xs : List (List AV)} {b off : Nat} (hk : ∀ x ∈ xs, x.length = k) (h : RVAt w S xs.flatten b off) : RVRows w S k xs b off := by
 induction xs generalizing off with
 | nil => simp only [RVRows]
 | cons y xs ih =>
  simp only [List.flatten_cons] at h
  have e := hk y (by simp)
  have key : ∀ (y : List AV) (off : Nat), RVAt w S (y ++ xs.flatten) b off → RVAt w S y b off ∧ RVAt w S xs.flatten b (off + y.length) := by
   intro y
   induction y with
   | nil => intro off h; exact ⟨by simp only [RVAt], by simpa using h⟩
   | cons z y ih =>
    intro off h
    simp only [List.cons_append, RVAt] at h ⊢
    obtain ⟨h1, h2⟩ := ih _ h.2
    refine ⟨⟨h.1, h1⟩, ?_⟩
    rwa [show off + (z :: y).length = off + 1 + y.length by simp only [List.length_cons]; omega]
  obtain ⟨h1, h2⟩ := key y off h
  simp only [RVRows]
  exact ⟨e, h1, ih (fun x hx => hk x (by simp [hx])) (by rwa [e] at h2)⟩
end
end Go.Proofs.YtonolfpnidaflaaGreatDoor.E

/- The abstract machine of this claim, part B: the local heap's meaning; how it turns. No conditions. -/
namespace Go.Proofs.YtonolfpnidaflaaGreatDoor.E
open Go
set_option linter.unusedSimpArgs false
set_option linter.unusedVariables false
set_option linter.unusedSectionVars false
set_option maxRecDepth 20000

/-- The meaning of the local heap's places in a world. -/
structure Cx where
 cur : Site → Nat
 loc : Site → Option (Nat × Nat)
 lv : Site → Bool
 ex : Site → Nat → Prop
 far : Nat → Prop

/-- The blocks of a place: where it lies, and what else is its own. -/
def Cx.own (c : Cx) (s : Site) (b : Nat) : Prop := (∃ cp, c.loc s = some (b, cp)) ∨ c.ex s b
theorem Cx.own_eq {c c' : Cx} {s s' : Site} (hl : c'.loc s' = c.loc s) (hx : c'.ex s' = c.ex s) (b : Nat) : c'.own s' b ↔ c.own s b := by unfold Cx.own; rw [hl, hx]
def Cx.live (c : Cx) (b : Nat) : Prop := ∃ s, c.lv s = true ∧ c.own s b
theorem Cx.live_loc {c : Cx} {s : Site} {b cp : Nat} (l : c.lv s = true) (h : c.loc s = some (b, cp)) : c.live b := ⟨s, l, .inl ⟨cp, h⟩⟩
/-- A block that nobody writes to. -/
def still (w : World) (c : Cx) (b : Nat) : Prop := b < w.heap.size ∧ ¬ c.live b ∧ ¬ c.far b

section
variable (w : World) (c : Cx)
mutual
def RelV : AV → Value → Prop
 | .val u, v => v = u ∧ plain u = true
 | .list k rows, v => RV w (still w c) (.list k rows) v
 | .rop cs, v => RV w (still w c) (.rop cs) v
 | .agg cs, v => ∃ vs : List Value, v = .agg vs.toArray ∧ (∀ u ∈ vs, u.oneCell' = true) ∧ RelL cs vs
 | .tup cs, v => ∃ vs : List Value, v = .tuple vs.toArray ∧ RelL cs vs
 | .func f cap, v => ∃ vs : List Value, v = .func (.func f) #[] vs.toArray ∧ RelL cap vs
 | .iface t x, v => ∃ u, v = .iface t u ∧ RelV x u
 | .ptr s ver off, v => ver ≤ c.cur s ∧ (ver = c.cur s → ∃ b cp, c.loc s = some (b, cp) ∧ v = .pointer (some ⟨b, off, none⟩))
 | .ept s ver k i off, v => ver ≤ c.cur s ∧ (ver = c.cur s → ∃ b cp, c.loc s = some (b, cp) ∧ v = .pointer (some ⟨b, i * k + off, none⟩))
 | .own s ver k off len, v => ver ≤ c.cur s ∧ (ver = c.cur s → match c.loc s with
   | none => off = 0 ∧ len = 0 ∧ v = .slice none 0 0
   | some (b, cp) => off + len ≤ cp ∧ ∃ a, v = .slice (some a) len (cp - off) ∧ (off < cp ∨ off = 0 → a = ⟨b, off * k, none⟩))
 | .map s ver, v => ver ≤ c.cur s ∧ (ver = c.cur s → ∃ b cp, c.loc s = some (b, cp) ∧ v = .map (some b))
 | .junk, v => v.oneCell' = true
 | .dead, _ => True
def RelL : List AV → List Value → Prop
 | [], vs => vs = []
 | x :: xs, vs => ∃ u us, vs = u :: us ∧ RelV x u ∧ RelL xs us
end
end

/-- A later world, and what it makes of the local heap: what is still has not turned. -/
structure Ext (w : World) (c : Cx) (w' : World) (c' : Cx) : Prop where
 os : w'.os = w.os
 tape : w'.tape = w.tape
 output : w'.output = w.output
 size : w.heap.size ≤ w'.heap.size
 block : ∀ b, b < w.heap.size → ¬ c.live b → w'.heap[b]? = w.heap[b]? ∧ ¬ c'.live b
 far : c'.far = c.far
 cur : ∀ s, c.cur s < c'.cur s ∨ (c'.cur s = c.cur s ∧ c'.loc s = c.loc s ∧ (c'.lv s = true → c.lv s = true))

theorem Ext.refl (w : World) (c : Cx) : Ext w c w c :=
 ⟨rfl, rfl, rfl, Nat.le_refl _, fun _ _ h => ⟨rfl, h⟩, rfl, fun _ => .inr ⟨rfl, rfl, id⟩⟩
theorem Ext.trans {w w1 w2 : World} {c c1 c2 : Cx} (h : Ext w c w1 c1) (k : Ext w1 c1 w2 c2) : Ext w c w2 c2 where
 os := k.os.trans h.os
 tape := k.tape.trans h.tape
 output := k.output.trans h.output
 size := Nat.le_trans h.size k.size
 block b hb hn := by
  obtain ⟨e1, n1⟩ := h.block b hb hn
  obtain ⟨e2, n2⟩ := k.block b (Nat.lt_of_lt_of_le hb h.size) n1
  exact ⟨e2.trans e1, n2⟩
 far := k.far.trans h.far
 cur s := by
  rcases h.cur s with h1 | ⟨h1, h2, h3⟩ <;> rcases k.cur s with k1 | ⟨k1, k2, k3⟩
  ·exact .inl (Nat.lt_trans h1 k1)
  ·exact .inl (by omega)
  ·exact .inl (by omega)
  ·exact .inr ⟨k1.trans h1, k2.trans h2, fun x => h3 (k3 x)⟩
theorem Ext.le {w w' : World} {c c' : Cx} (h : Ext w c w' c') (s : Site) : c.cur s ≤ c'.cur s := by
 rcases h.cur s with h1 | h1 <;> omega
theorem Ext.same {w w' : World} {c c' : Cx} (h : Ext w c w' c') {s : Site} {ver : Nat} (h1 : ver ≤ c.cur s) (h2 : ver = c'.cur s) : ver = c.cur s ∧ c'.loc s = c.loc s := by
 rcases h.cur s with h3 | ⟨h3, h4, _⟩
 ·omega
 ·exact ⟨by omega, h4⟩
theorem Ext.still {w w' : World} {c c' : Cx} (h : Ext w c w' c') (b : Nat) (hs : still w c b) : still w' c' b ∧ w'.heap[b]? = w.heap[b]? :=
 ⟨⟨Nat.lt_of_lt_of_le hs.1 h.size, (h.block b hs.1 hs.2.1).2, by rw [h.far]; exact hs.2.2⟩, (h.block b hs.1 hs.2.1).1⟩
theorem Ext.drew {w w' : World} {c c' : Cx} (h : Ext w c w' c') : Ext w c w'.drew c' := ⟨h.os, h.tape, h.output, h.size, h.block, h.far, h.cur⟩

section
variable {w w' : World} {c c' : Cx}
mutual
theorem RelV.ext (h : Ext w c w' c') : ∀ (a : AV) (v : Value), RelV w c a v → RelV w' c' a v
 | .val u, v, r => by simpa only [RelV] using r
 | .list k rows, v, r => by
  simp only [RelV] at r ⊢
  exact RV.mono h.still _ _ r
 | .rop cs, v, r => by
  simp only [RelV] at r ⊢
  exact RV.mono h.still _ _ r
 | .agg cs, v, r => by
  simp only [RelV] at r ⊢
  obtain ⟨vs, e, ho, hr⟩ := r
  exact ⟨vs, e, ho, RelL.ext h cs vs hr⟩
 | .tup cs, v, r => by
  simp only [RelV] at r ⊢
  obtain ⟨vs, e, hr⟩ := r
  exact ⟨vs, e, RelL.ext h cs vs hr⟩
 | .func f cap, v, r => by
  simp only [RelV] at r ⊢
  obtain ⟨vs, e, hr⟩ := r
  exact ⟨vs, e, RelL.ext h cap vs hr⟩
 | .iface t x, v, r => by
  simp only [RelV] at r ⊢
  obtain ⟨u, e, hr⟩ := r
  exact ⟨u, e, RelV.ext h x u hr⟩
 | .ptr s ver off, v, r => by
  simp only [RelV] at r ⊢
  refine ⟨Nat.le_trans r.1 (h.le s), fun e => ?_⟩
  obtain ⟨e1, e2⟩ := h.same r.1 e
  rw [e2]
  exact r.2 e1
 | .ept s ver k i off, v, r => by
  simp only [RelV] at r ⊢
  refine ⟨Nat.le_trans r.1 (h.le s), fun e => ?_⟩
  obtain ⟨e1, e2⟩ := h.same r.1 e
  rw [e2]
  exact r.2 e1
 | .own s ver k off len, v, r => by
  simp only [RelV] at r ⊢
  refine ⟨Nat.le_trans r.1 (h.le s), fun e => ?_⟩
  obtain ⟨e1, e2⟩ := h.same r.1 e
  rw [e2]
  exact r.2 e1
 | .map s ver, v, r => by
  simp only [RelV] at r ⊢
  refine ⟨Nat.le_trans r.1 (h.le s), fun e => ?_⟩
  obtain ⟨e1, e2⟩ := h.same r.1 e
  rw [e2]
  exact r.2 e1
 | .junk, v, r => by simpa only [RelV] using r
 | .dead, v, r => by simp only [RelV]
theorem RelL.ext (h : Ext w c w' c') : ∀ (a : List AV) (v : List Value), RelL w c a v → RelL w' c' a v
 | [], v, r => by simpa only [RelL] using r
 | x :: xs, v, r => by
  simp only [RelL] at r ⊢
  obtain ⟨u, us, e, h1, h2⟩ := r
  exact ⟨u, us, e, RelV.ext h x u h1, RelL.ext h xs us h2⟩
end
mutual
/-- What leads to no place of the local heap. -/
theorem RelV.of_RV : ∀ (a : AV) (v : Value), RV w (E.still w c) a v → RelV w c a v
 | .val u, v, r => by simpa only [RelV, RV] using r
 | .list k rows, v, r => by simpa only [RelV] using r
 | .rop cs, v, r => by simpa only [RelV] using r
 | .agg cs, v, r => by
  simp only [RelV, RV] at r ⊢
  obtain ⟨vs, e, ho, hr⟩ := r
  exact ⟨vs, e, ho, RelL.of_RVL cs vs hr⟩
 | .tup cs, v, r => by
  simp only [RelV, RV] at r ⊢
  obtain ⟨vs, e, hr⟩ := r
  exact ⟨vs, e, RelL.of_RVL cs vs hr⟩
 | .func f cap, v, r => by
  simp only [RelV, RV] at r ⊢
  obtain ⟨vs, e, hr⟩ := r
  exact ⟨vs, e, RelL.of_RVL cap vs hr⟩
 | .iface t x, v, r => by
  simp only [RelV, RV] at r ⊢
  obtain ⟨u, e, hr⟩ := r
  exact ⟨u, e, RelV.of_RV x u hr⟩
 | .junk, v, r => by simpa only [RelV, RV] using r
 | .dead, v, r => by simp only [RelV]
 | .ptr _ _ _, _, r => by simp only [RV] at r
 | .ept _ _ _ _ _, _, r => by simp only [RV] at r
 | .own _ _ _ _ _, _, r => by simp only [RV] at r
 | .map _ _, _, r => by simp only [RV] at r
theorem RelL.of_RVL : ∀ (a : List AV) (v : List Value), RVL w (E.still w c) a v → RelL w c a v
 | [], v, r => by simpa only [RelL, RVL] using r
 | x :: xs, v, r => by
  simp only [RelL, RVL] at r ⊢
  obtain ⟨u, us, e, h1, h2⟩ := r
  exact ⟨u, us, e, RelV.of_RV x u h1, RelL.of_RVL xs us h2⟩
end
end

/-! Lists of related things. -/
section
variable {w : World} {c : Cx}
theorem RelL.length {xs : List AV} {vs : List Value} (h : RelL w c xs vs) : vs.length = xs.length := by
 induction xs generalizing vs with
 | nil => simp only [RelL] at h; subst h; rfl
 | cons x xs ih =>
  simp only [RelL] at h
  obtain ⟨u, us, rfl, _, h2⟩ := h
  simp [ih h2]
theorem RelL.get {xs : List AV} {vs : List Value} (h : RelL w c xs vs) (i : Nat) (x : AV) (hx : xs[i]? = some x) : ∃ u, vs[i]? = some u ∧ RelV w c x u := by
 induction xs generalizing vs i with
 | nil => simp at hx
 | cons y xs ih =>
  simp only [RelL] at h
  obtain ⟨u, us, rfl, h1, h2⟩ := h
  cases i with
  | zero => simp at hx; subst hx; exact ⟨u, rfl, h1⟩
  | succ i => simpa using ih h2 i (by simpa using hx)
theorem RelL.append {xs ys : List AV} {vs us : List Value} (h : RelL w c xs vs) (k : RelL w c ys us) : RelL w c (xs ++ ys) (vs ++ us) := by
 induction xs generalizing vs with
 | nil => simp only [RelL] at h; subst h; simpa using k
 | cons x xs ih =>
  simp only [RelL] at h
  obtain ⟨u, us', rfl, h1, h2⟩ := h
  simp only [List.cons_append, RelL]
  exact ⟨u, us' ++ us, rfl, h1, ih h2⟩
theorem RelL.split {xs ys : List AV} {vs : List Value} (h : RelL w c (xs ++ ys) vs) : ∃ v1 v2, vs = v1 ++ v2 ∧ RelL w c xs v1 ∧ RelL w c ys v2 := by
 induction xs generalizing vs with
 | nil => exact ⟨[], vs, rfl, by simp only [RelL], by simpa using h⟩
 | cons x xs ih =>
  simp only [List.cons_append, RelL] at h
  obtain ⟨u, us, rfl, h1, h2⟩ := h
  obtain ⟨v1, v2, rfl, h3, h4⟩ := ih h2
  exact ⟨u :: v1, v2, rfl, by simp only [RelL]; exact ⟨u, v1, rfl, h1, h3⟩, h4⟩
theorem RelL.drop {xs : List AV} {vs : List Value} (h : RelL w c xs vs) (n : Nat) : RelL w c (xs.drop n) (vs.drop n) := by
 induction n generalizing xs vs with
 | zero => simpa using h
 | succ n ih =>
  cases xs with
  | nil => simp only [RelL] at h; subst h; simp [RelL]
  | cons x xs =>
   simp only [RelL] at h
   obtain ⟨u, us, rfl, h1, h2⟩ := h
   simpa using ih h2
theorem RelL.take {xs : List AV} {vs : List Value} (h : RelL w c xs vs) (n : Nat) : RelL w c (xs.take n) (vs.take n) := by
 induction n generalizing xs vs with
 | zero => simp [RelL]
 | succ n ih =>
  cases xs with
  | nil => simp only [RelL] at h; subst h; simp [RelL]
  | cons x xs =>
   simp only [RelL] at h
   obtain ⟨u, us, rfl, h1, h2⟩ := h
   simp only [List.take_succ_cons, RelL]
   exact ⟨u, us.take n, rfl, h1, ih h2⟩
theorem RelL.set {xs : List AV} {vs : List Value} (h : RelL w c xs vs) (i : Nat) {x : AV} {v : Value} (hv : RelV w c x v) : RelL w c (xs.set i x) (vs.set i v) := by
 induction xs generalizing vs i with
 | nil => simp only [RelL] at h; subst h; simp [RelL]
 | cons y xs ih =>
  simp only [RelL] at h
  obtain ⟨u, us, rfl, h1, h2⟩ := h
  cases i with
  | zero => simp only [List.set_cons_zero, RelL]; exact ⟨v, us, rfl, hv, h2⟩
  | succ i => simp only [List.set_cons_succ, RelL]; exact ⟨u, us.set i v, rfl, h1, ih h2 i⟩
end

def keyIs : MK → Value → Bool
 | .i k, .int k' _ => k == k'
 | .s, .string _ => true
 | _, _ => false
def BlkOk (w : World) (c : Cx) (s : Site) : Blk → Prop
 | .gone => c.lv s = false
 | .cells t cs => c.lv s = true ∧ ∃ b cp, ∃ vs : List Value, c.loc s = some (b, cp) ∧ w.heap[b]? = some (.cells vs.toArray t (0, 0)) ∧ (∀ u ∈ vs, u.oneCell' = true) ∧ RelL w c cs vs
 | .icc _ cs => c.lv s = false ∧ ∃ b cp, c.loc s = some (b, cp) ∧ still w c b ∧ RVAt w (still w c) cs b 0
 | .row t k q rows => c.lv s = true ∧ 0 < k ∧ (∀ r ∈ rows, r.length = k) ∧ match c.loc s with
   | none => rows = [] ∧ (q = none ∨ q = some 0)
   | some (b, cp) => (q = none ∨ q = some cp) ∧ cp ≤ maxLen ∧ ∃ vs rest : List Value, w.heap[b]? = some (.cells (vs ++ rest).toArray t (0, 0)) ∧ (vs ++ rest).length = cp * k ∧ (∀ u ∈ vs ++ rest, u.oneCell' = true) ∧ RVL w (still w c) rows.flatten vs
 | .ice k rows => c.lv s = false ∧ match c.loc s with
   | none => rows = []
   | some (b, cp) => rows.length ≤ cp ∧ (rows = [] ∨ (still w c b ∧ RVRows w (still w c) k rows b 0))
 | .rowx t k cs => c.lv s = true ∧ 0 < k ∧ match c.loc s with
   | none => cs = []
   | some (b, cp) => cp ≤ maxLen ∧ ∃ vs rest : List Value, w.heap[b]? = some (.cells (vs ++ rest).toArray t (0, 0)) ∧ (vs ++ rest).length = cp * k ∧ (∀ u ∈ vs ++ rest, u.oneCell' = true) ∧ RelL w c cs vs
 | .sem R => c.lv s = true ∧ ∀ w' : World, (∀ b, c.own s b → w'.heap[b]? = w.heap[b]?) → R (c.loc s) (c.ex s) w'
 | .map t es => c.lv s = true ∧ (∀ e ∈ es, keyIs t e.1 = true ∧ plain e.2 = true) ∧ ∃ b cp ents clock, c.loc s = some (b, cp) ∧ w.heap[b]? = some (.map ents clock) ∧ ents.toList.map (fun e => (e.key, e.val)) = es

/-- The package-level variables that are told of, and what is told of them. -/
def GB : List Nat := [0, 1, 2, 3]
def GP (f : Nat → Option (Array Value)) : Prop := f 3 = some (Lib.pow10Tab.map fun z => Value.int .u64 z).toArray ∧ (∃ tp p, f 1 = some #[.iface tp p]) ∧ (∃ tp p, f 2 = some #[.iface tp p]) ∧ ∃ cs m, f 0 = some cs ∧ cs[0]? = some (.int .i64 m)
/-- The cells of a block. -/
def GC (w : World) (b : Nat) : Option (Array Value) := match w.heap[b]? with
 | some (.cells cs _ _) => some cs
 | _ => none
def Gl (w : World) (S : Nat → Prop) : Prop := (∀ b ∈ GB, S b) ∧ GP fun b => if b ∈ GB then GC w b else none
theorem Gl.mono {w w' : World} {S S' : Nat → Prop} (h : Gl w S) (hS : ∀ b, S b → S' b ∧ w'.heap[b]? = w.heap[b]?) : Gl w' S' := by
 refine ⟨fun b hb => (hS b (h.1 b hb)).1, ?_⟩
 have e : (fun b => if b ∈ GB then GC w' b else none) = (fun b => if b ∈ GB then GC w b else none) := by
  funext b
  by_cases hb : b ∈ GB
  ·rw [if_pos hb, if_pos hb, GC, GC, (hS b (h.1 b hb)).2]
  ·rw [if_neg hb, if_neg hb]
 rw [e]
 exact h.2
structure Inv (w : World) (c : Cx) (hp : Hp) : Prop where
 glob : Gl w (still w c)
 cur : ∀ s, c.cur s = (hp.get s).1
 ok : ∀ s, BlkOk w c s (hp.get s).2
 inj : ∀ s s' b, c.lv s = true → c.lv s' = true → c.own s b → c.own s' b → s = s'
 far : ∀ b, c.live b → ¬ c.far b
 lt : ∀ b, c.live b → b < w.heap.size
 farlt : ∀ b, c.far b → b < w.heap.size

theorem BlkOk.move {w w' : World} {c c' : Cx} {s : Site} {k : Blk} (h : BlkOk w c s k) (he : Ext w c w' c') (hl : c'.loc s = c.loc s) (hv : c'.lv s = c.lv s) (hx : c'.ex s = c.ex s)
  (hb' : ∀ b, c.lv s = true → c.own s b → w'.heap[b]? = w.heap[b]?) : BlkOk w' c' s k := by
 have hb : ∀ b cp, c.lv s = true → c.loc s = some (b, cp) → w'.heap[b]? = w.heap[b]? := fun b cp l o => hb' b l (.inl ⟨cp, o⟩)
 cases k with
 | gone => simp only [BlkOk] at h ⊢; rw [hv]; exact h
 | cells t cs =>
  simp only [BlkOk] at h ⊢
  obtain ⟨h1, b, cp, vs, h2, h3, ho, h4⟩ := h
  exact ⟨by rw [hv]; exact h1, b, cp, vs, by rw [hl]; exact h2, by rw [hb b cp h1 h2]; exact h3, ho, RelL.ext he cs vs h4⟩
 | icc t cs =>
  simp only [BlkOk] at h ⊢
  obtain ⟨h1, b, cp, h2, h3, h4⟩ := h
  exact ⟨by rw [hv]; exact h1, b, cp, by rw [hl]; exact h2, (he.still b h3).1, RVAt.mono he.still cs b 0 h3 h4⟩
 | row t k q rows =>
  simp only [BlkOk] at h ⊢
  obtain ⟨h1, h0, h2, h3⟩ := h
  refine ⟨by rw [hv]; exact h1, h0, h2, ?_⟩
  rw [hl]
  cases hq : c.loc s with
  | none => rw [hq] at h3; exact h3
  | some x =>
   obtain ⟨b, cp⟩ := x
   rw [hq] at h3
   obtain ⟨hcq, h3, vs, rest, h4, h5, ho, h6⟩ := h3
   exact ⟨hcq, h3, vs, rest, by rw [hb b cp h1 hq]; exact h4, h5, ho, RVL.mono he.still _ vs h6⟩
 | ice k rows =>
  simp only [BlkOk] at h ⊢
  obtain ⟨h1, h3⟩ := h
  refine ⟨by rw [hv]; exact h1, ?_⟩
  rw [hl]
  cases hq : c.loc s with
  | none => rw [hq] at h3; exact h3
  | some x =>
   obtain ⟨b, cp⟩ := x
   rw [hq] at h3
   refine ⟨h3.1, ?_⟩
   rcases h3.2 with h4 | ⟨h4, h5⟩
   ·exact .inl h4
   ·exact .inr ⟨(he.still b h4).1, RVRows.mono k he.still rows b 0 h4 h5⟩
 | rowx t k cs =>
  simp only [BlkOk] at h ⊢
  obtain ⟨h1, h0, h3⟩ := h
  refine ⟨by rw [hv]; exact h1, h0, ?_⟩
  rw [hl]
  cases hq : c.loc s with
  | none => rw [hq] at h3; exact h3
  | some x =>
   obtain ⟨b, cp⟩ := x
   rw [hq] at h3
   obtain ⟨h3, vs, rest, h4, h5, ho, h6⟩ := h3
   exact ⟨h3, vs, rest, by rw [hb b cp h1 hq]; exact h4, h5, ho, RelL.ext he cs vs h6⟩
 | sem R =>
  simp only [BlkOk] at h ⊢
  refine ⟨by rw [hv]; exact h.1, fun w2 h2 => ?_⟩
  rw [hl, hx]
  exact h.2 w2 fun b hbo => (h2 b ((Cx.own_eq hl hx b).2 hbo)).trans (hb' b h.1 hbo)
 | map t es =>
  simp only [BlkOk] at h ⊢
  obtain ⟨h1, h0, b, cp, ents, clock, h2, h3, h4⟩ := h
  exact ⟨by rw [hv]; exact h1, h0, b, cp, ents, clock, by rw [hl]; exact h2, by rw [hb b cp h1 h2]; exact h3, h4⟩

/-- All other places as they were: what is to be shown of the one that turns. -/
theorem Inv.upd {w w' : World} {c c' : Cx} {hp : Hp} (h : Inv w c hp) (he : Ext w c w' c') (s : Site) (n : Nat) (k : Blk)
  (h1 : ∀ s', s' ≠ s → c'.cur s' = c.cur s' ∧ c'.loc s' = c.loc s' ∧ c'.lv s' = c.lv s' ∧ c'.ex s' = c.ex s')
  (h2 : ∀ s' b, s' ≠ s → c.lv s' = true → c.own s' b → w'.heap[b]? = w.heap[b]?)
  (h3 : c'.cur s = n) (h4 : BlkOk w' c' s k)
  (h5 : ∀ b, c'.lv s = true → c'.own s b → b < w'.heap.size ∧ ¬ c.far b ∧ ∀ s', s' ≠ s → c.lv s' = true → ¬ c.own s' b) :
  Inv w' c' (hp.set s n k) where
 glob := h.glob.mono fun b hb => he.still b hb
 cur s' := by
  rw [Hp.get_set]
  by_cases e : s = s'
  ·subst e; simp [h3]
  ·rw [if_neg e, (h1 s' (fun x => e x.symm)).1]; exact h.cur s'
 ok s' := by
  rw [Hp.get_set]
  by_cases e : s = s'
  ·subst e; simpa using h4
  ·rw [if_neg e]
   obtain ⟨_, e2, e3, e4⟩ := h1 s' (fun x => e x.symm)
   exact (h.ok s').move he e2 e3 e4 fun b => h2 s' b (fun x => e x.symm)
 inj s1 s2 b l1 l2 o1 o2 := by
  by_cases e1 : s1 = s
  ·subst e1
   by_cases e2 : s2 = s1
   ·exact e2.symm
   ·obtain ⟨_, g2, g3, g4⟩ := h1 s2 e2
    exact absurd ((Cx.own_eq g2 g4 b).1 o2) ((h5 b l1 o1).2.2 s2 e2 (g3 ▸ l2))
  ·obtain ⟨_, f2, f3, f4⟩ := h1 s1 e1
   by_cases e2 : s2 = s
   ·subst e2
    exact absurd ((Cx.own_eq f2 f4 b).1 o1) ((h5 b l2 o2).2.2 s1 e1 (f3 ▸ l1))
   ·obtain ⟨_, g2, g3, g4⟩ := h1 s2 e2
    exact h.inj s1 s2 b (f3 ▸ l1) (g3 ▸ l2) ((Cx.own_eq f2 f4 b).1 o1) ((Cx.own_eq g2 g4 b).1 o2)
 far b := by
  rintro ⟨s', l, o⟩
  rw [he.far]
  by_cases e : s' = s
  ·subst e; exact (h5 b l o).2.1
  ·obtain ⟨_, e2, e3, e4⟩ := h1 s' e
   exact h.far b ⟨s', e3 ▸ l, (Cx.own_eq e2 e4 b).1 o⟩
 lt b := by
  rintro ⟨s', l, o⟩
  by_cases e : s' = s
  ·subst e; exact (h5 b l o).1
  ·obtain ⟨_, e2, e3, e4⟩ := h1 s' e
   exact Nat.lt_of_lt_of_le (h.lt b ⟨s', e3 ▸ l, (Cx.own_eq e2 e4 b).1 o⟩) he.size
 farlt b hb := Nat.lt_of_lt_of_le (h.farlt b (by rw [he.far] at hb; exact hb)) he.size

/-- Nothing of the local heap turns. -/
theorem Inv.ext {w w' : World} {c : Cx} {hp : Hp} (h : Inv w c hp) (he : Ext w c w' c) (hb : ∀ b, c.live b → w'.heap[b]? = w.heap[b]?) : Inv w' c hp where
 glob := h.glob.mono fun b hb => he.still b hb
 cur := h.cur
 ok s := (h.ok s).move he rfl rfl rfl fun b l o => hb b ⟨s, l, o⟩
 inj := h.inj
 far := h.far
 lt b hl := Nat.lt_of_lt_of_le (h.lt b hl) he.size
 farlt b hb := Nat.lt_of_lt_of_le (h.farlt b hb) he.size
theorem Inv.drew {w : World} {c : Cx} {hp : Hp} (h : Inv w c hp) : Inv w.drew c hp := h.ext (Ext.refl w c).drew fun _ _ => rfl

/-! A new block. -/
theorem heap_new (w : World) (o : Obj) : (w.alloc o).heap[w.heap.size]? = some o := by
 show (w.heap.push o)[w.heap.size]? = _
 simp
theorem heap_old (w : World) (o : Obj) (b : Nat) (h : b < w.heap.size) : (w.alloc o).heap[b]? = w.heap[b]? := by
 show (w.heap.push o)[b]? = _
 rw [Array.getElem?_push, if_neg (by omega)]
theorem size_alloc (w : World) (o : Obj) : (w.alloc o).heap.size = w.heap.size + 1 := by
 show (w.heap.push o).size = _
 simp

/-- The place s now lies in block b. -/
def Cx.lay (c : Cx) (s : Site) (p : Option (Nat × Nat)) : Cx :=
 { c with cur := fun s' => if s' = s then c.cur s + 1 else c.cur s', loc := fun s' => if s' = s then p else c.loc s', lv := fun s' => if s' = s then true else c.lv s', ex := fun s' b => s' ≠ s ∧ c.ex s' b }
theorem lay_own {c : Cx} {s : Site} {p : Option (Nat × Nat)} {b : Nat} (h : (c.lay s p).own s b) : ∃ cp, p = some (b, cp) := by
 rcases h with ⟨cp, h⟩ | h
 ·exact ⟨cp, by simpa [Cx.lay] using h⟩
 ·exact absurd rfl h.1
theorem lay_ex {c : Cx} {s s' : Site} {p : Option (Nat × Nat)} (h : s' ≠ s) : (c.lay s p).ex s' = c.ex s' := by funext b; simp [Cx.lay, h]
theorem lay_other {c : Cx} {s s' : Site} {p : Option (Nat × Nat)} (h : s' ≠ s) (b : Nat) : (c.lay s p).own s' b ↔ c.own s' b := Cx.own_eq (by simp [Cx.lay, h]) (lay_ex h) b

/-- A new block that nobody will write to. -/
theorem Ext.alloc_still {w : World} {c : Cx} (o : Obj) {hp : Hp} (h : Inv w c hp) : Ext w c (w.alloc o) c ∧ Inv (w.alloc o) c hp ∧ E.still (w.alloc o) c w.heap.size := by
 have he : Ext w c (w.alloc o) c := ⟨rfl, rfl, rfl, by rw [size_alloc]; omega, fun b hb hn => ⟨heap_old w o b hb, hn⟩, rfl, fun s => .inr ⟨rfl, rfl, id⟩⟩
 refine ⟨he, h.ext he fun b hb => heap_old w o b (h.lt b hb), by rw [size_alloc]; omega, fun hl => ?_, fun hl => ?_⟩
 ·have := h.lt _ hl; omega
 ·have := h.farlt _ hl; omega

/-- A place that lies anew, in a world that has turned in no old block. -/
theorem Ext.lay {w w' : World} {c : Cx} (s : Site) (p : Option (Nat × Nat)) (he : Ext w c w' c) (hp : ∀ b cp, p = some (b, cp) → w.heap.size ≤ b) : Ext w c w' (c.lay s p) := by
 refine ⟨he.os, he.tape, he.output, he.size, fun b hb hn => ⟨(he.block b hb hn).1, ?_⟩, he.far, fun s' => ?_⟩
 ·rintro ⟨s', l, e⟩
  by_cases hs : s' = s
  ·subst hs
   obtain ⟨cp', e⟩ := lay_own e
   have := hp b cp' e
   omega
  ·simp only [Cx.lay, hs, if_false] at l; exact hn ⟨s', l, (lay_other hs b).1 e⟩
 ·by_cases hs : s' = s
  ·subst hs; simp [Cx.lay]
  ·simp [Cx.lay, hs]
/-- The local heap with one place that lies anew. -/
theorem Inv.lay {w w' : World} {c : Cx} {hp : Hp} (h : Inv w c hp) (s : Site) (p : Option (Nat × Nat)) (k : Blk) (he : Ext w c w' c) (hb : ∀ b, c.live b → w'.heap[b]? = w.heap[b]?)
  (hp' : ∀ b cp, p = some (b, cp) → w.heap.size ≤ b ∧ b < w'.heap.size) (hk : BlkOk w' (c.lay s p) s k) : Ext w c w' (c.lay s p) ∧ Inv w' (c.lay s p) (hp.set s ((hp.get s).1 + 1) k) := by
 have he' := Ext.lay s p he fun b cp e => (hp' b cp e).1
 refine ⟨he', h.upd he' s _ k (fun s' hs => ⟨by simp [Cx.lay, hs], by simp [Cx.lay, hs], by simp [Cx.lay, hs], lay_ex hs⟩) (fun s' b _ l o => hb b ⟨s', l, o⟩) (by simp [Cx.lay, h.cur s]) hk fun b _ o => ?_⟩
 obtain ⟨cp, e⟩ := lay_own o
 obtain ⟨h1, h2⟩ := hp' b cp e
 exact ⟨h2, fun hf => by have := h.farlt b hf; omega, fun s' _ l o' => by have := h.lt b ⟨s', l, o'⟩; omega⟩
end Go.Proofs.YtonolfpnidaflaaGreatDoor.E

/- The abstract machine of this claim, part C: operations that leave the local heap as it is. No conditions. -/
namespace Go.Proofs.YtonolfpnidaflaaGreatDoor.E
open Go
set_option linter.unusedSimpArgs false
set_option linter.unusedVariables false
set_option linter.unusedSectionVars false
set_option maxRecDepth 20000

/-! ### What is asked of the table of types -/
def tyAgg (P : Program) (t : TypeId) : Option Bool :=
 match P.underlying t with
 | some (.struct _) | some (.array _ _) => some true
 | some _ => some false
 | none => none
def tySz (P : Program) (t : TypeId) : Option Nat := (P.info? t).map (·.size)
def tyBy (P : Program) (t : TypeId) : Option Nat := (P.info? t).map (·.bytes)
def tyEl (P : Program) (t : TypeId) : Option TypeId :=
 match P.underlying t with
 | some (.slice e) => some e
 | _ => none
def tyInt (P : Program) (t : TypeId) : Option IntKind :=
 match P.underlying t with
 | some (.int k) => some k
 | _ => none
def tyBool (P : Program) (t : TypeId) : Bool :=
 match P.underlying t with
 | some .bool => true
 | _ => false
def tyStr (P : Program) (t : TypeId) : Bool :=
 match P.underlying t with
 | some .string => true
 | _ => false
def tyZ (P : Program) (t : TypeId) : Option (List AV) :=
 match P.info? t with
 | some i => match i.zero with
  | some z => if z.cells.all (fun u => plain u && u.oneCell') then some (z.cells.toList.map .val) else none
  | none => none
 | none => none
/-- A struct type's fields: where each begins, and its cells. -/
def tyF (P : Program) (t : TypeId) : Option (List (Nat × Nat)) :=
 match P.underlying t with
 | some (.struct fs) => fs.toList.mapM fun f => (tySz P f.type).map fun n => (f.offset, n)
 | _ => none
/-- A field of a struct type: where it begins, and its type. -/
def tyFT (P : Program) (t : TypeId) (j : Nat) : Option (Nat × TypeId) :=
 match P.underlying t with
 | some (.struct fs) => (fs[j]?).map fun f => (f.offset, f.type)
 | _ => none

section
variable {P : Program} (w : World)
theorem run_isAgg {t : TypeId} {b : Bool} (h : tyAgg P t = some b) : (isAgg t).run P w = .ok b w := by
 unfold tyAgg at h
 unfold isAgg
 split at h
 ·rename_i fs e; simp only [Sem.run_bind, run_underlying e, Result.andThen_ok]; cases h; rfl
 ·rename_i fs a e; simp only [Sem.run_bind, run_underlying e, Result.andThen_ok]; cases h; rfl
 ·rename_i d h1 h2 e
  simp only [Sem.run_bind, run_underlying e, Result.andThen_ok]
  cases h
  cases d <;> first | rfl | exact absurd rfl (h1 _) | exact absurd rfl (h2 _ _)
 ·cases h
theorem run_typeInfo {t : TypeId} {i : TypeInfo} (h : P.info? t = some i) : (typeInfo t).run P w = .ok i w := by
 simp [typeInfo, h]
theorem run_sizeOf {t : TypeId} {n : Nat} (h : tySz P t = some n) : (sizeOf t).run P w = .ok n w := by
 unfold tySz at h
 obtain ⟨i, hi, rfl⟩ := Option.map_eq_some_iff.1 h
 simp [sizeOf, run_typeInfo w hi]
theorem und_of_tyEl {t e : TypeId} (h : tyEl P t = some e) : P.underlying t = some (.slice e) := by
 unfold tyEl at h
 split at h
 ·rename_i e' h1; cases h; exact h1
 ·cases h
theorem und_of_tyInt {t : TypeId} {k : IntKind} (h : tyInt P t = some k) : P.underlying t = some (.int k) := by
 unfold tyInt at h
 split at h
 ·rename_i e' h1; cases h; exact h1
 ·cases h
theorem und_of_tyBool {t : TypeId} (h : tyBool P t = true) : P.underlying t = some .bool := by
 unfold tyBool at h
 split at h
 ·assumption
 ·cases h
theorem und_of_tyStr {t : TypeId} (h : tyStr P t = true) : P.underlying t = some .string := by
 unfold tyStr at h
 split at h
 ·assumption
 ·cases h
end

/-! ### Numbers, texts, bools -/
def AInt (op : BinOp) (k : IntKind) (a b : Int) (K : AV → Prop) : Prop :=
 match op with
 | .add => K (.val (.int k (k.wrap (a + b))))
 | .sub => K (.val (.int k (k.wrap (a - b))))
 | .mul => K (.val (.int k (k.wrap (a * b))))
 | .quo => b ≠ 0 ∧ K (.val (.int k (k.wrap (a.tdiv b))))
 | .rem => b ≠ 0 ∧ K (.val (.int k (a.tmod b)))
 | .and => K (.val (.int k (bits .and k a b)))
 | .or => K (.val (.int k (bits .or k a b)))
 | .xor => K (.val (.int k (bits .xor k a b)))
 | .andNot => K (.val (.int k (bits .andNot k a b)))
 | .eql => K (.val (.bool (a == b)))
 | .neq => K (.val (.bool (a != b)))
 | .lss => K (.val (.bool (decide (a < b))))
 | .leq => K (.val (.bool (decide (a ≤ b))))
 | .gtr => K (.val (.bool (decide (a > b))))
 | .geq => K (.val (.bool (decide (a ≥ b))))
 | _ => False
def AStr (op : BinOp) (x y : ByteArray) (K : AV → Prop) : Prop :=
 match op with
 | .add => x.size + y.size ≤ 9223372036854775807 ∧ K (.val (.string (x ++ y)))
 | .eql => K (.val (.bool (x.toList == y.toList)))
 | .neq => K (.val (.bool (!(x.toList == y.toList))))
 | .lss => K (.val (.bool (Op.bytesLess x.toList y.toList)))
 | .leq => K (.val (.bool (Op.bytesLess x.toList y.toList || x.toList == y.toList)))
 | .gtr => K (.val (.bool (!(Op.bytesLess x.toList y.toList || x.toList == y.toList))))
 | .geq => K (.val (.bool (!Op.bytesLess x.toList y.toList)))
 | _ => False
/-! ### Equality of structs -/
inductive EK | int (k : IntKind) | bool | str
 deriving DecidableEq
def ekOf : Value → Option EK
 | .int k _ => some (.int k)
 | .bool _ => some .bool
 | .string _ => some .str
 | _ => none
def vEq : Value → Value → Bool
 | .int _ a, .int _ b => a == b
 | .bool a, .bool b => a == b
 | .string a, .string b => a.toList == b.toList
 | _, _ => true
def vsEq : List Value → List Value → Bool
 | x :: xs, y :: ys => vEq x y && vsEq xs ys
 | _, _ => true
def eqFs (P : Program) (g : TypeId → Option (List EK)) : List Field → Nat → Option (List EK)
 | [], _ => some []
 | f :: fs, o => if f.name ≠ "_" ∧ f.offset = o then match g f.type with
   | some l => if tySz P f.type = some l.length then match eqFs P g fs (o + l.length) with
     | some r => some (l ++ r)
     | none => none
    else none
   | none => none
  else none
def eqSh (P : Program) : Nat → TypeId → Option (List EK)
 | 0, _ => none
 | d + 1, t => match P.underlying t with
  | some (.int k) => some [.int k]
  | some .bool => some [.bool]
  | some .string => some [.str]
  | some (.struct fs) => if P.stoodInHeld t = false then eqFs P (eqSh P d) fs.toList 0 else none
  | _ => none
theorem vsEq_append {xs ys xs' ys' : List Value} (h : xs.length = ys.length) : vsEq (xs ++ xs') (ys ++ ys') = (vsEq xs ys && vsEq xs' ys') := by
 induction xs generalizing ys with
 | nil => cases ys with
  | nil => simp [vsEq]
  | cons y ys => simp at h
 | cons x xs ih => cases ys with
  | nil => simp at h
  | cons y ys => simp only [List.cons_append, vsEq, ih (by simpa using h), Bool.and_assoc]
theorem ek_int {v : Value} {k : IntKind} (h : ekOf v = some (.int k)) : ∃ n, v = .int k n := by cases v <;> simp_all [ekOf]
theorem ek_bool {v : Value} (h : ekOf v = some .bool) : ∃ n, v = .bool n := by cases v <;> simp_all [ekOf]
theorem ek_str {v : Value} (h : ekOf v = some .str) : ∃ n, v = .string n := by cases v <;> simp_all [ekOf]
theorem one_of_map {l : List Value} {k : EK} (h : l.map ekOf = [k].map some) : ∃ v, l = [v] ∧ ekOf v = some k := by
 cases l with
 | nil => simp at h
 | cons v l => cases l with
  | nil => exact ⟨v, rfl, by simpa using h⟩
  | cons _ _ => simp at h
def Chunk (A : Array Value) (o : Nat) (l : List EK) : Prop := ((A.toList.drop o).take l.length).map ekOf = l.map some
theorem part_one {P : Program} (w : World) {t : TypeId} (ha : tyAgg P t = some false) {A : Array Value} {o : Nat} {v : Value} (h : (A.toList.drop o).take 1 = [v]) : (part t A o).run P w = .ok v w := by
 have h1 : A[o]? = some v := by
  have : ((A.toList.drop o).take 1)[0]? = some v := by rw [h]; rfl
  rw [List.getElem?_take] at this
  simpa using this
 simp only [part, Sem.run_bind, run_isAgg w ha, Result.andThen_ok, Bool.false_eq_true, if_false, h1]
 rfl
theorem part_agg {P : Program} (w : World) {t : TypeId} (ha : tyAgg P t = some true) {n : Nat} (hs : tySz P t = some n) {A : Array Value} {o : Nat} : (part t A o).run P w = .ok (.agg ((A.toList.drop o).take n).toArray) w := by
 simp only [part, Sem.run_bind, run_isAgg w ha, Result.andThen_ok, if_true, run_sizeOf w hs, Sem.run_pure]
 congr 2
 apply Array.toList_inj.1
 rw [Array.toList_extract]
 simp [List.extract]
theorem eqFs_sound {P : Program} {d : Nat} {g : TypeId → Option (List EK)} (hg : ∀ t l, g t = some l → tySz P t = some l.length → ∀ (w : World) (A B : Array Value) (o : Nat), Chunk A o l → Chunk B o l →
   ∃ a b, (part t A o).run P w = .ok a w ∧ (part t B o).run P w = .ok b w ∧ (Op.equalIn d t a b).run P w = .ok (vsEq ((A.toList.drop o).take l.length) ((B.toList.drop o).take l.length)) w)
  {fs : List Field} : ∀ {o : Nat} {l : List EK} (_ : eqFs P g fs o = some l) (w : World) (A B : Array Value), Chunk A o l → Chunk B o l →
   (Op.eqFields d A B fs).run P w = .ok (vsEq ((A.toList.drop o).take l.length) ((B.toList.drop o).take l.length)) w := by
 induction fs with
 | nil =>
  intro o l h w A B _ _
  simp only [eqFs, Option.some.injEq] at h
  subst h
  simp only [Op.eqFields, List.length_nil, List.take_zero, vsEq, Sem.run_pure]
 | cons f fs ih =>
  intro o l h w A B hA hB
  simp only [eqFs] at h
  split at h
  ·rename_i hc
   obtain ⟨hn, rfl⟩ := hc
   split at h
   ·rename_i l1 e1
    split at h
    ·rename_i hs
     split at h
     ·rename_i r e2
      cases h
      have cut : ∀ C : Array Value, (C.toList.drop f.offset).take (l1.length + r.length) = (C.toList.drop f.offset).take l1.length ++ (C.toList.drop (f.offset + l1.length)).take r.length := by
       intro C
       rw [List.take_add, List.drop_drop]
      have sp : ∀ C : Array Value, Chunk C f.offset (l1 ++ r) → Chunk C f.offset l1 ∧ Chunk C (f.offset + l1.length) r := by
       intro C hC
       unfold Chunk at hC ⊢
       rw [List.length_append, cut, List.map_append, List.map_append] at hC
       have hl : (((C.toList.drop f.offset).take l1.length).map ekOf).length = (l1.map some).length := by
        have h9 := congrArg List.length hC
        simp only [List.length_append, List.length_map, List.length_take, List.length_drop] at h9 ⊢
        omega
       exact List.append_inj hC hl
      obtain ⟨a1, a2⟩ := sp A hA
      obtain ⟨b1, b2⟩ := sp B hB
      obtain ⟨a, b, p1, p2, p3⟩ := hg _ _ e1 hs w A B _ a1 b1
      have hlen : ((A.toList.drop f.offset).take l1.length).length = ((B.toList.drop f.offset).take l1.length).length := by
       have x1 := congrArg List.length a1
       have x2 := congrArg List.length b1
       rw [List.length_map, List.length_map] at x1 x2
       rw [x1, x2]
      rw [List.length_append, cut A, cut B, vsEq_append hlen]
      simp only [Op.eqFields, Sem.run_bind, Sem.run_ite, hn, not_false_eq_true, if_true, ne_eq, p1, p2, p3, Result.andThen_ok]
      cases vsEq ((A.toList.drop f.offset).take l1.length) ((B.toList.drop f.offset).take l1.length)
      ·simp
      ·simp only [Bool.not_true, Bool.false_eq_true, if_false, Bool.true_and]
       exact ih e2 w A B a2 b2
     ·cases h
    ·cases h
   ·cases h
  ·cases h
theorem fields_eq {P : Program} {t : TypeId} {fs : Array Field} (h : P.underlying t = some (.struct fs)) : P.fieldsOf t = fs := by
 simp only [Program.fieldsOf, h]
theorem eqSh_part {P : Program} (e d : Nat) : ∀ t l, eqSh P d t = some l → tySz P t = some l.length → ∀ (w : World) (A B : Array Value) (o : Nat), Chunk A o l → Chunk B o l →
   ∃ a b, (part t A o).run P w = .ok a w ∧ (part t B o).run P w = .ok b w ∧ (Op.equalIn (e + d) t a b).run P w = .ok (vsEq ((A.toList.drop o).take l.length) ((B.toList.drop o).take l.length)) w := by
 induction d with
 | zero => intro t l h; simp [eqSh] at h
 | succ d ih =>
  intro t l h hs w A B o hA hB
  unfold eqSh at h
  split at h
  ·rename_i k hu
   cases h
   obtain ⟨u, hu1, hu2⟩ := one_of_map hA
   obtain ⟨v, hv1, hv2⟩ := one_of_map hB
   obtain ⟨n, rfl⟩ := ek_int hu2
   obtain ⟨m, rfl⟩ := ek_int hv2
   have ha : tyAgg P t = some false := by simp [tyAgg, hu]
   refine ⟨_, _, part_one w ha hu1, part_one w ha hv1, ?_⟩
   rw [hu1, hv1]
   simp only [vsEq, vEq, Bool.and_true]
   exact run_equalIn_int w (e + d) t k k n m hu
  ·rename_i hu
   cases h
   obtain ⟨u, hu1, hu2⟩ := one_of_map hA
   obtain ⟨v, hv1, hv2⟩ := one_of_map hB
   obtain ⟨n, rfl⟩ := ek_bool hu2
   obtain ⟨m, rfl⟩ := ek_bool hv2
   have ha : tyAgg P t = some false := by simp [tyAgg, hu]
   refine ⟨_, _, part_one w ha hu1, part_one w ha hv1, ?_⟩
   rw [hu1, hv1]
   simp only [vsEq, vEq, Bool.and_true]
   exact run_equalIn_bool' w (e + d) t n m hu
  ·rename_i hu
   cases h
   obtain ⟨u, hu1, hu2⟩ := one_of_map hA
   obtain ⟨v, hv1, hv2⟩ := one_of_map hB
   obtain ⟨n, rfl⟩ := ek_str hu2
   obtain ⟨m, rfl⟩ := ek_str hv2
   have ha : tyAgg P t = some false := by simp [tyAgg, hu]
   refine ⟨_, _, part_one w ha hu1, part_one w ha hv1, ?_⟩
   rw [hu1, hv1]
   simp only [vsEq, vEq, Bool.and_true]
   exact run_equalIn_string w (e + d) t n m hu
  ·rename_i fs hu
   split at h
   ·rename_i hh
    have ha : tyAgg P t = some true := by simp [tyAgg, hu]
    refine ⟨_, _, part_agg w ha hs, part_agg w ha hs, ?_⟩
    have hf := fields_eq hu
    rw [show e + (d + 1) = (e + d) + 1 from rfl, run_equalIn_agg w (e + d) t _ _ (by rw [hf]; exact hu) hh, hf]
    have := eqFs_sound ih h w ((A.toList.drop o).take l.length).toArray ((B.toList.drop o).take l.length).toArray (by unfold Chunk at hA ⊢; simpa [List.take_take] using hA) (by unfold Chunk at hB ⊢; simpa [List.take_take] using hB)
    simpa [List.take_take] using this
   ·cases h
  ·cases h
/-- What the kinds of the cells of a type are that may be compared. -/
def tyEq (P : Program) (t : TypeId) : Option (List EK) :=
 match P.underlying t with
 | some (.struct _) => if P.eqGuardType P.depth t = false then eqSh P 5 t else none
 | _ => none
def ekA : AV → Option EK
 | .val v => ekOf v
 | _ => none
def eqA : List AV → List AV → Bool
 | .val x :: xs, .val y :: ys => vEq x y && eqA xs ys
 | _, _ => true
theorem run_equal_struct {P : Program} (w : World) {t : TypeId} {l : List EK} (h : tyEq P t = some l) {xs ys : List Value} (hx : xs.map ekOf = l.map some) (hy : ys.map ekOf = l.map some) : (Op.equalIn 10000 t (.agg xs.toArray) (.agg ys.toArray)).run P w = .ok (vsEq xs ys) w := by
 unfold tyEq at h
 split at h
 ·rename_i fs hu
  split at h
  ·rename_i hg
   unfold eqSh at h
   rw [hu] at h
   simp only at h
   split at h
   ·rename_i hh
    have hf := fields_eq hu
    rw [show 10000 = (9995 + 4) + 1 from rfl, run_equalIn_agg w (9995 + 4) t _ _ (by rw [hf]; exact hu) hh, hf]
    have lx := congrArg List.length hx
    have ly := congrArg List.length hy
    simp only [List.length_map] at lx ly
    have := eqFs_sound (eqSh_part 9995 4) h w xs.toArray ys.toArray (by unfold Chunk; simpa [← lx] using hx) (by unfold Chunk; simpa [← ly] using hy)
    rw [this]
    simp only [List.toList_toArray, List.drop_zero]
    rw [← lx, List.take_length, lx, ← ly, List.take_length]
   ·cases h
  ·cases h
 ·cases h
def AEqS (s : Option (List EK)) (xs ys : List AV) (K : Bool → Prop) : Prop :=
 match s with
 | some l => xs.map ekA = l.map some ∧ ys.map ekA = l.map some ∧ K (eqA xs ys)
 | none => False
def ABin (P : Program) (op : BinOp) (t : TypeId) (x y : AV) (K : AV → Prop) : Prop :=
 match x, y with
 | .val (.int k a), .val (.int k' b) =>
  match op with
  | .shl => 0 ≤ b ∧ K (.val (.int k (k.wrap (a * 2 ^ min b.toNat k.bits))))
  | .shr => 0 ≤ b ∧ K (.val (.int k (a.fdiv (2 ^ min b.toNat k.bits))))
  | op => k = k' ∧ AInt op k a b K
 | .val (.string a), .val (.string b) => AStr op a b K
 | .val (.bool a), .val (.bool b) =>
  match op with
  | .eql => tyBool P t = true ∧ K (.val (.bool (a == b)))
  | .neq => tyBool P t = true ∧ K (.val (.bool (a != b)))
  | _ => False
 | .agg xs, .agg ys =>
  match op with
  | .eql => AEqS (tyEq P t) xs ys fun b => K (.val (.bool b))
  | .neq => AEqS (tyEq P t) xs ys fun b => K (.val (.bool (!b)))
  | _ => False
 | _, _ => False

theorem done {P : Program} {m : Sem Value} {w : World} {c : Cx} {K : AV → Prop} {u : Value} (h : K (.val u)) (hp : plain u = true) (hr : m.run P w = .ok u w) :
  ∃ r a, m.run P w = .ok r w ∧ RelV w c a r ∧ K a := ⟨u, .val u, hr, by simp only [RelV]; exact ⟨trivial, hp⟩, h⟩

theorem AInt_sound {P : Program} {op : BinOp} {t : TypeId} {k : IntKind} {a b : Int} {K : AV → Prop} (h : AInt op k a b K) {w : World} {c : Cx} :
  ∃ r a', (binOp op t (.int k a) (.int k b)).run P w = .ok r w ∧ RelV w c a' r ∧ K a' := by
 cases op <;> simp only [AInt] at h
 case quo => exact done h.2 rfl (by simp only [binOp_quo, Op.intDiv]; rw [if_neg h.1]; rfl)
 case rem => exact done h.2 rfl (by simp only [binOp_rem, Op.intDiv]; rw [if_neg h.1]; rfl)
 all_goals first
  | exact done h rfl (by simp only [binOp_add, binOp_sub, binOp_mul, Op.intArith, Sem.run_pure])
  | exact done h rfl (by simp only [binOp_and, binOp_or, binOp_xor, binOp_andNot, intBits_and, intBits_or, intBits_xor, intBits_andNot, Sem.run_pure])
  | exact done h rfl (by simp only [binOp_eql, binOp_neq, binOp_lss, binOp_leq, binOp_gtr, binOp_geq, Sem.run_pure])

theorem AStr_sound {P : Program} {op : BinOp} {t : TypeId} {a b : ByteArray} {K : AV → Prop} (h : AStr op a b K) {w : World} {c : Cx} :
  ∃ r a', (binOp op t (.string a) (.string b)).run P w = .ok r w ∧ RelV w c a' r ∧ K a' := by
 have hb : binOp op t (.string a) (.string b) = Op.stringOp op a b := by cases op <;> rfl
 rw [hb]
 cases op <;> simp only [AStr] at h
 case add => exact done h.2 rfl (by simp only [Op.stringOp]; rw [if_neg (by rw [IntKind.max_i64]; omega)]; rfl)
 all_goals exact done h rfl (by simp only [Op.stringOp, Sem.run_pure])

theorem vals_of_ek {w : World} {c : Cx} {xs : List AV} {l : List EK} {vs : List Value} (h : xs.map ekA = l.map some) (hr : RelL w c xs vs) : xs = vs.map .val ∧ vs.map ekOf = l.map some := by
 induction xs generalizing l vs with
 | nil => cases l with
  | nil => simp only [RelL] at hr; subst hr; simp
  | cons k l => simp at h
 | cons x xs ih => cases l with
  | nil => simp at h
  | cons k l =>
   simp only [List.map_cons, List.cons.injEq] at h
   simp only [RelL] at hr
   obtain ⟨u, us, rfl, h1, h2⟩ := hr
   obtain ⟨e1, e2⟩ := ih h.2 h2
   cases x <;> simp only [ekA, reduceCtorEq, false_and] at h
   rename_i v
   simp only [RelV] at h1
   obtain ⟨rfl, -⟩ := h1
   subst e1
   simp only [List.map_cons, h.1, e2]
   exact ⟨trivial, trivial⟩
theorem eqA_vals (xs ys : List Value) : eqA (xs.map .val) (ys.map .val) = vsEq xs ys := by
 induction xs generalizing ys with
 | nil => cases ys <;> rfl
 | cons x xs ih => cases ys with
  | nil => rfl
  | cons y ys => simp only [List.map_cons, eqA, vsEq, ih]
theorem AEqS_sound {P : Program} {t : TypeId} {xs ys : List AV} {K : Bool → Prop} (h : AEqS (tyEq P t) xs ys K) {w : World} {c : Cx} {us vs : List Value} (hx : RelL w c xs us) (hy : RelL w c ys vs) (op : BinOp) (xo yo : Operand) :
  (eqGuard op t xo yo (.agg us.toArray) (.agg vs.toArray)).run P w = .ok () w ∧ ∃ b, (Op.equalIn 10000 t (.agg us.toArray) (.agg vs.toArray)).run P w = .ok b w ∧ K b := by
 unfold AEqS at h
 split at h
 ·rename_i l e
  obtain ⟨h1, h2, h3⟩ := h
  obtain ⟨rfl, a2⟩ := vals_of_ek h1 hx
  obtain ⟨rfl, b2⟩ := vals_of_ek h2 hy
  rw [eqA_vals] at h3
  refine ⟨run_eqGuard_agg w op t xo yo _ _ ?_, _, run_equal_struct w e a2 b2, h3⟩
  unfold tyEq at e
  split at e
  ·split at e
   ·assumption
   ·cases e
  ·cases e
 ·exact h.elim
theorem ABin_sound {P : Program} {op : BinOp} {t : TypeId} {x y : AV} {K : AV → Prop} (h : ABin P op t x y K) (xo yo : Operand) {w : World} {c : Cx} {u v : Value} (hx : RelV w c x u) (hy : RelV w c y v) :
  ∃ r a, ((do eqGuard op t xo yo u v; binOp op t u v : Sem Value)).run P w = .ok r w ∧ RelV w c a r ∧ K a := by
 unfold ABin at h
 split at h
 ·rename_i k a k' b
  simp only [RelV] at hx hy
  obtain ⟨rfl, -⟩ := hx
  obtain ⟨rfl, -⟩ := hy
  simp only [eqGuard_at_int, Sem.run_bind, Sem.run_pure, Result.andThen_ok]
  split at h
  ·exact done h.2 rfl (by simp only [binOp_shl, Op.shift]; rw [if_neg (by omega)]; rfl)
  ·exact done h.2 rfl (by simp only [binOp_shr, Op.shift]; rw [if_neg (by omega)]; rfl)
  ·obtain ⟨rfl, h⟩ := h
   exact AInt_sound h
 ·rename_i a b
  simp only [RelV] at hx hy
  obtain ⟨rfl, -⟩ := hx
  obtain ⟨rfl, -⟩ := hy
  simp only [eqGuard_at_string, Sem.run_bind, Sem.run_pure, Result.andThen_ok]
  exact AStr_sound h
 ·rename_i a b
  simp only [RelV] at hx hy
  obtain ⟨rfl, -⟩ := hx
  obtain ⟨rfl, -⟩ := hy
  simp only [eqGuard_at_bool, Sem.run_bind, Sem.run_pure, Result.andThen_ok]
  split at h
  ·refine done h.2 rfl ?_
   show (do pure (.bool (← Op.equal t (.bool a) (.bool b))) : Sem Value).run P w = _
   simp only [Sem.run_bind, run_equal_bool w t a b (und_of_tyBool h.1), Result.andThen_ok, Sem.run_pure]
  ·refine done h.2 rfl ?_
   show (do pure (.bool (!(← Op.equal t (.bool a) (.bool b)))) : Sem Value).run P w = _
   simp only [Sem.run_bind, run_equal_bool w t a b (und_of_tyBool h.1), Result.andThen_ok, Sem.run_pure, bne]
  ·exact h.elim
 ·rename_i xs ys
  simp only [RelV] at hx hy
  obtain ⟨us, rfl, -, hx⟩ := hx
  obtain ⟨vs, rfl, -, hy⟩ := hy
  split at h
  ·obtain ⟨g, b, e, hk⟩ := AEqS_sound h hx hy .eql xo yo
   refine done hk rfl ?_
   simp only [Sem.run_bind, g, Result.andThen_ok, run_eql_struct, e]
  ·obtain ⟨g, b, e, hk⟩ := AEqS_sound h hx hy .neq xo yo
   refine done hk rfl ?_
   simp only [Sem.run_bind, g, Result.andThen_ok, run_neq_struct, e]
  ·exact h.elim
 ·exact h.elim
end Go.Proofs.YtonolfpnidaflaaGreatDoor.E

/- The abstract machine of this claim, part D: reads, addresses, slices, structs. No conditions. -/
namespace Go.Proofs.YtonolfpnidaflaaGreatDoor.E
open Go
set_option linter.unusedSimpArgs false
set_option linter.unusedVariables false
set_option linter.unusedSectionVars false
set_option maxRecDepth 20000

/-! ### Reads -/
def ALoad1 (P : Program) (t : TypeId) (cs : List AV) (K : AV → Prop) : Prop :=
 match tyAgg P t with
 | some true => match tySz P t with
  | some n => n ≤ cs.length ∧ K (.agg (cs.take n))
  | none => False
 | some false => match cs with
  | x :: _ => K x
  | [] => False
 | none => False
def ALoad (P : Program) (t : TypeId) (x : AV) (hp : Hp) (K : AV → Prop) : Prop :=
 match x with
 | .rop cs => ALoad1 P t cs K
 | .ptr s ver off => match hp.get s with
  | (n, .cells _ cs) => n = ver ∧ ALoad1 P t (cs.drop off) K
  | (n, .icc _ cs) => n = ver ∧ ALoad1 P t (cs.drop off) K
  | (n, .rowx _ _ cs) => n = ver ∧ ALoad1 P t (cs.drop off) K
  | _ => False
 | .ept s ver k i off => match hp.get s with
  | (n, .row _ k' _ rows) => n = ver ∧ k' = k ∧ ∃ r, rows[i]? = some r ∧ ALoad1 P t (r.drop off) K
  | (n, .ice k' rows) => n = ver ∧ k' = k ∧ ∃ r, rows[i]? = some r ∧ ALoad1 P t (r.drop off) K
  | _ => False
 | _ => False

def Cells (w : World) (c : Cx) (cs : List AV) (b off : Nat) : Prop := ∃ vs, RelL w c cs vs ∧ (∀ u ∈ vs, u.oneCell' = true) ∧ ∀ i v, vs[i]? = some v → w.cell? ⟨b, off + i, none⟩ = some v
theorem Cells.drop {w : World} {c : Cx} {cs : List AV} {b off : Nat} (h : Cells w c cs b off) (n : Nat) : Cells w c (cs.drop n) b (off + n) := by
 obtain ⟨vs, h1, ho, h2⟩ := h
 refine ⟨vs.drop n, h1.drop n, fun u hu => ho u (List.mem_of_mem_drop hu), fun i v e => ?_⟩
 rw [List.getElem?_drop] at e
 have := h2 _ _ e
 rwa [show off + (n + i) = off + n + i by omega] at this
theorem Cells.take {w : World} {c : Cx} {cs : List AV} {b off : Nat} (h : Cells w c cs b off) (n : Nat) : Cells w c (cs.take n) b off := by
 obtain ⟨vs, h1, ho, h2⟩ := h
 refine ⟨vs.take n, h1.take n, fun u hu => ho u (List.mem_of_mem_take hu), fun i v e => ?_⟩
 rw [List.getElem?_take] at e
 split at e
 ·exact h2 _ _ e
 ·cases e
theorem Cells.of_RVAt {w : World} {c : Cx} {cs : List AV} {b off : Nat} (h : RVAt w (still w c) cs b off) : Cells w c cs b off := by
 obtain ⟨vs, h1, ho, h2⟩ := h.vals
 exact ⟨vs, RelL.of_RVL cs vs h1, ho, h2⟩
theorem cell_block {w : World} {b : Nat} {vs : List Value} {t : TypeId} {fr : Nat × Nat} (h : w.heap[b]? = some (.cells vs.toArray t fr)) (i : Nat) : w.cell? ⟨b, i, none⟩ = vs[i]? := by
 simp [World.cell?, h]
theorem Cells.of_block {w : World} {c : Cx} {cs : List AV} {b : Nat} {vs : List Value} {t : TypeId} {fr : Nat × Nat} (h : w.heap[b]? = some (.cells vs.toArray t fr)) (ho : ∀ u ∈ vs, u.oneCell' = true) (hr : RelL w c cs vs) : Cells w c cs b 0 :=
 ⟨vs, hr, ho, fun i v e => by rw [cell_block h, Nat.zero_add]; exact e⟩

theorem ALoad1_sound {P : Program} {t : TypeId} {cs : List AV} {K : AV → Prop} (h : ALoad1 P t cs K) {w : World} {c : Cx} {b off : Nat} (hc : Cells w c cs b off) :
  ∃ r a, (Instr.loadAt t (.pointer (some ⟨b, off, none⟩))).run P w = .ok r w ∧ RelV w c a r ∧ K a := by
 unfold ALoad1 at h
 split at h
 ·rename_i ha
  split at h
  ·rename_i n hn
   obtain ⟨hl, h⟩ := h
   obtain ⟨vs, h1, ho, h2⟩ := hc.take n
   have hlen : vs.length = n := by rw [h1.length, List.length_take]; omega
   refine ⟨.agg vs.toArray, _, ?_, ?_, h⟩
   ·have e := run_loadCells_list (P := P) w ⟨b, off, none⟩ vs (fun j v hv => by rw [Addr.add_lit]; exact h2 j v hv)
    rw [hlen] at e
    simp only [Instr.loadAt, Instr.sureAddr, loadVar, Sem.run_bind, Sem.run_pure, Result.andThen_ok, run_isAgg w ha, run_sizeOf w hn, if_true, e]
   ·simp only [RelV]
    exact ⟨vs, rfl, ho, h1⟩
  ·exact h.elim
 ·rename_i ha
  split at h
  ·rename_i x xs
   obtain ⟨vs, h1, ho, h2⟩ := hc
   simp only [RelL] at h1
   obtain ⟨u, us, rfl, h3, _⟩ := h1
   refine ⟨u, _, ?_, h3, h⟩
   have h4 := h2 0 u rfl
   simp only [Nat.add_zero] at h4
   simp only [Instr.loadAt, Instr.sureAddr, loadVar, Sem.run_bind, Sem.run_pure, Result.andThen_ok, run_isAgg w ha, Bool.false_eq_true, if_false, run_load, h4]
  ·exact h.elim
 ·exact h.elim

/-- The cells of one row of a list of rows. -/
theorem flatten_row {rows : List (List AV)} {k : Nat} (hk : ∀ r ∈ rows, r.length = k) (i : Nat) (r : List AV) (hr : rows[i]? = some r) : (rows.flatten.drop (i * k)).take k = r ∧ i * k + k ≤ rows.flatten.length := by
 induction rows generalizing i with
 | nil => simp at hr
 | cons x rows ih =>
  have hx := hk x (by simp)
  cases i with
  | zero =>
   simp only [List.getElem?_cons_zero, Option.some.injEq] at hr
   subst hr
   simp [hx]
  | succ i =>
   simp only [List.getElem?_cons_succ] at hr
   obtain ⟨h1, h2⟩ := ih (fun y hy => hk y (by simp [hy])) i hr
   simp only [List.flatten_cons, List.length_append]
   constructor
   ·rw [List.drop_append, List.drop_eq_nil_of_le (by rw [hx, Nat.add_mul]; omega), List.nil_append, hx, show (i + 1) * k - k = i * k by rw [Nat.add_mul]; omega]
    exact h1
   ·rw [hx, Nat.add_mul]; omega

theorem RVL.drop {w : World} {S : Nat → Prop} {xs : List AV} {vs : List Value} (h : RVL w S xs vs) (n : Nat) : RVL w S (xs.drop n) (vs.drop n) := by
 induction n generalizing xs vs with
 | zero => simpa using h
 | succ n ih =>
  cases xs with
  | nil => simp only [RVL] at h; subst h; simp [RVL]
  | cons x xs =>
   simp only [RVL] at h
   obtain ⟨u, us, rfl, h1, h2⟩ := h
   simpa using ih h2
theorem RVL.take {w : World} {S : Nat → Prop} {xs : List AV} {vs : List Value} (h : RVL w S xs vs) (n : Nat) : RVL w S (xs.take n) (vs.take n) := by
 induction n generalizing xs vs with
 | zero => simp [RVL]
 | succ n ih =>
  cases xs with
  | nil => simp only [RVL] at h; subst h; simp [RVL]
  | cons x xs =>
   simp only [RVL] at h
   obtain ⟨u, us, rfl, h1, h2⟩ := h
   simp only [List.take_succ_cons, RVL]
   exact ⟨u, us.take n, rfl, h1, ih h2⟩

theorem Inv.cells {w : World} {c : Cx} {hp : Hp} (h : Inv w c hp) {s : Site} {n : Nat} {t : TypeId} {cs : List AV} (e : hp.get s = (n, .cells t cs)) :
  c.cur s = n ∧ c.lv s = true ∧ ∃ b cp, ∃ vs : List Value, c.loc s = some (b, cp) ∧ w.heap[b]? = some (.cells vs.toArray t (0, 0)) ∧ (∀ u ∈ vs, u.oneCell' = true) ∧ RelL w c cs vs := by
 have h1 := h.cur s
 have h2 := h.ok s
 rw [e] at h1 h2
 simp only [BlkOk] at h2
 exact ⟨h1, h2.1, h2.2⟩
theorem Inv.icc {w : World} {c : Cx} {hp : Hp} (h : Inv w c hp) {s : Site} {n : Nat} {t : TypeId} {cs : List AV} (e : hp.get s = (n, .icc t cs)) :
  c.cur s = n ∧ c.lv s = false ∧ ∃ b cp, c.loc s = some (b, cp) ∧ still w c b ∧ RVAt w (still w c) cs b 0 := by
 have h1 := h.cur s
 have h2 := h.ok s
 rw [e] at h1 h2
 simp only [BlkOk] at h2
 exact ⟨h1, h2.1, h2.2⟩
theorem Inv.ice {w : World} {c : Cx} {hp : Hp} (h : Inv w c hp) {s : Site} {n k : Nat} {rows : List (List AV)} (e : hp.get s = (n, .ice k rows)) :
  c.cur s = n ∧ c.lv s = false ∧ (c.loc s = none ∧ rows = [] ∨ ∃ b cp, c.loc s = some (b, cp) ∧ rows.length ≤ cp ∧ (rows = [] ∨ (still w c b ∧ RVRows w (still w c) k rows b 0))) := by
 have h1 := h.cur s
 have h2 := h.ok s
 rw [e] at h1 h2
 simp only [BlkOk] at h2
 refine ⟨h1, h2.1, ?_⟩
 cases hl : c.loc s with
 | none => rw [hl] at h2; exact .inl ⟨rfl, h2.2⟩
 | some x =>
  obtain ⟨b, cp⟩ := x
  rw [hl] at h2
  exact .inr ⟨b, cp, rfl, h2.2⟩
theorem Inv.row {w : World} {c : Cx} {hp : Hp} (h : Inv w c hp) {s : Site} {n k : Nat} {t : TypeId} {q : Option Nat} {rows : List (List AV)} (e : hp.get s = (n, .row t k q rows)) :
  c.cur s = n ∧ c.lv s = true ∧ 0 < k ∧ (∀ r ∈ rows, r.length = k) ∧ (c.loc s = none ∧ rows = [] ∧ (q = none ∨ q = some 0) ∨ ∃ b cp, ∃ vs rest : List Value, c.loc s = some (b, cp) ∧ (q = none ∨ q = some cp) ∧ cp ≤ maxLen ∧ w.heap[b]? = some (.cells (vs ++ rest).toArray t (0, 0)) ∧ (vs ++ rest).length = cp * k ∧ (∀ u ∈ vs ++ rest, u.oneCell' = true) ∧ RVL w (still w c) rows.flatten vs) := by
 have h1 := h.cur s
 have h2 := h.ok s
 rw [e] at h1 h2
 simp only [BlkOk] at h2
 obtain ⟨h2, h3, h4, h5⟩ := h2
 refine ⟨h1, h2, h3, h4, ?_⟩
 cases hl : c.loc s with
 | none => rw [hl] at h5; exact .inl ⟨rfl, h5⟩
 | some x =>
  obtain ⟨b, cp⟩ := x
  rw [hl] at h5
  obtain ⟨hq, h5, vs, rest, h6⟩ := h5
  exact .inr ⟨b, cp, vs, rest, rfl, hq, h5, h6⟩

theorem Inv.rowx {w : World} {c : Cx} {hp : Hp} (h : Inv w c hp) {s : Site} {n k : Nat} {t : TypeId} {cs : List AV} (e : hp.get s = (n, .rowx t k cs)) :
  c.cur s = n ∧ c.lv s = true ∧ 0 < k ∧ (c.loc s = none ∧ cs = [] ∨ ∃ b cp, ∃ vs rest : List Value, c.loc s = some (b, cp) ∧ cp ≤ maxLen ∧ w.heap[b]? = some (.cells (vs ++ rest).toArray t (0, 0)) ∧ (vs ++ rest).length = cp * k ∧ (∀ u ∈ vs ++ rest, u.oneCell' = true) ∧ RelL w c cs vs) := by
 have h1 := h.cur s
 have h2 := h.ok s
 rw [e] at h1 h2
 simp only [BlkOk] at h2
 obtain ⟨h2, h3, h4⟩ := h2
 refine ⟨h1, h2, h3, ?_⟩
 cases hl : c.loc s with
 | none => rw [hl] at h4; exact .inl ⟨rfl, h4⟩
 | some x =>
  obtain ⟨b, cp⟩ := x
  rw [hl] at h4
  obtain ⟨h5, vs, rest, h6⟩ := h4
  exact .inr ⟨b, cp, vs, rest, rfl, h5, h6⟩
theorem ALoad_sound {P : Program} {t : TypeId} {x : AV} {hp : Hp} {K : AV → Prop} (h : ALoad P t x hp K) {w : World} {c : Cx} (hi : Inv w c hp) {v : Value} (hx : RelV w c x v) :
  ∃ r a, (Instr.loadAt t v).run P w = .ok r w ∧ RelV w c a r ∧ K a := by
 unfold ALoad at h
 split at h
 ·rename_i cs
  simp only [RelV, RV] at hx
  obtain ⟨b, off, rfl, _, hr⟩ := hx
  exact ALoad1_sound h (Cells.of_RVAt hr)
 ·rename_i s ver off
  split at h
  ·rename_i n t' cs e
   obtain ⟨rfl, h⟩ := h
   simp only [RelV] at hx
   obtain ⟨h1, _, b, cp, vs, h3, h4, ho, h5⟩ := hi.cells e
   obtain ⟨b', cp', e1, rfl⟩ := hx.2 h1.symm
   rw [h3] at e1
   cases e1
   have := (Cells.of_block h4 ho h5).drop off
   rw [Nat.zero_add] at this
   exact ALoad1_sound h this
  ·rename_i n t' cs e
   obtain ⟨rfl, h⟩ := h
   simp only [RelV] at hx
   obtain ⟨h1, _, b, cp, h3, h4, h5⟩ := hi.icc e
   obtain ⟨b', cp', e1, rfl⟩ := hx.2 h1.symm
   rw [h3] at e1
   cases e1
   have := (Cells.of_RVAt h5).drop off
   rw [Nat.zero_add] at this
   exact ALoad1_sound h this
  ·rename_i n t' k' cs e
   obtain ⟨rfl, h⟩ := h
   simp only [RelV] at hx
   obtain ⟨h1, _, _, h2⟩ := hi.rowx e
   obtain ⟨b', cp', e1, rfl⟩ := hx.2 h1.symm
   rcases h2 with ⟨h3, _⟩ | ⟨b, cp, vs, rest, h3, _, h4, _, ho, h5⟩
   ·rw [h3] at e1; cases e1
   rw [h3] at e1
   cases e1
   have hc : Cells w c cs b' 0 := by
    refine ⟨vs, h5, fun u hu => ho u (List.mem_append_left _ hu), fun j v hv => ?_⟩
    rw [Nat.zero_add, cell_block h4, List.getElem?_append_left ((List.getElem?_eq_some_iff.1 hv).1)]
    exact hv
   have := hc.drop off
   rw [Nat.zero_add] at this
   exact ALoad1_sound h this
  ·exact h.elim
 ·rename_i s ver k i off
  split at h
  ·rename_i n t' k' q rows e
   obtain ⟨rfl, rfl, r, hr, h⟩ := h
   simp only [RelV] at hx
   obtain ⟨h1, _, h0, hk, h2⟩ := hi.row e
   obtain ⟨b', cp', e1, rfl⟩ := hx.2 h1.symm
   rcases h2 with ⟨h3, _⟩ | ⟨b, cp, vs, rest, h3, _, _, h4, h5, ho, h6⟩
   ·rw [h3] at e1; cases e1
   ·rw [h3] at e1
    cases e1
    obtain ⟨f1, f2⟩ := flatten_row hk i r hr
    have hr' := RelL.of_RVL _ _ (((h6.drop (i * k')).take k'))
    rw [f1] at hr'
    have hc : Cells w c r b' (i * k') := by
     refine ⟨_, hr', fun u hu => ho u (List.mem_append_left _ (List.mem_of_mem_drop (List.mem_of_mem_take hu))), fun j v hv => ?_⟩
     rw [List.getElem?_take] at hv
     split at hv
     ·rw [List.getElem?_drop] at hv
      rw [cell_block h4, List.getElem?_append_left (by
       rcases Nat.lt_or_ge (i * k' + j) vs.length with h' | h'
       ·exact h'
       ·rw [List.getElem?_eq_none h'] at hv; cases hv)]
      exact hv
     ·cases hv
    have := hc.drop off
    exact ALoad1_sound h this
  ·rename_i n k' rows e
   obtain ⟨rfl, rfl, r, hr, h⟩ := h
   simp only [RelV] at hx
   obtain ⟨h1, _, h2⟩ := hi.ice e
   obtain ⟨b', cp', e1, rfl⟩ := hx.2 h1.symm
   rcases h2 with ⟨h3, _⟩ | ⟨b, cp, h3, _, h4⟩
   ·rw [h3] at e1; cases e1
   ·rw [h3] at e1
    cases e1
    rcases h4 with rfl | ⟨_, h5⟩
    ·simp at hr
    ·have := (Cells.of_RVAt (h5.get i r hr).2).drop off
     rw [Nat.zero_add] at this
     exact ALoad1_sound h this
  ·exact h.elim
 ·exact h.elim
end Go.Proofs.YtonolfpnidaflaaGreatDoor.E

/- The abstract machine of this claim, part E: addresses, fields, indexes, slices, conversions. No conditions. -/
namespace Go.Proofs.YtonolfpnidaflaaGreatDoor.E
open Go
set_option linter.unusedSimpArgs false
set_option linter.unusedVariables false
set_option linter.unusedSectionVars false
set_option maxRecDepth 20000

/-- Where a field begins, behind an address. -/
def tyFA (P : Program) (t : TypeId) (j : Nat) : Option Nat :=
 match P.underlying t with
 | some (.struct fs) => match fs[j]? with
  | some f => match tySz P f.type with
   | some (_ + 1) => some f.offset
   | _ => none
  | none => none
 | _ => none
def AFieldAddr (P : Program) (t : TypeId) (x : AV) (j : Nat) (hp : Hp) (K : AV → Prop) : Prop :=
 match tyFA P t j with
 | some off => match x with
  | .rop cs => K (.rop (cs.drop off))
  | .ptr s v o => (hp.get s).1 = v ∧ K (.ptr s v (o + off))
  | .ept s v k i o => (hp.get s).1 = v ∧ K (.ept s v k i (o + off))
  | _ => False
 | none => False
theorem run_fieldAt {P : Program} {t : TypeId} {j off : Nat} (h : tyFA P t j = some off) (w : World) (b o : Nat) :
  (Instr.fieldAt t (.pointer (some ⟨b, o, none⟩)) j).run P w = .ok (.pointer (some ⟨b, o + off, none⟩)) w := by
 unfold tyFA at h
 split at h
 ·rename_i fs hu
  split at h
  ·rename_i f hf
   split at h
   ·rename_i n hn
    cases h
    simp only [Instr.fieldAt, Sem.run_bind, run_underlying hu, Result.andThen_ok, hf, Instr.sureAddr, Sem.run_pure, fieldPlace, run_sizeOf w hn]
    rw [if_neg (by omega)]
    simp only [Sem.run_pure, Result.andThen_ok, Addr.add_lit]
   ·cases h
  ·cases h
 ·cases h
theorem AFieldAddr_sound {P : Program} {t : TypeId} {x : AV} {j : Nat} {K : AV → Prop} {hp : Hp} (h : AFieldAddr P t x j hp K) {w : World} {c : Cx} (hi : Inv w c hp) {v : Value} (hx : RelV w c x v) :
  ∃ r a, (Instr.fieldAt t v j).run P w = .ok r w ∧ RelV w c a r ∧ K a := by
 unfold AFieldAddr at h
 split at h
 ·rename_i off ho
  split at h
  ·rename_i cs
   simp only [RelV, RV] at hx
   obtain ⟨b, o, rfl, hs, hr⟩ := hx
   refine ⟨_, _, run_fieldAt ho w b o, ?_, h⟩
   simp only [RelV, RV]
   refine ⟨b, o + off, rfl, ?_, hr.drop off⟩
   rcases hs with rfl | hs
   ·exact .inl (by simp)
   ·exact .inr hs
  ·rename_i s ver o
   obtain ⟨h0, h⟩ := h
   simp only [RelV] at hx
   obtain ⟨b, cp, e1, rfl⟩ := hx.2 (by rw [← h0, hi.cur s])
   refine ⟨_, _, run_fieldAt ho w b o, ?_, h⟩
   simp only [RelV]
   exact ⟨hx.1, fun _ => ⟨b, cp, e1, rfl⟩⟩
  ·rename_i s ver k i o
   obtain ⟨h0, h⟩ := h
   simp only [RelV] at hx
   obtain ⟨b, cp, e1, rfl⟩ := hx.2 (by rw [← h0, hi.cur s])
   refine ⟨_, _, run_fieldAt ho w b _, ?_, h⟩
   simp only [RelV]
   exact ⟨hx.1, fun _ => ⟨b, cp, e1, by rw [Nat.add_assoc]⟩⟩
  ·exact h.elim
 ·exact h.elim

/-! ### Places of a slice -/
def AIndexAddr (P : Program) (t : TypeId) (x i : AV) (hp : Hp) (K : AV → Prop) : Prop :=
 match i with
 | .val (.int _ n) => match x with
  | .list k rows => tyEl P t ≠ none ∧ (tyEl P t).bind (tySz P) = some k ∧ 0 ≤ n ∧ ∃ r, rows[n.toNat]? = some r ∧ K (.rop r)
  | .own s ver k off len => (tyEl P t).bind (tySz P) = some k ∧ 0 ≤ n ∧ n < len ∧ match hp.get s with
   | (m, .row _ k' _ _) => m = ver ∧ k' = k ∧ K (.ept s ver k (off + n.toNat) 0)
   | (m, .ice k' rows) => m = ver ∧ k' = k ∧ ∃ r, rows[off + n.toNat]? = some r ∧ K (.rop r)
   | (m, .cells _ _) => m = ver ∧ K (.ptr s ver ((off + n.toNat) * k))
   | (m, .rowx _ _ _) => m = ver ∧ K (.ptr s ver ((off + n.toNat) * k))
   | _ => False
  | _ => False
 | _ => False
theorem run_indexAt {P : Program} {t : TypeId} {k : Nat} (h : (tyEl P t).bind (tySz P) = some k) (w : World) (a : Addr) (len cap : Nat) (kk : IntKind) (n : Int) (h0 : 0 ≤ n) (h1 : n < len) :
  (Instr.indexAt t (.slice (some a) len cap) (.int kk n)).run P w = .ok (.pointer (some (a.add (n.toNat * k)))) w := by
 obtain ⟨e, he, hs⟩ := Option.bind_eq_some_iff.1 h
 have hu := und_of_tyEl he
 have he2 : P.elem t = e := by simp [Program.elem, hu]
 rw [run_indexAt_slice (P := P) w t a len cap kk n (by rw [he2]; exact hu), if_pos ⟨h0, h1⟩, he2, run_sizeOf w hs]
 rfl
theorem lt_of_get {α : Type} {l : List α} {i : Nat} {x : α} (h : l[i]? = some x) : i < l.length := (List.getElem?_eq_some_iff.1 h).1
theorem AIndexAddr_sound {P : Program} {t : TypeId} {x i : AV} {hp : Hp} {K : AV → Prop} (h : AIndexAddr P t x i hp K) {w : World} {c : Cx} (hi : Inv w c hp) {v u : Value} (hx : RelV w c x v) (hu : RelV w c i u) :
  ∃ r a, (Instr.indexAt t v u).run P w = .ok r w ∧ RelV w c a r ∧ K a := by
 unfold AIndexAddr at h
 split at h
 ·rename_i kk n
  simp only [RelV] at hu
  obtain ⟨rfl, -⟩ := hu
  split at h
  ·rename_i k rows
   obtain ⟨_, hk, h0, r, hr, h⟩ := h
   simp only [RelV, RV] at hx
   obtain ⟨a, cap, rfl, hc, hn, hx⟩ := hx
   have hlt := lt_of_get hr
   rcases hx with rfl | ⟨b, off, rfl, hs, hr2⟩
   ·simp at hlt
   ·refine ⟨_, _, run_indexAt hk w _ _ _ _ n h0 (by omega), ?_, h⟩
    rw [Addr.add_lit]
    simp only [RelV, RV]
    exact ⟨b, _, rfl, .inr hs, (hr2.get _ r hr).2⟩
  ·rename_i s ver k off len
   obtain ⟨hk, h0, h1, h⟩ := h
   simp only [RelV] at hx
   split at h
   ·rename_i m t' k' q rows e
    obtain ⟨rfl, rfl, h⟩ := h
    obtain ⟨g1, _, _, _, g2⟩ := hi.row e
    have hx2 := hx.2 g1.symm
    rcases g2 with ⟨g3, _⟩ | ⟨b, cp, _, _, g3, _⟩
    ·rw [g3] at hx2; obtain ⟨_, rfl, _⟩ := hx2; omega
    ·rw [g3] at hx2
     obtain ⟨g5, a, rfl, g6⟩ := hx2
     have g7 := g6 (.inl (by omega))
     subst g7
     refine ⟨_, _, run_indexAt hk w _ _ _ _ n h0 h1, ?_, h⟩
     rw [Addr.add_lit]
     simp only [RelV]
     exact ⟨hx.1, fun _ => ⟨b, cp, g3, by rw [Nat.add_mul]; rfl⟩⟩
   ·rename_i m k' rows e
    obtain ⟨rfl, rfl, r, hr, h⟩ := h
    obtain ⟨g1, _, g2⟩ := hi.ice e
    have hx2 := hx.2 g1.symm
    rcases g2 with ⟨g3, _⟩ | ⟨b, cp, g3, g4, g8⟩
    ·rw [g3] at hx2; obtain ⟨_, rfl, _⟩ := hx2; omega
    ·rw [g3] at hx2
     obtain ⟨g5, a, rfl, g6⟩ := hx2
     have g7 := g6 (.inl (by omega))
     subst g7
     rcases g8 with rfl | ⟨g8, g9⟩
     ·simp at hr
     refine ⟨_, _, run_indexAt hk w _ _ _ _ n h0 h1, ?_, h⟩
     rw [Addr.add_lit]
     simp only [RelV, RV]
     refine ⟨b, _, rfl, .inr g8, ?_⟩
     have := (g9.get _ r hr).2
     rwa [Nat.zero_add, Nat.add_mul] at this
   ·rename_i m t' cs e
    obtain ⟨rfl, h⟩ := h
    obtain ⟨g1, _, b, cp, _, g3, _⟩ := hi.cells e
    have hx2 := hx.2 g1.symm
    rw [g3] at hx2
    obtain ⟨g5, a, rfl, g6⟩ := hx2
    have g7 := g6 (.inl (by omega))
    subst g7
    refine ⟨_, _, run_indexAt hk w _ _ _ _ n h0 h1, ?_, h⟩
    rw [Addr.add_lit]
    simp only [RelV]
    exact ⟨hx.1, fun _ => ⟨b, cp, g3, by rw [Nat.add_mul]⟩⟩
   ·rename_i m t' k' cs e
    obtain ⟨rfl, h⟩ := h
    obtain ⟨g1, _, _, g2⟩ := hi.rowx e
    have hx2 := hx.2 g1.symm
    rcases g2 with ⟨g3, _⟩ | ⟨b, cp, _, _, g3, _⟩
    ·rw [g3] at hx2; obtain ⟨_, rfl, _⟩ := hx2; omega
    rw [g3] at hx2
    obtain ⟨g5, a, rfl, g6⟩ := hx2
    have g7 := g6 (.inl (by omega))
    subst g7
    refine ⟨_, _, run_indexAt hk w _ _ _ _ n h0 h1, ?_, h⟩
    rw [Addr.add_lit]
    simp only [RelV]
    exact ⟨hx.1, fun _ => ⟨b, cp, g3, by rw [Nat.add_mul]⟩⟩
   ·exact h.elim
  ·exact h.elim
 ·exact h.elim

/-! ### A text's bytes -/
def AIndex (P : Program) (t : TypeId) (x i : AV) (K : AV → Prop) : Prop :=
 match x, i with
 | .val (.string s), .val (.int _ n) => tyStr P t = true ∧ 0 ≤ n ∧ ∃ b, s.data.toList[n.toNat]? = some b ∧ K (.val (.int .u8 b.toNat))
 | _, _ => False
theorem AIndex_sound {P : Program} {t : TypeId} {x i : AV} {K : AV → Prop} (h : AIndex P t x i K) {w : World} {c : Cx} {v u : Value} (hx : RelV w c x v) (hu : RelV w c i u) :
  ∃ r a, (Instr.index t v u).run P w = .ok r w ∧ RelV w c a r ∧ K a := by
 unfold AIndex at h
 split at h
 ·rename_i s k n
  simp only [RelV] at hx hu
  obtain ⟨rfl, -⟩ := hx
  obtain ⟨rfl, -⟩ := hu
  obtain ⟨h1, h2, b, h3, h⟩ := h
  refine done h rfl ?_
  have hlt := lt_of_get h3
  have hsz : n.toNat < s.size := by simpa using hlt
  have hb : s[n.toNat]? = some b := by
   rw [getElem?_pos s n.toNat hsz]
   rw [Array.getElem?_toList] at h3
   obtain ⟨_, h3⟩ := Array.getElem?_eq_some_iff.1 h3
   rw [← h3]; rfl
  simp [Instr.index, asIntOf, run_underlying (und_of_tyStr h1), h2, hb]
 ·exact h.elim

/-! ### Cuts -/
def ABnd (x : Option AV) (d : Int) (K : Int → Prop) : Prop :=
 match x with
 | none => K d
 | some (.val (.int _ n)) => K n
 | _ => False
def rowLen : Blk → Nat
 | .row _ _ _ rows => rows.length
 | _ => 0
def ASlice (P : Program) (t : TypeId) (x : AV) (lo hi : Option AV) (hp : Hp) (K : AV → Prop) : Prop :=
 match x with
 | .val (.string s) => tyStr P t = true ∧ ABnd lo 0 fun l => ABnd hi s.size fun h => 0 ≤ l ∧ l ≤ h ∧ h ≤ s.size ∧ K (.val (.string (s.extract l.toNat h.toNat)))
 | .list k rows => (tyEl P t).bind (tySz P) = some k ∧ ABnd lo 0 fun l => ABnd hi rows.length fun h => 0 ≤ l ∧ l ≤ h ∧ h ≤ rows.length ∧ K (.list k ((rows.take h.toNat).drop l.toNat))
 | .val (.slice none 0 0) => (tyEl P t).bind (tySz P) ≠ none ∧ ABnd lo 0 fun l => ABnd hi 0 fun h => 0 ≤ l ∧ l ≤ h ∧ h ≤ 0 ∧ K (.val (.slice none 0 0))
 | .own s ver k off len => (hp.get s).1 = ver ∧ (tyEl P t).bind (tySz P) = some k ∧ ABnd lo 0 fun l => ABnd hi len fun h => 0 ≤ l ∧ l ≤ h ∧ (h ≤ len ∨ off + h.toNat ≤ rowLen (hp.get s).2) ∧ K (.own s ver k (off + l.toNat) (h.toNat - l.toNat))
 | _ => False
theorem flatten_len {rows : List (List AV)} {k : Nat} (hk : ∀ r ∈ rows, r.length = k) : rows.flatten.length = rows.length * k := by
 induction rows with
 | nil => simp
 | cons x rows ih =>
  simp only [List.flatten_cons, List.length_append, List.length_cons, hk x (by simp), ih (fun r hr => hk r (by simp [hr])), Nat.add_mul]
  omega
theorem Inv.rowLen {w : World} {c : Cx} {hp : Hp} (h : Inv w c hp) (s : Site) : (c.loc s = none → E.rowLen (hp.get s).2 = 0) ∧ ∀ b cp, c.loc s = some (b, cp) → E.rowLen (hp.get s).2 ≤ cp := by
 cases e : (hp.get s).2 with
 | row t k q rows =>
  obtain ⟨_, _, h0, hk, h1⟩ := h.row (s := s) (n := (hp.get s).1) (by rw [← e])
  rcases h1 with ⟨h2, rfl, _⟩ | ⟨b, cp, vs, rest, h2, _, _, _, h3, _, h4⟩
  ·exact ⟨fun _ => rfl, fun b cp e2 => by rw [h2] at e2; cases e2⟩
  ·refine ⟨fun e2 => (by rw [h2] at e2; cases e2), fun b' cp' e2 => ?_⟩
   rw [h2] at e2
   cases e2
   have h5 := h4.length
   rw [flatten_len hk] at h5
   simp only [List.length_append] at h3
   exact Nat.le_of_mul_le_mul_right (show rows.length * k ≤ cp * k by omega) h0
 | _ => exact ⟨fun _ => rfl, fun _ _ _ => Nat.zero_le _⟩
theorem ABnd.mono {x : Option AV} {d : Int} {K K' : Int → Prop} (hk : ∀ n, K n → K' n) (h : ABnd x d K) : ABnd x d K' := by
 unfold ABnd at *
 split at h
 ·exact hk _ h
 ·exact hk _ h
 ·exact h
/-- A bound that is told, or not. -/
def RelO (w : World) (c : Cx) : Option AV → Option Value → Prop
 | none, none => True
 | some x, some v => RelV w c x v
 | _, _ => False
theorem run_sliceBound {P : Program} {w : World} (k : IntKind) (n : Int) (y : Nat) (code : BoundsCode) (h0 : 0 ≤ n) (h1 : n ≤ y) : (Instr.sliceBound (.int k n) y code).run P w = .ok n.toNat w := by
 simp [Instr.sliceBound, asIntOf, h0, h1]
theorem run_sliceBounds {P : Program} {w : World} {c : Cx} (b : Bool) (len cap : Nat) {lo hi : Option AV} {lv hv : Option Value} (hl : RelO w c lo lv) (hh : RelO w c hi hv) {K : Int → Int → Prop}
  (h : ABnd lo 0 fun l => ABnd hi len fun h => 0 ≤ l ∧ l ≤ h ∧ h ≤ cap ∧ K l h) (hc : len ≤ cap) :
  ∃ l h : Int, (Instr.sliceBounds b len cap lv hv none).run P w = .ok (l.toNat, h.toNat, cap) w ∧ 0 ≤ l ∧ l ≤ h ∧ h ≤ cap ∧ K l h := by
 unfold ABnd at h
 split at h
 ·cases lv with
  | some v => simp only [RelO] at hl
  | none =>
   split at h
   ·cases hv with
    | some v => simp only [RelO] at hh
    | none =>
     refine ⟨0, len, ?_, h⟩
     simp [Instr.sliceBounds]
   ·rename_i k n
    cases hv with
    | none => simp only [RelO] at hh
    | some v =>
     simp only [RelO, RelV] at hh
     obtain ⟨rfl, -⟩ := hh
     refine ⟨0, n, ?_, h⟩
     simp [Instr.sliceBounds, run_sliceBound (P := P) (w := w) k n cap _ (by omega) (by omega)]
   ·exact h.elim
 ·rename_i k l
  cases lv with
  | none => simp only [RelO] at hl
  | some v =>
   simp only [RelO, RelV] at hl
   obtain ⟨rfl, -⟩ := hl
   split at h
   ·cases hv with
    | some v => simp only [RelO] at hh
    | none =>
     refine ⟨l, len, ?_, h⟩
     simp [Instr.sliceBounds, run_sliceBound (P := P) (w := w) k l len _ (by omega) (by omega)]
   ·rename_i k2 n
    cases hv with
    | none => simp only [RelO] at hh
    | some v =>
     simp only [RelO, RelV] at hh
     obtain ⟨rfl, -⟩ := hh
     refine ⟨l, n, ?_, h⟩
     simp [Instr.sliceBounds, run_sliceBound (P := P) (w := w) k2 n cap _ (by omega) (by omega), run_sliceBound (P := P) (w := w) k l n.toNat _ (by omega) (by omega)]
   ·exact h.elim
 ·exact h.elim
theorem ASlice_sound {P : Program} {t : TypeId} {x : AV} {lo hi : Option AV} {hp : Hp} {K : AV → Prop} (h : ASlice P t x lo hi hp K) {w : World} {c : Cx} (hi' : Inv w c hp) {v : Value} {lv hv : Option Value} (hx : RelV w c x v) (hl : RelO w c lo lv) (hh : RelO w c hi hv) :
  ∃ r a, (Instr.sliceAt t v lv hv none).run P w = .ok r w ∧ RelV w c a r ∧ K a := by
 unfold ASlice at h
 split at h
 ·rename_i s
  simp only [RelV] at hx
  obtain ⟨rfl, -⟩ := hx
  obtain ⟨h1, h⟩ := h
  obtain ⟨l, m, e, h2, h3, h4, h⟩ := run_sliceBounds (P := P) false s.size s.size hl hh h (Nat.le_refl _)
  refine done h rfl ?_
  simp [Instr.sliceAt, Instr.slice, run_underlying (und_of_tyStr h1), e]
 ·rename_i k rows
  simp only [RelV, RV] at hx
  obtain ⟨a, cap, rfl, hc, hn, hr⟩ := hx
  obtain ⟨h1, h⟩ := h
  obtain ⟨l, m, e, h2, h3, _, h4, h⟩ := run_sliceBounds (P := P) true rows.length cap hl hh (K := fun l h => h ≤ rows.length ∧ K (.list k ((rows.take h.toNat).drop l.toNat))) (ABnd.mono (fun l h => ABnd.mono (fun n h => ⟨h.1, h.2.1, by omega, h.2.2.1, h.2.2.2⟩) h) h) hc
  obtain ⟨el, g1, g2⟩ := Option.bind_eq_some_iff.1 h1
  refine ⟨.slice (if cap = l.toNat then a else a.map (·.add (l.toNat * k))) (m.toNat - l.toNat) (cap - l.toNat), _, ?_, ?_, h⟩
  ·simp only [Instr.sliceAt, Instr.slice, Sem.run_bind, run_underlying (und_of_tyEl g1), Result.andThen_ok, e, run_sizeOf w g2, Sem.run_pure]
  ·simp only [RelV, RV]
   have hlen : ((rows.take m.toNat).drop l.toNat).length = m.toNat - l.toNat := by simp; omega
   refine ⟨_, cap - l.toNat, by rw [hlen], by rw [hlen]; omega, fun e => ?_, ?_⟩
   ·have : a = none := by
     split at e
     ·exact e
     ·simpa using e
    have := hn this
    omega
   by_cases hz : m.toNat - l.toNat = 0
   ·exact .inl (List.eq_nil_of_length_eq_zero (by rw [hlen]; exact hz))
   ·rcases hr with rfl | ⟨b, off, rfl, hs, hr⟩
    ·simp at h4; omega
    ·refine .inr ⟨b, off + l.toNat * k, ?_, hs, (hr.take _).drop _⟩
     rw [if_neg (by omega), Option.map_some, Addr.add_lit]
 ·simp only [RelV] at hx
  obtain ⟨rfl, -⟩ := hx
  obtain ⟨h1, h⟩ := h
  obtain ⟨k, hk⟩ := Option.ne_none_iff_exists'.1 h1
  obtain ⟨el, g1, g2⟩ := Option.bind_eq_some_iff.1 hk
  obtain ⟨l, m, e, h2, h3, h4, h⟩ := run_sliceBounds (P := P) true 0 0 hl hh (K := fun l h => K (.val (.slice none 0 0))) (ABnd.mono (fun l h => ABnd.mono (fun n h => ⟨h.1, h.2.1, by omega, h.2.2.2⟩) h) h) (Nat.le_refl _)
  refine ⟨.slice (if 0 = l.toNat then none else none) (m.toNat - l.toNat) (0 - l.toNat), _, ?_, ?_, h⟩
  ·simp only [Instr.sliceAt, Instr.slice, Sem.run_bind, run_underlying (und_of_tyEl g1), Result.andThen_ok, e, run_sizeOf w g2, Sem.run_pure, Option.map_none]
  ·simp only [RelV]
   rw [show l.toNat = 0 by omega, show m.toNat = 0 by omega]
   exact ⟨by simp, rfl⟩
 ·rename_i s ver k off len
  obtain ⟨h0, h1, h⟩ := h
  obtain ⟨el, g1, g2⟩ := Option.bind_eq_some_iff.1 h1
  simp only [RelV] at hx
  obtain ⟨hv1, hv2⟩ := hx
  have h5 := hv2 (by rw [← h0, hi'.cur s])
  cases hloc : c.loc s with
  | none =>
   rw [hloc] at h5
   obtain ⟨rfl, rfl, rfl⟩ := h5
   obtain ⟨l, m, e, h2, h3, h4, h⟩ := run_sliceBounds (P := P) true 0 0 hl hh (K := fun l h => K (.own s ver k (0 + l.toNat) (h.toNat - l.toNat))) (ABnd.mono (fun l h => ABnd.mono (fun n h => ⟨h.1, h.2.1, by have := (hi'.rowLen s).1 hloc; rcases h.2.2.1 with h' | h' <;> omega, h.2.2.2⟩) h) h) (Nat.le_refl _)
   refine ⟨.slice (if 0 = l.toNat then none else none) (m.toNat - l.toNat) (0 - l.toNat), _, ?_, ?_, h⟩
   ·simp only [Instr.sliceAt, Instr.slice, Sem.run_bind, run_underlying (und_of_tyEl g1), Result.andThen_ok, e, run_sizeOf w g2, Sem.run_pure, Option.map_none]
   ·simp only [RelV]
    refine ⟨hv1, fun _ => ?_⟩
    rw [hloc]
    refine ⟨by omega, by omega, ?_⟩
    rw [show l.toNat = 0 by omega, show m.toNat = 0 by omega]
    simp
  | some x =>
   obtain ⟨b, cp⟩ := x
   rw [hloc] at h5
   obtain ⟨h6, a, rfl, h7⟩ := h5
   obtain ⟨l, m, e, h2, h3, h4, h⟩ := run_sliceBounds (P := P) true len (cp - off) hl hh (K := fun l h => K (.own s ver k (off + l.toNat) (h.toNat - l.toNat))) (ABnd.mono (fun l h => ABnd.mono (fun n h => ⟨h.1, h.2.1, by have := (hi'.rowLen s).2 _ _ hloc; rcases h.2.2.1 with h' | h' <;> omega, h.2.2.2⟩) h) h) (by omega)
   refine ⟨.slice (if cp - off = l.toNat then some a else some (a.add (l.toNat * k))) (m.toNat - l.toNat) (cp - off - l.toNat), _, ?_, ?_, h⟩
   ·simp only [Instr.sliceAt, Instr.slice, Sem.run_bind, run_underlying (und_of_tyEl g1), Result.andThen_ok, e, run_sizeOf w g2, Sem.run_pure, Option.map_some]
   ·simp only [RelV]
    refine ⟨hv1, fun _ => ?_⟩
    rw [hloc]
    by_cases hq : cp - off = l.toNat
    ·refine ⟨by omega, a, ?_, fun hlt => ?_⟩
     ·rw [if_pos hq]
      congr 1
      omega
     ·have e1 : off = 0 := by omega
      have e2 : l.toNat = 0 := by omega
      rw [h7 (.inr e1), e1, e2]
    ·refine ⟨by omega, ⟨b, (off + l.toNat) * k, none⟩, ?_, fun _ => rfl⟩
     have h8 := h7 (.inl (by omega))
     subst h8
     rw [if_neg hq, Addr.add_lit, Nat.add_mul]
     congr 1
     omega
 ·exact h.elim
end Go.Proofs.YtonolfpnidaflaaGreatDoor.E

/- The abstract machine of this claim, part F: parts of results, unary operations, conversions, structs, lengths. No conditions. -/
namespace Go.Proofs.YtonolfpnidaflaaGreatDoor.E
open Go
set_option linter.unusedSimpArgs false
set_option linter.unusedVariables false
set_option linter.unusedSectionVars false
set_option maxRecDepth 20000

def AExtract (x : AV) (i : Nat) (K : AV → Prop) : Prop :=
 match x with
 | .tup vs => ∃ a, vs[i]? = some a ∧ K a
 | _ => False
theorem AExtract_sound {P : Program} {x : AV} {i : Nat} {K : AV → Prop} (h : AExtract x i K) {w : World} {c : Cx} {v : Value} (hx : RelV w c x v) :
  ∃ r a, (Instr.extract v i).run P w = .ok r w ∧ RelV w c a r ∧ K a := by
 unfold AExtract at h
 split at h
 ·rename_i vs
  obtain ⟨a, ha, h⟩ := h
  simp only [RelV] at hx
  obtain ⟨us, rfl, hr⟩ := hx
  obtain ⟨u, hu, hr⟩ := hr.get i a ha
  refine ⟨u, a, ?_, hr, h⟩
  simp [Instr.extract, hu]
 ·exact h.elim

def AUn (op : UnOp) (x : AV) (K : AV → Prop) : Prop :=
 match op, x with
 | .not, .val (.bool b) => K (.val (.bool (!b)))
 | .neg, .val (.int k n) => K (.val (.int k (k.wrap (0 - n))))
 | .xor, .val (.int k n) => K (.val (.int k (bits .xor k (if k.signed then -1 else k.max) n)))
 | _, _ => False
theorem AUn_sound {P : Program} {op : UnOp} {x : AV} {K : AV → Prop} (h : AUn op x K) {w : World} {c : Cx} {v : Value} (hx : RelV w c x v) :
  ∃ r a, (Op.unary op v).run P w = .ok r w ∧ RelV w c a r ∧ K a := by
 unfold AUn at h
 split at h
 all_goals first
  | exact h.elim
  | (simp only [RelV] at hx; obtain ⟨rfl, -⟩ := hx; exact done h rfl (by simp only [Op.unary, Op.intArith, intBits_xor, Sem.run_pure]))

def AConv (P : Program) (src dst : TypeId) (x : AV) (K : AV → Prop) : Prop :=
 match x with
 | .val (.int _ n) => (P.underlying src).isSome = true ∧ match tyInt P dst with
  | some k => K (.val (.int k (k.wrap n)))
  | none => False
 | .val (.string s) => tyStr P src = true ∧ if tyStr P dst = true then K (.val (.string s)) else (tyEl P dst).bind (tyInt P) = some .u8 ∧ K (.list 1 (s.data.toList.map fun b => [.val (.int .u8 b.toNat)]))
 | _ => False
theorem flat_bytes (l : List UInt8) : (l.map fun b => [AV.val (.int .u8 b.toNat)]).flatten = l.map fun b => AV.val (.int .u8 b.toNat) := by
 induction l with
 | nil => rfl
 | cons x l ih => simp only [List.map_cons, List.flatten_cons, ih]; rfl
theorem rvl_bytes (w : World) (S : Nat → Prop) (l : List UInt8) : RVL w S (l.map fun b => AV.val (.int .u8 b.toNat)) (l.map fun b => Value.int .u8 b.toNat) := by
 induction l with
 | nil => simp [RVL]
 | cons x l ih =>
  simp only [List.map_cons, RVL, RV]
  exact ⟨_, _, rfl, ⟨rfl, rfl⟩, ih⟩
theorem AConv_sound {P : Program} {src dst : TypeId} {x : AV} {K : AV → Prop} (h : AConv P src dst x K) {w : World} {c : Cx} {hp : Hp} (hi : Inv w c hp) {v : Value} (hx : RelV w c x v) :
  ∃ r a w', (convert src dst v).run P w = .ok r w' ∧ Ext w c w' c ∧ Inv w' c hp ∧ RelV w' c a r ∧ K a := by
 unfold AConv at h
 split at h
 ·rename_i k n
  simp only [RelV] at hx
  obtain ⟨rfl, -⟩ := hx
  obtain ⟨h1, h⟩ := h
  split at h
  ·rename_i k2 hk
   have hu := und_of_tyInt hk
   have hk2 : P.intKind dst = k2 := by simp [Program.intKind, hu]
   have := run_convert_int (P := P) w src dst k n h1 (by rw [hk2]; exact hu)
   rw [hk2] at this
   exact ⟨_, _, w, this, Ext.refl _ _, hi, by simp only [RelV]; exact ⟨trivial, rfl⟩, h⟩
  ·exact h.elim
 ·rename_i s
  simp only [RelV] at hx
  obtain ⟨rfl, -⟩ := hx
  obtain ⟨h1, h⟩ := h
  split at h
  ·rename_i h2
   exact ⟨_, _, w, by simp [convert, run_underlying (und_of_tyStr h1), run_underlying (und_of_tyStr h2)]; rfl, Ext.refl _ _, hi, by simp only [RelV]; exact ⟨trivial, rfl⟩, h⟩
  ·obtain ⟨h2, h⟩ := h
   obtain ⟨e, he, hk⟩ := Option.bind_eq_some_iff.1 h2
   have hr := run_bytes_of_string (P := P) w src dst e s (und_of_tyStr h1) (und_of_tyEl he) (und_of_tyInt hk)
   obtain ⟨x1, x2, x3⟩ := Ext.alloc_still (.cells (bytesRow s (grownCap w s.size 0 e)) e ((bytesRow s (grownCap w s.size 0 e)).size, (bytesRow s (grownCap w s.size 0 e)).size + 1)) hi.drew
   refine ⟨_, _, _, hr, (Ext.refl w c).drew.trans x1, x2, ?_, h⟩
   have hsz : (s.data.toList.map fun b => [AV.val (.int .u8 b.toNat)]).length = s.size := by rw [List.length_map]; rfl
   simp only [RelV, RV]
   refine ⟨_, _, by rw [hsz], by rw [hsz]; exact grownCap_ge w s.size 0 e, fun q => (by cases q), .inr ⟨w.heap.size, 0, rfl, x3, ?_⟩⟩
   refine RVRows.of_flat (fun r hr => by obtain ⟨b, _, rfl⟩ := List.mem_map.1 hr; rfl) ?_
   rw [flat_bytes]
   refine RVAt.of_vals (rvl_bytes _ _ _) (fun u hu => by obtain ⟨b, _, rfl⟩ := List.mem_map.1 hu; rfl) fun i u hu => ?_
   have hb := heap_new w.drew (.cells (bytesRow s (grownCap w s.size 0 e)) e ((bytesRow s (grownCap w s.size 0 e)).size, (bytesRow s (grownCap w s.size 0 e)).size + 1))
   simp only [World.cell?, show w.drew.heap.size = w.heap.size from rfl] at hb ⊢
   rw [hb]
   simp only [Nat.zero_add, bytesRow]
   have hi2 := (List.getElem?_eq_some_iff.1 hu).1
   rw [List.length_map] at hi2
   rw [Array.getElem?_append_left (by rw [Array.size_map]; exact hi2), Array.getElem?_map, ← Array.getElem?_toList, ← List.getElem?_map]
   simpa using hu
 ·exact h.elim

/-- Bytes that somebody owns, as a text. -/
def AConvB (P : Program) (src dst : TypeId) (ver k off len : Nat) (nb : Nat × Blk) (K : AV → Prop) : Prop :=
 match nb with
 | (n, .row _ k' _ rows) => n = ver ∧ k' = 1 ∧ k = 1 ∧ off = 0 ∧ (tyEl P src).bind (tyInt P) = some .u8 ∧ tyStr P dst = true ∧ ∃ l : List UInt8, rows = (l.map fun b => [.val (.int .u8 b.toNat)]) ∧ len = l.length ∧ 0 < l.length ∧ K (.val (.string ⟨l.toArray⟩))
 | _ => False
def AConvO (P : Program) (src dst : TypeId) (x : AV) (hp : Hp) (K : AV → Prop) : Prop :=
 match x with
 | .own s ver k off len => AConvB P src dst ver k off len (hp.get s) K
 | x => AConv P src dst x K
theorem rvl_bytes_inv {w : World} {S : Nat → Prop} : ∀ {l : List UInt8} {vs : List Value}, RVL w S (l.map fun b => AV.val (.int .u8 b.toNat)) vs → vs = l.map fun b => Value.int .u8 b.toNat
 | [], vs, h => by simpa [RVL] using h
 | b :: l, vs, h => by
  simp only [List.map_cons, RVL, RV] at h
  obtain ⟨u, us, rfl, ⟨rfl, _⟩, h⟩ := h
  rw [rvl_bytes_inv h]
  rfl
theorem AConvO_sound {P : Program} {src dst : TypeId} {x : AV} {K : AV → Prop} {w : World} {c : Cx} {hp : Hp} (h : AConvO P src dst x hp K) (hi : Inv w c hp) {v : Value} (hx : RelV w c x v) :
  ∃ r a w', (convert src dst v).run P w = .ok r w' ∧ Ext w c w' c ∧ Inv w' c hp ∧ RelV w' c a r ∧ K a := by
 unfold AConvO at h
 split at h
 ·rename_i s ver k off len
  unfold AConvB at h
  split at h
  ·rename_i n t' k' q rows e
   obtain ⟨rfl, rfl, rfl, rfl, hty, hd, l, rfl, rfl, h0, h⟩ := h
   obtain ⟨g1, _, _, _, m⟩ := hi.row e
   simp only [RelV] at hx
   have hx2 := hx.2 g1.symm
   rcases m with ⟨_, hr, _⟩ | ⟨b, cp, vs, rest, hloc, _, _, hheap, _, _, hrel⟩
   ·have := congrArg List.length hr
    simp at this
    rw [this] at h0
    simp at h0
   ·rw [hloc] at hx2
    obtain ⟨_, a, rfl, ha⟩ := hx2
    obtain rfl := ha (.inr (by trivial))
    rw [flat_bytes] at hrel
    have hvs := rvl_bytes_inv hrel
    obtain ⟨el, he, hk⟩ := Option.bind_eq_some_iff.1 hty
    have hrun := run_convert_bytes_back (P := P) w src dst el ⟨b, 0 * 1, none⟩ (cp - 0) l (und_of_tyEl he) (und_of_tyInt hk) (und_of_tyStr hd) (fun j hj => by
     have e1 : (⟨b, 0 * 1, none⟩ : Addr).add j = ⟨b, j, none⟩ := by
      unfold Addr.add
      by_cases hj0 : j = 0
      ·simp [hj0]
      ·simp [hj0]
     rw [e1, cell_block hheap, hvs, List.getElem?_append_left (by simpa using hj), List.getElem?_map, List.getElem?_eq_getElem hj]
     rfl)
    exact ⟨_, _, w, hrun, Ext.refl _ _, hi, by simp only [RelV]; exact ⟨trivial, rfl⟩, h⟩
  ·exact h.elim
 ·exact AConv_sound h hi hx

/-! ### Structs by value -/
/-- A value of one cell, for sure. -/
def AV.lf (hp : Hp) : AV → Bool
 | .val u => u.oneCell'
 | .list _ _ | .rop _ | .func _ _ | .iface _ _ | .junk => true
 | .ptr s ver _ => (hp.get s).1 == ver && match (hp.get s).2 with | .cells _ _ | .icc _ _ => true | _ => false
 | .ept s ver _ _ _ => (hp.get s).1 == ver && match (hp.get s).2 with | .row _ _ _ _ | .ice _ _ => true | _ => false
 | .own s ver _ _ _ => (hp.get s).1 == ver
 | .map s ver => (hp.get s).1 == ver
 | _ => false
def AV.cs (hp : Hp) : AV → Option (List AV)
 | .agg cs => some cs
 | x => if x.lf hp then some [x] else none
theorem RelV.lf {w : World} {c : Cx} {hp : Hp} (hi : Inv w c hp) {x : AV} {v : Value} (h : RelV w c x v) (hl : x.lf hp = true) : v.oneCell' = true := by
 cases x <;> simp only [AV.lf, Bool.false_eq_true, Bool.and_eq_true, beq_iff_eq] at hl
 case val u => simp only [RelV] at h; rw [h.1]; exact hl
 case junk => simpa only [RelV] using h
 case list k rows => simp only [RelV, RV] at h; obtain ⟨a, cap, rfl, _⟩ := h; rfl
 case rop cs => simp only [RelV, RV] at h; obtain ⟨a, cap, rfl, _⟩ := h; rfl
 case func f cap => simp only [RelV] at h; obtain ⟨vs, rfl, _⟩ := h; rfl
 case iface t y => simp only [RelV] at h; obtain ⟨u, rfl, _⟩ := h; rfl
 case ptr s ver off => simp only [RelV] at h; obtain ⟨b, cp, _, rfl⟩ := h.2 (by rw [← hl.1, hi.cur]); rfl
 case ept s ver k i off => simp only [RelV] at h; obtain ⟨b, cp, _, rfl⟩ := h.2 (by rw [← hl.1, hi.cur]); rfl
 case own s ver k off len =>
  simp only [RelV] at h
  have h2 := h.2 (by rw [← hl, hi.cur])
  split at h2
  ·obtain ⟨_, _, rfl⟩ := h2; rfl
  ·obtain ⟨_, a, rfl, _⟩ := h2; rfl
 case map s ver => simp only [RelV] at h; obtain ⟨b, cp, _, rfl⟩ := h.2 (by rw [← hl, hi.cur]); rfl
theorem cells_one {v : Value} (h : v.oneCell' = true) : v.cells = #[v] := by cases v <;> first | rfl | simp [Value.oneCell'] at h
/-- The cells of a value, as those of what it is told as. -/
theorem RelV.cells {w : World} {c : Cx} {hp : Hp} (hi : Inv w c hp) {x : AV} {v : Value} {l : List AV} (h : RelV w c x v) (hc : x.cs hp = some l) : RelL w c l v.cells.toList ∧ ∀ u ∈ v.cells.toList, u.oneCell' = true := by
 unfold AV.cs at hc
 split at hc
 ·cases hc
  simp only [RelV] at h
  obtain ⟨vs, rfl, ho, h⟩ := h
  exact ⟨by simpa [Value.cells] using h, by simpa [Value.cells] using ho⟩
 ·split at hc
  ·rename_i hl
   cases hc
   have ho := h.lf hi hl
   rw [cells_one ho]
   simp only [RelL]
   exact ⟨⟨v, [], rfl, h, rfl⟩, by simpa using ho⟩
  ·cases hc

def fillA (hp : Hp) (pl : List (Nat × Nat)) : List AV → List (Nat × AV) → Option (List AV)
 | cells, [] => some cells
 | cells, (i, x) :: rest => match pl[i]? with
  | some (off, n) => match x.cs hp with
   | some l => if l.length = n ∧ off + n ≤ cells.length then fillA hp pl (cells.take off ++ l ++ cells.drop (off + n)) rest else none
   | none => none
  | none => none
def ABuild (P : Program) (t : TypeId) (parts : List (Nat × AV)) (hp : Hp) (K : AV → Prop) : Prop :=
 match tyZ P t with
 | some z => match tyF P t with
  | some pl => match fillA hp pl z parts with
   | some cs => K (.agg cs)
   | none => False
  | none => False
 | none => False

theorem foldl_set_splice (off : Nat) (l : List Value) : ∀ (k : Nat) (cells : Array Value), off + k + l.length ≤ cells.size →
  ((l.zipIdx k).foldl (fun cs (x : Value × Nat) => cs.setIfInBounds (off + x.2) x.1) cells).toList = cells.toList.take (off + k) ++ l ++ cells.toList.drop (off + k + l.length) := by
 induction l with
 | nil => intro k cells h; simp
 | cons v l ih =>
  intro k cells h
  simp only [List.length_cons] at h
  simp only [List.zipIdx_cons, List.foldl_cons]
  rw [ih (k + 1) _ (by simp only [Array.size_setIfInBounds]; omega)]
  simp only [Array.toList_setIfInBounds, List.length_cons]
  rw [show off + (k + 1) = off + k + 1 by omega]
  rw [List.take_set, List.drop_set_of_lt (by omega)]
  have hlt : off + k < cells.toList.length := by simp; omega
  rw [List.take_succ_eq_append_getElem hlt, List.set_append, if_neg (by simp only [List.length_take]; omega)]
  simp only [List.length_take, List.append_assoc]
  rw [show off + k - min (off + k) cells.toList.length = 0 by omega]
  simp only [List.set_cons_zero, List.cons_append, List.nil_append]
  rw [show off + k + 1 + l.length = off + k + (l.length + 1) by omega]

def RelP (w : World) (c : Cx) : List (Nat × AV) → List (Nat × Value) → Prop
 | [], vs => vs = []
 | x :: xs, vs => ∃ v us, vs = (x.1, v) :: us ∧ RelV w c x.2 v ∧ RelP w c xs us
theorem fillA_sound {w : World} {c : Cx} {hp : Hp} (hi : Inv w c hp) {pl : List (Nat × Nat)} {parts : List (Nat × AV)} {cells res : List AV} (h : fillA hp pl cells parts = some res) {vs : List (Nat × Value)} {cv : Array Value}
  (hp' : RelP w c parts vs) (hc : RelL w c cells cv.toList) (hoc : ∀ u ∈ cv.toList, u.oneCell' = true) (place : Nat → Option (Nat × Nat)) (hpl : ∀ i x, pl[i]? = some x → place i = some x) :
  ∃ rv, Instr.fill place cv vs = some rv ∧ RelL w c res rv.toList ∧ ∀ u ∈ rv.toList, u.oneCell' = true := by
 induction parts generalizing cells cv vs with
 | nil =>
  simp only [RelP] at hp'
  subst hp'
  simp only [fillA, Option.some.injEq] at h
  subst h
  exact ⟨cv, rfl, hc, hoc⟩
 | cons x xs ih =>
  simp only [RelP] at hp'
  obtain ⟨v, ys, rfl, hr, hp'⟩ := hp'
  obtain ⟨i, a⟩ := x
  simp only [fillA] at h
  split at h
  ·rename_i off n hpi
   split at h
   ·rename_i l hl
    split at h
    ·rename_i hn
     obtain ⟨hcv, hov⟩ := hr.cells hi hl
     have hlen := hcv.length
     have hlen2 := hc.length
     simp only [Array.length_toList] at hlen hlen2
     have key0 : (v.cells.zipIdx.foldl (fun cs (x : Value × Nat) => cs.setIfInBounds (off + x.2) x.1) cv).toList = cv.toList.take off ++ v.cells.toList ++ cv.toList.drop (off + n) := by
      rw [← Array.foldl_toList, Array.toList_zipIdx, foldl_set_splice off _ 0 cv (by simp only [Array.length_toList]; omega)]
      simp only [Nat.add_zero, Array.length_toList]
      rw [hlen, hn.1]
     have key : RelL w c (cells.take off ++ l ++ cells.drop (off + n)) (v.cells.zipIdx.foldl (fun cs (x : Value × Nat) => cs.setIfInBounds (off + x.2) x.1) cv).toList := by
      rw [key0]
      exact ((hc.take _).append hcv).append (hc.drop _)
     obtain ⟨rv, e1, e2⟩ := ih h hp' key (by
      rw [key0]
      intro u hu
      rcases List.mem_append.1 hu with hu | hu
      ·rcases List.mem_append.1 hu with hu | hu
       ·exact hoc u (List.mem_of_mem_take hu)
       ·exact hov u hu
      ·exact hoc u (List.mem_of_mem_drop hu))
     refine ⟨rv, ?_, e2⟩
     simp only [Instr.fill, hpl i _ hpi]
     rw [if_neg (by simp; omega)]
     exact e1
    ·cases h
   ·cases h
  ·cases h

theorem mapM_places {P : Program} {w : World} (l : List Field) {pl : List (Nat × Nat)} (h : (l.mapM fun f => (tySz P f.type).map fun n => (f.offset, n)) = some pl) :
  (l.mapM fun f => (do pure (f.offset, ← sizeOf f.type) : Sem (Nat × Nat))).run P w = .ok pl w := by
 induction l generalizing pl with
 | nil => simp only [List.mapM_nil, Option.pure_def, Option.some.injEq] at h; subst h; simp
 | cons f l ih =>
  simp only [List.mapM_cons, Option.bind_eq_bind, Option.bind_eq_some_iff, Option.map_eq_some_iff, Option.pure_def, Option.some.injEq] at h
  obtain ⟨x, ⟨n, hn, rfl⟩, xs, hxs, rfl⟩ := h
  simp only [List.mapM_cons, Sem.run_bind, run_sizeOf w hn, Result.andThen_ok, Sem.run_pure, ih hxs]

theorem run_zero {P : Program} {t : TypeId} {z : List AV} (h : tyZ P t = some z) (w : World) (c : Cx) : ∃ v, (zeroValue t).run P w = .ok v w ∧ RelL w c z v.cells.toList ∧ (∀ u ∈ v.cells.toList, u.oneCell' = true) ∧ ∃ i, P.info? t = some i ∧ i.zero = some v := by
 unfold tyZ at h
 split at h
 ·rename_i i hi
  split at h
  ·rename_i v hz
   split at h
   ·rename_i ha
    cases h
    rw [← Array.all_toList] at ha
    refine ⟨v, by simp [zeroValue, run_typeInfo w hi, hz], ?_, fun u hu => by have := List.all_eq_true.1 ha u hu; simp only [Bool.and_eq_true] at this; exact this.2, i, hi, hz⟩
    generalize v.cells.toList = l at ha ⊢
    induction l with
    | nil => simp only [List.map_nil, RelL]
    | cons x l ih =>
     simp only [List.all_cons, Bool.and_eq_true] at ha
     simp only [List.map_cons, RelL]
     exact ⟨x, l, rfl, by simp only [RelV]; exact ⟨trivial, ha.1.1⟩, ih ha.2⟩
   ·cases h
  ·cases h
 ·cases h

theorem ABuild_sound {P : Program} {t : TypeId} {parts : List (Nat × AV)} {hp : Hp} {K : AV → Prop} (h : ABuild P t parts hp K) {w : World} {c : Cx} (hi : Inv w c hp) {vs : List (Nat × Value)}
  (hp' : RelP w c parts vs) :
  ∃ r a, (Instr.build t vs.toArray).run P w = .ok r w ∧ RelV w c a r ∧ K a := by
 unfold ABuild at h
 split at h
 ·rename_i z hz
  split at h
  ·rename_i pl hpl
   split at h
   ·rename_i cs hcs
    obtain ⟨zv, hz1, hz2, hz3, _⟩ := run_zero hz w c
    have hu : ∃ fs : Array Field, P.underlying t = some (.struct fs) ∧ (fs.toList.mapM fun f => (tySz P f.type).map fun n => (f.offset, n)) = some pl := by
     unfold tyF at hpl
     split at hpl
     ·exact ⟨_, by assumption, hpl⟩
     ·cases hpl
    obtain ⟨fs, hu, hm⟩ := hu
    obtain ⟨rv, hf, hr, hor⟩ := fillA_sound hi hcs hp' (cv := zv.cells) hz2 hz3 (pl.toArray[·]?) (fun i x hx => by simpa using hx)
    refine ⟨.agg rv, _, ?_, ?_, h⟩
    ·have hm2 := mapM_places (w := w) fs.toList hm
     have hm3 : (fs.mapM fun f => (do pure (f.offset, ← sizeOf f.type) : Sem (Nat × Nat))).run P w = .ok pl.toArray w := by
      rw [← Array.toArray_toList (xs := fs), List.mapM_toArray]
      simp only [Array.toArray_toList, Sem.run_map, hm2, Result.andThen_ok]
     simp only [Instr.build, Sem.run_bind, hz1, Result.andThen_ok, run_underlying hu, hm3, Sem.run_pure]
     rw [hf]
     rfl
    ·simp only [RelV]
     exact ⟨rv.toList, by simp, hor, hr⟩
   ·exact h.elim
  ·exact h.elim
 ·exact h.elim
end Go.Proofs.YtonolfpnidaflaaGreatDoor.E

/- The abstract machine of this claim, part G: operations that turn the local heap. No conditions. -/
namespace Go.Proofs.YtonolfpnidaflaaGreatDoor.E
open Go
set_option linter.unusedSimpArgs false
set_option linter.unusedVariables false
set_option linter.unusedSectionVars false
set_option maxRecDepth 20000

/-- What an operation leaves: a world, what it makes of the local heap, a value. -/
def Gives (P : Program) (m : Sem Value) (w : World) (c : Cx) (K : AV → Hp → Prop) : Prop :=
 ∃ r a w' c' hp', m.run P w = .ok r w' ∧ Ext w c w' c' ∧ Inv w' c' hp' ∧ RelV w' c' a r ∧ K a hp'

/-! ### New places -/
def ANew (t : TypeId) (cs : List AV) (s : Site) (hp : Hp) (K : AV → Hp → Prop) : Prop :=
 K (.ptr s ((hp.get s).1 + 1) 0) (hp.set s ((hp.get s).1 + 1) (.cells t cs))
theorem ANew_sound {P : Program} {t : TypeId} {cs : List AV} {s : Site} {hp : Hp} {K : AV → Hp → Prop} (h : ANew t cs s hp K) {w : World} {c : Cx} (hi : Inv w c hp) {v : Value} (hr : RelL w c cs v.cells.toList) (ho : ∀ u ∈ v.cells.toList, u.oneCell' = true) :
  Gives P (do pure (.pointer (some (← newVar t v)))) w c K := by
 have he : Ext w c (w.alloc (.cells v.cells t)) c := (Ext.alloc_still _ hi).1
 obtain ⟨h1, h2⟩ := hi.lay (w' := w.alloc (.cells v.cells t)) s (some (w.heap.size, 0)) (.cells t cs) he (fun b hb => heap_old w _ b (hi.lt b hb)) (fun b cp e => by cases e; exact ⟨Nat.le_refl _, by rw [size_alloc]; omega⟩) (by
  simp only [BlkOk]
  refine ⟨by simp [Cx.lay], w.heap.size, 0, v.cells.toList, by simp [Cx.lay], by rw [heap_new], ho, ?_⟩
  exact RelL.ext (Ext.lay s _ he (fun b cp e => by cases e; exact Nat.le_refl _)) _ _ hr)
 refine ⟨.pointer (some ⟨w.heap.size, 0, none⟩), _, _, _, _, ?_, h1, h2, ?_, h⟩
 ·simp only [newVar, newRow, Sem.run_bind, run_newObj, Result.andThen_ok, Sem.run_pure]
  rfl
 ·simp only [RelV, Cx.lay, if_true, hi.cur s, Nat.le_refl, true_and]
  exact fun _ => ⟨w.heap.size, 0, rfl, rfl⟩

def AAlloc (P : Program) (t : TypeId) (s : Site) (hp : Hp) (K : AV → Hp → Prop) : Prop :=
 match tyZ P t with
 | some z => ANew t z s hp K
 | none => False
theorem AAlloc_sound {P : Program} {t : TypeId} {s : Site} {hp : Hp} {K : AV → Hp → Prop} (h : AAlloc P t s hp K) {w : World} {c : Cx} (hi : Inv w c hp) : Gives P (Instr.alloc t true (.tuple #[])) w c K := by
 unfold AAlloc at h
 split at h
 ·rename_i z hz
  obtain ⟨v, h1, h2, h3, _⟩ := run_zero hz w c
  obtain ⟨r, a, w', c', hp', e, rest⟩ := ANew_sound (P := P) h hi h2 h3
  refine ⟨r, a, w', c', hp', ?_, rest⟩
  simp only [Instr.alloc, Sem.run_bind, h1, Result.andThen_ok]
  simpa only [Sem.run_bind] using e
 ·exact h.elim
def ABox (t : TypeId) (x : AV) (s : Site) (hp : Hp) (K : AV → Hp → Prop) : Prop :=
 match x.cs hp with
 | some cs => ANew t cs s hp K
 | none => False
theorem ABox_sound {P : Program} {t : TypeId} {x : AV} {s : Site} {hp : Hp} {K : AV → Hp → Prop} (h : ABox t x s hp K) {w : World} {c : Cx} (hi : Inv w c hp) {v : Value} (hx : RelV w c x v) : Gives P (Instr.box t v) w c K := by
 unfold ABox at h
 split at h
 ·rename_i cs hcs
  obtain ⟨h1, h2⟩ := hx.cells hi hcs
  exact ANew_sound h hi h1 h2
 ·exact h.elim

/-! ### Stores -/
/-- One block has turned. -/
structure Upd (w : World) (b : Nat) (o : Obj) (w' : World) : Prop where
 os : w'.os = w.os
 tape : w'.tape = w.tape
 output : w'.output = w.output
 size : w'.heap.size = w.heap.size
 here : w'.heap[b]? = some o
 there : ∀ k, k ≠ b → w'.heap[k]? = w.heap[k]?
theorem run_storeCells_upd {P : Program} {b off : Nat} {t : TypeId} : ∀ (vs : List Value) (i : Nat) (w : World) (arr : List Value), w.heap[b]? = some (.cells arr.toArray t (0, 0)) → off + i + vs.length ≤ arr.length → (∀ u ∈ vs, u.oneCell' = true) →
  ∃ w', (storeCells ⟨b, off, none⟩ vs i).run P w = .ok () w' ∧ Upd w b (.cells (arr.take (off + i) ++ vs ++ arr.drop (off + i + vs.length)).toArray t (0, 0)) w' := by
 intro vs
 induction vs with
 | nil =>
  intro i w arr h hl _
  refine ⟨w, by simp [storeCells], rfl, rfl, rfl, rfl, ?_, fun _ _ => rfl⟩
  simpa using h
 | cons v vs ih =>
  intro i w arr h hl ho
  simp only [List.length_cons] at hl
  have hcell : w.cell? ⟨b, off + i, none⟩ = some (arr[off + i]'(by omega)) := by
   rw [cell_block h, List.getElem?_eq_getElem]
  have hfr : w.frozen? ⟨b, off + i, none⟩ = false := by simp [World.frozen?, h]
  have hset : (w.setCell ⟨b, off + i, none⟩ v).heap[b]? = some (.cells (arr.set (off + i) v).toArray t (0, 0)) := by
   simp [World.setCell, Array.getElem?_modify, h]
  obtain ⟨w', e, hu⟩ := ih (i + 1) (w.setCell ⟨b, off + i, none⟩ v) (arr.set (off + i) v) hset (by simp; omega) (fun u hu => ho u (by simp [hu]))
  refine ⟨w', ?_, hu.os, hu.tape, hu.output, ?_, ?_, ?_⟩
  ·have hst := run_store P w ⟨b, off + i, none⟩ v .plain (ho v (by simp))
   rw [hcell] at hst
   simp only [hfr, Bool.false_eq_true, if_false] at hst
   simp only [storeCells, Addr.add_lit, Sem.run_bind, hst, Result.andThen_ok]
   exact e
  ·rw [hu.size]; simp [World.setCell]
  ·rw [hu.here]
   congr 2
   rw [show off + (i + 1) = off + i + 1 by omega]
   rw [List.take_set, List.drop_set_of_lt (by omega)]
   have hlt : off + i < arr.length := by omega
   rw [List.take_succ_eq_append_getElem hlt, List.set_append, if_neg (by simp only [List.length_take]; omega)]
   simp only [List.length_take, List.append_assoc, List.length_cons]
   rw [show off + i - min (off + i) arr.length = 0 by omega]
   simp only [List.set_cons_zero, List.cons_append, List.nil_append]
   rw [show off + i + 1 + vs.length = off + i + (vs.length + 1) by omega]
  ·intro k hk
   rw [hu.there k hk]
   show (w.heap.modify b _)[k]? = _
   rw [Array.getElem?_modify, if_neg (fun e => hk e.symm)]
theorem Upd.ext {w w' : World} {b : Nat} {o : Obj} {c : Cx} (h : Upd w b o w') (hl : c.live b) : Ext w c w' c :=
 ⟨h.os, h.tape, h.output, by rw [h.size]; exact Nat.le_refl _, fun k _ hn => ⟨h.there k (fun e => hn (e ▸ hl)), hn⟩, rfl, fun _ => .inr ⟨rfl, rfl, id⟩⟩
/-- A place whose block has turned, the place being where it was. -/
theorem Inv.put {w w' : World} {c : Cx} {hp : Hp} (hi : Inv w c hp) {s : Site} {b cp : Nat} {o : Obj} (hl : c.lv s = true) (hloc : c.loc s = some (b, cp)) (hu : Upd w b o w') {k : Blk} (hk : BlkOk w' c s k) : Inv w' c (hp.set s (hp.get s).1 k) := by
 have hlive : c.live b := Cx.live_loc hl hloc
 refine hi.upd (hu.ext hlive) s _ k (fun _ _ => ⟨rfl, rfl, rfl, rfl⟩) (fun s' b' hs l e => hu.there b' (fun eb => ?_)) (hi.cur s) hk fun b' _ e => ?_
 ·subst eb; exact hs (hi.inj s' s b' l hl e (.inl ⟨cp, hloc⟩))
 ·exact ⟨by rw [hu.size]; exact hi.lt _ ⟨s, hl, e⟩, hi.far _ ⟨s, hl, e⟩, fun s' hs l e' => hs (hi.inj s' s b' l hl e' e)⟩

/-- What leads to no place of the local heap, by sight. -/
def AV.free : AV → Bool
 | .val _ | .list _ _ | .rop _ | .junk => true
 | _ => false
theorem RelV.rv {w : World} {c : Cx} {x : AV} {v : Value} (h : RelV w c x v) (hf : x.free = true) : RV w (E.still w c) x v := by
 cases x <;> simp only [AV.free, Bool.false_eq_true] at hf <;> simpa only [RelV, RV] using h
theorem RelL.rvl {w : World} {c : Cx} {xs : List AV} {vs : List Value} (h : RelL w c xs vs) (hf : xs.all AV.free = true) : RVL w (E.still w c) xs vs := by
 induction xs generalizing vs with
 | nil => simpa only [RelL, RVL] using h
 | cons x xs ih =>
  simp only [List.all_cons, Bool.and_eq_true] at hf
  simp only [RelL, RVL] at h ⊢
  obtain ⟨u, us, rfl, h1, h2⟩ := h
  exact ⟨u, us, rfl, h1.rv hf.1, ih h2 hf.2⟩

def AStore (P : Program) (t : TypeId) (x v : AV) (hp : Hp) (K : Hp → Prop) : Prop :=
 match v.cs hp with
 | some l => tySz P t = some l.length ∧ match x with
  | .ptr s ver off => match hp.get s with
   | (n, .cells t' cs) => n = ver ∧ off + l.length ≤ cs.length ∧ K (hp.set s n (.cells t' (cs.take off ++ l ++ cs.drop (off + l.length))))
   | (n, .rowx t' k' cs) => n = ver ∧ off + l.length ≤ cs.length ∧ K (hp.set s n (.rowx t' k' (cs.take off ++ l ++ cs.drop (off + l.length))))
   | _ => False
  | .ept s ver k i off => match hp.get s with
   | (n, .row t' k' q rows) => n = ver ∧ k' = k ∧ l.all AV.free = true ∧ ∃ r, rows[i]? = some r ∧ off + l.length ≤ k ∧ K (hp.set s n (.row t' k' q (rows.set i (r.take off ++ l ++ r.drop (off + l.length)))))
   | _ => False
  | _ => False
 | none => False

theorem flatten_set {rows : List (List AV)} {k : Nat} (hk : ∀ r ∈ rows, r.length = k) (i : Nat) (r : List AV) (hi : i < rows.length) : (rows.set i r).flatten = rows.flatten.take (i * k) ++ r ++ rows.flatten.drop (i * k + k) := by
 induction rows generalizing i with
 | nil => simp at hi
 | cons x rows ih =>
  have hx := hk x (by simp)
  cases i with
  | zero =>
   simp only [List.set_cons_zero, List.flatten_cons, Nat.zero_mul, List.take_zero, List.nil_append, Nat.zero_add]
   rw [List.drop_append, List.drop_eq_nil_of_le (by omega), List.nil_append, hx, Nat.sub_self, List.drop_zero]
  | succ i =>
   simp only [List.set_cons_succ, List.flatten_cons]
   rw [ih (fun y hy => hk y (by simp [hy])) i (by simpa using hi)]
   have e : (i + 1) * k = x.length + i * k := by rw [Nat.add_mul, hx]; omega
   rw [e, Nat.add_assoc, List.take_length_add_append, List.drop_length_add_append]
   simp [List.append_assoc]

theorem AStore_sound {P : Program} {t : TypeId} {x v : AV} {hp : Hp} {K : Hp → Prop} (h : AStore P t x v hp K) {w : World} {c : Cx} (hi : Inv w c hp) {a u : Value} (hx : RelV w c x a) (hv : RelV w c v u) :
  ∃ w' hp', (Instr.storeAt t a u).run P w = .ok () w' ∧ Ext w c w' c ∧ Inv w' c hp' ∧ K hp' := by
 unfold AStore at h
 split at h
 ·rename_i l hl
  obtain ⟨hs, h⟩ := h
  obtain ⟨hc, hov⟩ := hv.cells hi hl
  have hlen := hc.length
  split at h
  ·rename_i s ver off
   split at h
   ·rename_i n t' cs e
    obtain ⟨rfl, hoff, h⟩ := h
    simp only [RelV] at hx
    obtain ⟨h1, hlv, b, cp, vs, h3, h4, ho, h5⟩ := hi.cells e
    obtain ⟨b', cp', e1, rfl⟩ := hx.2 h1.symm
    rw [h3] at e1
    cases e1
    have hlen2 := h5.length
    obtain ⟨w', hr, hu⟩ := run_storeCells_upd (P := P) (b := b) (off := off) (t := t') u.cells.toList 0 w vs h4 (by omega) hov
    have he := hu.ext (Cx.live_loc hlv h3)
    refine ⟨w', _, ?_, he, ?_, h⟩
    ·simp only [Instr.storeAt, Instr.sureAddr, storeVar, Sem.run_bind, Sem.run_pure, Result.andThen_ok, run_sizeOf w hs]
     rw [if_neg (by simp only [Array.length_toList] at hlen; omega)]
     simpa using hr
    ·have hn : n = (hp.get s).1 := by rw [e]
     rw [hn]
     refine hi.put hlv h3 hu ?_
     simp only [BlkOk]
     refine ⟨hlv, b, cp, _, h3, hu.here, ?_, ?_⟩
     ·intro q hq
      rcases List.mem_append.1 hq with hq | hq
      ·rcases List.mem_append.1 hq with hq | hq
       ·exact ho q (List.mem_of_mem_take hq)
       ·exact hov q hq
      ·exact ho q (List.mem_of_mem_drop hq)
     ·rw [hlen, Nat.add_zero]
      exact RelL.ext he _ _ (((h5.take _).append hc).append (h5.drop _))
   ·rename_i n t' k' cs e
    obtain ⟨rfl, hoff, h⟩ := h
    simp only [RelV] at hx
    obtain ⟨h1, hlv, h0, h2⟩ := hi.rowx e
    obtain ⟨b', cp', e1, rfl⟩ := hx.2 h1.symm
    rcases h2 with ⟨h3, _⟩ | ⟨b, cp, vs, rest, h3, hcp, h4, hl4, ho, h5⟩
    ·rw [h3] at e1; cases e1
    rw [h3] at e1
    cases e1
    have hlen2 := h5.length
    obtain ⟨w', hr, hu⟩ := run_storeCells_upd (P := P) (b := b') (off := off) (t := t') u.cells.toList 0 w (vs ++ rest) h4 (by simp only [List.length_append]; omega) hov
    have he := hu.ext (Cx.live_loc hlv h3)
    refine ⟨w', _, ?_, he, ?_, h⟩
    ·simp only [Instr.storeAt, Instr.sureAddr, storeVar, Sem.run_bind, Sem.run_pure, Result.andThen_ok, run_sizeOf w hs]
     rw [if_neg (by simp only [Array.length_toList] at hlen; omega)]
     simpa using hr
    ·have hn : n = (hp.get s).1 := by rw [e]
     rw [hn]
     refine hi.put hlv h3 hu ?_
     simp only [BlkOk]
     refine ⟨hlv, h0, ?_⟩
     simp only [h3]
     refine ⟨hcp, vs.take off ++ u.cells.toList ++ vs.drop (off + l.length), rest, ?_, ?_, ?_, ?_⟩
     ·rw [hu.here, hlen, Nat.add_zero]
      congr 2
      rw [List.take_append_of_le_length (by omega), List.drop_append_of_le_length (by omega)]
      simp [List.append_assoc]
     ·simp only [List.length_append, List.length_take, List.length_drop] at hl4 ⊢
      omega
     ·intro q hq
      rcases List.mem_append.1 hq with hq | hq
      ·rcases List.mem_append.1 hq with hq | hq
       ·rcases List.mem_append.1 hq with hq | hq
        ·exact ho q (List.mem_append_left _ (List.mem_of_mem_take hq))
        ·exact hov q hq
       ·exact ho q (List.mem_append_left _ (List.mem_of_mem_drop hq))
      ·exact ho q (List.mem_append_right _ hq)
     ·exact RelL.ext he _ _ (((h5.take _).append hc).append (h5.drop _))
   ·exact h.elim
  ·rename_i s ver k i off
   split at h
   ·rename_i n t' k' q rows e
    obtain ⟨rfl, rfl, hfree, r, hr, hoff, h⟩ := h
    simp only [RelV] at hx
    obtain ⟨h1, hlv, h0, hk, h2⟩ := hi.row e
    obtain ⟨b', cp', e1, rfl⟩ := hx.2 h1.symm
    rcases h2 with ⟨h3, _⟩ | ⟨b, cp, vs, rest, h3, hcq, hcp, h4, h5, ho, h6⟩
    ·rw [h3] at e1; cases e1
    ·rw [h3] at e1
     cases e1
     obtain ⟨f1, f2⟩ := flatten_row hk i r hr
     have hlen2 := h6.length
     have hlt := lt_of_get hr
     have hrk := hk r (List.mem_of_getElem? hr)
     obtain ⟨w', hrun, hu⟩ := run_storeCells_upd (P := P) (off := i * k' + off) (t := t') u.cells.toList 0 w (vs ++ rest) h4 (by simp only [List.length_append]; omega) hov
     have he := hu.ext (Cx.live_loc hlv h3)
     refine ⟨w', _, ?_, he, ?_, h⟩
     ·simp only [Instr.storeAt, Instr.sureAddr, storeVar, Sem.run_bind, Sem.run_pure, Result.andThen_ok, run_sizeOf w hs]
      rw [if_neg (by simp only [Array.length_toList] at hlen; omega)]
      simpa using hrun
     ·have hn : n = (hp.get s).1 := by rw [e]
      rw [hn]
      refine hi.put hlv h3 hu ?_
      simp only [BlkOk]
      refine ⟨hlv, h0, ?_, ?_⟩
      ·intro q hq
       rcases List.mem_or_eq_of_mem_set hq with hq | rfl
       ·exact hk q hq
       ·simp only [List.length_append, List.length_take, List.length_drop]; omega
      ·simp only [h3]
       refine ⟨hcq, hcp, vs.take (i * k' + off) ++ u.cells.toList ++ vs.drop (i * k' + off + l.length), rest, ?_, ?_, ?_, ?_⟩
       ·rw [hu.here, hlen, Nat.add_zero]
        congr 2
        rw [List.take_append_of_le_length (by omega), List.drop_append_of_le_length (by omega)]
        simp [List.append_assoc]
       ·simp only [List.length_append, List.length_take, List.length_drop] at h5 ⊢
        omega
       ·intro q hq
        rcases List.mem_append.1 hq with hq | hq
        ·rcases List.mem_append.1 hq with hq | hq
         ·rcases List.mem_append.1 hq with hq | hq
          ·exact ho q (List.mem_append_left _ (List.mem_of_mem_take hq))
          ·exact hov q hq
         ·exact ho q (List.mem_append_left _ (List.mem_of_mem_drop hq))
        ·exact ho q (List.mem_append_right _ hq)
       ·have key : (rows.set i (r.take off ++ l ++ r.drop (off + l.length))).flatten = rows.flatten.take (i * k' + off) ++ l ++ rows.flatten.drop (i * k' + off + l.length) := by
         rw [flatten_set hk i _ hlt]
         have e1 : rows.flatten.take (i * k' + off) = rows.flatten.take (i * k') ++ r.take off := by
          rw [List.take_add]
          congr 1
          rw [← f1, List.take_take, Nat.min_eq_left (by omega)]
         have e2 : rows.flatten.drop (i * k' + off + l.length) = r.drop (off + l.length) ++ rows.flatten.drop (i * k' + k') := by
          rw [← f1, List.drop_take, List.drop_drop]
          have e3 : rows.flatten.drop (i * k' + k') = (rows.flatten.drop (i * k' + (off + l.length))).drop (k' - (off + l.length)) := by
           rw [List.drop_drop]; congr 1; omega
          rw [e3, List.take_append_drop, Nat.add_assoc]
         rw [e1, e2]
         simp [List.append_assoc]
        rw [key]
        exact RVL.mono he.still _ _ (((h6.take _).append (hc.rvl hfree)).append (h6.drop _))
   ·exact h.elim
  ·exact h.elim
 ·exact h.elim
end Go.Proofs.YtonolfpnidaflaaGreatDoor.E

/- The abstract machine of this claim, part H: rows of the call's own. No conditions. -/
namespace Go.Proofs.YtonolfpnidaflaaGreatDoor.E
open Go
set_option linter.unusedSimpArgs false
set_option linter.unusedVariables false
set_option linter.unusedSectionVars false
set_option maxRecDepth 20000

theorem cx_lay_loc (c : Cx) (s : Site) (p : Option (Nat × Nat)) : (c.lay s p).loc s = p := by simp [Cx.lay]
theorem cx_lay_lv (c : Cx) (s : Site) (p : Option (Nat × Nat)) : (c.lay s p).lv s = true := by simp [Cx.lay]
theorem cx_lay_cur (c : Cx) (s : Site) (p : Option (Nat × Nat)) : (c.lay s p).cur s = c.cur s + 1 := by simp [Cx.lay]

/-- A new block as a row. -/
theorem row_new {w : World} {c : Cx} {hp : Hp} (hi : Inv w c hp) (s : Site) (e : TypeId) (k : Nat) (rows : List (List AV)) (cp : Nat) (vs rest : List Value) (h0 : 0 < k) (hk : ∀ r ∈ rows, r.length = k) (hcp : cp ≤ maxLen) (hlen : (vs ++ rest).length = cp * k)
  (ho : ∀ u ∈ vs ++ rest, u.oneCell' = true) (hr : RVL w (still w c) rows.flatten vs) :
  Ext w c (w.alloc (.cells (vs ++ rest).toArray e)) (c.lay s (some (w.heap.size, cp))) ∧ Inv (w.alloc (.cells (vs ++ rest).toArray e)) (c.lay s (some (w.heap.size, cp))) (hp.set s ((hp.get s).1 + 1) (.row e k none rows)) := by
 have he : Ext w c (w.alloc (.cells (vs ++ rest).toArray e)) c := (Ext.alloc_still _ hi).1
 refine hi.lay s (some (w.heap.size, cp)) (.row e k none rows) he (fun b hb => heap_old w _ b (hi.lt b hb)) (fun b cp e => by cases e; exact ⟨Nat.le_refl _, by rw [size_alloc]; omega⟩) ?_
 simp only [BlkOk]
 refine ⟨cx_lay_lv _ _ _, h0, hk, ?_⟩
 rw [cx_lay_loc]
 exact ⟨.inl trivial, hcp, vs, rest, by rw [heap_new], hlen, ho, RVL.mono (Ext.lay s _ he (fun b cp e => by cases e; exact Nat.le_refl _)).still _ _ hr⟩
theorem row_newQ {w : World} {c : Cx} {hp : Hp} (hi : Inv w c hp) (s : Site) (e : TypeId) (k : Nat) (rows : List (List AV)) (cp : Nat) (vs rest : List Value) (q : Option Nat) (hq : q = none ∨ q = some cp) (h0 : 0 < k) (hk : ∀ r ∈ rows, r.length = k) (hcp : cp ≤ maxLen) (hlen : (vs ++ rest).length = cp * k)
  (ho : ∀ u ∈ vs ++ rest, u.oneCell' = true) (hr : RVL w (still w c) rows.flatten vs) :
  Ext w c (w.alloc (.cells (vs ++ rest).toArray e)) (c.lay s (some (w.heap.size, cp))) ∧ Inv (w.alloc (.cells (vs ++ rest).toArray e)) (c.lay s (some (w.heap.size, cp))) (hp.set s ((hp.get s).1 + 1) (.row e k q rows)) := by
 have he : Ext w c (w.alloc (.cells (vs ++ rest).toArray e)) c := (Ext.alloc_still _ hi).1
 refine hi.lay s (some (w.heap.size, cp)) (.row e k q rows) he (fun b hb => heap_old w _ b (hi.lt b hb)) (fun b cp e => by cases e; exact ⟨Nat.le_refl _, by rw [size_alloc]; omega⟩) ?_
 simp only [BlkOk]
 refine ⟨cx_lay_lv _ _ _, h0, hk, ?_⟩
 rw [cx_lay_loc]
 exact ⟨hq, hcp, vs, rest, by rw [heap_new], hlen, ho, RVL.mono (Ext.lay s _ he (fun b cp e => by cases e; exact Nat.le_refl _)).still _ _ hr⟩
theorem rel_own_new {w' : World} {c : Cx} {hp : Hp} {w : World} (hi : Inv w c hp) (s : Site) (b k len cp : Nat) (h : len ≤ cp) : RelV w' (c.lay s (some (b, cp))) (.own s ((hp.get s).1 + 1) k 0 len) (.slice (some ⟨b, 0, none⟩) len cp) := by
 simp only [RelV, cx_lay_cur, hi.cur s, Nat.le_refl, true_and]
 intro _
 rw [cx_lay_loc]
 exact ⟨by omega, ⟨b, 0, none⟩, by simp, fun _ => by simp⟩

theorem rvl_replicate {w : World} {S : Nat → Prop} {z : List AV} {zs : List Value} (h : RVL w S z zs) (n : Nat) : RVL w S (List.replicate n z).flatten (List.replicate n zs).flatten := by
 induction n with
 | zero => simp [RVL]
 | succ n ih =>
  simp only [List.replicate_succ, List.flatten_cons]
  exact h.append ih
theorem made_cells (z : Array Value) (n : Nat) (hz : 0 < z.size) : (madeCells z (n * z.size)).toList = (List.replicate n z.toList).flatten := by
 unfold madeCells
 simp only [Array.toList_map, Array.toList_range]
 induction n with
 | zero => simp
 | succ n ih =>
  rw [show (n + 1) * z.size = n * z.size + z.size by rw [Nat.add_mul]; omega, List.range_add, List.map_append, ih, List.replicate_succ']
  simp only [List.flatten_append, List.flatten_cons, List.flatten_nil, List.append_nil, List.map_map]
  congr 1
  apply List.ext_getElem
  ·simp
  ·intro i h1 h2
   simp only [List.length_map, List.length_range] at h1
   simp only [List.getElem_map, List.getElem_range, Function.comp]
   rw [Nat.add_comm, Nat.add_mul_mod_self_right, Nat.mod_eq_of_lt h1, getElem!_pos z i h1]
   rfl

theorem tyz_free {P : Program} {t : TypeId} {z : List AV} (h : tyZ P t = some z) : z.all AV.free = true := by
 unfold tyZ at h
 split at h
 ·split at h
  ·split at h
   ·cases h; simp [AV.free]
   ·cases h
  ·cases h
 ·cases h

/-! ### A literal -/
def fillR (hp : Hp) (k : Nat) : List (List AV) → List (Nat × AV) → Option (List (List AV))
 | rows, [] => some rows
 | rows, (i, x) :: rest => match x.cs hp with
  | some l => if l.length = k ∧ i < rows.length ∧ l.all AV.free = true then fillR hp k (rows.set i l) rest else none
  | none => none
def ABuildSlice (P : Program) (t : TypeId) (n : Nat) (parts : List (Nat × AV)) (s : Site) (hp : Hp) (K : AV → Hp → Prop) : Prop :=
 match tyEl P t with
 | some e => match tySz P e with
  | some k => match tyZ P e with
   | some z => 0 < k ∧ z.length = k ∧ n * k ≤ 16777216 ∧ match fillR hp k (List.replicate n z) parts with
    | some rows => K (.own s ((hp.get s).1 + 1) k 0 n) (hp.set s ((hp.get s).1 + 1) (.row e k none rows))
    | none => False
   | none => False
  | none => False
 | none => False
theorem fillR_sound {w : World} {c : Cx} {hp : Hp} (hi : Inv w c hp) {k : Nat} {parts : List (Nat × AV)} {rows res : List (List AV)} (h : fillR hp k rows parts = some res) {vs : List (Nat × Value)} {cv : Array Value}
  (hp' : RelP w c parts vs) (hk : ∀ r ∈ rows, r.length = k) (hc : RVL w (still w c) rows.flatten cv.toList) (hoc : ∀ u ∈ cv.toList, u.oneCell' = true) :
  ∃ rv, Instr.fill (fun i => some (i * k, k)) cv vs = some rv ∧ RVL w (still w c) res.flatten rv.toList ∧ (∀ u ∈ rv.toList, u.oneCell' = true) ∧ (∀ r ∈ res, r.length = k) ∧ res.length = rows.length := by
 induction parts generalizing rows cv vs with
 | nil =>
  simp only [RelP] at hp'
  subst hp'
  simp only [fillR, Option.some.injEq] at h
  subst h
  exact ⟨cv, rfl, hc, hoc, hk, rfl⟩
 | cons x xs ih =>
  simp only [RelP] at hp'
  obtain ⟨v, ys, rfl, hr, hp'⟩ := hp'
  obtain ⟨i, a⟩ := x
  simp only [fillR] at h
  split at h
  ·rename_i l hl
   split at h
   ·rename_i hn
    obtain ⟨hn1, hn2, hn3⟩ := hn
    obtain ⟨hcv, hov⟩ := hr.cells hi hl
    have hlen := hcv.length
    have hlen2 := hc.length
    simp only [Array.length_toList] at hlen hlen2
    obtain ⟨_, f2⟩ := flatten_row hk i (rows[i]) (by rw [List.getElem?_eq_getElem])
    have key0 : (v.cells.zipIdx.foldl (fun cs (x : Value × Nat) => cs.setIfInBounds (i * k + x.2) x.1) cv).toList = cv.toList.take (i * k) ++ v.cells.toList ++ cv.toList.drop (i * k + k) := by
     rw [← Array.foldl_toList, Array.toList_zipIdx, foldl_set_splice (i * k) _ 0 cv (by simp only [Array.length_toList]; omega)]
     simp only [Nat.add_zero, Array.length_toList]
     rw [hlen, hn1]
    have key : RVL w (still w c) (rows.set i l).flatten (v.cells.zipIdx.foldl (fun cs (x : Value × Nat) => cs.setIfInBounds (i * k + x.2) x.1) cv).toList := by
     rw [key0, flatten_set hk i l hn2]
     exact ((hc.take _).append (hcv.rvl hn3)).append (hc.drop _)
    obtain ⟨rv, e1, e2, e3, e4, e5⟩ := ih h hp' (fun r hr => by
      rcases List.mem_or_eq_of_mem_set hr with hr | rfl
      ·exact hk r hr
      ·exact hn1) key (by
     rw [key0]
     intro u hu
     rcases List.mem_append.1 hu with hu | hu
     ·rcases List.mem_append.1 hu with hu | hu
      ·exact hoc u (List.mem_of_mem_take hu)
      ·exact hov u hu
     ·exact hoc u (List.mem_of_mem_drop hu))
    refine ⟨rv, ?_, e2, e3, e4, by rw [e5, List.length_set]⟩
    simp only [Instr.fill]
    rw [if_neg (by simp; omega)]
    exact e1
   ·cases h
  ·cases h
theorem ABuildSlice_sound {P : Program} {t : TypeId} {n : Nat} {parts : List (Nat × AV)} {s : Site} {hp : Hp} {K : AV → Hp → Prop} (h : ABuildSlice P t n parts s hp K) {w : World} {c : Cx} (hi : Inv w c hp) {vs : List (Nat × Value)}
  (hp' : RelP w c parts vs) : Gives P (Instr.buildSlice t n vs.toArray) w c K := by
 unfold ABuildSlice at h
 split at h
 ·rename_i e he
  split at h
  ·rename_i k hk
   split at h
   ·rename_i z hz
    obtain ⟨h0, hzk, hsm, h⟩ := h
    split at h
    ·rename_i rows hrows
     obtain ⟨zv, hz1, hz2, hz3, i0, hi0, hiz⟩ := run_zero hz w c
     have hzs : zv.cells.size = k := by have := hz2.length; simp only [Array.length_toList] at this; omega
     have hm := made_cells zv.cells n (by omega)
     rw [hzs] at hm
     have hz2' : RVL w (still w c) z zv.cells.toList := hz2.rvl (tyz_free hz)
     obtain ⟨rv, e1, e2, e3, e4, e5⟩ := fillR_sound hi hrows hp' (cv := madeCells zv.cells (n * k)) (fun r hr => by rw [List.eq_of_mem_replicate hr]; exact hzk) (by rw [hm]; exact rvl_replicate hz2' n) (by
      rw [hm]
      intro u hu
      obtain ⟨l, hl, hu⟩ := List.mem_flatten.1 hu
      rw [List.eq_of_mem_replicate hl] at hu
      exact hz3 u hu)
     have hlen : rv.toList.length = n * k := by
      have h1 := e2.length
      rw [h1]
      have : ∀ (l : List (List AV)), (∀ r ∈ l, r.length = k) → l.flatten.length = l.length * k := by
       intro l
       induction l with
       | nil => simp
       | cons x l ih =>
        intro hh
        simp only [List.flatten_cons, List.length_append, List.length_cons, hh x (by simp), ih (fun r hr => hh r (by simp [hr])), Nat.add_mul]
        omega
      rw [this rows e4, e5, List.length_replicate]
     obtain ⟨x1, x2⟩ := row_new hi s e k rows n rv.toList [] h0 e4 (by
      have : n ≤ n * k := Nat.le_mul_of_pos_right _ h0
      simp only [maxLen]; omega) (by simpa using hlen) (by simpa using e3) e2
     refine ⟨.slice (some ⟨w.heap.size, 0, none⟩) n n, _, _, _, _, ?_, x1, x2, rel_own_new hi s _ k n n (Nat.le_refl _), h⟩
     have hf : Instr.fill (fun i => some (i * k, k)) ((Array.range (n * k)).map (zv.cells[· % zv.cells.size]!)) vs = some rv := e1
     by_cases hnk : n * k = 0
     ·have hn0 : n = 0 := by
       rcases Nat.mul_eq_zero.1 hnk with h | h
       ·exact h
       ·omega
      subst hn0
      simp only [Nat.zero_mul, Array.range_zero', Array.map_empty] at hf
      simp only [Instr.buildSlice, Sem.run_bind, run_underlying (und_of_tyEl he), Result.andThen_ok, run_sizeOf w hk, Nat.zero_mul, Array.range_zero', Array.map_empty]
      rw [if_neg (by omega)]
      simp only [if_true, Sem.run_bind, Sem.run_pure, Result.andThen_ok, hf, newRow, run_newObj, List.append_nil, Array.toArray_toList]
      rfl
     ·simp only [Instr.buildSlice, Sem.run_bind, run_underlying (und_of_tyEl he), Result.andThen_ok, run_sizeOf w hk]
      rw [if_neg (by omega), if_neg hnk]
      simp only [Sem.run_bind, hz1, Sem.run_pure, Result.andThen_ok]
      rw [hf]
      simp only [newRow, Sem.run_bind, run_newObj, Result.andThen_ok, Sem.run_pure, List.append_nil, Array.toArray_toList]
      rfl
    ·exact h.elim
   ·exact h.elim
  ·exact h.elim
 ·exact h.elim

/-! ### make -/
def AMake (P : Program) (t : TypeId) (l m : AV) (s : Site) (hp : Hp) (K : AV → Hp → Prop) : Prop :=
 match l, m with
 | .val (.int _ n), .val (.int _ cp) => match tyEl P t with
  | some e => match tySz P e, tyBy P e with
   | some k, some by_ => match tyZ P e with
    | some z => 0 < k ∧ z.length = k ∧ 0 ≤ n ∧ n ≤ cp ∧ (by_ : Int) * cp ≤ 281474976710656 ∧ cp ≤ 9223372036854775807 ∧
     K (.own s ((hp.get s).1 + 1) k 0 n.toNat) (hp.set s ((hp.get s).1 + 1) (.row e k (some cp.toNat) (List.replicate n.toNat z)))
    | none => False
   | _, _ => False
  | none => False
 | _, _ => False
theorem AMake_sound {P : Program} {t : TypeId} {l m : AV} {s : Site} {hp : Hp} {K : AV → Hp → Prop} (h : AMake P t l m s hp K) {w : World} {c : Cx} (hi : Inv w c hp) {u v : Value} (hu : RelV w c l u) (hv : RelV w c m v) : Gives P (Instr.makeSlice t u v) w c K := by
 unfold AMake at h
 split at h
 ·rename_i k1 n k2 cp
  simp only [RelV] at hu hv
  obtain ⟨rfl, -⟩ := hu
  obtain ⟨rfl, -⟩ := hv
  split at h
  ·rename_i e he
   split at h
   ·rename_i k by_ hk hby
    split at h
    ·rename_i z hz
     obtain ⟨h0, hzk, hn0, hnc, hb, hcp, h⟩ := h
     obtain ⟨zv, hz1, hz2, hz3, i0, hi0, hiz⟩ := run_zero hz w c
     have hzs : zv.cells.size = k := by have := hz2.length; simp only [Array.length_toList] at this; omega
     have hz2' : RVL w (still w c) z zv.cells.toList := hz2.rvl (tyz_free hz)
     have hsz : i0.size = k := by simpa [tySz, hi0] using hk
     have hbb : i0.bytes = by_ := by simpa [tyBy, hi0] using hby
     have hr := run_make (P := P) w t e i0 zv (und_of_tyEl he) hi0 hiz k1 k2 n cp hn0 hnc (by rw [hbb]; exact hb) hcp
     have hm := made_cells zv.cells cp.toNat (by omega)
     rw [hzs] at hm
     rw [hsz] at hr
     have hsplit : (List.replicate cp.toNat zv.cells.toList).flatten = (List.replicate n.toNat zv.cells.toList).flatten ++ (List.replicate (cp.toNat - n.toNat) zv.cells.toList).flatten := by
      rw [← List.flatten_append, List.replicate_append_replicate]
      congr 2
      omega
     have harr : madeCells zv.cells (cp.toNat * k) = ((List.replicate n.toNat zv.cells.toList).flatten ++ (List.replicate (cp.toNat - n.toNat) zv.cells.toList).flatten).toArray := by
      rw [← hsplit, ← hm]
     obtain ⟨x1, x2⟩ := row_newQ hi s e k (List.replicate n.toNat z) cp.toNat (List.replicate n.toNat zv.cells.toList).flatten (List.replicate (cp.toNat - n.toNat) zv.cells.toList).flatten (some cp.toNat) (.inr rfl) h0
      (fun r hr => by rw [List.eq_of_mem_replicate hr]; exact hzk) (by simp only [maxLen]; omega) (by
       rw [← hsplit]
       simp [hzs]) (by
       intro u hu
       rcases List.mem_append.1 hu with hu | hu <;>
       ·obtain ⟨l, hl, hu⟩ := List.mem_flatten.1 hu
        rw [List.eq_of_mem_replicate hl] at hu
        exact hz3 u hu) (rvl_replicate hz2' _)
     refine ⟨_, _, _, _, _, hr, by rw [harr]; exact x1, by rw [harr]; exact x2, rel_own_new hi s _ k n.toNat cp.toNat (by omega), h⟩
    ·exact h.elim
   ·exact h.elim
  ·exact h.elim
 ·exact h.elim
end Go.Proofs.YtonolfpnidaflaaGreatDoor.E

/- The abstract machine of this claim, part I: append; lengths; what is told of a slice. No conditions. -/
namespace Go.Proofs.YtonolfpnidaflaaGreatDoor.E
open Go
set_option linter.unusedSimpArgs false
set_option linter.unusedVariables false
set_option linter.unusedSectionVars false
set_option maxRecDepth 20000

/-- What a slice holds. -/
def AV.rowsOf (hp : Hp) (k : Nat) : AV → Option (List (List AV))
 | .list k' rows => if k' = k then some rows else none
 | .val (.slice none 0 0) => some []
 | .own s ver k' off len => match hp.get s with
  | (n, .row _ k2 _ rows) => if n = ver ∧ k' = k ∧ k2 = k ∧ off + len ≤ rows.length then some ((rows.drop off).take len) else none
  | (n, .ice k2 rows) => if n = ver ∧ k' = k ∧ k2 = k ∧ off + len ≤ rows.length then some ((rows.drop off).take len) else none
  | _ => none
 | _ => none

theorem flatten_drop {rows : List (List AV)} {k : Nat} (hk : ∀ r ∈ rows, r.length = k) (n : Nat) : (rows.drop n).flatten = rows.flatten.drop (n * k) := by
 induction rows generalizing n with
 | nil => simp
 | cons x rows ih =>
  cases n with
  | zero => simp
  | succ n =>
   have hx := hk x (by simp)
   simp only [List.drop_succ_cons, List.flatten_cons]
   rw [ih (fun y hy => hk y (by simp [hy])) n, show (n + 1) * k = x.length + n * k by rw [Nat.add_mul, hx]; omega, List.drop_length_add_append]
theorem flatten_take {rows : List (List AV)} {k : Nat} (hk : ∀ r ∈ rows, r.length = k) (n : Nat) : (rows.take n).flatten = rows.flatten.take (n * k) := by
 induction rows generalizing n with
 | nil => simp
 | cons x rows ih =>
  cases n with
  | zero => simp
  | succ n =>
   have hx := hk x (by simp)
   simp only [List.take_succ_cons, List.flatten_cons]
   rw [ih (fun y hy => hk y (by simp [hy])) n, show (n + 1) * k = x.length + n * k by rw [Nat.add_mul, hx]; omega, List.take_length_add_append]
theorem flatten_length {rows : List (List AV)} {k : Nat} (hk : ∀ r ∈ rows, r.length = k) : rows.flatten.length = rows.length * k := by
 induction rows with
 | nil => simp
 | cons x rows ih =>
  simp only [List.flatten_cons, List.length_append, List.length_cons, hk x (by simp), ih (fun r hr => hk r (by simp [hr])), Nat.add_mul]
  omega
theorem RVRows.lens {w : World} {S : Nat → Prop} {k : Nat} {xs : List (List AV)} {b off : Nat} (h : RVRows w S k xs b off) : ∀ r ∈ xs, r.length = k := by
 induction xs generalizing off with
 | nil => intro r hr; simp at hr
 | cons x xs ih =>
  simp only [RVRows] at h
  intro r hr
  rcases List.mem_cons.1 hr with rfl | hr
  ·exact h.1
  ·exact ih h.2.2 r hr

/-- A slice, read: its cells. -/
theorem RelV.rows {w : World} {c : Cx} {hp : Hp} (hi : Inv w c hp) {x : AV} {v : Value} {k : Nat} {xs : List (List AV)} (h : RelV w c x v) (hx : x.rowsOf hp k = some xs) :
  (v = .slice none 0 0 ∧ xs = []) ∨ ∃ a cp, v = .slice (some a) xs.length cp ∧ xs.length ≤ cp ∧ (∀ r ∈ xs, r.length = k) ∧ ∃ vs, RVL w (still w c) xs.flatten vs ∧ (∀ u ∈ vs, u.oneCell' = true) ∧ ∀ j u, vs[j]? = some u → w.cell? (a.add j) = some u := by
 unfold AV.rowsOf at hx
 split at hx
 ·rename_i k' rows
  split at hx
  ·rename_i hk
   subst hk
   cases hx
   simp only [RelV, RV] at h
   obtain ⟨a, cap, rfl, hc, hn, hr⟩ := h
   rcases hr with rfl | ⟨b, off, rfl, hs, hr⟩
   ·cases a with
    | none =>
     have h0 := hn rfl
     subst h0
     exact .inl ⟨rfl, rfl⟩
    | some a => exact .inr ⟨a, cap, rfl, hc, fun r hr => by simp at hr, [], by simp [RVL], fun u hu => by simp at hu, fun j u hu => by simp at hu⟩
   ·obtain ⟨vs, h1, h2, h3⟩ := hr.flat.vals
    exact .inr ⟨_, cap, rfl, hc, hr.lens, vs, h1, h2, fun j u hu => by rw [Addr.add_lit]; exact h3 j u hu⟩
  ·cases hx
 ·cases hx
  simp only [RelV] at h
  exact .inl ⟨h.1, rfl⟩
 ·rename_i s ver k' off len
  simp only [RelV] at h
  split at hx
  ·rename_i n t k2 q rows e
   split at hx
   ·rename_i hc
    obtain ⟨rfl, rfl, rfl, hlen⟩ := hc
    cases hx
    obtain ⟨h1, hlv, h0, hk, h2⟩ := hi.row e
    have h3 := h.2 h1.symm
    rcases h2 with ⟨h4, rfl, _⟩ | ⟨b, cp, vs, rest, h4, _, hcp, h5, h6, ho, h7⟩
    ·rw [h4] at h3
     obtain ⟨rfl, rfl, rfl⟩ := h3
     exact .inl ⟨rfl, rfl⟩
    ·rw [h4] at h3
     obtain ⟨h8, a, rfl, h9⟩ := h3
     have hl : ((rows.drop off).take len).length = len := by simp; omega
     refine .inr ⟨a, cp - off, by rw [hl], by omega, fun r hr => hk r (List.mem_of_mem_drop (List.mem_of_mem_take hr)), ?_⟩
     by_cases hz : len = 0
     ·subst hz
      exact ⟨[], by simp [RVL], fun u hu => by simp at hu, fun j u hu => by simp at hu⟩
     ·have h10 := h9 (.inl (by omega))
      subst h10
      refine ⟨(vs.drop (off * k2)).take (len * k2), ?_, fun u hu => ho u (List.mem_append_left _ (List.mem_of_mem_drop (List.mem_of_mem_take hu))), fun j u hu => ?_⟩
      ·rw [flatten_take (fun r hr => hk r (List.mem_of_mem_drop hr)), flatten_drop hk]
       exact (h7.drop _).take _
      ·rw [Addr.add_lit, cell_block h5]
       rw [List.getElem?_take] at hu
       split at hu
       ·rw [List.getElem?_drop] at hu
        rw [List.getElem?_append_left (by
         rcases Nat.lt_or_ge (off * k2 + j) vs.length with h' | h'
         ·exact h'
         ·rw [List.getElem?_eq_none h'] at hu; cases hu)]
        exact hu
       ·cases hu
   ·cases hx
  ·rename_i n k2 rows e
   split at hx
   ·rename_i hc
    obtain ⟨rfl, rfl, rfl, hlen⟩ := hc
    cases hx
    obtain ⟨h1, _, h2⟩ := hi.ice e
    have h3 := h.2 h1.symm
    rcases h2 with ⟨h4, rfl⟩ | ⟨b, cp, h4, h5, h6⟩
    ·rw [h4] at h3
     obtain ⟨rfl, rfl, rfl⟩ := h3
     exact .inl ⟨rfl, rfl⟩
    ·rw [h4] at h3
     obtain ⟨h8, a, rfl, h9⟩ := h3
     have hl : ((rows.drop off).take len).length = len := by simp; omega
     refine .inr ⟨a, cp - off, by rw [hl], by omega, ?_⟩
     rcases h6 with rfl | ⟨h6, h7⟩
     ·simp only [List.drop_nil, List.take_nil]
      exact ⟨fun r hr => by simp at hr, [], by simp [RVL], fun u hu => by simp at hu, fun j u hu => by simp at hu⟩
     ·have h11 := (h7.drop off).take len
      refine ⟨h11.lens, ?_⟩
      by_cases hz : len = 0
      ·subst hz
       exact ⟨[], by simp [RVL], fun u hu => by simp at hu, fun j u hu => by simp at hu⟩
      ·have h10 := h9 (.inl (by omega))
       subst h10
       obtain ⟨vs, g1, g2, g3⟩ := h11.flat.vals
       rw [Nat.zero_add] at g3
       exact ⟨vs, g1, g2, fun j u hu => by rw [Addr.add_lit]; exact g3 j u hu⟩
   ·cases hx
  ·cases hx
 ·cases hx

/-! ### append -/
/-- A source, and what it is told as. -/
theorem src_of_rows {P : Program} {t e : TypeId} {k : Nat} (he : tyEl P t = some e) {w : World} {c : Cx} {y : Value} {ys : List (List AV)}
  (hy : (y = .slice none 0 0 ∧ ys = []) ∨ ∃ a cp, y = .slice (some a) ys.length cp ∧ ys.length ≤ cp ∧ (∀ r ∈ ys, r.length = k) ∧ ∃ vs, RVL w (still w c) ys.flatten vs ∧ (∀ u ∈ vs, u.oneCell' = true) ∧ ∀ j u, vs[j]? = some u → w.cell? (a.add j) = some u) :
  (∀ r ∈ ys, r.length = k) ∧ ∃ news, Src P k t y ys.length news w ∧ RVL w (still w c) ys.flatten news := by
 rcases hy with ⟨rfl, rfl⟩ | ⟨a, cp, rfl, hc, hl, vs, h1, h2, h3⟩
 ·exact ⟨fun r hr => by simp at hr, [], Src.ofNil w (und_of_tyEl he) 0, by simp [RVL]⟩
 ·have hlen := h1.length
  rw [flatten_length hl] at hlen
  exact ⟨hl, vs, Src.ofSlice w (und_of_tyEl he) a _ cp vs hlen h3 h2, h1⟩
/-- A source of append, and how append runs over it. -/
structure ASrc (P : Program) (t tx e k by_ : Nat) (y : Value) (m : Nat) (news : List Value) (w : World) : Prop where
 newsLen : news.length = m * k
 one : ∀ u ∈ news, u.oneCell' = true
 empty : m = 0 → ∀ ty, (Builtin.append_ #[t, tx] ty #[.slice none 0 0, y]).run P w = .ok (.slice none 0 0) w
 inn : ∀ (ty b n cp : Nat) (w' : World), n + m ≤ cp → (storeCells ⟨b, n * k, none⟩ news).run P w = .ok () w' → (Builtin.append_ #[t, tx] ty #[.slice (some ⟨b, 0, none⟩) n cp, y]).run P w = .ok (.slice (some ⟨b, 0, none⟩) (n + m) cp) w'
 grow : ∀ (ty : Nat) (base : Option Addr) (n cp : Nat) (olds : List Value) (z : Value) (i : TypeInfo), P.info? e = some i → i.zero = some z → n ≤ cp → (Builtin.firstCells k n (.slice base n cp)).run P w.drew = .ok olds.toArray w.drew → cp < n + m → ((n + m : Nat) : Int) ≤ 9223372036854775807 → Builtin.nextslicecap (n + m) cp * by_ ≤ 281474976710656 →
  (Builtin.append_ #[t, tx] ty #[.slice base n cp, y]).run P w = .ok (.slice (some ⟨w.heap.size, 0, none⟩) (n + m) (grownCap w (n + m) cp e)) (w.drew.alloc (.cells ((olds ++ news).toArray ++ Builtin.zeroCells z.cells (grownCap w (n + m) cp e - (n + m))) e))
theorem asrc_of {P : Program} {t tx e k by_ : Nat} (he : tyEl P t = some e) (hk : tySz P e = some k) (hby : tyBy P e = some by_) {w : World} {y : Value} {m : Nat} {news : List Value} (hs : Src P k tx y m news w) : ASrc P t tx e k by_ y m news w := by
 obtain ⟨i, hi, rfl⟩ : ∃ i, P.info? e = some i ∧ i.size = k := by
  unfold tySz at hk
  obtain ⟨i, hi, h⟩ := Option.map_eq_some_iff.1 hk
  exact ⟨i, hi, h⟩
 have hbb : i.bytes = by_ := by simpa [tyBy, hi] using hby
 subst hbb
 refine ⟨hs.newsLen, hs.one, fun hm ty => ?_, fun ty b n cp w' hroom hst => ?_, fun ty base n cp olds z i' hi' hiz _ hold hg h63 hfit => ?_⟩
 ·subst hm
  have hl0 := hs.len
  have hcell := hs.cells
  have hn : news = [] := List.eq_nil_of_length_eq_zero (by simpa using hs.newsLen)
  subst hn
  rcases hs.kind with ⟨e', hq⟩ | hq <;> simp [Builtin.append_, run_underlying (und_of_tyEl he), run_underlying hq, sizeOf, typeInfo, hi, hl0, hcell]
 ·rcases hs.kind with ⟨e', hq⟩ | hq <;> simp [Builtin.append_, run_underlying (und_of_tyEl he), run_underlying hq, sizeOf, typeInfo, hi, hs.len, hroom, hs.cells, Addr.add_lit, hst]
 ·rw [hi] at hi'
  cases hi'
  exact run_append_grow_src (P := P) w t tx ty e i z (und_of_tyEl he) hi hiz base n cp olds hold y m news hs hg h63 hfit
/-- So many zeros: 'append(x, make([]T, m)...)'. -/
theorem zero_asrc {P : Program} {t tx e k by_ : Nat} {ki ki' : IntKind} {z : List AV} (he : tyEl P t = some e) (hk : tySz P e = some k) (hby : tyBy P e = some by_) (hz : tyZ P e = some z) (hzk : z.length = k) (h0 : 0 < k) (hx : P.underlying tx = some (.int ki')) (w : World) (c : Cx) (m : Int) (hm : 0 ≤ m) (hm2 : m ≤ 9223372036854775807) (hb : m * by_ ≤ 281474976710656) :
  ∃ news, ASrc P t tx e k by_ (.int ki m) m.toNat news w ∧ RVL w (still w c) (List.replicate m.toNat z).flatten news := by
 obtain ⟨zv, hz1, hz2, hz3, i, hi, hiz⟩ := run_zero hz w c
 have hzs : zv.cells.size = k := by have := hz2.length; simp only [Array.length_toList] at this; omega
 have hsz0 : i.size = k := by simpa [tySz, hi] using hk
 have hbb : i.bytes = by_ := by simpa [tyBy, hi] using hby
 have hz2' : RVL w (still w c) z zv.cells.toList := hz2.rvl (tyz_free hz)
 subst hbb
 have hzc : ∀ n : Nat, (Builtin.zeroCells zv.cells n).toList = (List.replicate n zv.cells.toList).flatten := fun n => made_cells zv.cells n (by omega)
 have hwr : IntKind.i64.wrap m = m := by
  unfold IntKind.wrap
  simp only [IntKind.bits, IntKind.signed]
  simp
  omega
 have hz1' : ∀ w' : World, (zeroValue e).run P w' = .ok zv w' := fun w' => by simp [zeroValue, typeInfo, hi, hiz]
 have hn0 : ¬ m < 0 := by omega
 have hnb : ¬ (281474976710656 < m * i.bytes) := by omega
 have hmn : (m.toNat : Int) = m := by omega
 refine ⟨(List.replicate m.toNat zv.cells.toList).flatten, ⟨by simp [hzs], ?_, fun hm0 ty => ?_, fun ty b n cp w' hroom hst => ?_, fun ty base n cp olds z2 i' hi' hiz' hnc hold hg h63 hfit => ?_⟩, rvl_replicate hz2' _⟩
 ·intro u hu
  obtain ⟨l, hl, hu⟩ := List.mem_flatten.1 hu
  rw [List.eq_of_mem_replicate hl] at hu
  exact hz3 u hu
 ·have : m = 0 := by omega
  subst this
  simp [Builtin.append_, run_underlying (und_of_tyEl he), run_underlying hx, sizeOf, typeInfo, hi, hsz0, asInt, asIntOf, hwr]
 ·by_cases hm0 : m.toNat = 0
  ·rw [hm0] at hst hroom ⊢
   simp only [List.replicate_zero, List.flatten_nil, storeCells] at hst
   simp only [Sem.run_pure, Result.ok.injEq, true_and] at hst
   subst hst
   have : m = 0 := by omega
   subst this
   simp [Builtin.append_, run_underlying (und_of_tyEl he), run_underlying hx, sizeOf, typeInfo, hi, hsz0, asInt, asIntOf, hwr, show n ≤ cp by omega, storeCells]
  ·have hnz : ¬ (m.toNat = 0 ∨ k = 0) := by omega
   rw [← hzc] at hst
   simp [Builtin.append_, run_underlying (und_of_tyEl he), run_underlying hx, sizeOf, typeInfo, hi, hsz0, asInt, asIntOf, hwr, hn0, hnb, hroom, hnz, hz1', Addr.add_lit, hst]
   exact fun h => absurd (Nat.mul_eq_zero.1 h) hnz
 ·rw [hi] at hi'
  cases hi'
  rw [hiz] at hiz'
  cases hiz'
  by_cases hm0 : m.toNat = 0
  ·omega
  ·have hnz : ¬ (m.toNat = 0 ∨ k = 0) := by omega
   have hn : ¬ (n + m.toNat ≤ cp) := by omega
   have h63' : ¬ (9223372036854775807 < ((n : Int) + (m.toNat : Int))) := by omega
   have h48' : ¬ (281474976710656 < Builtin.nextslicecap (n + m.toNat) cp * i.bytes) := by omega
   have h63'' : ¬ (9223372036854775807 < ((n : Int) + max m 0)) := by omega
   have hnz2 : ¬ (m.toNat * k = 0) := fun h => hnz (Nat.mul_eq_zero.1 h)
   have hzz := hzc m.toNat
   simp [Builtin.append_, run_underlying (und_of_tyEl he), run_underlying hx, sizeOf, typeInfo, hi, hsz0, asInt, asIntOf, hwr, hn0, hnb, hn, hnz, hnz2, h63', h63'', h48', hz1', zeroValue, hiz, Question.forced, hold, newRow, grownCap]
   congr 2
   apply Array.ext'
   simp [hzz, List.append_assoc]
/-- There is room. -/
theorem append_in {P : Program} {t tx e : TypeId} {k by_ : Nat} (hk : tySz P e = some k) {w : World} (ty : TypeId) {b n cp : Nat} {arr : List Value} (hb : w.heap[b]? = some (.cells arr.toArray e (0, 0))) (hl : arr.length = cp * k)
  {y : Value} {m : Nat} {news : List Value} (hs : ASrc P t tx e k by_ y m news w) (hroom : n + m ≤ cp) :
  ∃ w', (Builtin.append_ #[t, tx] ty #[.slice (some ⟨b, 0, none⟩) n cp, y]).run P w = .ok (.slice (some ⟨b, 0, none⟩) (n + m) cp) w' ∧ Upd w b (.cells (arr.take (n * k) ++ news ++ arr.drop (n * k + news.length)).toArray e (0, 0)) w' := by
 obtain ⟨i, hi, rfl⟩ : ∃ i, P.info? e = some i ∧ i.size = k := by
  unfold tySz at hk
  obtain ⟨i, hi, h⟩ := Option.map_eq_some_iff.1 hk
  exact ⟨i, hi, h⟩
 have hle : n * i.size + news.length ≤ arr.length := by
  rw [hs.newsLen, hl, ← Nat.add_mul]
  exact Nat.mul_le_mul_right _ hroom
 obtain ⟨w', hr, hu⟩ := run_storeCells_upd (P := P) (b := b) (off := n * i.size) (t := e) news 0 w arr hb (by omega) hs.one
 exact ⟨w', hs.inn ty b n cp w' hroom hr, by simpa using hu⟩
/-- There is none: a new row. -/
theorem append_new {P : Program} {t tx e : TypeId} {k by_ : Nat} {z : List AV} (hk : tySz P e = some k) (hby : tyBy P e = some by_) (hz : tyZ P e = some z) (hzk : z.length = k) (h0 : 0 < k) (hb0 : 0 < by_) {w : World} (c : Cx) (ty : TypeId) {base : Option Addr} {n cp : Nat} {olds : List Value}
  (hold : (Builtin.firstCells k n (.slice base n cp)).run P w.drew = .ok olds.toArray w.drew) (hlo : olds.length = n * k) {y : Value} {m : Nat} {news : List Value} (hs : ASrc P t tx e k by_ y m news w) (hnc : n ≤ cp) (hg : cp < n + m) (hsz : (n + m) * by_ ≤ 140737488355328) :
  ∃ gc rest, (Builtin.append_ #[t, tx] ty #[.slice base n cp, y]).run P w = .ok (.slice (some ⟨w.heap.size, 0, none⟩) (n + m) gc) (w.drew.alloc (.cells (olds ++ news ++ rest).toArray e)) ∧ n + m ≤ gc ∧ gc ≤ maxLen ∧ (olds ++ news ++ rest).length = gc * k ∧ ∀ u ∈ rest, u.oneCell' = true := by
 obtain ⟨zv, hz1, hz2, hz3, i, hi, hiz⟩ := run_zero hz w c
 have hzs : zv.cells.size = k := by have := hz2.length; simp only [Array.length_toList] at this; omega
 have hsz0 : i.size = k := by simpa [tySz, hi] using hk
 have hbb : i.bytes = by_ := by simpa [tyBy, hi] using hby
 subst hsz0
 subst hbb
 have hm : n + m ≤ maxLen := by
  have : n + m ≤ (n + m) * i.bytes := Nat.le_mul_of_pos_right _ hb0
  simp only [maxLen]; omega
 have hge := grownCap_ge w (n + m) cp e
 have hr := hs.grow ty base n cp olds zv i hi hiz hnc hold hg (by simp only [maxLen] at hm; omega) (growslice_fits hg hsz)
 refine ⟨grownCap w (n + m) cp e, (Builtin.zeroCells zv.cells (grownCap w (n + m) cp e - (n + m))).toList, ?_, hge, grownCap_le_maxLen w (n + m) cp e hm, ?_, ?_⟩
 ·rw [hr]
  congr 3
  apply Array.ext'
  simp
 ·simp only [List.length_append, hlo, hs.newsLen, Array.length_toList, size_zeroCells, hzs, ← Nat.add_mul]
  congr 1
  omega
 ·intro u hu
  unfold Builtin.zeroCells at hu
  simp only [Array.toList_map, Array.toList_range, List.mem_map, List.mem_range] at hu
  obtain ⟨j, hj, rfl⟩ := hu
  have hjl : j % zv.cells.size < zv.cells.size := Nat.mod_lt _ (by omega)
  rw [getElem!_pos zv.cells _ hjl]
  exact hz3 _ (by simp)

/-- A new row, behind a draw. -/
theorem row_new' {w : World} {c : Cx} {hp : Hp} (hi : Inv w c hp) (s : Site) (e : TypeId) (k : Nat) (rows : List (List AV)) (cp : Nat) (vs rest : List Value) (h0 : 0 < k) (hk : ∀ r ∈ rows, r.length = k) (hcp : cp ≤ maxLen) (hlen : (vs ++ rest).length = cp * k)
  (ho : ∀ u ∈ vs ++ rest, u.oneCell' = true) (hr : RVL w (still w c) rows.flatten vs) :
  Ext w c (w.drew.alloc (.cells (vs ++ rest).toArray e)) (c.lay s (some (w.heap.size, cp))) ∧ Inv (w.drew.alloc (.cells (vs ++ rest).toArray e)) (c.lay s (some (w.heap.size, cp))) (hp.set s ((hp.get s).1 + 1) (.row e k none rows)) := by
 obtain ⟨h1, h2⟩ := row_new hi.drew s e k rows cp vs rest h0 hk hcp hlen ho (RVL.mono (w := w) (w' := w.drew) (S := still w c) (S' := still w.drew c) (fun b hb => ⟨hb, rfl⟩) _ _ hr)
 exact ⟨(Ext.refl w c).drew.trans h1, h2⟩
theorem rel_own_new' {w' w : World} {c : Cx} {hp : Hp} (hi : Inv w c hp) (s : Site) (b k len cp : Nat) (h : len ≤ cp) : RelV w' (c.lay s (some (b, cp))) (.own s ((hp.get s).1 + 1) k 0 len) (.slice (some ⟨b, 0, none⟩) len cp) :=
 rel_own_new hi s b k len cp h

/-- append, its second argument told. -/
def AApC (e k by_ : Nat) (x : AV) (s : Site) (hp : Hp) (K : AV → Hp → Prop) (ys : List (List AV)) : Prop :=
 match x with
 | .val (.slice none 0 0) => ys.length * by_ ≤ 140737488355328 ∧ (∀ r ∈ ys, r.length = k) ∧ K (.own s ((hp.get s).1 + 1) k 0 ys.length) (hp.set s ((hp.get s).1 + 1) (.row e k none ys))
 | .own s1 ver k1 off len => match hp.get s1 with
  | (n, .row e' k2 q rows) => n = ver ∧ k1 = k ∧ k2 = k ∧ e' = e ∧ off = 0 ∧ len ≤ rows.length ∧ (len + ys.length) * by_ ≤ 140737488355328 ∧ match q with
   | none => K (.own s1 (n + 1) k 0 (len + ys.length)) (hp.set s1 (n + 1) (.row e k none (rows.take len ++ ys)))
   | some cp => (len + ys.length ≤ cp → K (.own s1 n k 0 (len + ys.length)) (hp.set s1 n (.row e k (some cp) (rows.take len ++ ys ++ rows.drop (len + ys.length))))) ∧
     (cp < len + ys.length → K (.own s ((hp.get s).1 + 1) k 0 (len + ys.length)) (hp.set s ((hp.get s).1 + 1) (.row e k none (rows.take len ++ ys))))
  | _ => False
 | _ => False
/-- What is appended: a slice's rows; so many zeros; a string's bytes. -/
def AYs (P : Program) (t t' : TypeId) (z : List AV) (k by_ : Nat) (hp : Hp) (y : AV) (C : List (List AV) → Prop) : Prop :=
 if t = t' then match y.rowsOf hp k with
  | some ys => C ys
  | none => False
 else match y with
  | .val (.int _ m) => (tyInt P t').isSome = true ∧ 0 ≤ m ∧ m ≤ 9223372036854775807 ∧ m * by_ ≤ 140737488355328 ∧ C (List.replicate m.toNat z)
  | .val (.string s) => tyStr P t' = true ∧ k = 1 ∧ C (s.data.toList.map fun b => [.val (.int .u8 b.toNat)])
  | _ => False
def AAppend (P : Program) (ts : Array TypeId) (x y : AV) (s : Site) (hp : Hp) (K : AV → Hp → Prop) : Prop :=
 match ts.toList with
 | [t, t'] => match tyEl P t with
  | some e => match tySz P e, tyBy P e, tyZ P e with
   | some k, some by_, some z => 0 < k ∧ z.length = k ∧ 0 < by_ ∧ AYs P t t' z k by_ hp y fun ys => AApC e k by_ x s hp K ys
   | _, _, _ => False
  | none => False
 | _ => False

theorem flatten_splice {rows ys : List (List AV)} {k : Nat} (hk : ∀ r ∈ rows, r.length = k) (hy : ∀ r ∈ ys, r.length = k) (n : Nat) :
  (rows.take n ++ ys ++ rows.drop (n + ys.length)).flatten = rows.flatten.take (n * k) ++ ys.flatten ++ rows.flatten.drop (n * k + ys.flatten.length) := by
 simp only [List.flatten_append, flatten_take hk, flatten_drop hk, flatten_length hy, Nat.add_mul]

/-- A row of the call's own, read: its block. -/
theorem row_block {w : World} {c : Cx} {hp : Hp} (hi : Inv w c hp) {s : Site} {n k len : Nat} {t : TypeId} {q : Option Nat} {rows : List (List AV)} (e : hp.get s = (n, .row t k q rows)) {u : Value} (hu : RelV w c (.own s n k 0 len) u) (hlen : len ≤ rows.length) :
  (c.loc s = none ∧ u = .slice none 0 0 ∧ len = 0 ∧ rows = []) ∨ ∃ b cp, ∃ vs rest : List Value, c.loc s = some (b, cp) ∧ u = .slice (some ⟨b, 0, none⟩) len cp ∧ len ≤ cp ∧ (q = none ∨ q = some cp) ∧ cp ≤ maxLen ∧ w.heap[b]? = some (.cells (vs ++ rest).toArray t (0, 0)) ∧ (vs ++ rest).length = cp * k ∧
   (∀ x ∈ vs ++ rest, x.oneCell' = true) ∧ RVL w (still w c) rows.flatten vs ∧ vs.length = rows.length * k ∧ rows.length ≤ cp := by
 obtain ⟨g1, hlv, h0, hkr, g2⟩ := hi.row e
 simp only [RelV] at hu
 have hu2 := hu.2 g1.symm
 rcases g2 with ⟨g3, rfl, _⟩ | ⟨b, cp, vs, rest, g3, hq, hcp, g4, g5, hov, g6⟩
 ·rw [g3] at hu2
  obtain ⟨_, rfl, rfl⟩ := hu2
  exact .inl ⟨g3, rfl, rfl, rfl⟩
 ·rw [g3] at hu2
  obtain ⟨hcap, a, rfl, ha⟩ := hu2
  have ha := ha (.inr trivial)
  subst ha
  have hl := g6.length
  rw [flatten_length hkr] at hl
  have hle := (hi.rowLen s).2 b cp g3
  rw [e] at hle
  exact .inr ⟨b, cp, vs, rest, g3, by simp, by omega, hq, hcp, g4, g5, hov, g6, hl, hle⟩
/-- A row that is written behind its length. -/
theorem row_upd {w w' : World} {c : Cx} {hp : Hp} (hi : Inv w c hp) {s : Site} {k b cp : Nat} {t : TypeId} {q : Option Nat} {arr : List Value} {rows : List (List AV)} {vs rest : List Value} (hlv : c.lv s = true) (hloc : c.loc s = some (b, cp)) (hu : Upd w b (.cells arr.toArray t (0, 0)) w') (ha : arr = vs ++ rest)
  (hq : q = none ∨ q = some cp) (hcp : cp ≤ maxLen) (h0 : 0 < k) (hk : ∀ r ∈ rows, r.length = k) (hlen : arr.length = cp * k) (ho : ∀ u ∈ arr, u.oneCell' = true) (hr : RVL w (still w c) rows.flatten vs) : Ext w c w' c ∧ Inv w' c (hp.set s (hp.get s).1 (.row t k q rows)) := by
 subst ha
 have he := hu.ext (Cx.live_loc hlv hloc)
 refine ⟨he, hi.put hlv hloc hu ?_⟩
 simp only [BlkOk, hloc]
 exact ⟨hlv, h0, hk, hq, hcp, vs, rest, hu.here, hlen, ho, RVL.mono he.still _ _ hr⟩
/-- The same place, under a new number. -/
def Cx.bump (c : Cx) (s : Site) : Cx := { c with cur := fun s' => if s' = s then c.cur s + 1 else c.cur s' }
theorem bump_sound {w : World} {c : Cx} {hp : Hp} (hi : Inv w c hp) (s : Site) : Ext w c w (c.bump s) ∧ Inv w (c.bump s) (hp.set s ((hp.get s).1 + 1) (hp.get s).2) := by
 have he : Ext w c w (c.bump s) := ⟨rfl, rfl, rfl, Nat.le_refl _, fun _ _ hn => ⟨rfl, hn⟩, rfl, fun s' => by
  by_cases h : s' = s
  ·subst h; simp [Cx.bump]
  ·simp [Cx.bump, h]⟩
 refine ⟨he, hi.upd he s _ _ (fun s' hs => by simp [Cx.bump, hs]) (fun _ _ _ _ _ => rfl) (by simp [Cx.bump, hi.cur s]) ((hi.ok s).move he rfl rfl rfl fun _ _ _ => rfl) fun b l e => ?_⟩
 exact ⟨hi.lt b ⟨s, l, e⟩, hi.far b ⟨s, l, e⟩, fun s' hs l' e' => hs (hi.inj s' s b l' l e' e)⟩
theorem Hp.set_set (h : Hp) (s : Site) (n m : Nat) (a b : Blk) : (h.set s n a).set s m b = h.set s m b := by
 induction h with
 | nil => simp [Hp.set]
 | cons x r ih =>
  obtain ⟨t, n', c⟩ := x
  simp only [Hp.set]
  by_cases e : t = s
  ·simp [e, Hp.set]
  ·simp [e, Hp.set, ih]

theorem append_core {P : Program} {t tx e k by_ : Nat} {z : List AV} (he : tyEl P t = some e) (hk : tySz P e = some k) (hby : tyBy P e = some by_) (hz : tyZ P e = some z) (h0 : 0 < k) (hzk : z.length = k) (hb0 : 0 < by_) {x : AV} {s : Site} {hp : Hp} {K : AV → Hp → Prop} {ys : List (List AV)} (h : AApC e k by_ x s hp K ys)
  {w : World} {c : Cx} (hi : Inv w c hp) (ty : TypeId) {u v : Value} (hu : RelV w c x u) (hyk : ∀ r ∈ ys, r.length = k) {news : List Value} (hsrc : ASrc P t tx e k by_ v ys.length news w) (hnews : RVL w (still w c) ys.flatten news) :
  Gives P (Builtin.append_ #[t, tx] ty #[u, v]) w c K := by
 unfold AApC at h
 have hnone : ∀ (s2 : Site), ys.length * by_ ≤ 140737488355328 → ys ≠ [] → K (.own s2 ((hp.get s2).1 + 1) k 0 ys.length) (hp.set s2 ((hp.get s2).1 + 1) (.row e k none ys)) → Gives P (Builtin.append_ #[t, tx] ty #[.slice none 0 0, v]) w c K := by
  intro s2 hsz hne h
  obtain ⟨gc, rest, hr, h1, h2, h3, h4⟩ := append_new (P := P) hk hby hz hzk h0 hb0 c ty (base := none) (n := 0) (cp := 0) (olds := []) (run_firstCells_none w.drew k 0 0 0) (by simp) hsrc (Nat.le_refl 0) (by
   have := List.length_pos_iff.2 hne; omega) (by simpa using hsz)
  rw [Nat.zero_add] at hr h1
  rw [List.nil_append] at hr h3
  obtain ⟨x1, x2⟩ := row_new' hi s2 e k ys gc news rest h0 hyk h2 h3 (fun u hu => by
   rcases List.mem_append.1 hu with hu | hu
   ·exact hsrc.one u hu
   ·exact h4 u hu) hnews
  exact ⟨_, _, _, _, _, hr, x1, x2, rel_own_new' hi s2 _ k _ gc h1, h⟩
 have hzero : ∀ (s2 : Site), ys = [] → K (.own s2 ((hp.get s2).1 + 1) k 0 0) (hp.set s2 ((hp.get s2).1 + 1) (.row e k none [])) → Gives P (Builtin.append_ #[t, tx] ty #[.slice none 0 0, v]) w c K := by
  intro s2 hne hK0
  subst hne
  obtain ⟨x1, x2⟩ := hi.lay (w' := w) s2 none (.row e k none []) (Ext.refl w c) (fun _ _ => rfl) (fun b cp e => by cases e) (by
   simp only [BlkOk]
   refine ⟨cx_lay_lv _ _ _, h0, fun r hr => by simp at hr, ?_⟩
   rw [cx_lay_loc]
   exact ⟨trivial, .inl trivial⟩)
  refine ⟨.slice none 0 0, _, w, _, _, ?_, x1, x2, ?_, hK0⟩
  ·exact hsrc.empty rfl ty
  ·simp only [RelV, cx_lay_cur, hi.cur s2, Nat.le_refl, true_and]
   intro _
   simp only [cx_lay_loc]
 split at h
 ·obtain ⟨hsz, _, h⟩ := h
  simp only [RelV] at hu
  obtain ⟨rfl, -⟩ := hu
  by_cases hne : ys = []
  ·exact hzero s hne (by subst hne; exact h)
  ·exact hnone s hsz hne h
 ·rename_i s1 ver k1 off len
  split at h
  ·rename_i n e' k2 q rows hrow
   obtain ⟨rfl, rfl, rfl, rfl, rfl, hlen, hsz, h⟩ := h
   obtain ⟨g1, hlv, _, hkr, g2⟩ := hi.row hrow
   have hn : (hp.get s1).1 = n := by rw [hrow]
   have hkk : ∀ r ∈ rows.take len ++ ys, r.length = k2 := fun r hr => by
    rcases List.mem_append.1 hr with hr | hr
    ·exact hkr r (List.mem_of_mem_take hr)
    ·exact hyk r hr
   rcases row_block hi hrow hu hlen with ⟨g3, rfl, rfl, rfl⟩ | ⟨b, cp, vs, rest, g3, rfl, hcap, hq, hcp, g4, g5, hov, g6, g7, g8⟩
   ·have hq : q = none ∨ q = some 0 := by
     rcases g2 with ⟨_, _, hq⟩ | ⟨b, cp, _, _, g4, _⟩
     ·exact hq
     ·rw [g3] at g4; cases g4
    simp only [Nat.zero_add, List.take_nil, List.nil_append, List.drop_nil, List.append_nil] at h hsz
    rcases hq with rfl | rfl
    ·simp only at h
     rw [← hn] at h
     by_cases hne : ys = []
     ·exact hzero s1 hne (by subst hne; exact h)
     ·exact hnone s1 hsz hne h
    ·simp only at h
     by_cases hne : ys = []
     ·subst hne
      have h2 := h.1 (by simp)
      have hnw : news = [] := List.eq_nil_of_length_eq_zero (by simpa using hsrc.newsLen)
      subst hnw
      refine ⟨.slice none 0 0, _, w, c, _, ?_, Ext.refl _ _, ?_, ?_, h2⟩
      ·exact hsrc.empty rfl ty
      ·refine hi.upd (Ext.refl _ _) s1 n _ (fun _ _ => ⟨rfl, rfl, rfl, rfl⟩) (fun _ _ _ _ _ => rfl) g1 ?_ fun b l e2 => ⟨hi.lt b ⟨s1, l, e2⟩, hi.far b ⟨s1, l, e2⟩, fun s' hs l' e' => hs (hi.inj s' s1 b l' l e' e2)⟩
       have := hi.ok s1
       rw [hrow] at this
       simpa using this
      ·simpa using hu
     ·exact hnone s hsz hne (h.2 (List.length_pos_iff.2 hne))
   ·have hmul : len * k2 ≤ rows.length * k2 := Nat.mul_le_mul_right _ hlen
    have hin : len + ys.length ≤ cp → ∃ w', (Builtin.append_ #[t, tx] ty #[.slice (some ⟨b, 0, none⟩) len cp, v]).run P w = .ok (.slice (some ⟨b, 0, none⟩) (len + ys.length) cp) w' ∧ ∃ rest', Upd w b (.cells ((vs.take (len * k2) ++ news ++ vs.drop (len * k2 + news.length)) ++ rest').toArray e' (0, 0)) w' ∧
      ((vs.take (len * k2) ++ news ++ vs.drop (len * k2 + news.length)) ++ rest').length = cp * k2 ∧ (∀ x ∈ (vs.take (len * k2) ++ news ++ vs.drop (len * k2 + news.length)) ++ rest', x.oneCell' = true) := by
     intro hroom
     obtain ⟨w', hr, hup⟩ := append_in (P := P) hk ty g4 g5 hsrc hroom
     have e1 : (vs ++ rest).take (len * k2) = vs.take (len * k2) := List.take_append_of_le_length (by omega)
     have hnl := hsrc.newsLen
     have hfit : len * k2 + news.length ≤ (vs ++ rest).length := by rw [hnl, g5, ← Nat.add_mul]; exact Nat.mul_le_mul_right _ hroom
     have e2 : (vs ++ rest).drop (len * k2 + news.length) = vs.drop (len * k2 + news.length) ++ rest.drop (len * k2 + news.length - vs.length) := List.drop_append
     refine ⟨w', hr, rest.drop (len * k2 + news.length - vs.length), ?_, ?_, ?_⟩
     ·rw [e1, e2] at hup
      simpa [List.append_assoc] using hup
     ·simp only [List.length_append, List.length_take, List.length_drop] at g5 hfit ⊢
      omega
     ·intro x hx
      simp only [List.mem_append] at hx
      rcases hx with ((hx | hx) | hx) | hx
      ·exact hov x (List.mem_append_left _ (List.mem_of_mem_take hx))
      ·exact hsrc.one x hx
      ·exact hov x (List.mem_append_left _ (List.mem_of_mem_drop hx))
      ·exact hov x (List.mem_append_right _ (List.mem_of_mem_drop hx))
    have hout : ∀ (s2 : Site), cp < len + ys.length → K (.own s2 ((hp.get s2).1 + 1) k2 0 (len + ys.length)) (hp.set s2 ((hp.get s2).1 + 1) (.row e' k2 none (rows.take len ++ ys))) → Gives P (Builtin.append_ #[t, tx] ty #[.slice (some ⟨b, 0, none⟩) len cp, v]) w c K := by
     intro s2 hg h
     have hold : (Builtin.firstCells k2 len (.slice (some ⟨b, 0, none⟩) len cp)).run P w.drew = .ok (vs.take (len * k2)).toArray w.drew := by
      refine run_firstCells_some (P := P) w.drew k2 len ⟨b, 0, none⟩ len cp _ (by simp only [List.length_take]; omega) fun j x hx => ?_
      rw [Addr.add_lit, Nat.zero_add]
      show w.cell? _ = _
      rw [cell_block g4]
      rw [List.getElem?_take] at hx
      split at hx
      ·rw [List.getElem?_append_left (lt_of_get hx)]; exact hx
      ·cases hx
     obtain ⟨gc, rest', hr, h1, h2, h3, h4⟩ := append_new (P := P) hk hby hz hzk h0 hb0 c ty hold (by simp only [List.length_take]; omega) hsrc (by omega) hg hsz
     obtain ⟨x1, x2⟩ := row_new' hi s2 e' k2 (rows.take len ++ ys) gc (vs.take (len * k2) ++ news) rest' h0 hkk h2 h3 (fun u hu => by
      simp only [List.mem_append] at hu
      rcases hu with (hu | hu) | hu
      ·exact hov u (List.mem_append_left _ (List.mem_of_mem_take hu))
      ·exact hsrc.one u hu
      ·exact h4 u hu) (by
      rw [List.flatten_append, flatten_take hkr]
      exact (g6.take _).append hnews)
     exact ⟨_, _, _, _, _, hr, x1, x2, rel_own_new' hi s2 _ k2 _ gc h1, h⟩
    rcases hq with rfl | rfl
    ·simp only at h
     rw [← hn] at h
     by_cases hroom : len + ys.length ≤ cp
     ·obtain ⟨w', hr, rest', hup, hl', ho'⟩ := hin hroom
      obtain ⟨x1, x2⟩ := row_upd hi hlv g3 hup (rows := rows.take len ++ ys) (vs := vs.take (len * k2) ++ news) (rest := vs.drop (len * k2 + news.length) ++ rest') (q := none) (by simp [List.append_assoc]) (.inl rfl) hcp h0 hkk hl' ho' (by
       rw [List.flatten_append, flatten_take hkr]
       exact (g6.take _).append hnews)
      obtain ⟨x3, x4⟩ := bump_sound x2 s1
      rw [Hp.get_set, if_pos rfl, Hp.set_set] at x4
      refine ⟨_, _, w', _, _, hr, x1.trans x3, x4, ?_, h⟩
      simp only [RelV, Cx.bump, if_true, hi.cur s1, Nat.le_refl, true_and, g3]
      exact fun _ => ⟨by omega, ⟨b, 0, none⟩, by simp, fun _ => by simp⟩
     ·exact hout s1 (by omega) h
    ·simp only at h
     by_cases hroom : len + ys.length ≤ cp
     ·obtain ⟨w', hr, rest', hup, hl', ho'⟩ := hin hroom
      have hnl := hsrc.newsLen
      have hfl := flatten_length hyk
      obtain ⟨x1, x2⟩ := row_upd hi hlv g3 hup (rows := rows.take len ++ ys ++ rows.drop (len + ys.length)) (vs := vs.take (len * k2) ++ news ++ vs.drop (len * k2 + news.length)) (rest := rest') (q := some cp) rfl (.inr rfl) hcp h0 (fun r hr => by
       rcases List.mem_append.1 hr with hr | hr
       ·exact hkk r hr
       ·exact hkr r (List.mem_of_mem_drop hr)) hl' ho' (by
       rw [flatten_splice hkr hyk, hfl, hnl]
       exact ((g6.take _).append hnews).append (g6.drop _))
      rw [hn] at x2
      refine ⟨_, _, w', _, _, hr, x1, x2, ?_, h.1 hroom⟩
      simp only [RelV, ← g1, Nat.le_refl, true_and, g3]
      exact fun _ => ⟨by omega, ⟨b, 0, none⟩, by simp, fun _ => by simp⟩
     ·exact hout s (by omega) (h.2 (by omega))
  ·exact h.elim
 ·exact h.elim
theorem AAppend_sound {P : Program} {ts : Array TypeId} {x y : AV} {s : Site} {hp : Hp} {K : AV → Hp → Prop} (h : AAppend P ts x y s hp K) {w : World} {c : Cx} (hi : Inv w c hp) (ty : TypeId) {u v : Value} (hu : RelV w c x u) (hv : RelV w c y v) :
  Gives P (Builtin.append_ ts ty #[u, v]) w c K := by
 unfold AAppend at h
 split at h
 ·rename_i t t' hts
  have hts' : ts = #[t, t'] := by rw [← hts]
  subst hts'
  split at h
  ·rename_i e he
   split at h
   ·rename_i k by_ z hk hby hz
    obtain ⟨h0, hzk, hb0, h⟩ := h
    unfold AYs at h
    split at h
    ·rename_i htt
     subst htt
     split at h
     ·rename_i ys hys
      obtain ⟨hyk, news, hsrc, hnews⟩ := src_of_rows (P := P) he (hv.rows hi hys)
      exact append_core he hk hby hz h0 hzk hb0 h hi ty hu hyk (asrc_of he hk hby hsrc) hnews
     ·exact h.elim
    ·split at h
     ·rename_i ki m
      obtain ⟨h1, h2, h3, h4, h⟩ := h
      simp only [RelV] at hv
      obtain ⟨rfl, -⟩ := hv
      obtain ⟨ki', hx⟩ : ∃ ki', P.underlying t' = some (.int ki') := by
       unfold tyInt at h1
       split at h1
       ·rename_i ki' e'; exact ⟨ki', e'⟩
       ·cases h1
      obtain ⟨news, hsrc, hnews⟩ := zero_asrc (P := P) (t := t) (ki := ki) he hk hby hz hzk h0 hx w c m h2 h3 (by omega)
      exact append_core he hk hby hz h0 hzk hb0 h hi ty hu (fun r hr => by rw [List.eq_of_mem_replicate hr]; exact hzk) (by rw [List.length_replicate]; exact hsrc) hnews
     ·rename_i str
      obtain ⟨h1, h2, h⟩ := h
      subst h2
      simp only [RelV] at hv
      obtain ⟨rfl, -⟩ := hv
      have hx : P.underlying t' = some .string := by
       unfold tyStr at h1
       split at h1
       ·assumption
       ·cases h1
      have hsrc := asrc_of (t := t) he hk hby (Src.ofString (P := P) w hx str)
      refine append_core he hk hby hz h0 hzk hb0 h hi ty hu (fun r hr => by obtain ⟨b, _, rfl⟩ := List.mem_map.1 hr; rfl) (news := byteCells str) (by rw [List.length_map, Array.length_toList]; exact hsrc) ?_
      unfold byteCells
      generalize str.data.toList = l
      induction l with
      | nil => simp [RVL]
      | cons b l ih => simp only [List.map_cons, List.flatten_cons, List.cons_append, List.nil_append, RVL]; exact ⟨_, _, rfl, by simp [RV, plain], ih⟩
     ·exact h.elim
   ·exact h.elim
  ·exact h.elim
 ·exact h.elim
end Go.Proofs.YtonolfpnidaflaaGreatDoor.E

