/- The abstract machine of this claim, part B: the local heap's meaning; how it turns. No conditions. -/
import Derived.Test.YtanbgeelphfggaaDoorEngA
import Derived.Laws.AppendOwn
namespace Go.Proofs.YtanbgeelphfggaaDoor.E
open Go
set_option linter.unusedSimpArgs false
set_option linter.unusedVariables false
set_option linter.unusedSectionVars false
set_option maxRecDepth 20000

/-- The meaning of the local heap's places in a world. -/
structure Cx where
  cur : Site → Nat
  loc : Site → Option (Nat × Nat)
  lv : Site → Bool
  far : Nat → Prop

def Cx.live (c : Cx) (b : Nat) : Prop := ∃ s cp, c.lv s = true ∧ c.loc s = some (b, cp)
/-- A block that nobody writes to. -/
def still (w : World) (c : Cx) (b : Nat) : Prop := b < w.heap.size ∧ ¬ c.live b ∧ ¬ c.far b

section
variable (w : World) (c : Cx)
mutual
def RelV : AV → Value → Prop
  | .val u, v => v = u ∧ plain u = true
  | .list k rows, v => RV w (still w c) (.list k rows) v
  | .rop cs, v => RV w (still w c) (.rop cs) v
  | .agg cs, v => ∃ vs : List Value, v = .agg vs.toArray ∧ (∀ u ∈ vs, u.oneCell' = true) ∧ RelL cs vs
  | .tup cs, v => ∃ vs : List Value, v = .tuple vs.toArray ∧ RelL cs vs
  | .func f cap, v => ∃ vs : List Value, v = .func (.func f) #[] vs.toArray ∧ RelL cap vs
  | .iface t x, v => ∃ u, v = .iface t u ∧ RelV x u
  | .ptr s ver off, v => ver ≤ c.cur s ∧ (ver = c.cur s → ∃ b cp, c.loc s = some (b, cp) ∧ v = .pointer (some ⟨b, off, none⟩))
  | .ept s ver k i off, v => ver ≤ c.cur s ∧ (ver = c.cur s → ∃ b cp, c.loc s = some (b, cp) ∧ v = .pointer (some ⟨b, i * k + off, none⟩))
  | .own s ver k off len, v => ver ≤ c.cur s ∧ (ver = c.cur s → match c.loc s with
      | none => off = 0 ∧ len = 0 ∧ v = .slice none 0 0
      | some (b, cp) => off + len ≤ cp ∧ ∃ a, v = .slice (some a) len (cp - off) ∧ (off < cp ∨ off = 0 → a = ⟨b, off * k, none⟩))
  | .map s ver, v => ver ≤ c.cur s ∧ (ver = c.cur s → ∃ b cp, c.loc s = some (b, cp) ∧ v = .map (some b))
  | .junk, v => v.oneCell' = true
  | .dead, _ => True
def RelL : List AV → List Value → Prop
  | [], vs => vs = []
  | x :: xs, vs => ∃ u us, vs = u :: us ∧ RelV x u ∧ RelL xs us
end
end

/-- A later world, and what it makes of the local heap: what is still has not turned. -/
structure Ext (w : World) (c : Cx) (w' : World) (c' : Cx) : Prop where
  os : w'.os = w.os
  tape : w'.tape = w.tape
  output : w'.output = w.output
  size : w.heap.size ≤ w'.heap.size
  block : ∀ b, b < w.heap.size → ¬ c.live b → w'.heap[b]? = w.heap[b]? ∧ ¬ c'.live b
  far : c'.far = c.far
  cur : ∀ s, c.cur s < c'.cur s ∨ (c'.cur s = c.cur s ∧ c'.loc s = c.loc s ∧ (c'.lv s = true → c.lv s = true))

theorem Ext.refl (w : World) (c : Cx) : Ext w c w c :=
  ⟨rfl, rfl, rfl, Nat.le_refl _, fun _ _ h => ⟨rfl, h⟩, rfl, fun _ => .inr ⟨rfl, rfl, id⟩⟩
theorem Ext.trans {w w1 w2 : World} {c c1 c2 : Cx} (h : Ext w c w1 c1) (k : Ext w1 c1 w2 c2) : Ext w c w2 c2 where
  os := k.os.trans h.os
  tape := k.tape.trans h.tape
  output := k.output.trans h.output
  size := Nat.le_trans h.size k.size
  block b hb hn := by
    obtain ⟨e1, n1⟩ := h.block b hb hn
    obtain ⟨e2, n2⟩ := k.block b (Nat.lt_of_lt_of_le hb h.size) n1
    exact ⟨e2.trans e1, n2⟩
  far := k.far.trans h.far
  cur s := by
    rcases h.cur s with h1 | ⟨h1, h2, h3⟩ <;> rcases k.cur s with k1 | ⟨k1, k2, k3⟩
    · exact .inl (Nat.lt_trans h1 k1)
    · exact .inl (by omega)
    · exact .inl (by omega)
    · exact .inr ⟨k1.trans h1, k2.trans h2, fun x => h3 (k3 x)⟩
theorem Ext.le {w w' : World} {c c' : Cx} (h : Ext w c w' c') (s : Site) : c.cur s ≤ c'.cur s := by
  rcases h.cur s with h1 | h1 <;> omega
theorem Ext.same {w w' : World} {c c' : Cx} (h : Ext w c w' c') {s : Site} {ver : Nat} (h1 : ver ≤ c.cur s) (h2 : ver = c'.cur s) : ver = c.cur s ∧ c'.loc s = c.loc s := by
  rcases h.cur s with h3 | ⟨h3, h4, _⟩
  · omega
  · exact ⟨by omega, h4⟩
theorem Ext.still {w w' : World} {c c' : Cx} (h : Ext w c w' c') (b : Nat) (hs : still w c b) : still w' c' b ∧ w'.heap[b]? = w.heap[b]? :=
  ⟨⟨Nat.lt_of_lt_of_le hs.1 h.size, (h.block b hs.1 hs.2.1).2, by rw [h.far]; exact hs.2.2⟩, (h.block b hs.1 hs.2.1).1⟩
theorem Ext.drew {w w' : World} {c c' : Cx} (h : Ext w c w' c') : Ext w c w'.drew c' := ⟨h.os, h.tape, h.output, h.size, h.block, h.far, h.cur⟩

section
variable {w w' : World} {c c' : Cx}
mutual
theorem RelV.ext (h : Ext w c w' c') : ∀ (a : AV) (v : Value), RelV w c a v → RelV w' c' a v
  | .val u, v, r => by simpa only [RelV] using r
  | .list k rows, v, r => by
    simp only [RelV] at r ⊢
    exact RV.mono h.still _ _ r
  | .rop cs, v, r => by
    simp only [RelV] at r ⊢
    exact RV.mono h.still _ _ r
  | .agg cs, v, r => by
    simp only [RelV] at r ⊢
    obtain ⟨vs, e, ho, hr⟩ := r
    exact ⟨vs, e, ho, RelL.ext h cs vs hr⟩
  | .tup cs, v, r => by
    simp only [RelV] at r ⊢
    obtain ⟨vs, e, hr⟩ := r
    exact ⟨vs, e, RelL.ext h cs vs hr⟩
  | .func f cap, v, r => by
    simp only [RelV] at r ⊢
    obtain ⟨vs, e, hr⟩ := r
    exact ⟨vs, e, RelL.ext h cap vs hr⟩
  | .iface t x, v, r => by
    simp only [RelV] at r ⊢
    obtain ⟨u, e, hr⟩ := r
    exact ⟨u, e, RelV.ext h x u hr⟩
  | .ptr s ver off, v, r => by
    simp only [RelV] at r ⊢
    refine ⟨Nat.le_trans r.1 (h.le s), fun e => ?_⟩
    obtain ⟨e1, e2⟩ := h.same r.1 e
    rw [e2]
    exact r.2 e1
  | .ept s ver k i off, v, r => by
    simp only [RelV] at r ⊢
    refine ⟨Nat.le_trans r.1 (h.le s), fun e => ?_⟩
    obtain ⟨e1, e2⟩ := h.same r.1 e
    rw [e2]
    exact r.2 e1
  | .own s ver k off len, v, r => by
    simp only [RelV] at r ⊢
    refine ⟨Nat.le_trans r.1 (h.le s), fun e => ?_⟩
    obtain ⟨e1, e2⟩ := h.same r.1 e
    rw [e2]
    exact r.2 e1
  | .map s ver, v, r => by
    simp only [RelV] at r ⊢
    refine ⟨Nat.le_trans r.1 (h.le s), fun e => ?_⟩
    obtain ⟨e1, e2⟩ := h.same r.1 e
    rw [e2]
    exact r.2 e1
  | .junk, v, r => by simpa only [RelV] using r
  | .dead, v, r => by simp only [RelV]
theorem RelL.ext (h : Ext w c w' c') : ∀ (a : List AV) (v : List Value), RelL w c a v → RelL w' c' a v
  | [], v, r => by simpa only [RelL] using r
  | x :: xs, v, r => by
    simp only [RelL] at r ⊢
    obtain ⟨u, us, e, h1, h2⟩ := r
    exact ⟨u, us, e, RelV.ext h x u h1, RelL.ext h xs us h2⟩
end
mutual
/-- What leads to no place of the local heap. -/
theorem RelV.of_RV : ∀ (a : AV) (v : Value), RV w (E.still w c) a v → RelV w c a v
  | .val u, v, r => by simpa only [RelV, RV] using r
  | .list k rows, v, r => by simpa only [RelV] using r
  | .rop cs, v, r => by simpa only [RelV] using r
  | .agg cs, v, r => by
    simp only [RelV, RV] at r ⊢
    obtain ⟨vs, e, ho, hr⟩ := r
    exact ⟨vs, e, ho, RelL.of_RVL cs vs hr⟩
  | .tup cs, v, r => by
    simp only [RelV, RV] at r ⊢
    obtain ⟨vs, e, hr⟩ := r
    exact ⟨vs, e, RelL.of_RVL cs vs hr⟩
  | .func f cap, v, r => by
    simp only [RelV, RV] at r ⊢
    obtain ⟨vs, e, hr⟩ := r
    exact ⟨vs, e, RelL.of_RVL cap vs hr⟩
  | .iface t x, v, r => by
    simp only [RelV, RV] at r ⊢
    obtain ⟨u, e, hr⟩ := r
    exact ⟨u, e, RelV.of_RV x u hr⟩
  | .junk, v, r => by simpa only [RelV, RV] using r
  | .dead, v, r => by simp only [RelV]
  | .ptr _ _ _, _, r => by simp only [RV] at r
  | .ept _ _ _ _ _, _, r => by simp only [RV] at r
  | .own _ _ _ _ _, _, r => by simp only [RV] at r
  | .map _ _, _, r => by simp only [RV] at r
theorem RelL.of_RVL : ∀ (a : List AV) (v : List Value), RVL w (E.still w c) a v → RelL w c a v
  | [], v, r => by simpa only [RelL, RVL] using r
  | x :: xs, v, r => by
    simp only [RelL, RVL] at r ⊢
    obtain ⟨u, us, e, h1, h2⟩ := r
    exact ⟨u, us, e, RelV.of_RV x u h1, RelL.of_RVL xs us h2⟩
end
end

/-! Lists of related things. -/
section
variable {w : World} {c : Cx}
theorem RelL.length {xs : List AV} {vs : List Value} (h : RelL w c xs vs) : vs.length = xs.length := by
  induction xs generalizing vs with
  | nil => simp only [RelL] at h; subst h; rfl
  | cons x xs ih =>
    simp only [RelL] at h
    obtain ⟨u, us, rfl, _, h2⟩ := h
    simp [ih h2]
theorem RelL.get {xs : List AV} {vs : List Value} (h : RelL w c xs vs) (i : Nat) (x : AV) (hx : xs[i]? = some x) : ∃ u, vs[i]? = some u ∧ RelV w c x u := by
  induction xs generalizing vs i with
  | nil => simp at hx
  | cons y xs ih =>
    simp only [RelL] at h
    obtain ⟨u, us, rfl, h1, h2⟩ := h
    cases i with
    | zero => simp at hx; subst hx; exact ⟨u, rfl, h1⟩
    | succ i => simpa using ih h2 i (by simpa using hx)
theorem RelL.append {xs ys : List AV} {vs us : List Value} (h : RelL w c xs vs) (k : RelL w c ys us) : RelL w c (xs ++ ys) (vs ++ us) := by
  induction xs generalizing vs with
  | nil => simp only [RelL] at h; subst h; simpa using k
  | cons x xs ih =>
    simp only [RelL] at h
    obtain ⟨u, us', rfl, h1, h2⟩ := h
    simp only [List.cons_append, RelL]
    exact ⟨u, us' ++ us, rfl, h1, ih h2⟩
theorem RelL.split {xs ys : List AV} {vs : List Value} (h : RelL w c (xs ++ ys) vs) : ∃ v1 v2, vs = v1 ++ v2 ∧ RelL w c xs v1 ∧ RelL w c ys v2 := by
  induction xs generalizing vs with
  | nil => exact ⟨[], vs, rfl, by simp only [RelL], by simpa using h⟩
  | cons x xs ih =>
    simp only [List.cons_append, RelL] at h
    obtain ⟨u, us, rfl, h1, h2⟩ := h
    obtain ⟨v1, v2, rfl, h3, h4⟩ := ih h2
    exact ⟨u :: v1, v2, rfl, by simp only [RelL]; exact ⟨u, v1, rfl, h1, h3⟩, h4⟩
theorem RelL.drop {xs : List AV} {vs : List Value} (h : RelL w c xs vs) (n : Nat) : RelL w c (xs.drop n) (vs.drop n) := by
  induction n generalizing xs vs with
  | zero => simpa using h
  | succ n ih =>
    cases xs with
    | nil => simp only [RelL] at h; subst h; simp [RelL]
    | cons x xs =>
      simp only [RelL] at h
      obtain ⟨u, us, rfl, h1, h2⟩ := h
      simpa using ih h2
theorem RelL.take {xs : List AV} {vs : List Value} (h : RelL w c xs vs) (n : Nat) : RelL w c (xs.take n) (vs.take n) := by
  induction n generalizing xs vs with
  | zero => simp [RelL]
  | succ n ih =>
    cases xs with
    | nil => simp only [RelL] at h; subst h; simp [RelL]
    | cons x xs =>
      simp only [RelL] at h
      obtain ⟨u, us, rfl, h1, h2⟩ := h
      simp only [List.take_succ_cons, RelL]
      exact ⟨u, us.take n, rfl, h1, ih h2⟩
theorem RelL.set {xs : List AV} {vs : List Value} (h : RelL w c xs vs) (i : Nat) {x : AV} {v : Value} (hv : RelV w c x v) : RelL w c (xs.set i x) (vs.set i v) := by
  induction xs generalizing vs i with
  | nil => simp only [RelL] at h; subst h; simp [RelL]
  | cons y xs ih =>
    simp only [RelL] at h
    obtain ⟨u, us, rfl, h1, h2⟩ := h
    cases i with
    | zero => simp only [List.set_cons_zero, RelL]; exact ⟨v, us, rfl, hv, h2⟩
    | succ i => simp only [List.set_cons_succ, RelL]; exact ⟨u, us.set i v, rfl, h1, ih h2 i⟩
end

def keyIs : MK → Value → Bool
  | .i k, .int k' _ => k == k'
  | .s, .string _ => true
  | _, _ => false
def BlkOk (w : World) (c : Cx) (s : Site) : Blk → Prop
  | .gone => c.lv s = false
  | .cells t cs => c.lv s = true ∧ ∃ b cp, ∃ vs : List Value, c.loc s = some (b, cp) ∧ w.heap[b]? = some (.cells vs.toArray t (0, 0)) ∧ (∀ u ∈ vs, u.oneCell' = true) ∧ RelL w c cs vs
  | .icc _ cs => c.lv s = false ∧ ∃ b cp, c.loc s = some (b, cp) ∧ still w c b ∧ RVAt w (still w c) cs b 0
  | .row t k q rows => c.lv s = true ∧ 0 < k ∧ (∀ r ∈ rows, r.length = k) ∧ match c.loc s with
      | none => rows = [] ∧ (q = none ∨ q = some 0)
      | some (b, cp) => (q = none ∨ q = some cp) ∧ cp ≤ maxLen ∧ ∃ vs rest : List Value, w.heap[b]? = some (.cells (vs ++ rest).toArray t (0, 0)) ∧ (vs ++ rest).length = cp * k ∧ (∀ u ∈ vs ++ rest, u.oneCell' = true) ∧ RVL w (still w c) rows.flatten vs
  | .ice k rows => c.lv s = false ∧ match c.loc s with
      | none => rows = []
      | some (b, cp) => rows.length ≤ cp ∧ (rows = [] ∨ (still w c b ∧ RVRows w (still w c) k rows b 0))
  | .map t es => c.lv s = true ∧ (∀ e ∈ es, keyIs t e.1 = true ∧ plain e.2 = true) ∧ ∃ b cp ents clock, c.loc s = some (b, cp) ∧ w.heap[b]? = some (.map ents clock) ∧ ents.toList.map (fun e => (e.key, e.val)) = es

structure Inv (w : World) (c : Cx) (hp : Hp) : Prop where
  cur : ∀ s, c.cur s = (hp.get s).1
  ok : ∀ s, BlkOk w c s (hp.get s).2
  inj : ∀ s s' b cp cp', c.lv s = true → c.lv s' = true → c.loc s = some (b, cp) → c.loc s' = some (b, cp') → s = s'
  far : ∀ b, c.live b → ¬ c.far b
  lt : ∀ b, c.live b → b < w.heap.size
  farlt : ∀ b, c.far b → b < w.heap.size

theorem BlkOk.move {w w' : World} {c c' : Cx} {s : Site} {k : Blk} (h : BlkOk w c s k) (he : Ext w c w' c') (hl : c'.loc s = c.loc s) (hv : c'.lv s = c.lv s)
    (hb : ∀ b cp, c.lv s = true → c.loc s = some (b, cp) → w'.heap[b]? = w.heap[b]?) : BlkOk w' c' s k := by
  cases k with
  | gone => simp only [BlkOk] at h ⊢; rw [hv]; exact h
  | cells t cs =>
    simp only [BlkOk] at h ⊢
    obtain ⟨h1, b, cp, vs, h2, h3, ho, h4⟩ := h
    exact ⟨by rw [hv]; exact h1, b, cp, vs, by rw [hl]; exact h2, by rw [hb b cp h1 h2]; exact h3, ho, RelL.ext he cs vs h4⟩
  | icc t cs =>
    simp only [BlkOk] at h ⊢
    obtain ⟨h1, b, cp, h2, h3, h4⟩ := h
    exact ⟨by rw [hv]; exact h1, b, cp, by rw [hl]; exact h2, (he.still b h3).1, RVAt.mono he.still cs b 0 h3 h4⟩
  | row t k q rows =>
    simp only [BlkOk] at h ⊢
    obtain ⟨h1, h0, h2, h3⟩ := h
    refine ⟨by rw [hv]; exact h1, h0, h2, ?_⟩
    rw [hl]
    cases hq : c.loc s with
    | none => rw [hq] at h3; exact h3
    | some x =>
      obtain ⟨b, cp⟩ := x
      rw [hq] at h3
      obtain ⟨hcq, h3, vs, rest, h4, h5, ho, h6⟩ := h3
      exact ⟨hcq, h3, vs, rest, by rw [hb b cp h1 hq]; exact h4, h5, ho, RVL.mono he.still _ vs h6⟩
  | ice k rows =>
    simp only [BlkOk] at h ⊢
    obtain ⟨h1, h3⟩ := h
    refine ⟨by rw [hv]; exact h1, ?_⟩
    rw [hl]
    cases hq : c.loc s with
    | none => rw [hq] at h3; exact h3
    | some x =>
      obtain ⟨b, cp⟩ := x
      rw [hq] at h3
      refine ⟨h3.1, ?_⟩
      rcases h3.2 with h4 | ⟨h4, h5⟩
      · exact .inl h4
      · exact .inr ⟨(he.still b h4).1, RVRows.mono k he.still rows b 0 h4 h5⟩
  | map t es =>
    simp only [BlkOk] at h ⊢
    obtain ⟨h1, h0, b, cp, ents, clock, h2, h3, h4⟩ := h
    exact ⟨by rw [hv]; exact h1, h0, b, cp, ents, clock, by rw [hl]; exact h2, by rw [hb b cp h1 h2]; exact h3, h4⟩

/-- All other places as they were: what is to be shown of the one that turns. -/
theorem Inv.upd {w w' : World} {c c' : Cx} {hp : Hp} (h : Inv w c hp) (he : Ext w c w' c') (s : Site) (n : Nat) (k : Blk)
    (h1 : ∀ s', s' ≠ s → c'.cur s' = c.cur s' ∧ c'.loc s' = c.loc s' ∧ c'.lv s' = c.lv s')
    (h2 : ∀ s' b cp, s' ≠ s → c.lv s' = true → c.loc s' = some (b, cp) → w'.heap[b]? = w.heap[b]?)
    (h3 : c'.cur s = n) (h4 : BlkOk w' c' s k)
    (h5 : ∀ b cp, c'.lv s = true → c'.loc s = some (b, cp) → b < w'.heap.size ∧ ¬ c.far b ∧ ∀ s' cp', s' ≠ s → c.lv s' = true → c.loc s' ≠ some (b, cp')) :
    Inv w' c' (hp.set s n k) where
  cur s' := by
    rw [Hp.get_set]
    by_cases e : s = s'
    · subst e; simp [h3]
    · rw [if_neg e, (h1 s' (fun x => e x.symm)).1]; exact h.cur s'
  ok s' := by
    rw [Hp.get_set]
    by_cases e : s = s'
    · subst e; simpa using h4
    · rw [if_neg e]
      obtain ⟨_, e2, e3⟩ := h1 s' (fun x => e x.symm)
      exact (h.ok s').move he e2 e3 fun b cp => h2 s' b cp (fun x => e x.symm)
  inj s1 s2 b cp cp' l1 l2 o1 o2 := by
    by_cases e1 : s1 = s
    · subst e1
      by_cases e2 : s2 = s1
      · exact e2.symm
      · obtain ⟨_, g2, g3⟩ := h1 s2 e2
        exact absurd (g2 ▸ o2) ((h5 b cp l1 o1).2.2 s2 cp' e2 (g3 ▸ l2))
    · obtain ⟨_, f2, f3⟩ := h1 s1 e1
      by_cases e2 : s2 = s
      · subst e2
        exact absurd (f2 ▸ o1) ((h5 b cp' l2 o2).2.2 s1 cp e1 (f3 ▸ l1))
      · obtain ⟨_, g2, g3⟩ := h1 s2 e2
        exact h.inj s1 s2 b cp cp' (f3 ▸ l1) (g3 ▸ l2) (f2 ▸ o1) (g2 ▸ o2)
  far b := by
    rintro ⟨s', cp, l, o⟩
    rw [he.far]
    by_cases e : s' = s
    · subst e; exact (h5 b cp l o).2.1
    · obtain ⟨_, e2, e3⟩ := h1 s' e
      exact h.far b ⟨s', cp, e3 ▸ l, e2 ▸ o⟩
  lt b := by
    rintro ⟨s', cp, l, o⟩
    by_cases e : s' = s
    · subst e; exact (h5 b cp l o).1
    · obtain ⟨_, e2, e3⟩ := h1 s' e
      exact Nat.lt_of_lt_of_le (h.lt b ⟨s', cp, e3 ▸ l, e2 ▸ o⟩) he.size
  farlt b hb := Nat.lt_of_lt_of_le (h.farlt b (by rw [he.far] at hb; exact hb)) he.size

/-- Nothing of the local heap turns. -/
theorem Inv.ext {w w' : World} {c : Cx} {hp : Hp} (h : Inv w c hp) (he : Ext w c w' c) (hb : ∀ b, c.live b → w'.heap[b]? = w.heap[b]?) : Inv w' c hp where
  cur := h.cur
  ok s := (h.ok s).move he rfl rfl fun b cp l o => hb b ⟨s, cp, l, o⟩
  inj := h.inj
  far := h.far
  lt b hl := Nat.lt_of_lt_of_le (h.lt b hl) he.size
  farlt b hb := Nat.lt_of_lt_of_le (h.farlt b hb) he.size
theorem Inv.drew {w : World} {c : Cx} {hp : Hp} (h : Inv w c hp) : Inv w.drew c hp := h.ext (Ext.refl w c).drew fun _ _ => rfl

/-! A new block. -/
theorem heap_new (w : World) (o : Obj) : (w.alloc o).heap[w.heap.size]? = some o := by
  show (w.heap.push o)[w.heap.size]? = _
  simp
theorem heap_old (w : World) (o : Obj) (b : Nat) (h : b < w.heap.size) : (w.alloc o).heap[b]? = w.heap[b]? := by
  show (w.heap.push o)[b]? = _
  rw [Array.getElem?_push, if_neg (by omega)]
theorem size_alloc (w : World) (o : Obj) : (w.alloc o).heap.size = w.heap.size + 1 := by
  show (w.heap.push o).size = _
  simp

/-- The place s now lies in block b. -/
def Cx.lay (c : Cx) (s : Site) (p : Option (Nat × Nat)) : Cx :=
  { c with cur := fun s' => if s' = s then c.cur s + 1 else c.cur s', loc := fun s' => if s' = s then p else c.loc s', lv := fun s' => if s' = s then true else c.lv s' }

/-- A new block that nobody will write to. -/
theorem Ext.alloc_still {w : World} {c : Cx} (o : Obj) {hp : Hp} (h : Inv w c hp) : Ext w c (w.alloc o) c ∧ Inv (w.alloc o) c hp ∧ E.still (w.alloc o) c w.heap.size := by
  have he : Ext w c (w.alloc o) c := ⟨rfl, rfl, rfl, by rw [size_alloc]; omega, fun b hb hn => ⟨heap_old w o b hb, hn⟩, rfl, fun s => .inr ⟨rfl, rfl, id⟩⟩
  refine ⟨he, h.ext he fun b hb => heap_old w o b (h.lt b hb), by rw [size_alloc]; omega, fun hl => ?_, fun hl => ?_⟩
  · have := h.lt _ hl; omega
  · have := h.farlt _ hl; omega

/-- A place that lies anew, in a world that has turned in no old block. -/
theorem Ext.lay {w w' : World} {c : Cx} (s : Site) (p : Option (Nat × Nat)) (he : Ext w c w' c) (hp : ∀ b cp, p = some (b, cp) → w.heap.size ≤ b) : Ext w c w' (c.lay s p) := by
  refine ⟨he.os, he.tape, he.output, he.size, fun b hb hn => ⟨(he.block b hb hn).1, ?_⟩, he.far, fun s' => ?_⟩
  · rintro ⟨s', cp', l, e⟩
    simp only [Cx.lay] at l e
    by_cases hs : s' = s
    · simp only [hs, if_true] at e
      have := hp b cp' e
      omega
    · simp only [hs, if_false] at l e; exact hn ⟨s', cp', l, e⟩
  · by_cases hs : s' = s
    · subst hs; simp [Cx.lay]
    · simp [Cx.lay, hs]
/-- The local heap with one place that lies anew. -/
theorem Inv.lay {w w' : World} {c : Cx} {hp : Hp} (h : Inv w c hp) (s : Site) (p : Option (Nat × Nat)) (k : Blk) (he : Ext w c w' c) (hb : ∀ b, c.live b → w'.heap[b]? = w.heap[b]?)
    (hp' : ∀ b cp, p = some (b, cp) → w.heap.size ≤ b ∧ b < w'.heap.size) (hk : BlkOk w' (c.lay s p) s k) : Ext w c w' (c.lay s p) ∧ Inv w' (c.lay s p) (hp.set s ((hp.get s).1 + 1) k) := by
  have he' := Ext.lay s p he fun b cp e => (hp' b cp e).1
  refine ⟨he', h.upd he' s _ k (fun s' hs => by simp [Cx.lay, hs]) (fun s' b cp _ l o => hb b ⟨s', cp, l, o⟩) (by simp [Cx.lay, h.cur s]) hk fun b cp _ o => ?_⟩
  have e : p = some (b, cp) := by simpa [Cx.lay] using o
  obtain ⟨h1, h2⟩ := hp' b cp e
  exact ⟨h2, fun hf => by have := h.farlt b hf; omega, fun s' cp' _ l o' => by have := h.lt b ⟨s', cp', l, o'⟩; omega⟩
end Go.Proofs.YtanbgeelphfggaaDoor.E
