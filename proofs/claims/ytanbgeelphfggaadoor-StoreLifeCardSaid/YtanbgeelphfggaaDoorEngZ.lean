/- The abstract machine of this claim, part Z: states that tell no more than other ones; versions counted anew; nil told as an empty row. No conditions. -/
import Derived.Test.YtanbgeelphfggaaDoorEngW
namespace Go.Proofs.YtanbgeelphfggaaDoor.E
open Go
set_option linter.unusedSimpArgs false
set_option linter.unusedVariables false
set_option linter.unusedSectionVars false
set_option maxRecDepth 20000
/-- What becomes of the world, seen from outside: of the inner places' versions nothing is told. -/
structure ExtW (w : World) (c : Cx) (w' : World) (c' : Cx) : Prop where
  os : w'.os = w.os
  tape : w'.tape = w.tape
  output : w'.output = w.output
  size : w.heap.size ≤ w'.heap.size
  block : ∀ b, b < w.heap.size → ¬ c.live b → w'.heap[b]? = w.heap[b]? ∧ ¬ c'.live b
  far : c'.far = c.far
  cur : ∀ i, c.cur (.e i) < c'.cur (.e i) ∨ (c'.cur (.e i) = c.cur (.e i) ∧ c'.loc (.e i) = c.loc (.e i) ∧ (c'.lv (.e i) = true → c.lv (.e i) = true))
theorem Ext.toW {w w' : World} {c c' : Cx} (h : Ext w c w' c') : ExtW w c w' c' := ⟨h.os, h.tape, h.output, h.size, h.block, h.far, fun i => h.cur (.e i)⟩
theorem ExtW.refl (w : World) (c : Cx) : ExtW w c w c := (Ext.refl w c).toW
theorem ExtW.trans {w w1 w2 : World} {c c1 c2 : Cx} (h : ExtW w c w1 c1) (k : ExtW w1 c1 w2 c2) : ExtW w c w2 c2 where
  os := k.os.trans h.os
  tape := k.tape.trans h.tape
  output := k.output.trans h.output
  size := Nat.le_trans h.size k.size
  block b hb hn := by
    obtain ⟨e1, n1⟩ := h.block b hb hn
    obtain ⟨e2, n2⟩ := k.block b (Nat.lt_of_lt_of_le hb h.size) n1
    exact ⟨e2.trans e1, n2⟩
  far := k.far.trans h.far
  cur s := by
    rcases h.cur s with h1 | ⟨h1, h2, h3⟩ <;> rcases k.cur s with k1 | ⟨k1, k2, k3⟩
    · exact .inl (Nat.lt_trans h1 k1)
    · exact .inl (by omega)
    · exact .inl (by omega)
    · exact .inr ⟨k1.trans h1, k2.trans h2, fun x => h3 (k3 x)⟩
/-- A state that tells no more than another one. -/
def Less (st s : ASt) : Prop := ∀ {w : World} {c : Cx} {a : Act}, Sim w c st a → ∃ c', ExtW w c w c' ∧ Sim w c' s a
theorem Less.refl (st : ASt) : Less st st := fun hs => ⟨_, ExtW.refl _ _, hs⟩
theorem Less.trans {s1 s2 s3 : ASt} (h : Less s1 s2) (k : Less s2 s3) : Less s1 s3 := fun hs => by
  obtain ⟨c1, e1, h1⟩ := h hs
  obtain ⟨c2, e2, h2⟩ := k h1
  exact ⟨c2, e1.trans e2, h2⟩
theorem Less.of_tm {st s : ASt} (h1 : st.n = s.n) (h2 : st.hp = s.hp) (h3 : ∀ i, tget s.tm i = .dead ∨ tget s.tm i = tget st.tm i) : Less st s := fun {w c a} hs => by
  refine ⟨c, ExtW.refl _ _, hs.size.trans h1, fun i => ?_, h2 ▸ hs.inv, hs.df⟩
  rcases h3 i with e | e
  · rw [e]; simp only [RelV]
  · rw [e]; exact hs.tm i

section
variable (ad : List Site) (hp G : Hp)
/-- A place's number of before, and that of now. -/
def toN (s : Site) (v v' : Nat) : Prop := s ∉ ad ∧ ((v' = v ∧ (G.get s).1 = (hp.get s).1) ∨ (v = (hp.get s).1 ∧ v' = (G.get s).1))
mutual
def toV : AV → AV → Prop
  | .val u, y => match y with
    | .dead => True
    | .val v => u = v
    | .own s v _ o l => o = 0 ∧ l = 0 ∧ u = .slice none 0 0 ∧ s ∈ ad ∧ v = (G.get s).1
    | .list _ r => r = [] ∧ u = .slice none 0 0
    | _ => False
  | .list k r, y => match y with
    | .dead => True
    | .list k' r' => k = k' ∧ r = r'
    | _ => False
  | .rop cs, y => match y with
    | .dead => True
    | .rop ds => cs = ds
    | _ => False
  | .agg cs, y => match y with
    | .dead => True
    | .agg ds => toL cs ds
    | _ => False
  | .tup cs, y => match y with
    | .dead => True
    | .tup ds => toL cs ds
    | _ => False
  | .func f cs, y => match y with
    | .dead => True
    | .func g ds => f = g ∧ toL cs ds
    | _ => False
  | .iface t x, y => match y with
    | .dead => True
    | .iface u z => t = u ∧ toV x z
    | _ => False
  | .ptr s v o, y => match y with
    | .dead => True
    | .ptr s' v' o' => s = s' ∧ toN ad hp G s v v' ∧ o = o'
    | _ => False
  | .ept s v k i o, y => match y with
    | .dead => True
    | .ept s' v' k' i' o' => s = s' ∧ toN ad hp G s v v' ∧ k = k' ∧ i = i' ∧ o = o'
    | _ => False
  | .own s v k o l, y => match y with
    | .dead => True
    | .own s' v' k' o' l' => s = s' ∧ toN ad hp G s v v' ∧ k = k' ∧ o = o' ∧ l = l'
    | _ => False
  | .map s v, y => match y with
    | .dead => True
    | .map s' v' => s = s' ∧ toN ad hp G s v v'
    | _ => False
  | .junk, y => match y with
    | .dead => True
    | .junk => True
    | _ => False
  | .dead, y => match y with
    | .dead => True
    | _ => False
def toL : List AV → List AV → Prop
  | [], ys => match ys with
    | [] => True
    | _ => False
  | x :: xs, ys => match ys with
    | y :: ys => toV x y ∧ toL xs ys
    | _ => False
end
/-- A block of before, and that of now. -/
def toB : Blk → Blk → Prop
  | _, .gone => True
  | .cells t cs, .cells u ds => t = u ∧ toL ad hp G cs ds
  | .cells _ _, _ => False
  | x, y => x = y
def toS (s : Site) : Prop :=
  match s with
  | .e i => (G.get (.e i)).1 = (hp.get (.e i)).1 ∧ (.e i) ∉ ad ∧ toB ad hp G (hp.get (.e i)).2 (G.get (.e i)).2
  | s => if s ∈ ad then (match (G.get s).2 with
      | .row _ k q rows => rows = [] ∧ 0 < k ∧ (q = none ∨ q = some 0)
      | _ => False) else toB ad hp G (hp.get s).2 (G.get s).2
def allS (P : Site → Prop) : List Site → Prop
  | [] => True
  | s :: l => P s ∧ allS P l
/-- One heap told as another one. -/
def toH : Prop := allS (toS ad hp G) (hp.map (·.1) ++ (G.map (·.1) ++ ad))
def toK (tm : List (Nat × AV)) : List Nat → List AV → Prop
  | i :: ids, x :: xs => toV ad hp G (tget tm i) x ∧ toK tm ids xs
  | [], [] => True
  | _, _ => False
end
theorem allS_iff {P : Site → Prop} {l : List Site} : allS P l ↔ ∀ s ∈ l, P s := by
  induction l with
  | nil => simp [allS]
  | cons x l ih => simp [allS, ih]
theorem get_none {hp : Hp} {s : Site} (h : s ∉ hp.map (·.1)) : hp.get s = (0, .gone) := by
  induction hp with
  | nil => rfl
  | cons x hp ih =>
    obtain ⟨s', n, b⟩ := x
    simp only [List.map_cons, List.mem_cons, not_or] at h
    simp only [Hp.get]
    rw [if_neg (fun e => h.1 e.symm)]
    exact ih h.2
theorem toH_all {ad : List Site} {hp G : Hp} (h : toH ad hp G) (s : Site) : toS ad hp G s := by
  by_cases hm : s ∈ hp.map (·.1) ++ (G.map (·.1) ++ ad)
  · exact allS_iff.1 h s hm
  · simp only [List.mem_append, not_or] at hm
    have g1 := get_none hm.1
    have g2 := get_none hm.2.1
    cases s with
    | e i => simp only [toS, g1, g2]; exact ⟨trivial, hm.2.2, by simp [toB]⟩
    | l i => simp only [toS, g1, g2]; rw [if_neg hm.2.2]; simp [toB]
    | m i j => simp only [toS, g1, g2]; rw [if_neg hm.2.2]; simp [toB]
/-- The context after it. -/
def Cx.to (c : Cx) (ad : List Site) (G : Hp) : Cx where
  cur s := (G.get s).1
  loc s := if s ∈ ad then none else c.loc s
  lv s := if s ∈ ad then true else c.lv s && (match (G.get s).2 with | .gone => false | _ => true)
  far := c.far
theorem to_live {c : Cx} {ad : List Site} {G : Hp} {b : Nat} (h : (c.to ad G).live b) : c.live b := by
  obtain ⟨s, cp, h1, h2⟩ := h
  simp only [Cx.to] at h1 h2
  by_cases e : s ∈ ad
  · rw [if_pos e] at h2; cases h2
  · rw [if_neg e] at h1 h2
    simp only [Bool.and_eq_true] at h1
    exact ⟨s, cp, h1.1, h2⟩
theorem to_still {w : World} {c : Cx} {ad : List Site} {G : Hp} (b : Nat) (h : still w c b) : still w (c.to ad G) b ∧ w.heap[b]? = w.heap[b]? := ⟨⟨h.1, fun hl => h.2.1 (to_live hl), h.2.2⟩, rfl⟩
section
variable {w : World} {c : Cx} {ad : List Site} {hp G : Hp} (hi : Inv w c hp)
include hi
theorem toN_sound {s : Site} {v v' : Nat} {X : Prop} {Y : Option (Nat × Nat) → Prop} (h : toN ad hp G s v v') (hx : v ≤ c.cur s ∧ (v = c.cur s → Y (c.loc s))) : v' ≤ (c.to ad G).cur s ∧ (v' = (c.to ad G).cur s → Y ((c.to ad G).loc s)) := by
  obtain ⟨h1, h2⟩ := h
  have hc := hi.cur s
  simp only [Cx.to, if_neg h1]
  rcases h2 with ⟨rfl, e⟩ | ⟨e1, rfl⟩
  · rw [e, ← hc]; exact hx
  · exact ⟨Nat.le_refl _, fun _ => hx.2 (by rw [hc]; exact e1)⟩
mutual
theorem toV_sound : ∀ (x y : AV) (v : Value), toV ad hp G x y → RelV w c x v → RelV w (c.to ad G) y v
  | .val u, y, v, h, hx => by
    cases y with
    | dead => simp only [RelV]
    | val u' => simp only [toV] at h; subst h; simpa only [RelV] using hx
    | own s n k o l =>
      simp only [toV] at h
      obtain ⟨rfl, rfl, rfl, h1, rfl⟩ := h
      simp only [RelV] at hx ⊢
      refine ⟨Nat.le_refl _, fun _ => ?_⟩
      simp only [Cx.to, if_pos h1]
      exact ⟨trivial, trivial, hx.1⟩
    | list k r =>
      simp only [toV] at h
      obtain ⟨rfl, rfl⟩ := h
      simp only [RelV, RV] at hx ⊢
      exact ⟨none, 0, hx.1, Nat.le_refl _, fun _ => rfl, .inl trivial⟩
    | _ => simp only [toV] at h
  | .list k r, y, v, h, hx => by
    cases y with
    | dead => simp only [RelV]
    | list k' r' =>
      simp only [toV] at h
      obtain ⟨rfl, rfl⟩ := h
      simp only [RelV] at hx ⊢
      exact RV.mono to_still _ _ hx
    | _ => simp only [toV] at h
  | .rop cs, y, v, h, hx => by
    cases y with
    | dead => simp only [RelV]
    | rop ds =>
      simp only [toV] at h
      subst h
      simp only [RelV] at hx ⊢
      exact RV.mono to_still _ _ hx
    | _ => simp only [toV] at h
  | .agg cs, y, v, h, hx => by
    cases y with
    | dead => simp only [RelV]
    | agg ds =>
      simp only [toV] at h
      simp only [RelV] at hx ⊢
      obtain ⟨vs, e, ho, hr⟩ := hx
      exact ⟨vs, e, ho, toL_sound cs ds vs h hr⟩
    | _ => simp only [toV] at h
  | .tup cs, y, v, h, hx => by
    cases y with
    | dead => simp only [RelV]
    | tup ds =>
      simp only [toV] at h
      simp only [RelV] at hx ⊢
      obtain ⟨vs, e, hr⟩ := hx
      exact ⟨vs, e, toL_sound cs ds vs h hr⟩
    | _ => simp only [toV] at h
  | .func f cs, y, v, h, hx => by
    cases y with
    | dead => simp only [RelV]
    | func g ds =>
      simp only [toV] at h
      simp only [RelV] at hx ⊢
      obtain ⟨vs, e, hr⟩ := hx
      obtain ⟨rfl, h⟩ := h
      exact ⟨vs, e, toL_sound cs ds vs h hr⟩
    | _ => simp only [toV] at h
  | .iface t x, y, v, h, hx => by
    cases y with
    | dead => simp only [RelV]
    | iface u z =>
      simp only [toV] at h
      simp only [RelV] at hx ⊢
      obtain ⟨u, e, hr⟩ := hx
      obtain ⟨rfl, h⟩ := h
      exact ⟨u, e, toV_sound x z u h hr⟩
    | _ => simp only [toV] at h
  | .ptr s n o, y, v, h, hx => by
    cases y with
    | dead => simp only [RelV]
    | ptr s' n' o' =>
      simp only [toV] at h
      obtain ⟨rfl, h, rfl⟩ := h
      simp only [RelV] at hx ⊢
      exact toN_sound hi (X := True) (Y := fun q => ∃ b cp, q = some (b, cp) ∧ v = .pointer (some ⟨b, o, none⟩)) h hx
    | _ => simp only [toV] at h
  | .ept s n k i o, y, v, h, hx => by
    cases y with
    | dead => simp only [RelV]
    | ept s' n' k' i' o' =>
      simp only [toV] at h
      obtain ⟨rfl, h, rfl, rfl, rfl⟩ := h
      simp only [RelV] at hx ⊢
      exact toN_sound hi (X := True) (Y := fun q => ∃ b cp, q = some (b, cp) ∧ v = .pointer (some ⟨b, i * k + o, none⟩)) h hx
    | _ => simp only [toV] at h
  | .own s n k o l, y, v, h, hx => by
    cases y with
    | dead => simp only [RelV]
    | own s' n' k' o' l' =>
      simp only [toV] at h
      obtain ⟨rfl, h, rfl, rfl, rfl⟩ := h
      simp only [RelV] at hx ⊢
      exact toN_sound hi (X := True) (Y := fun q => match q with
        | none => o = 0 ∧ l = 0 ∧ v = .slice none 0 0
        | some (b, cp) => o + l ≤ cp ∧ ∃ a, v = .slice (some a) l (cp - o) ∧ (o < cp ∨ o = 0 → a = ⟨b, o * k, none⟩)) h hx
    | _ => simp only [toV] at h
  | .map s n, y, v, h, hx => by
    cases y with
    | dead => simp only [RelV]
    | map s' n' =>
      simp only [toV] at h
      obtain ⟨rfl, h⟩ := h
      simp only [RelV] at hx ⊢
      exact toN_sound hi (X := True) (Y := fun q => ∃ b cp, q = some (b, cp) ∧ v = .map (some b)) h hx
    | _ => simp only [toV] at h
  | .junk, y, v, h, hx => by
    cases y with
    | dead => simp only [RelV]
    | junk => simpa only [RelV] using hx
    | _ => simp only [toV] at h
  | .dead, y, v, h, hx => by
    cases y with
    | dead => simp only [RelV]
    | _ => simp only [toV] at h
theorem toL_sound : ∀ (xs ys : List AV) (vs : List Value), toL ad hp G xs ys → RelL w c xs vs → RelL w (c.to ad G) ys vs
  | [], ys, vs, h, hx => by
    cases ys with
    | nil => simpa only [RelL] using hx
    | cons _ _ => simp only [toL] at h
  | x :: xs, ys, vs, h, hx => by
    cases ys with
    | nil => simp only [toL] at h
    | cons y ys =>
      simp only [toL] at h
      simp only [RelL] at hx ⊢
      obtain ⟨u, us, e, h1, h2⟩ := hx
      exact ⟨u, us, e, toV_sound x y u h.1 h1, toL_sound xs ys us h.2 h2⟩
end
end
theorem toB_sound {w : World} {c : Cx} {ad : List Site} {hp G : Hp} (hi : Inv w c hp) {s : Site} (hs : s ∉ ad) (h : toB ad hp G (hp.get s).2 (G.get s).2) : BlkOk w (c.to ad G) s (G.get s).2 := by
  have hl : (c.to ad G).loc s = c.loc s := by simp only [Cx.to, if_neg hs]
  have hv : (c.to ad G).lv s = (c.lv s && (match (G.get s).2 with | .gone => false | _ => true)) := by simp only [Cx.to, if_neg hs]
  have ho := hi.ok s
  generalize e1 : (hp.get s).2 = x at h ho
  generalize e2 : (G.get s).2 = y at h hv ⊢
  cases y with
  | gone => simp only [BlkOk]; rw [hv]; simp
  | cells u ds =>
    cases x with
    | cells t cs =>
      simp only [toB] at h
      obtain ⟨rfl, h⟩ := h
      simp only [BlkOk] at ho ⊢
      obtain ⟨h1, b, cp, vs, h2, h3, h4, h5⟩ := ho
      exact ⟨by rw [hv, h1]; rfl, b, cp, vs, by rw [hl]; exact h2, h3, h4, toL_sound hi cs ds vs h h5⟩
    | _ => simp [toB] at h
  | icc t cs =>
    cases x <;> simp only [toB, Blk.icc.injEq, reduceCtorEq] at h
    obtain ⟨rfl, rfl⟩ := h
    simp only [BlkOk] at ho ⊢
    obtain ⟨h1, b, cp, h2, h3, h4⟩ := ho
    exact ⟨by rw [hv, h1]; rfl, b, cp, by rw [hl]; exact h2, (to_still b h3).1, RVAt.mono to_still _ _ _ h3 h4⟩
  | row t k q rows =>
    cases x <;> simp only [toB, Blk.row.injEq, reduceCtorEq] at h
    obtain ⟨rfl, rfl, rfl, rfl⟩ := h
    simp only [BlkOk] at ho ⊢
    obtain ⟨h1, h2, h3, h4⟩ := ho
    refine ⟨by rw [hv, h1]; rfl, h2, h3, ?_⟩
    rw [hl]
    generalize c.loc s = L at h4 ⊢
    cases L with
    | none => exact h4
    | some e =>
      obtain ⟨q1, q2, vs, rest, q3, q4, q5, q6⟩ := h4
      exact ⟨q1, q2, vs, rest, q3, q4, q5, RVL.mono to_still _ _ q6⟩
  | ice k rows =>
    cases x <;> simp only [toB, Blk.ice.injEq, reduceCtorEq] at h
    obtain ⟨rfl, rfl⟩ := h
    simp only [BlkOk] at ho ⊢
    obtain ⟨h1, h4⟩ := ho
    refine ⟨by rw [hv, h1]; rfl, ?_⟩
    rw [hl]
    generalize c.loc s = L at h4 ⊢
    cases L with
    | none => exact h4
    | some e =>
      refine ⟨h4.1, ?_⟩
      rcases h4.2 with q | ⟨q1, q2⟩
      · exact .inl q
      · exact .inr ⟨(to_still _ q1).1, RVRows.mono _ to_still _ _ _ q1 q2⟩
  | map t es =>
    cases x <;> simp only [toB, Blk.map.injEq, reduceCtorEq] at h
    obtain ⟨rfl, rfl⟩ := h
    simp only [BlkOk] at ho ⊢
    obtain ⟨h1, h2, b, cp, ents, clock, h3, h4⟩ := ho
    exact ⟨by rw [hv, h1]; rfl, h2, b, cp, ents, clock, by rw [hl]; exact h3, h4⟩
theorem Inv.to {w : World} {c : Cx} {ad : List Site} {hp G : Hp} (hi : Inv w c hp) (h : toH ad hp G) : Inv w (c.to ad G) G := by
  refine ⟨fun s => rfl, fun s => ?_, fun s s' b cp cp' l1 l2 o1 o2 => ?_, fun b hl => hi.far b (to_live hl), fun b hl => hi.lt b (to_live hl), hi.farlt⟩
  · have h1 := toH_all h s
    unfold toS at h1
    split at h1
    · exact toB_sound hi h1.2.1 h1.2.2
    · split at h1
      · rename_i hs
        split at h1
        · rename_i t k q rows e
          obtain ⟨rfl, h2, h3⟩ := h1
          rw [e]
          simp only [BlkOk, Cx.to, if_pos hs]
          exact ⟨trivial, h2, fun r hr => absurd hr (by simp), trivial, h3⟩
        · exact h1.elim
      · rename_i hs
        exact toB_sound hi hs h1
  · simp only [Cx.to] at l1 l2 o1 o2
    by_cases a1 : s ∈ ad
    · rw [if_pos a1] at o1; cases o1
    · by_cases a2 : s' ∈ ad
      · rw [if_pos a2] at o2; cases o2
      · rw [if_neg a1] at l1 o1
        rw [if_neg a2] at l2 o2
        simp only [Bool.and_eq_true] at l1 l2
        exact hi.inj s s' b cp cp' l1.1 l2.1 o1 o2
theorem toW {w : World} {c : Cx} {ad : List Site} {hp G : Hp} (hi : Inv w c hp) (h : toH ad hp G) : ExtW w c w (c.to ad G) := by
  refine ⟨rfl, rfl, rfl, Nat.le_refl _, fun b _ hn => ⟨rfl, fun hl => hn (to_live hl)⟩, rfl, fun i => .inr ?_⟩
  have h1 := toH_all h (.e i)
  simp only [toS] at h1
  refine ⟨by simp only [Cx.to]; rw [h1.1, hi.cur], by simp only [Cx.to, if_neg h1.2.1], fun e => ?_⟩
  simp only [Cx.to, if_neg h1.2.1, Bool.and_eq_true] at e
  exact e.1
def zipT : List Nat → List AV → List (Nat × AV)
  | i :: l, x :: xs => (i, x) :: zipT l xs
  | _, _ => []
theorem tget_zipT {w : World} {c : Cx} {ad : List Site} {hp G : Hp} (hi : Inv w c hp) {tm : List (Nat × AV)} {vs : Nat → Value} (hr : ∀ i, RelV w c (tget tm i) (vs i)) : ∀ (ids : List Nat) (xs : List AV), toK ad hp G tm ids xs → ∀ i, RelV w (c.to ad G) (tget (zipT ids xs) i) (vs i)
  | [], xs, _, i => by simp only [zipT, tget, RelV]
  | j :: ids, [], _, i => by simp only [zipT, tget, RelV]
  | j :: ids, x :: xs, h, i => by
    simp only [toK] at h
    simp only [zipT, tget]
    by_cases e : j = i
    · subst e; rw [if_pos rfl]; exact toV_sound hi _ _ _ h.1 (hr _)
    · rw [if_neg e]; exact tget_zipT hi hr ids xs h.2 i
theorem Less.to {ad : List Site} {tm : List (Nat × AV)} {hp G : Hp} {n : Nat} {ids : List Nat} {xs : List AV} (h : toK ad hp G tm ids xs) (hh : toH ad hp G) : Less ⟨tm, hp, n⟩ ⟨zipT ids xs, G, n⟩ := fun {w c a} hs =>
  ⟨c.to ad G, toW hs.inv hh, hs.size, tget_zipT hs.inv hs.tm ids xs h, hs.inv.to hh, hs.df⟩
end Go.Proofs.YtanbgeelphfggaaDoor.E
