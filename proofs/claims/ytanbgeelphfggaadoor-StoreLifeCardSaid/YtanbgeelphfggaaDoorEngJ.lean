/- The abstract machine of this claim, part J: what is handed to a function; contracts. No conditions. -/
import Derived.Test.YtanbgeelphfggaaDoorEngI
namespace Go.Proofs.YtanbgeelphfggaaDoor.E
open Go
set_option linter.unusedSimpArgs false
set_option linter.unusedVariables false
set_option linter.unusedSectionVars false
set_option maxRecDepth 20000

/-! ### A row that is written no more -/
def Cx.freeze (c : Cx) (s : Site) : Cx := { c with lv := fun s' => if s' = s then false else c.lv s' }
theorem freeze_sound {w : World} {c : Cx} {hp : Hp} (hi : Inv w c hp) {s : Site} {n k : Nat} {t : TypeId} {rows : List (List AV)} {q : Option Nat} (e : hp.get s = (n, .row t k q rows)) :
    Ext w c w (c.freeze s) ∧ Inv w (c.freeze s) (hp.set s n (.ice k rows)) := by
  obtain ⟨h1, hlv, h0, hk, h2⟩ := hi.row e
  have hll : ∀ b, (c.freeze s).live b → c.live b := by
    rintro b ⟨s', cp, l, o⟩
    simp only [Cx.freeze] at l o
    split at l
    · cases l
    · exact ⟨s', cp, l, o⟩
  have he : Ext w c w (c.freeze s) := ⟨rfl, rfl, rfl, Nat.le_refl _, fun b _ hn => ⟨rfl, fun h => hn (hll b h)⟩, rfl, fun s' => .inr ⟨rfl, rfl, fun h => by
    simp only [Cx.freeze] at h
    split at h
    · cases h
    · exact h⟩⟩
  refine ⟨he, hi.upd he s n _ (fun s' hs => by simp [Cx.freeze, hs]) (fun _ _ _ _ _ _ => rfl) h1 ?_ (fun b cp l _ => by simp [Cx.freeze] at l)⟩
  simp only [BlkOk]
  refine ⟨by simp [Cx.freeze], ?_⟩
  show match c.loc s with | none => rows = [] | some (b, cp) => _
  rcases h2 with ⟨h3, h4, _⟩ | ⟨b, cp, vs, rest, h3, _, hcp, h4, h5, ho, h6⟩
  · rw [h3]; exact h4
  · rw [h3]
    have hlen := h6.length
    rw [flatten_length hk] at hlen
    have hle : rows.length * k ≤ cp * k := by
      rw [← h5, List.length_append]; omega
    refine ⟨Nat.le_of_mul_le_mul_right hle h0, .inr ⟨⟨hi.lt b ⟨s, cp, hlv, h3⟩, ?_, hi.far b ⟨s, cp, hlv, h3⟩⟩, ?_⟩⟩
    · rintro ⟨s', cp', l, o⟩
      simp only [Cx.freeze] at l o
      split at l
      · cases l
      · rename_i hs
        exact hs (hi.inj s' s b cp' cp l hlv o h3)
    · refine RVRows.of_flat hk (RVAt.of_vals (RVL.mono he.still _ _ h6) (fun u hu => ho u (List.mem_append_left _ hu)) fun i v hv => ?_)
      rw [Nat.zero_add, cell_block h4, List.getElem?_append_left (lt_of_get hv)]
      exact hv

theorem freezeC_sound {w : World} {c : Cx} {hp : Hp} (hi : Inv w c hp) {s : Site} {n : Nat} {t : TypeId} {cs : List AV} (e : hp.get s = (n, .cells t cs)) (hf : cs.all AV.free = true) :
    Ext w c w (c.freeze s) ∧ Inv w (c.freeze s) (hp.set s n (.icc t cs)) := by
  obtain ⟨h1, hlv, b, cp, vs, h3, h4, ho, h5⟩ := hi.cells e
  have hll : ∀ b, (c.freeze s).live b → c.live b := by
    rintro b ⟨s', cp, l, o⟩
    simp only [Cx.freeze] at l o
    split at l
    · cases l
    · exact ⟨s', cp, l, o⟩
  have he : Ext w c w (c.freeze s) := ⟨rfl, rfl, rfl, Nat.le_refl _, fun b _ hn => ⟨rfl, fun h => hn (hll b h)⟩, rfl, fun s' => .inr ⟨rfl, rfl, fun h => by
    simp only [Cx.freeze] at h
    split at h
    · cases h
    · exact h⟩⟩
  refine ⟨he, hi.upd he s n _ (fun s' hs => by simp [Cx.freeze, hs]) (fun _ _ _ _ _ _ => rfl) h1 ?_ (fun b cp l _ => by simp [Cx.freeze] at l)⟩
  simp only [BlkOk]
  refine ⟨by simp [Cx.freeze], b, cp, h3, ⟨hi.lt b ⟨s, cp, hlv, h3⟩, ?_, hi.far b ⟨s, cp, hlv, h3⟩⟩, RVAt.of_vals (RVL.mono he.still _ _ (h5.rvl hf)) ho fun i v hv => ?_⟩
  · rintro ⟨s', cp', l, o⟩
    simp only [Cx.freeze] at l o
    split at l
    · cases l
    · rename_i hs
      exact hs (hi.inj s' s b cp' cp l hlv o h3)
  · rw [Nat.zero_add, cell_block h4]
    exact hv

/-! ### What is handed to a function -/
def pass1 (hp : Hp) : AV → Option (AV × Hp)
  | .own s ver k off len => match hp.get s with
    | (n, .row _ k2 _ rows) => if n = ver ∧ k2 = k ∧ off + len ≤ rows.length then some (.list k ((rows.drop off).take len), hp.set s n (.ice k rows)) else none
    | (n, .ice k2 rows) => if n = ver ∧ k2 = k ∧ off + len ≤ rows.length then some (.list k ((rows.drop off).take len), hp) else none
    | _ => none
  | .ptr s ver off => match hp.get s with
    | (n, .cells t cs) => if n = ver ∧ cs.all AV.free = true then some (.rop (cs.drop off), hp.set s n (.icc t cs)) else none
    | (n, .icc _ cs) => if n = ver then some (.rop (cs.drop off), hp) else none
    | _ => none
  | .junk => some (.junk, hp)
  | .val u => some (.val u, hp)
  | .list k rows => some (.list k rows, hp)
  | .rop cs => some (.rop cs, hp)
  | _ => none
def passC (hp : Hp) : List AV → Option (List AV × Hp)
  | [] => some ([], hp)
  | x :: xs => match pass1 hp x with
    | some (y, hp1) => match passC hp1 xs with
      | some (ys, hp2) => some (y :: ys, hp2)
      | none => none
    | none => none
def passA (hp : Hp) : AV → Option (AV × Hp)
  | .agg cs => match passC hp cs with
    | some (l, h) => some (.agg l, h)
    | none => none
  | .func f cap => match passC hp cap with
    | some (l, h) => some (.func f l, h)
    | none => none
  | x => pass1 hp x
def passL (hp : Hp) : List AV → Option (List AV × Hp)
  | [] => some ([], hp)
  | x :: xs => match passA hp x with
    | some (y, hp1) => match passL hp1 xs with
      | some (ys, hp2) => some (y :: ys, hp2)
      | none => none
    | none => none

/-- Which cells of a type are slices, and of what size their elements. -/
def tyKs (P : Program) : Nat → TypeId → List (Option Nat)
  | 0, _ => []
  | d + 1, t => match P.underlying t with
    | some (.slice e) => [tySz P e]
    | some (.struct fs) => fs.toList.flatMap fun f => tyKs P d f.type
    | _ => List.replicate ((tySz P t).getD 0) none
def tyKsT (P : Program) (t : TypeId) : List (Option Nat) := tyKs P 5 t
def tyKsE (P : Program) (t : TypeId) : List (Option Nat) := match tyEl P t with
  | some e => tyKs P 5 e
  | none => []
/-- A nil slice, told as an empty list. -/
def nrm1 : Option Nat → AV → AV
  | some k, .val (.slice none 0 0) => .list k []
  | _, x => x
def nrmC : List (Option Nat) → List AV → List AV
  | k :: ks, x :: xs => nrm1 k x :: nrmC ks xs
  | _, xs => xs
def nrmV (ks : List (Option Nat)) : AV → AV
  | .agg cs => .agg (nrmC ks cs)
  | x => match ks with
    | [k] => nrm1 k x
    | _ => x
theorem nrm1_sound {w : World} {S : Nat → Prop} {k : Option Nat} {x : AV} {v : Value} (h : RV w S x v) : RV w S (nrm1 k x) v := by
  unfold nrm1
  split
  · simp only [RV] at h ⊢
    obtain ⟨rfl, _⟩ := h
    exact ⟨none, 0, rfl, Nat.le_refl _, fun _ => rfl, .inl trivial⟩
  · exact h
theorem nrmC_sound {w : World} {S : Nat → Prop} : ∀ {ks : List (Option Nat)} {xs : List AV} {vs : List Value}, RVL w S xs vs → RVL w S (nrmC ks xs) vs
  | [], xs, vs, h => by simpa only [nrmC] using h
  | k :: ks, [], vs, h => by simpa only [nrmC] using h
  | k :: ks, x :: xs, vs, h => by
    simp only [nrmC, RVL] at h ⊢
    obtain ⟨u, us, rfl, h1, h2⟩ := h
    exact ⟨u, us, rfl, nrm1_sound h1, nrmC_sound h2⟩
theorem nrmV_sound {w : World} {S : Nat → Prop} {ks : List (Option Nat)} {x : AV} {v : Value} (h : RV w S x v) : RV w S (nrmV ks x) v := by
  unfold nrmV
  split
  · simp only [RV] at h ⊢
    obtain ⟨vs, e, ho, h⟩ := h
    exact ⟨vs, e, ho, nrmC_sound h⟩
  · split
    · exact nrm1_sound h
    · exact h
theorem nrmL_sound {w : World} {S : Nat → Prop} {ks : List (Option Nat)} : ∀ {xs : List AV} {vs : List Value}, RVL w S xs vs → RVL w S (xs.map (nrmV ks)) vs
  | [], vs, h => h
  | x :: xs, vs, h => by
    simp only [List.map_cons, RVL] at h ⊢
    obtain ⟨u, us, rfl, h1, h2⟩ := h
    exact ⟨u, us, rfl, nrmV_sound h1, nrmL_sound h2⟩
/-- A row is built of what is written no more from now on. -/
def ABuildF (P : Program) (t : TypeId) (n : Nat) (idx : List Nat) (s : Site) (K : AV → Hp → Prop) : Option (List AV × Hp) → Prop
  | some (l, hp1) => ABuildSlice P t n (idx.zip (l.map (nrmV (tyKsE P t)))) s hp1 K
  | none => False
def AStoreE (P : Program) (t : TypeId) (x : AV) (K : Hp → Prop) : Option (AV × Hp) → Prop
  | some (v, hp1) => AStore P t x (nrmV (tyKsT P t) v) hp1 K
  | none => False
/-- What is stored into a row is written no more from now on. -/
def AStoreF (P : Program) (t : TypeId) (x v : AV) (hp : Hp) (K : Hp → Prop) : Prop :=
  match x with
  | .ept s ver k i off => AStoreE P t (.ept s ver k i off) K (passA hp v)
  | x => AStore P t x v hp K
theorem rows_rv {w : World} {c : Cx} {hp : Hp} (hi : Inv w c hp) {s : Site} {ver n k off len : Nat} {rows : List (List AV)} {v : Value} (h : RelV w c (.own s ver k off len) v) (e : hp.get s = (n, .ice k rows)) (hn : n = ver) (hlen : off + len ≤ rows.length) :
    RV w (still w c) (.list k ((rows.drop off).take len)) v := by
  subst hn
  obtain ⟨h1, _, h2⟩ := hi.ice e
  simp only [RelV] at h
  have h3 := h.2 h1.symm
  have hl : ((rows.drop off).take len).length = len := by simp; omega
  simp only [RV]
  rcases h2 with ⟨h4, rfl⟩ | ⟨b, cp, h4, h5, h6⟩
  · rw [h4] at h3
    obtain ⟨rfl, rfl, rfl⟩ := h3
    exact ⟨none, 0, rfl, Nat.le_refl _, fun _ => rfl, .inl rfl⟩
  · rw [h4] at h3
    obtain ⟨h8, a, rfl, h9⟩ := h3
    refine ⟨some a, cp - off, by rw [hl], by rw [hl]; omega, (fun e => by cases e), ?_⟩
    by_cases hz : len = 0
    · subst hz
      exact .inl (by simp)
    · have h10 := h9 (.inl (by omega))
      subst h10
      rcases h6 with rfl | ⟨h6, h7⟩
      · simp at hlen; omega
      · refine .inr ⟨b, off * k, rfl, h6, ?_⟩
        have h11 := (h7.drop off).take len
        rwa [Nat.zero_add] at h11
theorem rop_rv {w : World} {c : Cx} {hp : Hp} (hi : Inv w c hp) {s : Site} {ver n off : Nat} {t : TypeId} {cs : List AV} {v : Value} (h : RelV w c (.ptr s ver off) v) (e : hp.get s = (n, .icc t cs)) (hn : n = ver) :
    RV w (still w c) (.rop (cs.drop off)) v := by
  subst hn
  obtain ⟨h1, _, b, cp, h2, h3, h4⟩ := hi.icc e
  simp only [RelV] at h
  obtain ⟨b', cp', e1, rfl⟩ := h.2 h1.symm
  rw [h2] at e1
  cases e1
  simp only [RV]
  have := h4.drop off
  rw [Nat.zero_add] at this
  exact ⟨b, off, rfl, .inr h3, this⟩
theorem pass1_sound {w : World} {c : Cx} {hp hp' : Hp} (hi : Inv w c hp) {x y : AV} {v : Value} (hx : RelV w c x v) (h : pass1 hp x = some (y, hp')) : ∃ c', Ext w c w c' ∧ Inv w c' hp' ∧ RV w (still w c') y v := by
  unfold pass1 at h
  split at h
  · rename_i s ver k off len
    split at h
    · rename_i n t k2 q rows e
      split at h
      · rename_i hc
        obtain ⟨rfl, rfl, hlen⟩ := hc
        cases h
        obtain ⟨h1, h2⟩ := freeze_sound hi e
        refine ⟨_, h1, h2, ?_⟩
        exact rows_rv h2 (RelV.ext h1 _ _ hx) (by rw [Hp.get_set, if_pos rfl]) rfl hlen
      · cases h
    · rename_i n k2 rows e
      split at h
      · rename_i hc
        obtain ⟨rfl, rfl, hlen⟩ := hc
        cases h
        exact ⟨c, Ext.refl _ _, hi, rows_rv hi hx e rfl hlen⟩
      · cases h
    · cases h
  · rename_i s ver off
    split at h
    · rename_i n t cs e
      split at h
      · rename_i hc
        obtain ⟨rfl, hf⟩ := hc
        cases h
        obtain ⟨h1, h2⟩ := freezeC_sound hi e hf
        refine ⟨_, h1, h2, ?_⟩
        exact rop_rv h2 (RelV.ext h1 _ _ hx) (t := t) (by rw [Hp.get_set, if_pos rfl]) rfl
      · cases h
    · rename_i n t cs e
      split at h
      · rename_i hc
        subst hc
        cases h
        exact ⟨c, Ext.refl _ _, hi, rop_rv hi hx e rfl⟩
      · cases h
    · cases h
  · cases h
    exact ⟨c, Ext.refl _ _, hi, by simpa only [RelV, RV] using hx⟩
  · cases h
    exact ⟨c, Ext.refl _ _, hi, by simpa only [RelV, RV] using hx⟩
  · cases h
    exact ⟨c, Ext.refl _ _, hi, by simpa only [RelV] using hx⟩
  · cases h
    exact ⟨c, Ext.refl _ _, hi, by simpa only [RelV] using hx⟩
  · cases h
theorem passC_sound {w : World} {hp' : Hp} {xs ys : List AV} : ∀ {c : Cx} {hp : Hp} {vs : List Value} (_ : Inv w c hp) (_ : RelL w c xs vs) (_ : passC hp xs = some (ys, hp')), ∃ c', Ext w c w c' ∧ Inv w c' hp' ∧ RVL w (still w c') ys vs := by
  induction xs generalizing ys with
  | nil =>
    intro c hp vs hi hx h
    simp only [passC, Option.some.injEq, Prod.mk.injEq] at h
    obtain ⟨rfl, rfl⟩ := h
    exact ⟨c, Ext.refl _ _, hi, by simpa only [RelL, RVL] using hx⟩
  | cons x xs ih =>
    intro c hp vs hi hx h
    simp only [RelL] at hx
    obtain ⟨u, us, rfl, h1, h2⟩ := hx
    simp only [passC] at h
    split at h
    · rename_i y hp1 e1
      split at h
      · rename_i ys' hp2 e2
        cases h
        obtain ⟨c1, g1, g2, g3⟩ := pass1_sound hi h1 e1
        obtain ⟨c2, g4, g5, g6⟩ := ih g2 (RelL.ext g1 _ _ h2) e2
        refine ⟨c2, g1.trans g4, g5, ?_⟩
        simp only [RVL]
        exact ⟨u, us, rfl, RV.mono g4.still _ _ g3, g6⟩
      · cases h
    · cases h
theorem passA_sound {w : World} {c : Cx} {hp hp' : Hp} (hi : Inv w c hp) {x y : AV} {v : Value} (hx : RelV w c x v) (h : passA hp x = some (y, hp')) : ∃ c', Ext w c w c' ∧ Inv w c' hp' ∧ RV w (still w c') y v := by
  unfold passA at h
  split at h
  · rename_i cs
    split at h
    · rename_i l h2 e
      cases h
      simp only [RelV] at hx
      obtain ⟨vs, rfl, ho, hx⟩ := hx
      obtain ⟨c', g1, g2, g3⟩ := passC_sound hi hx e
      exact ⟨c', g1, g2, by simp only [RV]; exact ⟨vs, rfl, ho, g3⟩⟩
    · cases h
  · rename_i f cap
    split at h
    · rename_i l h2 e
      cases h
      simp only [RelV] at hx
      obtain ⟨vs, rfl, hx⟩ := hx
      obtain ⟨c', g1, g2, g3⟩ := passC_sound hi hx e
      exact ⟨c', g1, g2, by simp only [RV]; exact ⟨vs, rfl, g3⟩⟩
    · cases h
  · exact pass1_sound hi hx h
theorem passL_sound {w : World} {hp' : Hp} {xs ys : List AV} : ∀ {c : Cx} {hp : Hp} {vs : List Value} (_ : Inv w c hp) (_ : RelL w c xs vs) (_ : passL hp xs = some (ys, hp')), ∃ c', Ext w c w c' ∧ Inv w c' hp' ∧ RVL w (still w c') ys vs := by
  induction xs generalizing ys with
  | nil =>
    intro c hp vs hi hx h
    simp only [passL, Option.some.injEq, Prod.mk.injEq] at h
    obtain ⟨rfl, rfl⟩ := h
    exact ⟨c, Ext.refl _ _, hi, by simpa only [RelL, RVL] using hx⟩
  | cons x xs ih =>
    intro c hp vs hi hx h
    simp only [RelL] at hx
    obtain ⟨u, us, rfl, h1, h2⟩ := hx
    simp only [passL] at h
    split at h
    · rename_i y hp1 e1
      split at h
      · rename_i ys' hp2 e2
        cases h
        obtain ⟨c1, g1, g2, g3⟩ := passA_sound hi h1 e1
        obtain ⟨c2, g4, g5, g6⟩ := ih g2 (RelL.ext g1 _ _ h2) e2
        refine ⟨c2, g1.trans g4, g5, ?_⟩
        simp only [RVL]
        exact ⟨u, us, rfl, RV.mono g4.still _ _ g3, g6⟩
      · cases h
    · cases h

theorem relP_zip {w : World} {c : Cx} (vs : List (Nat × Value)) : ∀ (l : List AV), RelL w c l (vs.map (·.2)) → RelP w c ((vs.map (·.1)).zip l) vs := by
  induction vs with
  | nil => intro l _; simp [RelP]
  | cons x vs ih =>
    intro l h
    cases l with
    | nil => simp only [List.map_cons, RelL] at h; cases h
    | cons y l =>
      simp only [List.map_cons, RelL] at h
      obtain ⟨u, us, e, h1, h2⟩ := h
      cases e
      simp only [List.map_cons, List.zip_cons_cons, RelP]
      exact ⟨x.2, vs, rfl, h1, ih l h2⟩
theorem relP_unzip {w : World} {c : Cx} : ∀ {parts : List (Nat × AV)} {vs : List (Nat × Value)}, RelP w c parts vs → vs.map (·.1) = parts.map (·.1) ∧ RelL w c (parts.map (·.2)) (vs.map (·.2))
  | [], vs, h => by simp only [RelP] at h; subst h; simp [RelL]
  | x :: parts, vs, h => by
    simp only [RelP] at h
    obtain ⟨v, us, rfl, h1, h2⟩ := h
    obtain ⟨e1, e2⟩ := relP_unzip h2
    simp only [List.map_cons, RelL, e1]
    exact ⟨trivial, _, _, rfl, h1, e2⟩
theorem ABuildF_sound {P : Program} {t : TypeId} {n : Nat} {parts : List (Nat × AV)} {s : Site} {hp : Hp} {K : AV → Hp → Prop} (h : ABuildF P t n (parts.map (·.1)) s K (passL hp (parts.map (·.2)))) {w : World} {c : Cx} (hi : Inv w c hp) {vs : List (Nat × Value)}
    (hp' : RelP w c parts vs) : Gives P (Instr.buildSlice t n vs.toArray) w c K := by
  cases e : passL hp (parts.map (·.2)) with
  | none => rw [e] at h; exact h.elim
  | some x =>
    obtain ⟨l, hp1⟩ := x
    rw [e] at h
    simp only [ABuildF] at h
    obtain ⟨e1, e2⟩ := relP_unzip hp'
    obtain ⟨c1, g1, g2, g3⟩ := passL_sound hi e2 e
    have := relP_zip vs _ (RelL.of_RVL _ _ (nrmL_sound (ks := tyKsE P t) g3))
    rw [e1] at this
    obtain ⟨r, a, w', c', hp2, k1, k2, k3, k4, k5⟩ := ABuildSlice_sound h g2 this
    exact ⟨r, a, w', c', hp2, k1, g1.trans k2, k3, k4, k5⟩
theorem AStoreF_sound {P : Program} {t : TypeId} {x v : AV} {hp : Hp} {K : Hp → Prop} (h : AStoreF P t x v hp K) {w : World} {c : Cx} (hi : Inv w c hp) {a u : Value} (hx : RelV w c x a) (hv : RelV w c v u) :
    ∃ w' c' hp', (Instr.storeAt t a u).run P w = .ok () w' ∧ Ext w c w' c' ∧ Inv w' c' hp' ∧ K hp' := by
  have base : AStore P t x v hp K → ∃ w' c' hp', (Instr.storeAt t a u).run P w = .ok () w' ∧ Ext w c w' c' ∧ Inv w' c' hp' ∧ K hp' := fun h => by
    obtain ⟨w', hp', e, h1, h2, h3⟩ := AStore_sound h hi hx hv
    exact ⟨w', c, hp', e, h1, h2, h3⟩
  cases x with
  | ept s ver k i off =>
    simp only [AStoreF] at h
    cases e : passA hp v with
    | none => rw [e] at h; exact h.elim
    | some y =>
      obtain ⟨v1, hp1⟩ := y
      rw [e] at h
      simp only [AStoreE] at h
      obtain ⟨c1, g1, g2, g3⟩ := passA_sound hi hv e
      obtain ⟨w', hp', k1, k2, k3, k4⟩ := AStore_sound h g2 (RelV.ext g1 _ _ hx) (RelV.of_RV _ _ (nrmV_sound g3))
      exact ⟨w', c1, hp', k1, g1.trans k2, k3, k4⟩
  | _ => exact base h

/-! ### Contracts of functions that leave what is handed in alone -/
def grownS (S : Nat → Prop) (w w' : World) (b : Nat) : Prop := S b ∨ (w.heap.size ≤ b ∧ b < w'.heap.size)
def Ok (P : Program) (f : FuncId) (args : List AV) (r : AV) : Prop :=
  ∀ (w : World) (S : Nat → Prop) (vs : List Value), (∀ b, S b → b < w.heap.size) → RVL w S args vs →
    Calls P f vs.toArray w fun e w' => ∃ v, e = .returned v ∧ Go.RowKit.Below w.heap.size w w' ∧ RV w' (grownS S w w') r v
/-- An empty list may be told as one of rows of any length. -/
def Sub : AV → AV → Prop
  | .val (.slice none 0 0), .list _ rows => rows = []
  | x, y => x = y
def SubC : List AV → List AV → Prop
  | [], [] => True
  | x :: xs, y :: ys => Sub x y ∧ SubC xs ys
  | _, _ => False
def SubA : AV → AV → Prop
  | .agg cs, .agg ds => SubC cs ds
  | .val (.slice none 0 0), .list _ rows => rows = []
  | x, y => x = y
def SubL : List AV → List AV → Prop
  | [], [] => True
  | x :: xs, y :: ys => SubA x y ∧ SubL xs ys
  | _, _ => False
theorem Sub.sound {w : World} {S : Nat → Prop} {x y : AV} (h : Sub x y) {v : Value} (hx : RV w S x v) : RV w S y v := by
  unfold Sub at h
  split at h
  · subst h
    simp only [RV] at hx ⊢
    obtain ⟨rfl, _⟩ := hx
    exact ⟨none, 0, rfl, Nat.le_refl _, fun _ => rfl, .inl trivial⟩
  · exact h ▸ hx
theorem SubC.sound {w : World} {S : Nat → Prop} {xs ys : List AV} (h : SubC xs ys) {vs : List Value} (hx : RVL w S xs vs) : RVL w S ys vs := by
  induction xs generalizing ys vs with
  | nil => cases ys with
    | nil => exact hx
    | cons y ys => simp only [SubC] at h
  | cons x xs ih => cases ys with
    | nil => simp only [SubC] at h
    | cons y ys =>
      simp only [SubC] at h
      simp only [RVL] at hx ⊢
      obtain ⟨u, us, rfl, h1, h2⟩ := hx
      exact ⟨u, us, rfl, h.1.sound h1, ih h.2 h2⟩
theorem SubA.sound {w : World} {S : Nat → Prop} {x y : AV} (h : SubA x y) {v : Value} (hx : RV w S x v) : RV w S y v := by
  unfold SubA at h
  split at h
  · simp only [RV] at hx ⊢
    obtain ⟨vs, rfl, ho, hx⟩ := hx
    exact ⟨vs, rfl, ho, h.sound hx⟩
  · subst h
    simp only [RV] at hx ⊢
    obtain ⟨rfl, _⟩ := hx
    exact ⟨none, 0, rfl, Nat.le_refl _, fun _ => rfl, .inl trivial⟩
  · exact h ▸ hx
theorem SubL.sound {w : World} {S : Nat → Prop} {xs ys : List AV} (h : SubL xs ys) {vs : List Value} (hx : RVL w S xs vs) : RVL w S ys vs := by
  induction xs generalizing ys vs with
  | nil => cases ys with
    | nil => exact hx
    | cons y ys => simp only [SubL] at h
  | cons x xs ih => cases ys with
    | nil => simp only [SubL] at h
    | cons y ys =>
      simp only [SubL] at h
      simp only [RVL] at hx ⊢
      obtain ⟨u, us, rfl, h1, h2⟩ := hx
      exact ⟨u, us, rfl, h.1.sound h1, ih h.2 h2⟩

theorem below_ext {w w' : World} {c : Cx} {hp : Hp} (hi : Inv w c hp) (hb : Go.RowKit.Below w.heap.size w w') : Ext w c w' c ∧ Inv w' c hp := by
  have he : Ext w c w' c := ⟨hb.os, hb.tape, hb.output, hb.size, fun b hlt hn => ⟨hb.block b hlt, hn⟩, rfl, fun _ => .inr ⟨rfl, rfl, id⟩⟩
  exact ⟨he, hi.ext he fun b hl => hb.block b (hi.lt b hl)⟩
theorem grown_is_still {w w' : World} {c : Cx} {hp : Hp} (hi : Inv w c hp) (he : Ext w c w' c) (b : Nat) (h : grownS (still w c) w w' b) : still w' c b := by
  rcases h with h | ⟨h1, h2⟩
  · exact (he.still b h).1
  · exact ⟨h2, fun hl => by have := hi.lt b hl; omega, fun hf => by have := hi.farlt b hf; omega⟩
end Go.Proofs.YtanbgeelphfggaaDoor.E
