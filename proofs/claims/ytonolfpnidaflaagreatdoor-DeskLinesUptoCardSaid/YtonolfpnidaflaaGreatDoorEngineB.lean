/- The abstract machine of this claim: parts J O Q P K R S L T V. No conditions. -/
import Derived.Test.YtonolfpnidaflaaGreatDoorEngineA
import Derived.MapKept
import Derived.Laws.Cover3
import Derived.Tactics
import Derived.Deep.LoopGhost
/- The abstract machine of this claim, part J: what is handed to a function; contracts. No conditions. -/
namespace Go.Proofs.YtonolfpnidaflaaGreatDoor.E
open Go
set_option linter.unusedSimpArgs false
set_option linter.unusedVariables false
set_option linter.unusedSectionVars false
set_option maxRecDepth 20000

/-! ### A row that is written no more -/
def Cx.freeze (c : Cx) (s : Site) : Cx := { c with lv := fun s' => if s' = s then false else c.lv s' }
theorem freeze_sound {w : World} {c : Cx} {hp : Hp} (hi : Inv w c hp) {s : Site} {n k : Nat} {t : TypeId} {rows : List (List AV)} {q : Option Nat} (e : hp.get s = (n, .row t k q rows)) :
  Ext w c w (c.freeze s) ∧ Inv w (c.freeze s) (hp.set s n (.ice k rows)) := by
 obtain ⟨h1, hlv, h0, hk, h2⟩ := hi.row e
 have hll : ∀ b, (c.freeze s).live b → c.live b := by
  rintro b ⟨s', l, o⟩
  simp only [Cx.freeze] at l
  split at l
  ·cases l
  ·exact ⟨s', l, o⟩
 have he : Ext w c w (c.freeze s) := ⟨rfl, rfl, rfl, Nat.le_refl _, fun b _ hn => ⟨rfl, fun h => hn (hll b h)⟩, rfl, fun s' => .inr ⟨rfl, rfl, fun h => by
  simp only [Cx.freeze] at h
  split at h
  ·cases h
  ·exact h⟩⟩
 refine ⟨he, hi.upd he s n _ (fun s' hs => by simp [Cx.freeze, hs]) (fun _ _ _ _ _ => rfl) h1 ?_ (fun b l _ => by simp [Cx.freeze] at l)⟩
 simp only [BlkOk]
 refine ⟨by simp [Cx.freeze], ?_⟩
 show match c.loc s with | none => rows = [] | some (b, cp) => _
 rcases h2 with ⟨h3, h4, _⟩ | ⟨b, cp, vs, rest, h3, _, hcp, h4, h5, ho, h6⟩
 ·rw [h3]; exact h4
 ·rw [h3]
  have hlen := h6.length
  rw [flatten_length hk] at hlen
  have hle : rows.length * k ≤ cp * k := by
   rw [← h5, List.length_append]; omega
  refine ⟨Nat.le_of_mul_le_mul_right hle h0, .inr ⟨⟨hi.lt b (Cx.live_loc hlv h3), ?_, hi.far b (Cx.live_loc hlv h3)⟩, ?_⟩⟩
  ·rintro ⟨s', l, o⟩
   simp only [Cx.freeze] at l
   split at l
   ·cases l
   ·rename_i hs
    exact hs (hi.inj s' s b l hlv o (.inl ⟨cp, h3⟩))
  ·refine RVRows.of_flat hk (RVAt.of_vals (RVL.mono he.still _ _ h6) (fun u hu => ho u (List.mem_append_left _ hu)) fun i v hv => ?_)
   rw [Nat.zero_add, cell_block h4, List.getElem?_append_left (lt_of_get hv)]
   exact hv

theorem freezeC_sound {w : World} {c : Cx} {hp : Hp} (hi : Inv w c hp) {s : Site} {n : Nat} {t : TypeId} {cs : List AV} (e : hp.get s = (n, .cells t cs)) (hf : cs.all AV.free = true) :
  Ext w c w (c.freeze s) ∧ Inv w (c.freeze s) (hp.set s n (.icc t cs)) := by
 obtain ⟨h1, hlv, b, cp, vs, h3, h4, ho, h5⟩ := hi.cells e
 have hll : ∀ b, (c.freeze s).live b → c.live b := by
  rintro b ⟨s', l, o⟩
  simp only [Cx.freeze] at l
  split at l
  ·cases l
  ·exact ⟨s', l, o⟩
 have he : Ext w c w (c.freeze s) := ⟨rfl, rfl, rfl, Nat.le_refl _, fun b _ hn => ⟨rfl, fun h => hn (hll b h)⟩, rfl, fun s' => .inr ⟨rfl, rfl, fun h => by
  simp only [Cx.freeze] at h
  split at h
  ·cases h
  ·exact h⟩⟩
 refine ⟨he, hi.upd he s n _ (fun s' hs => by simp [Cx.freeze, hs]) (fun _ _ _ _ _ => rfl) h1 ?_ (fun b l _ => by simp [Cx.freeze] at l)⟩
 simp only [BlkOk]
 refine ⟨by simp [Cx.freeze], b, cp, h3, ⟨hi.lt b (Cx.live_loc hlv h3), ?_, hi.far b (Cx.live_loc hlv h3)⟩, RVAt.of_vals (RVL.mono he.still _ _ (h5.rvl hf)) ho fun i v hv => ?_⟩
 ·rintro ⟨s', l, o⟩
  simp only [Cx.freeze] at l
  split at l
  ·cases l
  ·rename_i hs
   exact hs (hi.inj s' s b l hlv o (.inl ⟨cp, h3⟩))
 ·rw [Nat.zero_add, cell_block h4]
  exact hv

/-! ### What is handed to a function -/
def pass1 (hp : Hp) : AV → Option (AV × Hp)
 | .own s ver k off len => match hp.get s with
  | (n, .row _ k2 _ rows) => if n = ver ∧ k2 = k ∧ off + len ≤ rows.length then some (.list k ((rows.drop off).take len), hp.set s n (.ice k rows)) else none
  | (n, .ice k2 rows) => if n = ver ∧ k2 = k ∧ off + len ≤ rows.length then some (.list k ((rows.drop off).take len), hp) else none
  | _ => none
 | .ptr s ver off => match hp.get s with
  | (n, .cells t cs) => if n = ver ∧ cs.all AV.free = true then some (.rop (cs.drop off), hp.set s n (.icc t cs)) else none
  | (n, .icc _ cs) => if n = ver then some (.rop (cs.drop off), hp) else none
  | _ => none
 | .junk => some (.junk, hp)
 | .val u => some (.val u, hp)
 | .list k rows => some (.list k rows, hp)
 | .rop cs => some (.rop cs, hp)
 | _ => none
def passC (hp : Hp) : List AV → Option (List AV × Hp)
 | [] => some ([], hp)
 | x :: xs => match pass1 hp x with
  | some (y, hp1) => match passC hp1 xs with
   | some (ys, hp2) => some (y :: ys, hp2)
   | none => none
  | none => none
def passA (hp : Hp) : AV → Option (AV × Hp)
 | .agg cs => match passC hp cs with
  | some (l, h) => some (.agg l, h)
  | none => none
 | .func f cap => match passC hp cap with
  | some (l, h) => some (.func f l, h)
  | none => none
 | x => pass1 hp x
def passL (hp : Hp) : List AV → Option (List AV × Hp)
 | [] => some ([], hp)
 | x :: xs => match passA hp x with
  | some (y, hp1) => match passL hp1 xs with
   | some (ys, hp2) => some (y :: ys, hp2)
   | none => none
  | none => none

/-- Which cells of a type are slices, and of what size their elements. -/
def tyKs (P : Program) : Nat → TypeId → List (Option Nat)
 | 0, _ => []
 | d + 1, t => match P.underlying t with
  | some (.slice e) => [tySz P e]
  | some (.struct fs) => fs.toList.flatMap fun f => tyKs P d f.type
  | _ => List.replicate ((tySz P t).getD 0) none
/-- Types, of which nil slices are left as they are. -/
def NX : List Nat := []
def tyKsT (P : Program) (t : TypeId) : List (Option Nat) := if NX.contains t = true then [] else tyKs P 5 t
def tyKsE (P : Program) (t : TypeId) : List (Option Nat) := match tyEl P t with
 | some e => if NX.contains e = true then [] else tyKs P 5 e
 | none => []
/-- A nil slice, told as an empty list. -/
def nrm1 : Option Nat → AV → AV
 | some k, .val (.slice none 0 0) => .list k []
 | _, x => x
def nrmC : List (Option Nat) → List AV → List AV
 | k :: ks, x :: xs => nrm1 k x :: nrmC ks xs
 | _, xs => xs
def nrmV (ks : List (Option Nat)) : AV → AV
 | .agg cs => .agg (nrmC ks cs)
 | x => match ks with
  | [k] => nrm1 k x
  | _ => x
theorem nrm1_sound {w : World} {S : Nat → Prop} {k : Option Nat} {x : AV} {v : Value} (h : RV w S x v) : RV w S (nrm1 k x) v := by
 unfold nrm1
 split
 ·simp only [RV] at h ⊢
  obtain ⟨rfl, _⟩ := h
  exact ⟨none, 0, rfl, Nat.le_refl _, fun _ => rfl, .inl trivial⟩
 ·exact h
theorem nrmC_sound {w : World} {S : Nat → Prop} : ∀ {ks : List (Option Nat)} {xs : List AV} {vs : List Value}, RVL w S xs vs → RVL w S (nrmC ks xs) vs
 | [], xs, vs, h => by simpa only [nrmC] using h
 | k :: ks, [], vs, h => by simpa only [nrmC] using h
 | k :: ks, x :: xs, vs, h => by
  simp only [nrmC, RVL] at h ⊢
  obtain ⟨u, us, rfl, h1, h2⟩ := h
  exact ⟨u, us, rfl, nrm1_sound h1, nrmC_sound h2⟩
theorem nrmV_sound {w : World} {S : Nat → Prop} {ks : List (Option Nat)} {x : AV} {v : Value} (h : RV w S x v) : RV w S (nrmV ks x) v := by
 unfold nrmV
 split
 ·simp only [RV] at h ⊢
  obtain ⟨vs, e, ho, h⟩ := h
  exact ⟨vs, e, ho, nrmC_sound h⟩
 ·split
  ·exact nrm1_sound h
  ·exact h
theorem nrmL_sound {w : World} {S : Nat → Prop} {ks : List (Option Nat)} : ∀ {xs : List AV} {vs : List Value}, RVL w S xs vs → RVL w S (xs.map (nrmV ks)) vs
 | [], vs, h => h
 | x :: xs, vs, h => by
  simp only [List.map_cons, RVL] at h ⊢
  obtain ⟨u, us, rfl, h1, h2⟩ := h
  exact ⟨u, us, rfl, nrmV_sound h1, nrmL_sound h2⟩
/-- A row is built of what is written no more from now on. -/
def ABuildF (P : Program) (t : TypeId) (n : Nat) (idx : List Nat) (s : Site) (K : AV → Hp → Prop) : Option (List AV × Hp) → Prop
 | some (l, hp1) => ABuildSlice P t n (idx.zip (l.map (nrmV (tyKsE P t)))) s hp1 K
 | none => False
def AStoreE (P : Program) (t : TypeId) (x : AV) (K : Hp → Prop) : Option (AV × Hp) → Prop
 | some (v, hp1) => AStore P t x (nrmV (tyKsT P t) v) hp1 K
 | none => False
/-- What is stored into a row is written no more from now on. -/
def AStoreF (P : Program) (t : TypeId) (x v : AV) (hp : Hp) (K : Hp → Prop) : Prop :=
 match x with
 | .ept s ver k i off => AStoreE P t (.ept s ver k i off) K (passA hp v)
 | x => AStore P t x v hp K
theorem rows_rv {w : World} {c : Cx} {hp : Hp} (hi : Inv w c hp) {s : Site} {ver n k off len : Nat} {rows : List (List AV)} {v : Value} (h : RelV w c (.own s ver k off len) v) (e : hp.get s = (n, .ice k rows)) (hn : n = ver) (hlen : off + len ≤ rows.length) :
  RV w (still w c) (.list k ((rows.drop off).take len)) v := by
 subst hn
 obtain ⟨h1, _, h2⟩ := hi.ice e
 simp only [RelV] at h
 have h3 := h.2 h1.symm
 have hl : ((rows.drop off).take len).length = len := by simp; omega
 simp only [RV]
 rcases h2 with ⟨h4, rfl⟩ | ⟨b, cp, h4, h5, h6⟩
 ·rw [h4] at h3
  obtain ⟨rfl, rfl, rfl⟩ := h3
  exact ⟨none, 0, rfl, Nat.le_refl _, fun _ => rfl, .inl rfl⟩
 ·rw [h4] at h3
  obtain ⟨h8, a, rfl, h9⟩ := h3
  refine ⟨some a, cp - off, by rw [hl], by rw [hl]; omega, (fun e => by cases e), ?_⟩
  by_cases hz : len = 0
  ·subst hz
   exact .inl (by simp)
  ·have h10 := h9 (.inl (by omega))
   subst h10
   rcases h6 with rfl | ⟨h6, h7⟩
   ·simp at hlen; omega
   ·refine .inr ⟨b, off * k, rfl, h6, ?_⟩
    have h11 := (h7.drop off).take len
    rwa [Nat.zero_add] at h11
theorem rop_rv {w : World} {c : Cx} {hp : Hp} (hi : Inv w c hp) {s : Site} {ver n off : Nat} {t : TypeId} {cs : List AV} {v : Value} (h : RelV w c (.ptr s ver off) v) (e : hp.get s = (n, .icc t cs)) (hn : n = ver) :
  RV w (still w c) (.rop (cs.drop off)) v := by
 subst hn
 obtain ⟨h1, _, b, cp, h2, h3, h4⟩ := hi.icc e
 simp only [RelV] at h
 obtain ⟨b', cp', e1, rfl⟩ := h.2 h1.symm
 rw [h2] at e1
 cases e1
 simp only [RV]
 have := h4.drop off
 rw [Nat.zero_add] at this
 exact ⟨b, off, rfl, .inr h3, this⟩
theorem pass1_sound {w : World} {c : Cx} {hp hp' : Hp} (hi : Inv w c hp) {x y : AV} {v : Value} (hx : RelV w c x v) (h : pass1 hp x = some (y, hp')) : ∃ c', Ext w c w c' ∧ Inv w c' hp' ∧ RV w (still w c') y v := by
 unfold pass1 at h
 split at h
 ·rename_i s ver k off len
  split at h
  ·rename_i n t k2 q rows e
   split at h
   ·rename_i hc
    obtain ⟨rfl, rfl, hlen⟩ := hc
    cases h
    obtain ⟨h1, h2⟩ := freeze_sound hi e
    refine ⟨_, h1, h2, ?_⟩
    exact rows_rv h2 (RelV.ext h1 _ _ hx) (by rw [Hp.get_set, if_pos rfl]) rfl hlen
   ·cases h
  ·rename_i n k2 rows e
   split at h
   ·rename_i hc
    obtain ⟨rfl, rfl, hlen⟩ := hc
    cases h
    exact ⟨c, Ext.refl _ _, hi, rows_rv hi hx e rfl hlen⟩
   ·cases h
  ·cases h
 ·rename_i s ver off
  split at h
  ·rename_i n t cs e
   split at h
   ·rename_i hc
    obtain ⟨rfl, hf⟩ := hc
    cases h
    obtain ⟨h1, h2⟩ := freezeC_sound hi e hf
    refine ⟨_, h1, h2, ?_⟩
    exact rop_rv h2 (RelV.ext h1 _ _ hx) (t := t) (by rw [Hp.get_set, if_pos rfl]) rfl
   ·cases h
  ·rename_i n t cs e
   split at h
   ·rename_i hc
    subst hc
    cases h
    exact ⟨c, Ext.refl _ _, hi, rop_rv hi hx e rfl⟩
   ·cases h
  ·cases h
 ·cases h
  exact ⟨c, Ext.refl _ _, hi, by simpa only [RelV, RV] using hx⟩
 ·cases h
  exact ⟨c, Ext.refl _ _, hi, by simpa only [RelV, RV] using hx⟩
 ·cases h
  exact ⟨c, Ext.refl _ _, hi, by simpa only [RelV] using hx⟩
 ·cases h
  exact ⟨c, Ext.refl _ _, hi, by simpa only [RelV] using hx⟩
 ·cases h
theorem passC_sound {w : World} {hp' : Hp} {xs ys : List AV} : ∀ {c : Cx} {hp : Hp} {vs : List Value} (_ : Inv w c hp) (_ : RelL w c xs vs) (_ : passC hp xs = some (ys, hp')), ∃ c', Ext w c w c' ∧ Inv w c' hp' ∧ RVL w (still w c') ys vs := by
 induction xs generalizing ys with
 | nil =>
  intro c hp vs hi hx h
  simp only [passC, Option.some.injEq, Prod.mk.injEq] at h
  obtain ⟨rfl, rfl⟩ := h
  exact ⟨c, Ext.refl _ _, hi, by simpa only [RelL, RVL] using hx⟩
 | cons x xs ih =>
  intro c hp vs hi hx h
  simp only [RelL] at hx
  obtain ⟨u, us, rfl, h1, h2⟩ := hx
  simp only [passC] at h
  split at h
  ·rename_i y hp1 e1
   split at h
   ·rename_i ys' hp2 e2
    cases h
    obtain ⟨c1, g1, g2, g3⟩ := pass1_sound hi h1 e1
    obtain ⟨c2, g4, g5, g6⟩ := ih g2 (RelL.ext g1 _ _ h2) e2
    refine ⟨c2, g1.trans g4, g5, ?_⟩
    simp only [RVL]
    exact ⟨u, us, rfl, RV.mono g4.still _ _ g3, g6⟩
   ·cases h
  ·cases h
theorem passA_sound {w : World} {c : Cx} {hp hp' : Hp} (hi : Inv w c hp) {x y : AV} {v : Value} (hx : RelV w c x v) (h : passA hp x = some (y, hp')) : ∃ c', Ext w c w c' ∧ Inv w c' hp' ∧ RV w (still w c') y v := by
 unfold passA at h
 split at h
 ·rename_i cs
  split at h
  ·rename_i l h2 e
   cases h
   simp only [RelV] at hx
   obtain ⟨vs, rfl, ho, hx⟩ := hx
   obtain ⟨c', g1, g2, g3⟩ := passC_sound hi hx e
   exact ⟨c', g1, g2, by simp only [RV]; exact ⟨vs, rfl, ho, g3⟩⟩
  ·cases h
 ·rename_i f cap
  split at h
  ·rename_i l h2 e
   cases h
   simp only [RelV] at hx
   obtain ⟨vs, rfl, hx⟩ := hx
   obtain ⟨c', g1, g2, g3⟩ := passC_sound hi hx e
   exact ⟨c', g1, g2, by simp only [RV]; exact ⟨vs, rfl, g3⟩⟩
  ·cases h
 ·exact pass1_sound hi hx h
theorem passL_sound {w : World} {hp' : Hp} {xs ys : List AV} : ∀ {c : Cx} {hp : Hp} {vs : List Value} (_ : Inv w c hp) (_ : RelL w c xs vs) (_ : passL hp xs = some (ys, hp')), ∃ c', Ext w c w c' ∧ Inv w c' hp' ∧ RVL w (still w c') ys vs := by
 induction xs generalizing ys with
 | nil =>
  intro c hp vs hi hx h
  simp only [passL, Option.some.injEq, Prod.mk.injEq] at h
  obtain ⟨rfl, rfl⟩ := h
  exact ⟨c, Ext.refl _ _, hi, by simpa only [RelL, RVL] using hx⟩
 | cons x xs ih =>
  intro c hp vs hi hx h
  simp only [RelL] at hx
  obtain ⟨u, us, rfl, h1, h2⟩ := hx
  simp only [passL] at h
  split at h
  ·rename_i y hp1 e1
   split at h
   ·rename_i ys' hp2 e2
    cases h
    obtain ⟨c1, g1, g2, g3⟩ := passA_sound hi h1 e1
    obtain ⟨c2, g4, g5, g6⟩ := ih g2 (RelL.ext g1 _ _ h2) e2
    refine ⟨c2, g1.trans g4, g5, ?_⟩
    simp only [RVL]
    exact ⟨u, us, rfl, RV.mono g4.still _ _ g3, g6⟩
   ·cases h
  ·cases h

theorem relP_zip {w : World} {c : Cx} (vs : List (Nat × Value)) : ∀ (l : List AV), RelL w c l (vs.map (·.2)) → RelP w c ((vs.map (·.1)).zip l) vs := by
 induction vs with
 | nil => intro l _; simp [RelP]
 | cons x vs ih =>
  intro l h
  cases l with
  | nil => simp only [List.map_cons, RelL] at h; cases h
  | cons y l =>
   simp only [List.map_cons, RelL] at h
   obtain ⟨u, us, e, h1, h2⟩ := h
   cases e
   simp only [List.map_cons, List.zip_cons_cons, RelP]
   exact ⟨x.2, vs, rfl, h1, ih l h2⟩
theorem relP_unzip {w : World} {c : Cx} : ∀ {parts : List (Nat × AV)} {vs : List (Nat × Value)}, RelP w c parts vs → vs.map (·.1) = parts.map (·.1) ∧ RelL w c (parts.map (·.2)) (vs.map (·.2))
 | [], vs, h => by simp only [RelP] at h; subst h; simp [RelL]
 | x :: parts, vs, h => by
  simp only [RelP] at h
  obtain ⟨v, us, rfl, h1, h2⟩ := h
  obtain ⟨e1, e2⟩ := relP_unzip h2
  simp only [List.map_cons, RelL, e1]
  exact ⟨trivial, _, _, rfl, h1, e2⟩
theorem ABuildF_sound {P : Program} {t : TypeId} {n : Nat} {parts : List (Nat × AV)} {s : Site} {hp : Hp} {K : AV → Hp → Prop} (h : ABuildF P t n (parts.map (·.1)) s K (passL hp (parts.map (·.2)))) {w : World} {c : Cx} (hi : Inv w c hp) {vs : List (Nat × Value)}
  (hp' : RelP w c parts vs) : Gives P (Instr.buildSlice t n vs.toArray) w c K := by
 cases e : passL hp (parts.map (·.2)) with
 | none => rw [e] at h; exact h.elim
 | some x =>
  obtain ⟨l, hp1⟩ := x
  rw [e] at h
  simp only [ABuildF] at h
  obtain ⟨e1, e2⟩ := relP_unzip hp'
  obtain ⟨c1, g1, g2, g3⟩ := passL_sound hi e2 e
  have := relP_zip vs _ (RelL.of_RVL _ _ (nrmL_sound (ks := tyKsE P t) g3))
  rw [e1] at this
  obtain ⟨r, a, w', c', hp2, k1, k2, k3, k4, k5⟩ := ABuildSlice_sound h g2 this
  exact ⟨r, a, w', c', hp2, k1, g1.trans k2, k3, k4, k5⟩
theorem AStoreF_sound {P : Program} {t : TypeId} {x v : AV} {hp : Hp} {K : Hp → Prop} (h : AStoreF P t x v hp K) {w : World} {c : Cx} (hi : Inv w c hp) {a u : Value} (hx : RelV w c x a) (hv : RelV w c v u) :
  ∃ w' c' hp', (Instr.storeAt t a u).run P w = .ok () w' ∧ Ext w c w' c' ∧ Inv w' c' hp' ∧ K hp' := by
 have base : AStore P t x v hp K → ∃ w' c' hp', (Instr.storeAt t a u).run P w = .ok () w' ∧ Ext w c w' c' ∧ Inv w' c' hp' ∧ K hp' := fun h => by
  obtain ⟨w', hp', e, h1, h2, h3⟩ := AStore_sound h hi hx hv
  exact ⟨w', c, hp', e, h1, h2, h3⟩
 cases x with
 | ept s ver k i off =>
  simp only [AStoreF] at h
  cases e : passA hp v with
  | none => rw [e] at h; exact h.elim
  | some y =>
   obtain ⟨v1, hp1⟩ := y
   rw [e] at h
   simp only [AStoreE] at h
   obtain ⟨c1, g1, g2, g3⟩ := passA_sound hi hv e
   obtain ⟨w', hp', k1, k2, k3, k4⟩ := AStore_sound h g2 (RelV.ext g1 _ _ hx) (RelV.of_RV _ _ (nrmV_sound g3))
   exact ⟨w', c1, hp', k1, g1.trans k2, k3, k4⟩
 | _ => exact base h

/-! ### Contracts of functions that leave what is handed in alone -/
def grownS (S : Nat → Prop) (w w' : World) (b : Nat) : Prop := S b ∨ (w.heap.size ≤ b ∧ b < w'.heap.size)
def Ok (P : Program) (f : FuncId) (args : List AV) (r : AV) : Prop :=
 ∀ (w : World) (S : Nat → Prop) (vs : List Value), (∀ b, S b → b < w.heap.size) → Gl w S → RVL w S args vs →
  Calls P f vs.toArray w fun e w' => ∃ v, e = .returned v ∧ Go.RowKit.Below w.heap.size w w' ∧ RV w' (grownS S w w') r v
/-- An empty list may be told as one of rows of any length. -/
def Sub : AV → AV → Prop
 | .val (.slice none 0 0), .list _ rows => rows = []
 | x, y => x = y
def SubC : List AV → List AV → Prop
 | [], [] => True
 | x :: xs, y :: ys => Sub x y ∧ SubC xs ys
 | _, _ => False
def SubA : AV → AV → Prop
 | .agg cs, .agg ds => SubC cs ds
 | .val (.slice none 0 0), .list _ rows => rows = []
 | x, y => x = y
def SubL : List AV → List AV → Prop
 | [], [] => True
 | x :: xs, y :: ys => SubA x y ∧ SubL xs ys
 | _, _ => False
theorem Sub.sound {w : World} {S : Nat → Prop} {x y : AV} (h : Sub x y) {v : Value} (hx : RV w S x v) : RV w S y v := by
 unfold Sub at h
 split at h
 ·subst h
  simp only [RV] at hx ⊢
  obtain ⟨rfl, _⟩ := hx
  exact ⟨none, 0, rfl, Nat.le_refl _, fun _ => rfl, .inl trivial⟩
 ·exact h ▸ hx
theorem SubC.sound {w : World} {S : Nat → Prop} {xs ys : List AV} (h : SubC xs ys) {vs : List Value} (hx : RVL w S xs vs) : RVL w S ys vs := by
 induction xs generalizing ys vs with
 | nil => cases ys with
  | nil => exact hx
  | cons y ys => simp only [SubC] at h
 | cons x xs ih => cases ys with
  | nil => simp only [SubC] at h
  | cons y ys =>
   simp only [SubC] at h
   simp only [RVL] at hx ⊢
   obtain ⟨u, us, rfl, h1, h2⟩ := hx
   exact ⟨u, us, rfl, h.1.sound h1, ih h.2 h2⟩
theorem SubA.sound {w : World} {S : Nat → Prop} {x y : AV} (h : SubA x y) {v : Value} (hx : RV w S x v) : RV w S y v := by
 unfold SubA at h
 split at h
 ·simp only [RV] at hx ⊢
  obtain ⟨vs, rfl, ho, hx⟩ := hx
  exact ⟨vs, rfl, ho, h.sound hx⟩
 ·subst h
  simp only [RV] at hx ⊢
  obtain ⟨rfl, _⟩ := hx
  exact ⟨none, 0, rfl, Nat.le_refl _, fun _ => rfl, .inl trivial⟩
 ·exact h ▸ hx
theorem SubL.sound {w : World} {S : Nat → Prop} {xs ys : List AV} (h : SubL xs ys) {vs : List Value} (hx : RVL w S xs vs) : RVL w S ys vs := by
 induction xs generalizing ys vs with
 | nil => cases ys with
  | nil => exact hx
  | cons y ys => simp only [SubL] at h
 | cons x xs ih => cases ys with
  | nil => simp only [SubL] at h
  | cons y ys =>
   simp only [SubL] at h
   simp only [RVL] at hx ⊢
   obtain ⟨u, us, rfl, h1, h2⟩ := hx
   exact ⟨u, us, rfl, h.1.sound h1, ih h.2 h2⟩

theorem below_ext {w w' : World} {c : Cx} {hp : Hp} (hi : Inv w c hp) (hb : Go.RowKit.Below w.heap.size w w') : Ext w c w' c ∧ Inv w' c hp := by
 have he : Ext w c w' c := ⟨hb.os, hb.tape, hb.output, hb.size, fun b hlt hn => ⟨hb.block b hlt, hn⟩, rfl, fun _ => .inr ⟨rfl, rfl, id⟩⟩
 exact ⟨he, hi.ext he fun b hl => hb.block b (hi.lt b hl)⟩
theorem grown_is_still {w w' : World} {c : Cx} {hp : Hp} (hi : Inv w c hp) (he : Ext w c w' c) (b : Nat) (h : grownS (still w c) w w' b) : still w' c b := by
 rcases h with h | ⟨h1, h2⟩
 ·exact (he.still b h).1
 ·exact ⟨h2, fun hl => by have := hi.lt b hl; omega, fun hf => by have := hi.farlt b hf; omega⟩
end Go.Proofs.YtonolfpnidaflaaGreatDoor.E

/- The abstract machine of this claim, part O: contracts of functions that turn what is handed in. No conditions. -/
namespace Go.Proofs.YtonolfpnidaflaaGreatDoor.E
open Go
set_option linter.unusedSimpArgs false
set_option linter.unusedVariables false
set_option linter.unusedSectionVars false
set_option maxRecDepth 20000

/-! ### Places under other names -/
section
variable (g : Site → Nat → Option (Site × Nat))
mutual
def rn : AV → AV
 | .ptr s ver off => match g s ver with | some (s', v') => .ptr s' v' off | none => .dead
 | .ept s ver k i off => match g s ver with | some (s', v') => .ept s' v' k i off | none => .dead
 | .own s ver k off len => match g s ver with | some (s', v') => .own s' v' k off len | none => .dead
 | .map s ver => match g s ver with | some (s', v') => .map s' v' | none => .dead
 | .agg cs => .agg (rnL cs)
 | .tup cs => .tup (rnL cs)
 | .func f cap => .func f (rnL cap)
 | .iface t x => .iface t (rn x)
 | .val v => .val v
 | .list k rows => .list k rows
 | .rop cs => .rop cs
 | .junk => .junk
 | .dead => .dead
def rnL : List AV → List AV
 | [] => []
 | x :: xs => rn x :: rnL xs
end
def rnB : Blk → Blk
 | .cells t cs => .cells t (rnL g cs)
 | .rowx t k cs => .rowx t k (rnL g cs)
 | b => b
end
theorem rv_still {w : World} {c c' : Cx} (hst : ∀ b, still w c b → still w c' b) (x : AV) (v : Value) (h : RV w (still w c) x v) : RV w (still w c') x v := RV.mono (fun b hb => ⟨hst b hb, rfl⟩) x v h
section
variable {w : World} {c c' : Cx} {g : Site → Nat → Option (Site × Nat)}
/-- The names fit. -/
def Fits (c c' : Cx) (g : Site → Nat → Option (Site × Nat)) : Prop :=
 ∀ s ver s' ver', g s ver = some (s', ver') → ver ≤ c.cur s → ver' ≤ c'.cur s' ∧ (ver' = c'.cur s' → ver = c.cur s ∧ c'.loc s' = c.loc s)
mutual
theorem RelV.rn (hg : Fits c c' g) (hst : ∀ b, still w c b → still w c' b) : ∀ (x : AV) (v : Value), RelV w c x v → RelV w c' (E.rn g x) v
 | .ptr s ver off, v, h => by
  simp only [RelV] at h
  simp only [E.rn]
  split
  ·rename_i s' v' e
   obtain ⟨h1, h2⟩ := hg _ _ _ _ e h.1
   simp only [RelV]
   refine ⟨h1, fun e' => ?_⟩
   obtain ⟨h3, h4⟩ := h2 e'
   rw [h4]
   exact h.2 h3
  ·simp only [RelV]
 | .ept s ver k i off, v, h => by
  simp only [RelV] at h
  simp only [E.rn]
  split
  ·rename_i s' v' e
   obtain ⟨h1, h2⟩ := hg _ _ _ _ e h.1
   simp only [RelV]
   refine ⟨h1, fun e' => ?_⟩
   obtain ⟨h3, h4⟩ := h2 e'
   rw [h4]
   exact h.2 h3
  ·simp only [RelV]
 | .own s ver k off len, v, h => by
  simp only [RelV] at h
  simp only [E.rn]
  split
  ·rename_i s' v' e
   obtain ⟨h1, h2⟩ := hg _ _ _ _ e h.1
   simp only [RelV]
   refine ⟨h1, fun e' => ?_⟩
   obtain ⟨h3, h4⟩ := h2 e'
   rw [h4]
   exact h.2 h3
  ·simp only [RelV]
 | .map s ver, v, h => by
  simp only [RelV] at h
  simp only [E.rn]
  split
  ·rename_i s' v' e
   obtain ⟨h1, h2⟩ := hg _ _ _ _ e h.1
   simp only [RelV]
   refine ⟨h1, fun e' => ?_⟩
   obtain ⟨h3, h4⟩ := h2 e'
   rw [h4]
   exact h.2 h3
  ·simp only [RelV]
 | .agg cs, v, h => by
  simp only [E.rn, RelV] at h ⊢
  obtain ⟨vs, e, ho, hr⟩ := h
  exact ⟨vs, e, ho, RelL.rn hg hst cs vs hr⟩
 | .tup cs, v, h => by
  simp only [E.rn, RelV] at h ⊢
  obtain ⟨vs, e, hr⟩ := h
  exact ⟨vs, e, RelL.rn hg hst cs vs hr⟩
 | .func f cap, v, h => by
  simp only [E.rn, RelV] at h ⊢
  obtain ⟨vs, e, hr⟩ := h
  exact ⟨vs, e, RelL.rn hg hst cap vs hr⟩
 | .iface t x, v, h => by
  simp only [E.rn, RelV] at h ⊢
  obtain ⟨u, e, hr⟩ := h
  exact ⟨u, e, RelV.rn hg hst x u hr⟩
 | .val u, v, h => by simpa only [E.rn, RelV] using h
 | .list k rows, v, h => by
  simp only [E.rn, RelV] at h ⊢
  exact rv_still hst _ _ h
 | .rop cs, v, h => by
  simp only [E.rn, RelV] at h ⊢
  exact rv_still hst _ _ h
 | .junk, v, h => by simpa only [E.rn, RelV] using h
 | .dead, v, h => by simp only [E.rn, RelV]
theorem RelL.rn (hg : Fits c c' g) (hst : ∀ b, still w c b → still w c' b) : ∀ (x : List AV) (v : List Value), RelL w c x v → RelL w c' (E.rnL g x) v
 | [], v, h => by simpa only [E.rnL, RelL] using h
 | x :: xs, v, h => by
  simp only [E.rnL, RelL] at h ⊢
  obtain ⟨u, us, e, h1, h2⟩ := h
  exact ⟨u, us, e, RelV.rn hg hst x u h1, RelL.rn hg hst xs us h2⟩
end
theorem BlkOk.rn (hg : Fits c c' g) (hst : ∀ b, still w c b → still w c' b) {s s' : Site} {b : Blk} (h : BlkOk w c s b) (hl : c'.loc s' = c.loc s) (hv : c'.lv s' = c.lv s) (hx : c'.ex s' = c.ex s) : BlkOk w c' s' (rnB g b) := by
 cases b with
 | gone => simp only [rnB, BlkOk] at h ⊢; rw [hv]; exact h
 | cells t cs =>
  simp only [rnB, BlkOk] at h ⊢
  obtain ⟨h1, b, cp, vs, h2, h3, ho, h4⟩ := h
  exact ⟨by rw [hv]; exact h1, b, cp, vs, by rw [hl]; exact h2, h3, ho, RelL.rn hg hst cs vs h4⟩
 | icc t cs =>
  simp only [rnB, BlkOk] at h ⊢
  obtain ⟨h1, b, cp, h2, h3, h4⟩ := h
  exact ⟨by rw [hv]; exact h1, b, cp, by rw [hl]; exact h2, hst b h3, RVAt.mono (fun b hb => ⟨hst b hb, rfl⟩) cs b 0 h3 h4⟩
 | row t k q rows =>
  simp only [rnB, BlkOk] at h ⊢
  obtain ⟨h1, h0, h2, h3⟩ := h
  refine ⟨by rw [hv]; exact h1, h0, h2, ?_⟩
  rw [hl]
  cases hq : c.loc s with
  | none => rw [hq] at h3; exact h3
  | some x =>
   obtain ⟨b, cp⟩ := x
   rw [hq] at h3
   obtain ⟨hcq, h3, vs, rest, h4, h5, ho, h6⟩ := h3
   exact ⟨hcq, h3, vs, rest, h4, h5, ho, RVL.mono (fun b hb => ⟨hst b hb, rfl⟩) _ vs h6⟩
 | ice k rows =>
  simp only [rnB, BlkOk] at h ⊢
  obtain ⟨h1, h3⟩ := h
  refine ⟨by rw [hv]; exact h1, ?_⟩
  rw [hl]
  cases hq : c.loc s with
  | none => rw [hq] at h3; exact h3
  | some x =>
   obtain ⟨b, cp⟩ := x
   rw [hq] at h3
   refine ⟨h3.1, ?_⟩
   rcases h3.2 with h4 | ⟨h4, h5⟩
   ·exact .inl h4
   ·exact .inr ⟨hst b h4, RVRows.mono k (fun b hb => ⟨hst b hb, rfl⟩) rows b 0 h4 h5⟩
 | rowx t k cs =>
  simp only [rnB, BlkOk] at h ⊢
  obtain ⟨h1, h0, h3⟩ := h
  refine ⟨by rw [hv]; exact h1, h0, ?_⟩
  rw [hl]
  cases hq : c.loc s with
  | none => rw [hq] at h3; exact (by rw [h3]; simp only [rnL])
  | some x =>
   rw [hq] at h3
   obtain ⟨h3, vs, rest, h4, h5, ho, h6⟩ := h3
   exact ⟨h3, vs, rest, h4, h5, ho, RelL.rn hg hst cs vs h6⟩
 | sem R =>
  simp only [rnB, BlkOk] at h ⊢
  refine ⟨by rw [hv]; exact h.1, fun w2 h2 => ?_⟩
  rw [hl, hx]
  exact h.2 w2 fun b hbo => h2 b ((Cx.own_eq hl hx b).2 hbo)
 | map t es =>
  simp only [rnB, BlkOk] at h ⊢
  obtain ⟨h1, h0, b, cp, ents, clock, h2, h3, h4⟩ := h
  exact ⟨by rw [hv]; exact h1, h0, b, cp, ents, clock, by rw [hl]; exact h2, h3, h4⟩
end

/-! ### What may be told as something else -/
section
variable {w : World} {c : Cx}
theorem Sub.rel {x y : AV} (h : Sub x y) {v : Value} (hx : RelV w c x v) : RelV w c y v := by
 unfold Sub at h
 split at h
 ·subst h
  simp only [RelV, RV] at hx ⊢
  obtain ⟨rfl, _⟩ := hx
  exact ⟨none, 0, rfl, Nat.le_refl _, fun _ => rfl, .inl trivial⟩
 ·exact h ▸ hx
theorem SubC.rel {xs ys : List AV} (h : SubC xs ys) {vs : List Value} (hx : RelL w c xs vs) : RelL w c ys vs := by
 induction xs generalizing ys vs with
 | nil => cases ys with
  | nil => exact hx
  | cons y ys => simp only [SubC] at h
 | cons x xs ih => cases ys with
  | nil => simp only [SubC] at h
  | cons y ys =>
   simp only [SubC] at h
   simp only [RelL] at hx ⊢
   obtain ⟨u, us, rfl, h1, h2⟩ := hx
   exact ⟨u, us, rfl, h.1.rel h1, ih h.2 h2⟩
theorem SubA.rel {x y : AV} (h : SubA x y) {v : Value} (hx : RelV w c x v) : RelV w c y v := by
 unfold SubA at h
 split at h
 ·simp only [RelV] at hx ⊢
  obtain ⟨vs, rfl, ho, hx⟩ := hx
  exact ⟨vs, rfl, ho, h.rel hx⟩
 ·subst h
  simp only [RelV, RV] at hx ⊢
  obtain ⟨rfl, _⟩ := hx
  exact ⟨none, 0, rfl, Nat.le_refl _, fun _ => rfl, .inl trivial⟩
 ·exact h ▸ hx
theorem SubL.rel {xs ys : List AV} (h : SubL xs ys) {vs : List Value} (hx : RelL w c xs vs) : RelL w c ys vs := by
 induction xs generalizing ys vs with
 | nil => cases ys with
  | nil => exact hx
  | cons y ys => simp only [SubL] at h
 | cons x xs ih => cases ys with
  | nil => simp only [SubL] at h
  | cons y ys =>
   simp only [SubL] at h
   simp only [RelL] at hx ⊢
   obtain ⟨u, us, rfl, h1, h2⟩ := hx
   exact ⟨u, us, rfl, h.1.rel h1, ih h.2 h2⟩
end
def SubB : Blk → Blk → Prop
 | .cells t cs, .cells t' ds => t = t' ∧ SubC cs ds
 | .rowx t k cs, .rowx t' k' ds => t = t' ∧ k = k' ∧ SubC cs ds
 | .row t k _ rows, .rowx t' k' ds => t = t' ∧ k = k' ∧ SubC rows.flatten ds
 | .rowx t k cs, .row t' k' q rows => t = t' ∧ k = k' ∧ q = none ∧ cs = rows.flatten ∧ (∀ r ∈ rows, r.length = k) ∧ cs.all AV.free = true
 | .sem R, .sem R' => ∀ x y w, R x y w → R' x y w
 | x, y => x = y
theorem SubB.ok {w : World} {c : Cx} {s : Site} {x y : Blk} (h : SubB x y) (hx : BlkOk w c s x) : BlkOk w c s y := by
 unfold SubB at h
 split at h
 ·obtain ⟨rfl, h⟩ := h
  simp only [BlkOk] at hx ⊢
  obtain ⟨h1, b, cp, vs, h2, h3, ho, h4⟩ := hx
  exact ⟨h1, b, cp, vs, h2, h3, ho, h.rel h4⟩
 ·obtain ⟨rfl, rfl, h⟩ := h
  simp only [BlkOk] at hx ⊢
  obtain ⟨h1, h0, h3⟩ := hx
  refine ⟨h1, h0, ?_⟩
  cases hq : c.loc s with
  | none =>
   rw [hq] at h3
   subst h3
   rename_i ds
   cases ds with
   | nil => rfl
   | cons y ys => simp only [SubC] at h
  | some x =>
   rw [hq] at h3
   obtain ⟨h3, vs, rest, h4, h5, ho, h6⟩ := h3
   exact ⟨h3, vs, rest, h4, h5, ho, h.rel h6⟩
 ·rename_i t k q rows t' k' ds
  obtain ⟨rfl, rfl, h⟩ := h
  simp only [BlkOk] at hx ⊢
  obtain ⟨h1, h0, _, h3⟩ := hx
  refine ⟨h1, h0, ?_⟩
  cases hq : c.loc s with
  | none =>
   rw [hq] at h3
   obtain ⟨rfl, _⟩ := h3
   cases ds with
   | nil => rfl
   | cons y ys => simp only [List.flatten_nil, SubC] at h
  | some x =>
   rw [hq] at h3
   obtain ⟨_, h3, vs, rest, h4, h5, ho, h6⟩ := h3
   exact ⟨h3, vs, rest, h4, h5, ho, h.rel (RelL.of_RVL _ _ h6)⟩
 ·rename_i t k cs t' k' q rows
  obtain ⟨rfl, rfl, rfl, rfl, hk, hf⟩ := h
  simp only [BlkOk] at hx ⊢
  obtain ⟨h1, h0, h3⟩ := hx
  refine ⟨h1, h0, hk, ?_⟩
  cases hq : c.loc s with
  | none =>
   rw [hq] at h3
   refine ⟨?_, .inl trivial⟩
   cases rows with
   | nil => rfl
   | cons r rs =>
    have := hk r (by simp)
    simp only [List.flatten_cons, List.append_eq_nil_iff] at h3
    rw [h3.1] at this
    simp at this
    omega
  | some x =>
   rw [hq] at h3
   obtain ⟨h3, vs, rest, h4, h5, ho, h6⟩ := h3
   exact ⟨.inl trivial, h3, vs, rest, h4, h5, ho, h6.rvl hf⟩
 ·simp only [BlkOk] at hx ⊢
  exact ⟨hx.1, fun w' hw => h _ _ _ (hx.2 w' hw)⟩
 ·exact h ▸ hx

/-! ### The handed-in part of a local heap -/
def hpE : Nat → List (Nat × Blk) → Hp
 | _, [] => []
 | i, x :: r => (.e i, x) :: hpE (i + 1) r
def atE (l : List (Nat × Blk)) : Site → Nat × Blk
 | .e j => (l[j]?).getD (0, .gone)
 | _ => (0, .gone)
theorem hpE_get (l : List (Nat × Blk)) (i : Nat) (s : Site) : (hpE i l).get s = match s with | .e j => if i ≤ j then (l[j - i]?).getD (0, .gone) else (0, .gone) | _ => (0, .gone) := by
 induction l generalizing i with
 | nil => simp only [hpE, Hp.get]; split <;> simp
 | cons x r ih =>
  simp only [hpE, Hp.get, ih]
  cases s with
  | e j =>
   simp only [Site.e.injEq]
   by_cases e : i = j
   ·subst e; simp
   ·simp only [e, if_false]
    by_cases h : i ≤ j
    ·rw [if_pos (by omega), if_pos h, show j - i = (j - (i + 1)) + 1 by omega, List.getElem?_cons_succ]
    ·rw [if_neg (by omega), if_neg h]
  | l t => simp
  | m t i => simp
theorem hpE_at (l : List (Nat × Blk)) (s : Site) : (hpE 0 l).get s = atE l s := by
 rw [hpE_get]
 cases s <;> simp [atE]

/-- A contract: what is handed in, the places of it, what is answered, what becomes of the places. -/
def OkH (P : Program) (f : FuncId) (args : List AV) (hs : List Blk) (r : AV) (hs' : List (Nat × Blk)) : Prop :=
 ∀ (w : World) (c : Cx) (vs : List Value), Inv w c (hpE 0 (hs.map fun b => (0, b))) → RelL w c args vs →
  Calls P f vs.toArray w fun e w' => ∃ v c', e = .returned v ∧ Ext w c w' c' ∧ Inv w' c' (hpE 0 hs') ∧ RelV w' c' r v

/-! ### Such a call -/
def idx : List Site → Site → Option Nat
 | [], _ => none
 | x :: r, s => if x = s then some 0 else (idx r s).map (· + 1)
theorem idx_some {l : List Site} {s : Site} {i : Nat} (h : idx l s = some i) : l[i]? = some s := by
 induction l generalizing i with
 | nil => simp [idx] at h
 | cons x r ih =>
  simp only [idx] at h
  split at h
  ·rename_i e; cases h; subst e; rfl
  ·obtain ⟨j, hj, rfl⟩ := Option.map_eq_some_iff.1 h
   simpa using ih hj
theorem idx_none {l : List Site} {s : Site} (h : idx l s = none) : s ∉ l := by
 induction l with
 | nil => simp
 | cons x r ih =>
  simp only [idx] at h
  split at h
  ·cases h
  ·rename_i e
   have := ih (by simpa using h)
   simp only [List.mem_cons, not_or]
   exact ⟨fun q => e q.symm, this⟩
theorem idx_get {l : List Site} (hn : l.Nodup) {i : Nat} {s : Site} (h : l[i]? = some s) : idx l s = some i := by
 induction l generalizing i with
 | nil => simp at h
 | cons x r ih =>
  rw [List.nodup_cons] at hn
  simp only [idx]
  cases i with
  | zero => simp at h; rw [if_pos h]
  | succ i =>
   simp only [List.getElem?_cons_succ] at h
   have hx : x ≠ s := fun e => hn.1 (e ▸ List.mem_of_getElem? h)
   rw [if_neg hx, ih hn.2 h]
   rfl
/-- Down: the caller's names as the callee's. -/
def dnG (hp : Hp) (ss : List Site) (s : Site) (ver : Nat) : Option (Site × Nat) :=
 match idx ss s with
 | some i => if (hp.get s).1 = ver then some (.e i, 0) else none
 | none => none
/-- Up: the callee's names as the caller's. -/
def upG (hp : Hp) (ss : List Site) (s : Site) (ver : Nat) : Option (Site × Nat) :=
 match s with
 | .e i => match ss[i]? with
  | some s' => some (s', (hp.get s').1 + ver)
  | none => none
 | _ => none
def hpU (hp : Hp) (ss0 : List Site) : List Site → List (Nat × Blk) → Hp → Hp
 | [], _, acc => acc
 | s :: ss, [], acc => hpU hp ss0 ss [] (acc.set s (hp.get s).1 .gone)
 | s :: ss, (v, b) :: r, acc => hpU hp ss0 ss r (acc.set s ((hp.get s).1 + v) (rnB (upG hp ss0) b))
theorem hpU_get (hp : Hp) (ss0 ss : List Site) (hn : ss.Nodup) (hs : List (Nat × Blk)) (acc : Hp) (s : Site) :
  (hpU hp ss0 ss hs acc).get s = match idx ss s with
   | some i => ((hp.get s).1 + ((hs[i]?).getD (0, .gone)).1, rnB (upG hp ss0) ((hs[i]?).getD (0, .gone)).2)
   | none => acc.get s := by
 induction ss generalizing hs acc with
 | nil => cases hs <;> simp [hpU, idx]
 | cons x r ih =>
  rw [List.nodup_cons] at hn
  cases hs with
  | nil =>
   simp only [hpU, ih hn.2, idx]
   by_cases e : x = s
   ·subst e
    have : idx r x = none := by
     cases h : idx r x with
     | none => rfl
     | some i => exact absurd (List.mem_of_getElem? (idx_some h)) hn.1
    rw [this]
    simp [Hp.get_set, rnB]
   ·rw [if_neg e]
    cases h : idx r s with
    | none => simp [Hp.get_set, e]
    | some i => simp
  | cons y ys =>
   obtain ⟨v, b⟩ := y
   simp only [hpU, ih hn.2, idx]
   by_cases e : x = s
   ·subst e
    have : idx r x = none := by
     cases h : idx r x with
     | none => rfl
     | some i => exact absurd (List.mem_of_getElem? (idx_some h)) hn.1
    rw [this]
    simp [Hp.get_set]
   ·rw [if_neg e]
    cases h : idx r s with
    | none => simp [Hp.get_set, e]
    | some i => simp
/-- The places that are handed over hold what the contract asks. -/
def MB (hp : Hp) (ss0 : List Site) : List Site → List Blk → Prop
 | _, [] => True
 | [], _ :: _ => False
 | s :: ss, b :: hs => (b = .gone ∨ SubB (rnB (dnG hp ss0) (hp.get s).2) b) ∧ MB hp ss0 ss hs
theorem MB.get {hp : Hp} {ss0 ss : List Site} {hs : List Blk} (h : MB hp ss0 ss hs) (i : Nat) (b : Blk) (hb : hs[i]? = some b) : ∃ s, ss[i]? = some s ∧ (b = .gone ∨ SubB (rnB (dnG hp ss0) (hp.get s).2) b) := by
 induction hs generalizing ss i with
 | nil => simp at hb
 | cons x xs ih => cases ss with
  | nil => simp only [MB] at h
  | cons s ss =>
   simp only [MB] at h
   cases i with
   | zero => simp at hb; subst hb; exact ⟨s, rfl, h.1⟩
   | succ i => simpa using ih h.2 i (by simpa using hb)

def isGone : Blk → Bool
 | .gone => true
 | _ => false
theorem isGone_false {b : Blk} (h : b ≠ .gone) : isGone b = false := by cases b <;> first | exact absurd rfl h | rfl
def dnLoc (c : Cx) (ss : List Site) : Site → Option (Nat × Nat)
 | .e i => (match ss[i]? with | some s' => c.loc s' | none => none)
 | .l _ => none
 | .m _ _ => none
def dnLv (c : Cx) (ss : List Site) (hs : List Blk) : Site → Bool
 | .e i => (match hs[i]?, ss[i]? with | some b, some s' => if isGone b = true then false else c.lv s' | _, _ => false)
 | .l _ => false
 | .m _ _ => false
def dnEx (c : Cx) (ss : List Site) : Site → Nat → Prop
 | .e i => (match ss[i]? with | some s' => c.ex s' | none => fun _ => False)
 | .l _ => fun _ => False
 | .m _ _ => fun _ => False
/-- The callee's view of the caller's local heap. -/
def Cx.dn (c : Cx) (ss : List Site) (hs : List Blk) : Cx where
 cur := fun _ => 0
 loc := dnLoc c ss
 lv := dnLv c ss hs
 ex := dnEx c ss
 far := fun b => c.far b ∨ (c.live b ∧ ¬ ∃ (i : Nat) (s' : Site) (b' : Blk), hs[i]? = some b' ∧ b' ≠ Blk.gone ∧ ss[i]? = some s' ∧ c.lv s' = true ∧ c.own s' b)
theorem dn_own {c : Cx} {ss : List Site} {hs : List Blk} {i : Nat} {s' : Site} (h : ss[i]? = some s') (b : Nat) : (c.dn ss hs).own (.e i) b ↔ c.own s' b :=
 Cx.own_eq (by simp only [Cx.dn, dnLoc, h]) (by simp only [Cx.dn, dnEx, h]) b
theorem dnLv_gone {c : Cx} {ss : List Site} {hs : List Blk} {i : Nat} (h : hs[i]? = some Blk.gone) : dnLv c ss hs (.e i) = false := by
 simp only [dnLv, h]
 cases ss[i]? <;> rfl
theorem dn_lv {c : Cx} {ss : List Site} {hs : List Blk} {s : Site} {b : Nat} (l : (c.dn ss hs).lv s = true) (o : (c.dn ss hs).own s b) : ∃ (i : Nat) (s' : Site) (b' : Blk), s = .e i ∧ hs[i]? = some b' ∧ b' ≠ Blk.gone ∧ ss[i]? = some s' ∧ c.lv s' = true ∧ c.own s' b := by
 cases s with
 | e i =>
  simp only [Cx.dn, dnLv] at l
  cases h1 : hs[i]? with
  | none => rw [h1] at l; simp at l
  | some b' =>
   cases h2 : ss[i]? with
   | none => rw [h1, h2] at l; simp at l
   | some s' =>
    rw [h1, h2] at l
    have hb : b' ≠ .gone := by rintro rfl; simp [isGone] at l
    simp only [isGone_false hb, Bool.false_eq_true, if_false] at l
    exact ⟨i, s', b', rfl, h1, hb, h2, l, (dn_own h2 b).1 o⟩
 | l t => simp [Cx.dn, dnLv] at l
 | m t i => simp [Cx.dn, dnLv] at l
theorem dn_live {c : Cx} {ss : List Site} {hs : List Blk} {b : Nat} : (c.dn ss hs).live b ↔ ∃ (i : Nat) (s' : Site) (b' : Blk), hs[i]? = some b' ∧ b' ≠ Blk.gone ∧ ss[i]? = some s' ∧ c.lv s' = true ∧ c.own s' b := by
 constructor
 ·rintro ⟨s, l, o⟩
  obtain ⟨i, s', b', _, h⟩ := dn_lv l o
  exact ⟨i, s', b', h⟩
 ·rintro ⟨i, s', b', h1, hb, h2, h3, h4⟩
  refine ⟨.e i, ?_, (dn_own h2 b).2 h4⟩
  simp only [Cx.dn, dnLv, h1, h2, isGone_false hb, Bool.false_eq_true, if_false]
  exact h3
theorem dn_live' {c : Cx} {ss : List Site} {hs : List Blk} {b : Nat} (h : (c.dn ss hs).live b) : c.live b := by
 obtain ⟨i, s', b', _, _, _, h3, h4⟩ := dn_live.1 h
 exact ⟨s', h3, h4⟩
theorem dn_still {w : World} {c : Cx} {ss : List Site} {hs : List Blk} {b : Nat} : still w (c.dn ss hs) b ↔ still w c b := by
 unfold still
 constructor
 ·rintro ⟨h1, h2, h3⟩
  have h3' : ¬ (c.far b ∨ (c.live b ∧ ¬ (c.dn ss hs).live b)) := by rw [dn_live]; exact h3
  exact ⟨h1, fun h => h3' (.inr ⟨h, h2⟩), fun h => h3' (.inl h)⟩
 ·rintro ⟨h1, h2, h3⟩
  refine ⟨h1, fun h => h2 (dn_live' h), fun h => ?_⟩
  rcases h with h | h
  ·exact h3 h
  ·exact h2 h.1
theorem dn_fits {c : Cx} {hp : Hp} {w : World} (hi : Inv w c hp) {ss : List Site} {hs : List Blk} : Fits c (c.dn ss hs) (dnG hp ss) := by
 intro s ver s' ver' h hle
 unfold dnG at h
 split at h
 ·rename_i i e
  split at h
  ·rename_i hv
   cases h
   refine ⟨Nat.le_refl _, fun _ => ⟨by rw [hi.cur s, hv], ?_⟩⟩
   simp only [Cx.dn, dnLoc, idx_some e]
  ·cases h
 ·cases h
theorem dn_inv {w : World} {c : Cx} {hp : Hp} (hi : Inv w c hp) {ss : List Site} {hs : List Blk} (hn : ss.Nodup) (hm : MB hp ss ss hs) : Inv w (c.dn ss hs) (hpE 0 (hs.map fun b => (0, b))) where
 glob := hi.glob.mono fun b hb => ⟨dn_still.2 hb, rfl⟩
 cur s := by
  rw [hpE_at]
  cases s with
  | e j => simp only [atE, List.getElem?_map]; cases hs[j]? <;> rfl
  | l t => rfl
  | m t i => rfl
 ok s := by
  rw [hpE_at]
  cases s with
  | e j =>
   simp only [atE, List.getElem?_map]
   cases hb : hs[j]? with
   | none => simp [BlkOk, Cx.dn, dnLv, hb]
   | some b =>
    simp only [Option.map_some, Option.getD_some]
    obtain ⟨s', hs', h⟩ := hm.get j b hb
    rcases h with rfl | h
    ·exact dnLv_gone hb
    ·have key : ∀ (b : Blk), b ≠ .gone → hs[j]? = some b → (c.dn ss hs).lv (.e j) = c.lv s' := by
      intro b hbg hb
      simp only [Cx.dn, dnLv, hb, hs', isGone_false hbg, Bool.false_eq_true, if_false]
     by_cases hbg : b = .gone
     ·subst hbg; exact dnLv_gone hb
     ·exact h.ok ((hi.ok s').rn (dn_fits hi) (fun b hb => dn_still.2 hb) (by simp only [Cx.dn, dnLoc, hs']) (key b hbg hb) (by simp only [Cx.dn, dnEx, hs']))
  | l t => simp [atE, BlkOk, Cx.dn, dnLv]
  | m t i => simp [atE, BlkOk, Cx.dn, dnLv]
 inj s s' b l1 l2 o1 o2 := by
  obtain ⟨i, a, _, rfl, _, _, h1, h2, h3⟩ := dn_lv l1 o1
  obtain ⟨j, a', _, rfl, _, _, k1, k2, k3⟩ := dn_lv l2 o2
  have := hi.inj a a' b h2 k2 h3 k3
  subst this
  have e1 := idx_get hn h1
  have e2 := idx_get hn k1
  rw [e1] at e2
  cases e2
  rfl
 far b hl := by
  rintro (h | ⟨_, h⟩)
  ·exact hi.far b (dn_live' hl) h
  ·exact h (dn_live.1 hl)
 lt b hl := hi.lt b (dn_live' hl)
 farlt b := by
  rintro (h | ⟨h, _⟩)
  ·exact hi.farlt b h
  ·exact hi.lt b h

/-- The caller's local heap behind such a call. -/
def Cx.up (c c2 : Cx) (ss : List Site) : Cx where
 cur := fun s => match idx ss s with | some i => c.cur s + c2.cur (.e i) | none => c.cur s
 loc := fun s => match idx ss s with | some i => c2.loc (.e i) | none => c.loc s
 lv := fun s => match idx ss s with | some i => c2.lv (.e i) | none => c.lv s
 ex := fun s => match idx ss s with | some i => c2.ex (.e i) | none => c.ex s
 far := c.far
theorem up_own {c c2 : Cx} {ss : List Site} {s : Site} {i : Nat} (e : idx ss s = some i) (b : Nat) : (c.up c2 ss).own s b ↔ c2.own (.e i) b := Cx.own_eq (by simp only [Cx.up, e]) (by simp only [Cx.up, e]) b
theorem up_own0 {c c2 : Cx} {ss : List Site} {s : Site} (e : idx ss s = none) (b : Nat) : (c.up c2 ss).own s b ↔ c.own s b := Cx.own_eq (by simp only [Cx.up, e]) (by simp only [Cx.up, e]) b
theorem up_live {c c2 : Cx} {ss : List Site} {b : Nat} (h : (c.up c2 ss).live b) : c2.live b ∨ ∃ s, idx ss s = none ∧ c.lv s = true ∧ c.own s b := by
 obtain ⟨s, l, o⟩ := h
 cases e : idx ss s with
 | none => rw [up_own0 e] at o; simp only [Cx.up, e] at l; exact .inr ⟨s, e, l, o⟩
 | some i => rw [up_own e] at o; simp only [Cx.up, e] at l; exact .inl ⟨.e i, l, o⟩
theorem up_ext {w w' : World} {c c2 : Cx} {ss : List Site} {hs : List Blk} (he : Ext w (c.dn ss hs) w' c2) : Ext w c w' (c.up c2 ss) where
 os := he.os
 tape := he.tape
 output := he.output
 size := he.size
 block b hb hn := by
  obtain ⟨h1, h2⟩ := he.block b hb (fun h => hn (dn_live' h))
  refine ⟨h1, fun h => ?_⟩
  rcases up_live h with h | ⟨s, _, l, o⟩
  ·exact h2 h
  ·exact hn ⟨s, l, o⟩
 far := rfl
 cur s := by
  simp only [Cx.up]
  cases e : idx ss s with
  | none => exact .inr ⟨rfl, rfl, id⟩
  | some i =>
   have h := he.cur (.e i)
   have e1 : (c.dn ss hs).cur (.e i) = 0 := rfl
   have e2 : (c.dn ss hs).loc (.e i) = c.loc s := by simp only [Cx.dn, dnLoc, idx_some e]
   rw [e1, e2] at h
   rcases h with h | ⟨h1, h2, h3⟩
   ·exact .inl (by simp only; omega)
   ·refine .inr ⟨by simp only; omega, h2, fun h => ?_⟩
    have h4 := h3 h
    simp only [Cx.dn, dnLv, idx_some e] at h4
    split at h4
    ·rename_i q
     cases q
     split at h4
     ·cases h4
     ·exact h4
    ·cases h4
theorem up_still {w w' : World} {c c2 : Cx} {hp : Hp} (hi : Inv w c hp) {ss : List Site} {hs : List Blk} (he : Ext w (c.dn ss hs) w' c2) {b : Nat} (h : still w' c2 b) : still w' (c.up c2 ss) b := by
 refine ⟨h.1, fun hl => ?_, fun hf => ?_⟩
 ·rcases up_live hl with hl | ⟨s, e, l, o⟩
  ·exact h.2.1 hl
  ·refine h.2.2 ?_
   rw [he.far]
   refine .inr ⟨⟨s, l, o⟩, ?_⟩
   rintro ⟨i, s', b', _, _, h2, h3, h4⟩
   have := hi.inj s s' b l h3 o h4
   subst this
   exact idx_none e (List.mem_of_getElem? h2)
 ·exact h.2.2 (by rw [he.far]; exact .inl hf)
theorem up_fits {w w' : World} {c c2 : Cx} {hp : Hp} (hi : Inv w c hp) {ss : List Site} (hn : ss.Nodup) : Fits c2 (c.up c2 ss) (upG hp ss) := by
 intro s ver s' ver' h hle
 unfold upG at h
 split at h
 ·rename_i i
  split at h
  ·rename_i s2 e
   cases h
   have e2 := idx_get hn e
   simp only [Cx.up, e2, hi.cur]
   exact ⟨by omega, fun h => ⟨by omega, by simp⟩⟩
  ·cases h
 ·cases h
theorem callH_sound {P : Program} {f : FuncId} {xs args : List AV} {hs : List Blk} {r : AV} {hs' : List (Nat × Blk)} {hp : Hp} {ss : List Site} (hok : OkH P f args hs r hs') (hn : ss.Nodup) (hlen : hs'.length ≤ ss.length) (hm : MB hp ss ss hs) (ha : SubL (rnL (dnG hp ss) xs) args)
  {w : World} {c : Cx} (hi : Inv w c hp) {vs : List Value} (hx : RelL w c xs vs) :
  Calls P f vs.toArray w fun e w' => ∃ v c', e = .returned v ∧ Ext w c w' c' ∧ Inv w' c' (hpU hp ss ss hs' hp) ∧ RelV w' c' (rn (upG hp ss) r) v := by
 have hd := dn_inv hi hn hm
 have hfit := dn_fits hi (ss := ss) (hs := hs)
 refine (hok w (c.dn ss hs) vs hd (ha.rel (RelL.rn hfit (fun b hb => dn_still.2 hb) _ _ hx))).mono ?_
 rintro e w' ⟨v, c2, rfl, he, h2, hv⟩
 have hext := up_ext he
 have hst : ∀ b, still w' c2 b → still w' (c.up c2 ss) b := fun b hb => up_still hi he hb
 have hf2 := up_fits (w := w) (w' := w') (c2 := c2) hi hn
 refine ⟨v, c.up c2 ss, rfl, hext, ?_, RelV.rn hf2 hst _ _ hv⟩
 have hcur2 : ∀ i, c2.cur (.e i) = ((hs'[i]?).getD (0, .gone)).1 := fun i => by
  have := h2.cur (.e i)
  rw [hpE_at] at this
  exact this
 have hold : ∀ s b, idx ss s = none → c.lv s = true → c.own s b → ¬ (c.dn ss hs).live b := by
  intro s b e l o hl
  obtain ⟨i, s', b', _, _, k2, k3, k4⟩ := dn_live.1 hl
  have := hi.inj s s' b l k3 o k4
  subst this
  exact idx_none e (List.mem_of_getElem? k2)
 have hnot2 : ∀ s b, idx ss s = none → c.lv s = true → c.own s b → ¬ c2.live b := by
  intro s b e l o hl
  exact (he.block b (hi.lt b ⟨s, l, o⟩) (hold s b e l o)).2 hl
 refine ⟨h2.glob.mono fun b hb => ⟨hst b hb, rfl⟩, fun s => ?_, fun s => ?_, fun s s' b l1 l2 o1 o2 => ?_, fun b hl => ?_, fun b hl => ?_, fun b hb => ?_⟩
 ·rw [hpU_get _ _ _ hn]
  simp only [Cx.up]
  cases e : idx ss s with
  | none => simp [hi.cur s]
  | some i => simp only [hi.cur s, hcur2]
 ·rw [hpU_get _ _ _ hn]
  cases e : idx ss s with
  | none =>
   simp only
   refine (hi.ok s).move hext (by simp only [Cx.up, e]) (by simp only [Cx.up, e]) (by simp only [Cx.up, e]) fun b l o => ?_
   exact (he.block b (hi.lt b ⟨s, l, o⟩) (hold s b e l o)).1
  | some i =>
   simp only
   have := h2.ok (.e i)
   rw [hpE_at] at this
   exact this.rn hf2 hst (by simp only [Cx.up, e]) (by simp only [Cx.up, e]) (by simp only [Cx.up, e])
 ·cases e1 : idx ss s with
  | none =>
   rw [up_own0 e1] at o1
   simp only [Cx.up, e1] at l1
   cases e2 : idx ss s' with
   | none => rw [up_own0 e2] at o2; simp only [Cx.up, e2] at l2; exact hi.inj s s' b l1 l2 o1 o2
   | some j => rw [up_own e2] at o2; simp only [Cx.up, e2] at l2; exact absurd ⟨.e j, l2, o2⟩ (hnot2 s b e1 l1 o1)
  | some i =>
   rw [up_own e1] at o1
   simp only [Cx.up, e1] at l1
   cases e2 : idx ss s' with
   | none => rw [up_own0 e2] at o2; simp only [Cx.up, e2] at l2; exact absurd ⟨.e i, l1, o1⟩ (hnot2 s' b e2 l2 o2)
   | some j =>
    rw [up_own e2] at o2
    simp only [Cx.up, e2] at l2
    have := h2.inj _ _ b l1 l2 o1 o2
    cases this
    have q1 := idx_some e1
    have q2 := idx_some e2
    rw [q1] at q2
    cases q2
    rfl
 ·rcases up_live hl with h | ⟨s, e, l, o⟩
  ·intro hf
   exact h2.far b h (by rw [he.far]; exact .inl hf)
  ·exact hi.far b ⟨s, l, o⟩
 ·rcases up_live hl with h | ⟨s, e, l, o⟩
  ·exact h2.lt b h
  ·exact Nat.lt_of_lt_of_le (hi.lt b ⟨s, l, o⟩) he.size
 ·exact Nat.lt_of_lt_of_le (hi.farlt b hb) he.size
end Go.Proofs.YtonolfpnidaflaaGreatDoor.E

/- The abstract machine of this claim, part Q: maps; copy, clear, cap; what is held against nil. No conditions. -/
namespace Go.Proofs.YtonolfpnidaflaaGreatDoor.E
open Go
set_option linter.unusedSimpArgs false
set_option linter.unusedVariables false
set_option linter.unusedSectionVars false
set_option maxRecDepth 20000

/-! ### Maps -/
def tyMap (P : Program) (t : TypeId) : Option (MK × TypeId) :=
 match P.underlying t with
 | some (.map ky el) => match P.underlying ky with
  | some (.int k) => some (.i k, el)
  | some .string => some (.s, el)
  | _ => none
 | _ => none
def keyEq : Value → Value → Bool
 | .int _ a, .int _ b => a == b
 | .string a, .string b => a == b
 | _, _ => false
def mget : List (Value × Value) → Value → Option Value
 | [], _ => none
 | (k, v) :: r, x => if keyEq k x = true then some v else mget r x
def mput : List (Value × Value) → Value → Value → List (Value × Value)
 | [], x, v => [(x, v)]
 | (k, u) :: r, x, v => if keyEq k x = true then (x, v) :: r else (k, u) :: mput r x v
theorem keyEq_iff {t : MK} {a b : Value} (ha : keyIs t a = true) (hb : keyIs t b = true) : keyEq a b = true ↔ a = b := by
 cases t <;> cases a <;> cases b <;> simp_all [keyIs, keyEq, MapKept.bytes_beq]
theorem tyMap_spec {P : Program} {t el : TypeId} {mk : MK} (h : tyMap P t = some (mk, el)) : ∃ ky d, P.underlying t = some (.map ky el) ∧ P.underlying ky = some d ∧ ∀ v, keyIs mk v = true → MapKept.IsKey d v := by
 unfold tyMap at h
 split at h
 ·rename_i ky el' hu
  split at h
  ·rename_i k hk
   cases h
   exact ⟨ky, _, hu, hk, fun v hv => by cases v <;> simp_all [keyIs, MapKept.IsKey]⟩
  ·rename_i hk
   cases h
   exact ⟨ky, _, hu, hk, fun v hv => by cases v <;> simp_all [keyIs, MapKept.IsKey]⟩
  ·cases h
 ·cases h
def kv (e : MapEntry) : Value × Value := (e.key, e.val)
theorem findNow_mget {d : TypeDesc} {t : MK} (hd : ∀ v, keyIs t v = true → MapKept.IsKey d v) {k : Value} (hk : keyIs t k = true) (v : Value) : ∀ (l : List MapEntry) (i : Nat), (∀ x ∈ l, keyIs t x.key = true) →
  (Instr.findNow d k l i = some none ∧ mget (l.map kv) k = none ∧ mput (l.map kv) k v = l.map kv ++ [(k, v)]) ∨
  ∃ j e, Instr.findNow d k l i = some (some (i + j, e.val)) ∧ l[j]? = some e ∧ e.key = k ∧ mget (l.map kv) k = some e.val ∧ mput (l.map kv) k v = (l.map kv).set j (k, v)
 | [], _, _ => .inl ⟨rfl, rfl, rfl⟩
 | e :: es, i, h => by
  obtain ⟨r, hr, hiff⟩ := MapKept.sameNow_of_keys (hd k hk) (hd _ (h e (.head _)))
  have hke := keyEq_iff (h e (.head _)) hk
  cases r with
  | true =>
   have hq := hiff.1 rfl
   have h1 : keyEq e.key k = true := hke.2 hq.symm
   exact .inr ⟨0, e, by simp [Instr.findNow, hr], rfl, hq.symm, by simp [mget, kv, h1], by simp [mput, kv, h1]⟩
  | false =>
   have hne : e.key ≠ k := fun q => by have := hiff.2 q.symm; cases this
   have h0 : keyEq e.key k = false := by
    cases hq : keyEq e.key k with
    | false => rfl
    | true => exact absurd (hke.1 hq) hne
   rcases findNow_mget hd hk v es (i + 1) (fun x hx => h x (.tail _ hx)) with ⟨h1, h2, h3⟩ | ⟨j, e', h1, h2, h3, h4, h5⟩
   ·exact .inl ⟨by simp [Instr.findNow, hr, h1], by simp [mget, kv, h0]; exact h2, by simp [mput, kv, h0]; exact h3⟩
   ·exact .inr ⟨j + 1, e', by simp [Instr.findNow, hr, h1]; omega, by simpa using h2, h3, by simp [mget, kv, h0]; exact h4, by simp [mput, kv, h0]; exact h5⟩

/-- The zero value of a type of one cell. -/
def tyZ1 (P : Program) (t : TypeId) : Option Value :=
 match P.info? t with
 | some i => match i.zero with
  | some z => if plain z = true then some z else none
  | none => none
 | none => none
theorem run_zero1 {P : Program} {t : TypeId} {z : Value} (h : tyZ1 P t = some z) (w : World) : (zeroValue t).run P w = .ok z w ∧ plain z = true := by
 unfold tyZ1 at h
 split at h
 ·rename_i i hi
  split at h
  ·rename_i z0 hz0
   split at h
   ·rename_i hp
    cases h
    exact ⟨by simp [zeroValue, run_typeInfo w hi, hz0], hp⟩
   ·cases h
  ·cases h
 ·cases h
def ALookup (P : Program) (t : TypeId) (x k : AV) (ok : Bool) (hp : Hp) (K : AV → Prop) : Prop :=
 match x, k with
 | .map s ver, .val kk => match tyMap P t with
  | some (mk, el) => keyIs mk kk = true ∧ match hp.get s with
   | (n, .map mk' es) => n = ver ∧ mk' = mk ∧ match tyZ1 P el with
    | some z => K (if ok = true then .tup [.val ((mget es kk).getD z), .val (.bool (mget es kk).isSome)] else .val ((mget es kk).getD z))
    | none => False
   | _ => False
  | none => False
 | _, _ => False
theorem Inv.map {w : World} {c : Cx} {hp : Hp} (h : Inv w c hp) {s : Site} {n : Nat} {t : MK} {es : List (Value × Value)} (e : hp.get s = (n, .map t es)) :
  c.cur s = n ∧ c.lv s = true ∧ (∀ e ∈ es, keyIs t e.1 = true ∧ plain e.2 = true) ∧ ∃ b cp ents clock, c.loc s = some (b, cp) ∧ w.heap[b]? = some (.map ents clock) ∧ ents.toList.map kv = es := by
 have h1 := h.cur s
 have h2 := h.ok s
 rw [e] at h1 h2
 simp only [BlkOk] at h2
 exact ⟨h1, h2.1, h2.2.1, h2.2.2⟩
theorem mget_mem {es : List (Value × Value)} {k v : Value} (h : mget es k = some v) : ∃ k', (k', v) ∈ es := by
 induction es with
 | nil => cases h
 | cons e es ih =>
  obtain ⟨a, b⟩ := e
  simp only [mget] at h
  split at h
  ·cases h; exact ⟨a, .head _⟩
  ·obtain ⟨k', hk⟩ := ih h; exact ⟨k', .tail _ hk⟩
theorem ALookup_sound {P : Program} {t : TypeId} {x k : AV} {ok : Bool} {hp : Hp} {K : AV → Prop} (h : ALookup P t x k ok hp K) {w : World} {c : Cx} (hi : Inv w c hp) {v u : Value} (hx : RelV w c x v) (hk : RelV w c k u) :
  ∃ r a, (Instr.lookup t v u ok).run P w = .ok r w ∧ RelV w c a r ∧ K a := by
 unfold ALookup at h
 split at h
 ·rename_i s ver u0
  split at h
  ·rename_i mk el hm
   obtain ⟨hkk, h⟩ := h
   split at h
   ·rename_i n mk' es e
    obtain ⟨rfl, rfl, h⟩ := h
    split at h
    ·rename_i z hz
     obtain ⟨g1, _, g2, b, cp, ents, clock, g3, g4, g5⟩ := hi.map e
     simp only [RelV] at hx hk
     obtain ⟨rfl, hpk⟩ := hk
     obtain ⟨b', cp', e1, rfl⟩ := hx.2 g1.symm
     rw [g3] at e1
     cases e1
     obtain ⟨ky, d, hu, hd, hkey⟩ := tyMap_spec hm
     obtain ⟨hz2, hpz⟩ := run_zero1 hz w
     have hkeys : ∀ x ∈ ents.toList, keyIs mk' x.key = true := fun x hx => (g2 (kv x) (by rw [← g5]; exact List.mem_map_of_mem hx)).1
     have hrun : ∃ rv found, (Instr.lookup t (.map (some b)) u ok).run P w = .ok (if ok = true then .tuple #[rv, .bool found] else rv) w ∧ rv = (mget es u).getD z ∧ found = (mget es u).isSome := by
      rcases findNow_mget hkey hkk z ents.toList 0 hkeys with ⟨h1, h2, _⟩ | ⟨j, e', h1, h2, h3, h4, _⟩
      ·rw [g5] at h2
       refine ⟨z, false, ?_, by rw [h2]; rfl, by rw [h2]; rfl⟩
       simp only [Instr.lookup, Sem.run_bind, run_underlying hu, Result.andThen_ok, Sem.run_pure, MapKept.run_getObj_map g4, MapKept.run_checkKey hd (hkey _ hkk), MapKept.run_findKey hd h1, hz2]
      ·rw [g5] at h4
       refine ⟨e'.val, true, ?_, by rw [h4]; rfl, by rw [h4]; rfl⟩
       simp only [Instr.lookup, Sem.run_bind, run_underlying hu, Result.andThen_ok, Sem.run_pure, MapKept.run_getObj_map g4, MapKept.run_checkKey hd (hkey _ hkk), MapKept.run_findKey hd h1]
     obtain ⟨rv, found, hr, rfl, rfl⟩ := hrun
     have hpl : plain ((mget es u).getD z) = true := by
      cases hq : mget es u with
      | none => exact hpz
      | some v =>
       obtain ⟨k', hk'⟩ := mget_mem hq
       exact (g2 _ hk').2
     refine ⟨_, _, hr, ?_, h⟩
     cases ok
     ·simp only [Bool.false_eq_true, if_false, RelV]; exact ⟨trivial, hpl⟩
     ·simp only [if_true, RelV, RelL]
      exact ⟨_, rfl, _, _, rfl, ⟨rfl, hpl⟩, _, _, rfl, ⟨rfl, rfl⟩, rfl⟩
    ·exact h.elim
   ·exact h.elim
  ·exact h.elim
 ·exact h.elim

def AMakeMap (P : Program) (t : TypeId) (s : Site) (hp : Hp) (K : AV → Hp → Prop) : Prop :=
 match tyMap P t with
 | some (mk, _) => K (.map s ((hp.get s).1 + 1)) (hp.set s ((hp.get s).1 + 1) (.map mk []))
 | none => False
theorem AMakeMap_sound {P : Program} {t : TypeId} {s : Site} {hp : Hp} {K : AV → Hp → Prop} (h : AMakeMap P t s hp K) {w : World} {c : Cx} (hi : Inv w c hp) : Gives P (Instr.makeMap t none) w c K := by
 unfold AMakeMap at h
 split at h
 ·rename_i mk el hm
  have he : Ext w c (w.alloc (.map #[] 0)) c := (Ext.alloc_still _ hi).1
  obtain ⟨h1, h2⟩ := hi.lay (w' := w.alloc (.map #[] 0)) s (some (w.heap.size, 0)) (.map mk []) he (fun b hb => heap_old w _ b (hi.lt b hb)) (fun b cp e => by cases e; exact ⟨Nat.le_refl _, by rw [size_alloc]; omega⟩) (by
   simp only [BlkOk]
   exact ⟨by simp [Cx.lay], fun e he => by simp at he, w.heap.size, 0, #[], 0, by simp [Cx.lay], by rw [heap_new], rfl⟩)
  refine ⟨.map (some w.heap.size), _, _, _, _, ?_, h1, h2, ?_, h⟩
  ·simp only [Instr.makeMap, Sem.run_bind, run_newObj, Result.andThen_ok, Sem.run_pure]
   rfl
  ·simp only [RelV, Cx.lay, if_true, hi.cur s, Nat.le_refl, true_and]
   exact fun _ => ⟨w.heap.size, 0, rfl, rfl⟩
 ·exact h.elim

def AMapUpd (P : Program) (t : TypeId) (x k v : AV) (hp : Hp) (K : Hp → Prop) : Prop :=
 match x, k, v with
 | .map s ver, .val kk, .val vv => match tyMap P t with
  | some (mk, _) => keyIs mk kk = true ∧ match hp.get s with
   | (n, .map mk' es) => n = ver ∧ mk' = mk ∧ K (hp.set s n (.map mk (mput es kk vv)))
   | _ => False
  | none => False
 | _, _, _ => False
theorem mput_ok {t : MK} {es : List (Value × Value)} {k v : Value} (h : ∀ e ∈ es, keyIs t e.1 = true ∧ plain e.2 = true) (hk : keyIs t k = true) (hv : plain v = true) : ∀ e ∈ mput es k v, keyIs t e.1 = true ∧ plain e.2 = true := by
 induction es with
 | nil => intro e he; simp only [mput, List.mem_singleton] at he; subst he; exact ⟨hk, hv⟩
 | cons x es ih =>
  obtain ⟨a, b⟩ := x
  intro e he
  simp only [mput] at he
  split at he
  ·rcases List.mem_cons.1 he with rfl | he
   ·exact ⟨hk, hv⟩
   ·exact h e (.tail _ he)
  ·rcases List.mem_cons.1 he with rfl | he
   ·exact h _ (.head _)
   ·exact ih (fun e he => h e (.tail _ he)) e he
theorem AMapUpd_sound {P : Program} {t : TypeId} {x k v : AV} {hp : Hp} {K : Hp → Prop} (h : AMapUpd P t x k v hp K) {w : World} {c : Cx} (hi : Inv w c hp) {a u q : Value} (hx : RelV w c x a) (hk : RelV w c k u) (hv : RelV w c v q) :
  ∃ w' hp', (Instr.mapUpdate t a u q).run P w = .ok () w' ∧ Ext w c w' c ∧ Inv w' c hp' ∧ K hp' := by
 unfold AMapUpd at h
 split at h
 ·rename_i s ver u0 q0
  split at h
  ·rename_i mk el hm
   obtain ⟨hkk, h⟩ := h
   split at h
   ·rename_i n mk' es e
    obtain ⟨rfl, rfl, h⟩ := h
    obtain ⟨g1, hlv, g2, b, cp, ents, clock, g3, g4, g5⟩ := hi.map e
    simp only [RelV] at hx hk hv
    obtain ⟨rfl, hpk⟩ := hk
    obtain ⟨rfl, hpv⟩ := hv
    obtain ⟨b', cp', e1, rfl⟩ := hx.2 g1.symm
    rw [g3] at e1
    cases e1
    obtain ⟨ky, d, hu, hd, hkey⟩ := tyMap_spec hm
    have hkeys : ∀ x ∈ ents.toList, keyIs mk' x.key = true := fun x hx => (g2 (kv x) (by rw [← g5]; exact List.mem_map_of_mem hx)).1
    have fin : ∀ (ents' : Array MapEntry) (clock' : Nat), ents'.toList.map kv = mput es u q → (Instr.mapUpdate t (.map (some b)) u q).run P w = .ok () { w with heap := w.heap.setIfInBounds b (.map ents' clock') } →
      ∃ w' hp', (Instr.mapUpdate t (.map (some b)) u q).run P w = .ok () w' ∧ Ext w c w' c ∧ Inv w' c hp' ∧ K hp' := by
     intro ents' clock' h1 h2
     obtain ⟨k1, k2⟩ := MapKept.heap_set (o' := .map ents' clock') g4
     have hup : Upd w b (.map ents' clock') { w with heap := w.heap.setIfInBounds b (.map ents' clock') } := ⟨rfl, rfl, rfl, by simp, k1, k2⟩
     refine ⟨_, _, h2, hup.ext (Cx.live_loc hlv g3), ?_, h⟩
     have hn : n = (hp.get s).1 := by rw [e]
     rw [hn]
     refine hi.put hlv g3 hup ?_
     simp only [BlkOk]
     exact ⟨hlv, mput_ok g2 hkk hpv, b, cp, ents', clock', g3, k1, h1⟩
    rcases findNow_mget hkey hkk q ents.toList 0 hkeys with ⟨h1, _, h3⟩ | ⟨j, e', h1, h2, h3, _, h5⟩
    ·refine fin (ents.push { key := u, val := q, born := clock }) (clock + 1) ?_ ?_
     ·rw [g5] at h3
      rw [h3, Array.toList_push, List.map_append, g5]
      rfl
     ·simp only [Instr.mapUpdate, Sem.run_bind, run_underlying hu, Result.andThen_ok, Sem.run_pure, MapKept.run_getObj_map g4, MapKept.run_checkKey hd (hkey _ hkk), MapKept.run_findKey hd h1, MapKept.run_setObj_map _ g4]
    ·refine fin (ents.modify j fun e => { e with key := u, val := q }) clock ?_ ?_
     ·rw [g5] at h5
      rw [h5, ← g5]
      apply List.ext_getElem?
      intro i
      simp only [List.getElem?_map, Array.getElem?_toList, Array.getElem?_modify, List.getElem?_set, List.length_map, Array.length_toList]
      have hj := lt_of_get h2
      simp only [Array.length_toList] at hj
      by_cases hij : j = i
      ·subst hij
       simp [hj, kv]
      ·simp [hij]
     ·have hke : ((ents[j]?).map (·.key)).getD u = u := by
       rw [Array.getElem?_toList] at h2
       simp [h2, h3]
      have hks := MapKept.run_keyThatStays (P := P) (w := w) (hkey _ hkk)
      rw [Nat.zero_add] at h1
      simp only [Instr.mapUpdate, Sem.run_bind, run_underlying hu, Result.andThen_ok, Sem.run_pure, MapKept.run_getObj_map g4, MapKept.run_checkKey hd (hkey _ hkk), MapKept.run_findKey hd h1, hke, hks, MapKept.run_setObj_map _ g4]
   ·exact h.elim
  ·exact h.elim
 ·exact h.elim

/-! ### Copy, clear, cap -/
/-- Cells of a row of the call's own, overwritten from an element on. -/
theorem row_write {P : Program} {w : World} {c : Cx} {hp : Hp} (hi : Inv w c hp) {s : Site} {n k off len : Nat} {t : TypeId} {q : Option Nat} {rows : List (List AV)} (e : hp.get s = (n, .row t k q rows)) {b cp : Nat} (hb : c.loc s = some (b, cp)) {ys : List (List AV)} {news : List Value}
  (hy : ∀ r ∈ ys, r.length = k) (hr : RVL w (still w c) ys.flatten news) (ho : ∀ u ∈ news, u.oneCell' = true) (hfit : off + ys.length ≤ rows.length) :
  ∃ w', (storeCells ⟨b, off * k, none⟩ news).run P w = .ok () w' ∧ Ext w c w' c ∧ Inv w' c (hp.set s n (.row t k q (rows.take off ++ ys ++ rows.drop (off + ys.length)))) := by
 obtain ⟨g1, hlv, h0, hkr, g2⟩ := hi.row e
 rcases g2 with ⟨g3, _⟩ | ⟨b', cp', vs, rest, g3, hq, hcp, g4, g5, hov, g6⟩
 ·rw [g3] at hb; cases hb
 ·rw [g3] at hb
  cases hb
  have hl := g6.length
  rw [flatten_len hkr] at hl
  have hnl := hr.length
  rw [flatten_len hy] at hnl
  have hm : off * k + ys.length * k ≤ rows.length * k := by rw [← Nat.add_mul]; exact Nat.mul_le_mul_right _ hfit
  obtain ⟨w', hrun, hu⟩ := run_storeCells_upd (P := P) (b := b) (off := off * k) (t := t) news 0 w (vs ++ rest) g4 (by simp only [List.length_append]; omega) ho
  have hn : n = (hp.get s).1 := by rw [e]
  have e1 : (vs ++ rest).take (off * k) = vs.take (off * k) := List.take_append_of_le_length (by omega)
  have e2 : (vs ++ rest).drop (off * k + news.length) = vs.drop (off * k + news.length) ++ rest := List.drop_append_of_le_length (by omega)
  rw [Nat.add_zero, e1, e2, ← List.append_assoc] at hu
  obtain ⟨x1, x2⟩ := row_upd hi hlv g3 hu (rows := rows.take off ++ ys ++ rows.drop (off + ys.length)) rfl hq hcp h0 (fun r hr => by
   rcases List.mem_append.1 hr with hr | hr
   ·rcases List.mem_append.1 hr with hr | hr
    ·exact hkr r (List.mem_of_mem_take hr)
    ·exact hy r hr
   ·exact hkr r (List.mem_of_mem_drop hr)) (by
   simp only [List.length_append, List.length_take, List.length_drop] at g5 ⊢
   omega) (fun u hu => by
   simp only [List.mem_append] at hu
   rcases hu with ((hu | hu) | hu) | hu
   ·exact hov u (List.mem_append_left _ (List.mem_of_mem_take hu))
   ·exact ho u hu
   ·exact hov u (List.mem_append_left _ (List.mem_of_mem_drop hu))
   ·exact hov u (List.mem_append_right _ hu)) (by
   rw [flatten_splice hkr hy, flatten_len hy, hnl]
   exact ((g6.take _).append hr).append (g6.drop _))
  rw [hn]
  exact ⟨w', hrun, x1, x2⟩
/-- Where a slice of such a row begins. -/
theorem own_addr {w : World} {c : Cx} {hp : Hp} (hi : Inv w c hp) {s : Site} {n k off len : Nat} {u : Value} (hc : c.cur s = n) (hu : RelV w c (.own s n k off len) u) : (c.loc s = none ∧ u = .slice none 0 0 ∧ off = 0 ∧ len = 0) ∨ ∃ b cp a, c.loc s = some (b, cp) ∧ u = .slice (some a) len (cp - off) ∧ off + len ≤ cp ∧ (0 < len → a = ⟨b, off * k, none⟩) := by
 simp only [RelV] at hu
 have h2 := hu.2 hc.symm
 cases hl : c.loc s with
 | none =>
  rw [hl] at h2
  obtain ⟨rfl, rfl, rfl⟩ := h2
  exact .inl ⟨rfl, rfl, rfl, rfl⟩
 | some x =>
  obtain ⟨b, cp⟩ := x
  rw [hl] at h2
  obtain ⟨h3, a, rfl, h4⟩ := h2
  exact .inr ⟨b, cp, a, rfl, rfl, h3, fun h => h4 (.inl (by omega))⟩

def ACopy (P : Program) (ts : Array TypeId) (x y : AV) (hp : Hp) (K : AV → Hp → Prop) : Prop :=
 match ts.toList, x with
 | [t, _], .own s ver k off len => match (tyEl P t).bind (tySz P) with
  | some k0 => k0 = k ∧ match hp.get s with
   | (n, .row t' k2 q rows) => n = ver ∧ k2 = k ∧ off + len ≤ rows.length ∧ match y.rowsOf hp k with
    | some ys => K (.val (.int .i64 (min ys.length len : Nat))) (hp.set s n (.row t' k q (rows.take off ++ ys.take len ++ rows.drop (off + min ys.length len))))
    | none => False
   | _ => False
  | none => False
 | _, _ => False
theorem ACopy_sound {P : Program} {ts : Array TypeId} {x y : AV} {hp : Hp} {K : AV → Hp → Prop} (h : ACopy P ts x y hp K) {w : World} {c : Cx} (hi : Inv w c hp) (ty : TypeId) {u v : Value} (hu : RelV w c x u) (hv : RelV w c y v) : Gives P (Builtin.copy_ ts ty #[u, v]) w c K := by
 unfold ACopy at h
 split at h
 ·rename_i t t2 s ver k off len hts
  have hts' : ts = #[t, t2] := by rw [← hts]
  subst hts'
  split at h
  ·rename_i k0 hk0
   obtain ⟨rfl, h⟩ := h
   obtain ⟨el, he, hsz⟩ := Option.bind_eq_some_iff.1 hk0
   split at h
   ·rename_i n t' k2 q rows e
    obtain ⟨rfl, rfl, hlen, h⟩ := h
    split at h
    ·rename_i ys hys
     obtain ⟨g1, hlv, h0, hkr, g2⟩ := hi.row e
     have hrows := hv.rows hi hys
     have hsrc : ∃ m cp2 a, v = .slice a ys.length cp2 ∧ (a = none → ys = []) ∧ (∀ r ∈ ys, r.length = k2) ∧ m = min ys.length len ∧ ∃ news, RVL w (still w c) (ys.take len).flatten news ∧ (∀ u ∈ news, u.oneCell' = true) ∧ (Builtin.firstCells k2 (min ys.length len) v).run P w = .ok news.toArray w := by
      rcases hrows with ⟨rfl, rfl⟩ | ⟨a, cp2, rfl, hc2, hl2, vs, h1, h2, h3⟩
      ·exact ⟨_, 0, none, rfl, fun _ => rfl, fun r hr => by simp at hr, rfl, [], by simp [RVL], fun u hu => by simp at hu, by simpa using run_firstCells_none w k2 0 0 0⟩
      ·refine ⟨_, cp2, some a, rfl, (fun e => by cases e), hl2, rfl, vs.take (min ys.length len * k2), ?_, fun u hu => h2 u (List.mem_of_mem_take hu), ?_⟩
       ·rw [flatten_take hl2]
        have hvl := h1.length
        rw [flatten_len hl2] at hvl
        by_cases hm : ys.length ≤ len
        ·rw [Nat.min_eq_left hm, ← hvl, List.take_length, List.take_of_length_le (by rw [flatten_len hl2]; exact Nat.mul_le_mul_right _ hm)]
         exact h1
        ·rw [Nat.min_eq_right (by omega)]
         exact h1.take _
       ·have hvl := h1.length
        rw [flatten_len hl2] at hvl
        refine run_firstCells_some (P := P) w k2 _ a _ cp2 _ ?_ fun j x hx => ?_
        ·rw [List.length_take, hvl]
         exact Nat.min_eq_left (Nat.mul_le_mul_right _ (Nat.min_le_left _ _))
        ·rw [List.getElem?_take] at hx
         split at hx
         ·exact h3 j x hx
         ·cases hx
     obtain ⟨_, cp2, a2, rfl, ha2, hyk, -, news, hr1, hr2, hr3⟩ := hsrc
     have hl3 : (ys.take len).length = min ys.length len := by simp [Nat.min_comm]
     have hdrop : off + min ys.length len = off + (ys.take len).length := by rw [hl3]
     have hks : ∀ r ∈ ys.take len, r.length = k2 := fun r hr => hyk r (List.mem_of_mem_take hr)
     have hres : RelV w c (.val (.int .i64 (min ys.length len : Nat))) (.int .i64 ((min ys.length len : Nat) : Int)) := by simp only [RelV]; exact ⟨trivial, rfl⟩
     rcases own_addr hi g1 hu with ⟨g3, rfl, rfl, rfl⟩ | ⟨b, cp, a, g3, rfl, g4, g5⟩
     ·rcases g2 with ⟨_, rfl, _⟩ | ⟨b, cp, _, _, g4, _⟩
      ·refine ⟨.int .i64 0, _, w, c, _, ?_, Ext.refl _ _, ?_, by simpa using hres, h⟩
       ·simp only [Nat.min_zero] at hr3
        simp [Builtin.copy_, run_underlying (und_of_tyEl he), run_sizeOf w hsz, Builtin.lenOf, hr3, goInt]
       ·have := hi.upd (Ext.refl w c) s n (.row t' k2 q []) (fun _ _ => ⟨rfl, rfl, rfl, rfl⟩) (fun _ _ _ _ _ => rfl) g1 (by have := hi.ok s; rw [e] at this; exact this) fun b l e2 => ⟨hi.lt b ⟨s, l, e2⟩, hi.far b ⟨s, l, e2⟩, fun s' hs l' e' => hs (hi.inj s' s b l' l e' e2)⟩
        simpa using this
      ·rw [g3] at g4; cases g4
     ·by_cases hz : len = 0
      ·subst hz
       refine ⟨.int .i64 0, _, w, c, _, ?_, Ext.refl _ _, ?_, by simpa using hres, h⟩
       ·simp only [Nat.min_zero] at hr3
        have hn0 : news = [] := List.eq_nil_of_length_eq_zero (by have := hr1.length; simpa using this)
        subst hn0
        simp [Builtin.copy_, run_underlying (und_of_tyEl he), run_sizeOf w hsz, Builtin.lenOf, hr3, goInt, storeCells]
       ·have := hi.upd (Ext.refl w c) s n (.row t' k2 q rows) (fun _ _ => ⟨rfl, rfl, rfl, rfl⟩) (fun _ _ _ _ _ => rfl) g1 (by have := hi.ok s; rw [e] at this; exact this) fun b l e2 => ⟨hi.lt b ⟨s, l, e2⟩, hi.far b ⟨s, l, e2⟩, fun s' hs l' e' => hs (hi.inj s' s b l' l e' e2)⟩
        simpa using this
      ·have ha := g5 (by omega)
       subst ha
       obtain ⟨w', hrun, x1, x2⟩ := row_write (P := P) hi e g3 (off := off) (len := len) hks hr1 hr2 (by rw [hl3]; omega)
       rw [← hdrop] at x2
       refine ⟨_, _, w', c, _, ?_, x1, x2, RelV.ext x1 _ _ hres, h⟩
       simp [Builtin.copy_, run_underlying (und_of_tyEl he), run_sizeOf w hsz, Builtin.lenOf, hr3, goInt, hrun]
    ·exact h.elim
   ·exact h.elim
  ·exact h.elim
 ·exact h.elim

def AClear (P : Program) (ts : Array TypeId) (x : AV) (hp : Hp) (K : AV → Hp → Prop) : Prop :=
 match ts.toList, x with
 | [t], .own s ver k off len => match tyEl P t with
  | some el => match tyZ P el with
   | some z => z.length = k ∧ match hp.get s with
    | (n, .row t' k2 q rows) => n = ver ∧ k2 = k ∧ off + len ≤ rows.length ∧ K (.val (.tuple #[])) (hp.set s n (.row t' k q (rows.take off ++ List.replicate len z ++ rows.drop (off + len))))
    | _ => False
   | none => False
  | none => False
 | _, _ => False
theorem AClear_sound {P : Program} {ts : Array TypeId} {x : AV} {hp : Hp} {K : AV → Hp → Prop} (h : AClear P ts x hp K) {w : World} {c : Cx} (hi : Inv w c hp) (ty : TypeId) {u : Value} (hu : RelV w c x u) : Gives P (Builtin.clear_ ts ty #[u]) w c K := by
 unfold AClear at h
 split at h
 ·rename_i t s ver k off len hts
  have hts' : ts = #[t] := by rw [← hts]
  subst hts'
  split at h
  ·rename_i el he
   split at h
   ·rename_i z hz
    obtain ⟨hzk, h⟩ := h
    split at h
    ·rename_i n t' k2 q rows e
     obtain ⟨rfl, rfl, hlen, h⟩ := h
     obtain ⟨g1, hlv, h0, hkr, g2⟩ := hi.row e
     obtain ⟨zv, hz1, hz2, hz3, _⟩ := run_zero hz w c
     have hzs : zv.cells.size = k2 := by have := hz2.length; simp only [Array.length_toList] at this; omega
     have hm := made_cells zv.cells len (by omega)
     have hzc : (Builtin.zeroCells zv.cells len).toList = (List.replicate len zv.cells.toList).flatten := hm
     have same : len = 0 → Inv w c (hp.set s n (.row t' k2 q (rows.take off ++ List.replicate len z ++ rows.drop (off + len)))) := by
      intro hz0
      subst hz0
      have := hi.upd (Ext.refl w c) s n (.row t' k2 q rows) (fun _ _ => ⟨rfl, rfl, rfl, rfl⟩) (fun _ _ _ _ _ => rfl) g1 (by have := hi.ok s; rw [e] at this; exact this) fun b l e2 => ⟨hi.lt b ⟨s, l, e2⟩, hi.far b ⟨s, l, e2⟩, fun s' hs l' e' => hs (hi.inj s' s b l' l e' e2)⟩
      simpa using this
     have hres : RelV w c (.val (.tuple #[])) (.tuple #[]) := by simp only [RelV]; exact ⟨trivial, rfl⟩
     rcases own_addr hi g1 hu with ⟨g3, rfl, rfl, rfl⟩ | ⟨b, cp, a, g3, rfl, g4, g5⟩
     ·exact ⟨.tuple #[], _, w, c, _, by simp [Builtin.clear_, run_underlying (und_of_tyEl he)], Ext.refl _ _, same rfl, hres, h⟩
     ·cases len with
      | zero => exact ⟨.tuple #[], _, w, c, _, by simp [Builtin.clear_, run_underlying (und_of_tyEl he)], Ext.refl _ _, same rfl, hres, h⟩
      | succ len =>
       have ha := g5 (by omega)
       subst ha
       have hks : ∀ r ∈ List.replicate (len + 1) z, r.length = k2 := fun r hr => by rw [List.eq_of_mem_replicate hr]; exact hzk
       obtain ⟨w', hrun, x1, x2⟩ := row_write (P := P) hi e g3 (off := off) (len := len + 1) hks (rvl_replicate (hz2.rvl (tyz_free hz)) _) (fun u hu => by
        obtain ⟨l, hl, hu⟩ := List.mem_flatten.1 hu
        rw [List.eq_of_mem_replicate hl] at hu
        exact hz3 u hu) (by simpa using hlen)
       rw [List.length_replicate] at x2
       refine ⟨_, _, w', c, _, ?_, x1, x2, RelV.ext x1 _ _ hres, h⟩
       simp only [Builtin.clear_, List.getElem?_toArray, List.getElem?_cons_zero, Sem.run_bind, run_underlying (und_of_tyEl he), Result.andThen_ok, hz1, hzc, hrun, Sem.run_pure]
    ·exact h.elim
   ·exact h.elim
  ·exact h.elim
 ·exact h.elim

def ACap (P : Program) (ts : Array TypeId) (x : AV) (hp : Hp) (K : AV → Hp → Prop) : Prop :=
 match ts.toList, x with
 | [t], .own s ver k off len => tyEl P t ≠ none ∧ match hp.get s with
  | (n, .row t' k2 q rows) => n = ver ∧ match q with
   | some cp => K (.val (.int .i64 (cp - off : Nat))) hp
   | none => ∀ cp : Nat, off + len ≤ cp → rows.length ≤ cp → cp ≤ maxLen → K (.val (.int .i64 (cp - off : Nat))) (hp.set s n (.row t' k2 (some cp) (rows ++ List.replicate (cp - rows.length) (List.replicate k2 .junk))))
  | _ => False
 | [t], .val (.slice none 0 0) => tyEl P t ≠ none ∧ K (.val (.int .i64 0)) hp
 | [t], .list _ rows => tyEl P t ≠ none ∧ ∀ cp : Nat, rows.length ≤ cp → K (.val (.int .i64 cp)) hp
 | _, _ => False
theorem rvl_junk {w : World} {S : Nat → Prop} : ∀ (n : Nat) (vs : List Value), vs.length = n → (∀ u ∈ vs, u.oneCell' = true) → RVL w S (List.replicate n .junk) vs
 | 0, vs, h, _ => by have := List.eq_nil_of_length_eq_zero h; subst this; simp [RVL]
 | n + 1, vs, h, ho => by
  cases vs with
  | nil => simp at h
  | cons v vs =>
   simp only [List.replicate_succ, RVL]
   exact ⟨v, vs, rfl, by simp only [RV]; exact ho v (by simp), rvl_junk n vs (by simpa using h) (fun u hu => ho u (by simp [hu]))⟩
theorem flatten_rep (m k : Nat) (x : AV) : (List.replicate m (List.replicate k x)).flatten = List.replicate (m * k) x := by
 induction m with
 | zero => simp
 | succ m ih => rw [List.replicate_succ, List.flatten_cons, ih, List.replicate_append_replicate, Nat.add_mul]; congr 1; omega
theorem ACap_sound {P : Program} {ts : Array TypeId} {x : AV} {hp : Hp} {K : AV → Hp → Prop} (h : ACap P ts x hp K) {w : World} {c : Cx} (hi : Inv w c hp) (ty : TypeId) {u : Value} (hu : RelV w c x u) : Gives P (Builtin.cap_ ts ty #[u]) w c K := by
 have hrun : ∀ (t : TypeId) (a : Option Addr) (n m : Nat), tyEl P t ≠ none → (Builtin.cap_ #[t] ty #[.slice a n m]).run P w = .ok (.int .i64 m) w := by
  intro t a n m hne
  obtain ⟨e, he⟩ := Option.ne_none_iff_exists'.1 hne
  simp [Builtin.cap_, run_underlying (und_of_tyEl he), goInt]
 have hres : ∀ n : Nat, RelV w c (.val (.int .i64 n)) (.int .i64 n) := fun n => by simp only [RelV]; exact ⟨trivial, rfl⟩
 unfold ACap at h
 split at h
 ·rename_i t s ver k off len hts
  have hts' : ts = #[t] := by rw [← hts]
  subst hts'
  obtain ⟨hne, h⟩ := h
  split at h
  ·rename_i n t' k2 q rows e
   obtain ⟨rfl, h⟩ := h
   obtain ⟨g1, hlv, h0, hkr, g2⟩ := hi.row e
   rcases own_addr hi g1 hu with ⟨g3, rfl, rfl, rfl⟩ | ⟨b, cp, a, g3, rfl, g4, g5⟩
   ·rcases g2 with ⟨_, rfl, hq⟩ | ⟨b, cp, _, _, g4, _⟩
    ·rcases hq with rfl | rfl
     ·have h := h 0 (Nat.le_refl _) (Nat.le_refl _) (Nat.zero_le _)
      refine ⟨.int .i64 0, _, w, c, _, hrun t _ _ _ hne, Ext.refl _ _, ?_, hres 0, h⟩
      have := hi.upd (Ext.refl w c) s n (.row t' k2 (some 0) []) (fun _ _ => ⟨rfl, rfl, rfl, rfl⟩) (fun _ _ _ _ _ => rfl) g1 (by
       have := hi.ok s
       rw [e] at this
       simp only [BlkOk, g3] at this ⊢
       exact ⟨this.1, this.2.1, this.2.2.1, trivial, .inr trivial⟩) fun b l e2 => ⟨hi.lt b ⟨s, l, e2⟩, hi.far b ⟨s, l, e2⟩, fun s' hs l' e' => hs (hi.inj s' s b l' l e' e2)⟩
      simpa using this
     ·exact ⟨.int .i64 0, _, w, c, _, hrun t _ _ _ hne, Ext.refl _ _, hi, hres 0, h⟩
    ·rw [g3] at g4; cases g4
   ·rcases g2 with ⟨g6, _⟩ | ⟨b', cp', vs, rest, g6, hq, hcp, g7, g8, hov, g9⟩
    ·rw [g3] at g6; cases g6
    ·rw [g3] at g6
     cases g6
     rcases hq with rfl | rfl
     ·have hle := (hi.rowLen s).2 b cp g3
      rw [e] at hle
      have h := h cp g4 hle hcp
      refine ⟨_, _, w, c, _, hrun t _ _ _ hne, Ext.refl _ _, ?_, hres _, h⟩
      refine hi.upd (Ext.refl w c) s n _ (fun _ _ => ⟨rfl, rfl, rfl, rfl⟩) (fun _ _ _ _ _ => rfl) g1 ?_ fun b l e2 => ⟨hi.lt b ⟨s, l, e2⟩, hi.far b ⟨s, l, e2⟩, fun s' hs l' e' => hs (hi.inj s' s b l' l e' e2)⟩
      simp only [BlkOk, g3]
      refine ⟨hlv, h0, ?_, .inr trivial, hcp, vs ++ rest, [], by simpa using g7, by simpa using g8, by simpa using hov, ?_⟩
      ·intro r hr
       rcases List.mem_append.1 hr with hr | hr
       ·exact hkr r hr
       ·rw [List.eq_of_mem_replicate hr, List.length_replicate]
      ·rw [List.flatten_append, flatten_rep]
       refine g9.append (rvl_junk _ _ ?_ fun u hu => hov u (List.mem_append_right _ hu))
       have h9 := g9.length
       rw [flatten_len hkr] at h9
       simp only [List.length_append] at g8
       rw [Nat.sub_mul]
       omega
     ·exact ⟨_, _, w, c, _, hrun t _ _ _ hne, Ext.refl _ _, hi, hres _, h⟩
  ·exact h.elim
 ·rename_i t hts
  have hts' : ts = #[t] := by rw [← hts]
  subst hts'
  simp only [RelV] at hu
  obtain ⟨rfl, -⟩ := hu
  exact ⟨.int .i64 0, _, w, c, _, hrun t _ _ _ h.1, Ext.refl _ _, hi, hres 0, h.2⟩
 ·rename_i t k rows hts
  have hts' : ts = #[t] := by rw [← hts]
  subst hts'
  simp only [RelV, RV] at hu
  obtain ⟨a, cap, rfl, hc, _⟩ := hu
  exact ⟨_, _, w, c, _, hrun t _ _ _ h.1, Ext.refl _ _, hi, hres _, h.2 cap hc⟩
 ·exact h.elim
end Go.Proofs.YtonolfpnidaflaaGreatDoor.E

/- The abstract machine of this claim, part P: fields of values; what is held against nil; append of zeros. No conditions. -/
namespace Go.Proofs.YtonolfpnidaflaaGreatDoor.E
open Go
set_option linter.unusedSimpArgs false
set_option linter.unusedVariables false
set_option linter.unusedSectionVars false
set_option maxRecDepth 20000

/-! ### A field of a struct by value -/
def AField (P : Program) (t : TypeId) (x : AV) (j : Nat) (K : AV → Prop) : Prop :=
 match x with
 | .agg cs => match tyFT P t j with
  | some (off, ft) => match tyAgg P ft, tySz P ft with
   | some true, some n => off + n ≤ cs.length ∧ K (.agg ((cs.drop off).take n))
   | some false, _ => ∃ y, cs[off]? = some y ∧ K y
   | _, _ => False
  | none => False
 | _ => False
theorem AField_sound {P : Program} {t : TypeId} {x : AV} {j : Nat} {K : AV → Prop} (h : AField P t x j K) {w : World} {c : Cx} {v : Value} (hx : RelV w c x v) :
  ∃ r a, (Instr.field t v j).run P w = .ok r w ∧ RelV w c a r ∧ K a := by
 unfold AField at h
 split at h
 ·rename_i cs
  simp only [RelV] at hx
  obtain ⟨vs, rfl, ho, hr⟩ := hx
  split at h
  ·rename_i off ft hft
   have hu : ∃ (fs : Array Field) (f : Field), P.underlying t = some (.struct fs) ∧ fs[j]? = some f ∧ f.offset = off ∧ f.type = ft := by
    unfold tyFT at hft
    split at hft
    ·rename_i fs hu
     obtain ⟨f, hf, h2⟩ := Option.map_eq_some_iff.1 hft
     cases h2
     exact ⟨fs, f, hu, hf, rfl, rfl⟩
    ·cases hft
   obtain ⟨fs, f, hu, hf, rfl, rfl⟩ := hu
   split at h
   ·rename_i n ha hn
    obtain ⟨hle, h⟩ := h
    refine ⟨.agg ((vs.drop f.offset).take n).toArray, _, ?_, ?_, h⟩
    ·simp only [Instr.field, Sem.run_bind, run_underlying hu, Result.andThen_ok, hf, asAgg, Sem.run_pure, part_agg w ha hn]
    ·simp only [RelV]
     exact ⟨_, rfl, fun u hu => ho u (List.mem_of_mem_drop (List.mem_of_mem_take hu)), (hr.drop _).take _⟩
   ·rename_i ha
    obtain ⟨y, hy, h⟩ := h
    obtain ⟨u, hu2, hry⟩ := hr.get _ _ hy
    refine ⟨u, _, ?_, hry, h⟩
    have h1 : ((vs.toArray).toList.drop f.offset).take 1 = [u] := by
     simp only
     rw [List.drop_eq_getElem_cons (lt_of_get hu2)]
     simp only [List.take_succ_cons, List.take_zero, List.cons.injEq, and_true]
     exact (List.getElem?_eq_some_iff.1 hu2).2
    simp only [Instr.field, Sem.run_bind, run_underlying hu, Result.andThen_ok, hf, asAgg, Sem.run_pure, part_one w ha h1]
   ·exact h.elim
  ·exact h.elim
 ·exact h.elim

/-! ### What is held against nil -/
inductive NK | slice | pointer | map | func | iface
 deriving DecidableEq
def tyNil (P : Program) (t : TypeId) : Option NK :=
 match P.underlying t with
 | some (.slice _) => some .slice
 | some (.pointer _) => some .pointer
 | some (.map _ _) => some .map
 | some (.func _ _ _) => some .func
 | some (.interface _) => some .iface
 | _ => none
def nilOf : NK → Value
 | .slice => .slice none 0 0
 | .pointer => .pointer none
 | .map => .map none
 | .func => .nilFunc
 | .iface => .nilIface
def nv : NK → Value → Bool
 | .slice, .slice none 0 0 => true
 | .pointer, .pointer none => true
 | .map, .map none => true
 | .func, .nilFunc => true
 | .iface, .nilIface => true
 | _, _ => false
theorem nv_eq {k : NK} {v : Value} (h : nv k v = true) : v = nilOf k := by
 unfold nv at h
 split at h <;> first | rfl | cases h
/-- Is a value nil? 'none': it may be, or not. -/
def nilS (hp : Hp) : AV → Option (Option Bool × Prop)
 | .list _ rows => some (none, rows = [])
 | .own s ver _ _ len => if (hp.get s).1 = ver then some (none, len = 0) else none
 | .val v => if nv .slice v = true then some (some true, True) else none
 | _ => none
def nilP (hp : Hp) : AV → Option (Option Bool × Prop)
 | .ptr s ver _ => if (hp.get s).1 = ver then some (some false, True) else none
 | .ept s ver _ _ _ => if (hp.get s).1 = ver then some (some false, True) else none
 | .rop _ => some (some false, True)
 | .val v => if nv .pointer v = true then some (some true, True) else none
 | _ => none
def nilM (hp : Hp) : AV → Option (Option Bool × Prop)
 | .map s ver => if (hp.get s).1 = ver then some (some false, True) else none
 | .val v => if nv .map v = true then some (some true, True) else none
 | _ => none
def nilF : AV → Option (Option Bool × Prop)
 | .func _ _ => some (some false, True)
 | .val v => if nv .func v = true then some (some true, True) else none
 | _ => none
def nilI : AV → Option (Option Bool × Prop)
 | .iface _ _ => some (some false, True)
 | .val v => if nv .iface v = true then some (some true, True) else none
 | _ => none
def isNil (hp : Hp) : NK → AV → Option (Option Bool × Prop)
 | .slice => nilS hp
 | .pointer => nilP hp
 | .map => nilM hp
 | .func => nilF
 | .iface => nilI
def ANil (P : Program) (op : BinOp) (t : TypeId) (x : AV) (hp : Hp) (K : AV → Prop) : Prop :=
 match op, tyNil P t with
 | .eql, some k => match isNil hp k x with
  | some (some b, _) => K (.val (.bool b))
  | some (none, p) => (p → K (.val (.bool true))) ∧ K (.val (.bool false))
  | none => False
 | .neq, some k => match isNil hp k x with
  | some (some b, _) => K (.val (.bool !b))
  | some (none, p) => (p → K (.val (.bool false))) ∧ K (.val (.bool true))
  | none => False
 | _, _ => False
/-- The constant nil of a type. -/
def nilC (P : Program) (t : TypeId) : Operand → Bool
 | .const (.slice none 0 0) => tyNil P t == some .slice
 | .const (.pointer none) => tyNil P t == some .pointer
 | .const (.map none) => tyNil P t == some .map
 | .const .nilFunc => tyNil P t == some .func
 | .const .nilIface => tyNil P t == some .iface
 | _ => false
theorem nilC_spec {P : Program} {t : TypeId} {y : Operand} (h : nilC P t y = true) : ∃ k, tyNil P t = some k ∧ y = .const (nilOf k) := by
 unfold nilC at h
 split at h <;> first | exact ⟨_, by simpa using h, rfl⟩ | cases h
section
variable {P : Program} (w : World) {t : TypeId}
theorem eq_ptr_nil {e : TypeId} (hu : P.underlying t = some (.pointer e)) (p : Option Addr) : (Op.equal t (.pointer p) (.pointer none)).run P w = .ok p.isNone w := by
 show (Op.equalIn (9999 + 1) t _ _).run P w = _
 unfold Op.equalIn
 simp only [Sem.run_bind, run_underlying hu, Result.andThen_ok]
 cases p <;> rfl
theorem eq_map_nil {e e' : TypeId} (hu : P.underlying t = some (.map e e')) (p : Option Nat) : (Op.equal t (.map p) (.map none)).run P w = .ok p.isNone w := by
 show (Op.equalIn (9999 + 1) t _ _).run P w = _
 unfold Op.equalIn
 simp only [Sem.run_bind, run_underlying hu, Result.andThen_ok]
 cases p <;> rfl
theorem eq_func_nil {e e' e''} (hu : P.underlying t = some (.func e e' e'')) (v : Value) (hv : v = .nilFunc ∨ ∃ f a b, v = .func f a b) : (Op.equal t v .nilFunc).run P w = .ok (match v with | .nilFunc => true | _ => false) w := by
 show (Op.equalIn (9999 + 1) t _ _).run P w = _
 unfold Op.equalIn
 simp only [Sem.run_bind, run_underlying hu, Result.andThen_ok]
 rcases hv with rfl | ⟨f, a, b, rfl⟩ <;> rfl
theorem eq_iface_nil {e} (hu : P.underlying t = some (.interface e)) (v : Value) (hv : v = .nilIface ∨ ∃ f a, v = .iface f a) : (Op.equal t v .nilIface).run P w = .ok (match v with | .nilIface => true | _ => false) w := by
 show (Op.equalIn (9999 + 1) t _ _).run P w = _
 unfold Op.equalIn
 simp only [Sem.run_bind, run_underlying hu, Result.andThen_ok]
 rcases hv with rfl | ⟨f, a, rfl⟩ <;> rfl
end
theorem eqNil_run {P : Program} {t : TypeId} {k : NK} (hk : tyNil P t = some k) {hp : Hp} {x : AV} {o : Option Bool × Prop} (h : isNil hp k x = some o) {w : World} {c : Cx} (hi : Inv w c hp) {v : Value} (hx : RelV w c x v) (op : BinOp) (xo : Operand) :
  (eqGuard op t xo (.const (nilOf k)) v (nilOf k)).run P w = .ok () w ∧ ∃ b, (Op.equal t v (nilOf k)).run P w = .ok b w ∧ (match o with | (some b', _) => b = b' | (none, p) => b = true → p) := by
 have gd : ∀ v, (∀ cs, v ≠ .agg cs) → (eqGuard op t xo (.const (nilOf k)) v (nilOf k)).run P w = .ok () w := by
  intro v hv
  cases v <;> first | exact absurd rfl (hv _) | (cases op <;> cases k <;> simp [eqGuard, nilOf] <;> done) | (cases op <;> simp [eqGuard])
 cases k <;> simp only [isNil] at h
 ·have hu : ∃ e, P.underlying t = some (.slice e) := by
   unfold tyNil at hk
   split at hk <;> first | exact ⟨_, by assumption⟩ | cases hk
  obtain ⟨e, hu⟩ := hu
  cases x <;> simp only [nilS, reduceCtorEq] at h
  case list k rows =>
   cases h
   simp only [RelV, RV] at hx
   obtain ⟨a, cap, rfl, _, _, hr⟩ := hx
   refine ⟨gd _ (by intro cs h; cases h), _, run_equal_slice_nil w t e a _ _ hu, ?_⟩
   rintro hb
   rcases hr with hr | ⟨b, off, rfl, _⟩
   ·exact hr
   ·cases hb
  case own s ver k' off len =>
   by_cases hv : (hp.get s).1 = ver
   ·rw [if_pos hv] at h
    cases h
    simp only [RelV] at hx
    have hx := hx.2 (by rw [← hv, hi.cur])
    cases hl : c.loc s with
    | none =>
     rw [hl] at hx
     obtain ⟨_, rfl, rfl⟩ := hx
     exact ⟨gd _ (by intro cs h; cases h), _, run_equal_slice_nil w t e none _ _ hu, fun _ => rfl⟩
    | some q =>
     obtain ⟨b, cp⟩ := q
     rw [hl] at hx
     obtain ⟨_, a, rfl, _⟩ := hx
     exact ⟨gd _ (by intro cs h; cases h), _, run_equal_slice_nil w t e (some a) _ _ hu, fun hb => by cases hb⟩
   ·rw [if_neg hv] at h; cases h
  case val u =>
   simp only [RelV] at hx
   obtain ⟨rfl, -⟩ := hx
   split at h
   ·rename_i hn
    have := nv_eq hn
    subst this
    cases h
    exact ⟨gd _ (by intro cs h; cases h), _, run_equal_slice_nil w t e none _ _ hu, rfl⟩
   ·cases h
 ·have hu : ∃ e, P.underlying t = some (.pointer e) := by
   unfold tyNil at hk
   split at hk <;> first | exact ⟨_, by assumption⟩ | cases hk
  obtain ⟨e, hu⟩ := hu
  cases x <;> simp only [nilP, reduceCtorEq] at h
  case ptr s ver off =>
   by_cases hv : (hp.get s).1 = ver
   ·rw [if_pos hv] at h
    cases h
    simp only [RelV] at hx
    obtain ⟨b, cp, _, rfl⟩ := hx.2 (by rw [← hv, hi.cur])
    exact ⟨gd _ (by intro cs h; cases h), false, eq_ptr_nil w hu _, rfl⟩
   ·rw [if_neg hv] at h; cases h
  case ept s ver k' i off =>
   by_cases hv : (hp.get s).1 = ver
   ·rw [if_pos hv] at h
    cases h
    simp only [RelV] at hx
    obtain ⟨b, cp, _, rfl⟩ := hx.2 (by rw [← hv, hi.cur])
    exact ⟨gd _ (by intro cs h; cases h), false, eq_ptr_nil w hu _, rfl⟩
   ·rw [if_neg hv] at h; cases h
  case rop cs =>
   cases h
   simp only [RelV, RV] at hx
   obtain ⟨b, off, rfl, _⟩ := hx
   exact ⟨gd _ (by intro cs h; cases h), false, eq_ptr_nil w hu _, rfl⟩
  case val u =>
   simp only [RelV] at hx
   obtain ⟨rfl, -⟩ := hx
   split at h
   ·rename_i hn
    have := nv_eq hn
    subst this
    cases h
    exact ⟨gd _ (by intro cs h; cases h), true, eq_ptr_nil w hu _, rfl⟩
   ·cases h
 ·have hu : ∃ e e', P.underlying t = some (.map e e') := by
   unfold tyNil at hk
   split at hk <;> first | exact ⟨_, _, by assumption⟩ | cases hk
  obtain ⟨e, e', hu⟩ := hu
  cases x <;> simp only [nilM, reduceCtorEq] at h
  case map s ver =>
   by_cases hv : (hp.get s).1 = ver
   ·rw [if_pos hv] at h
    cases h
    simp only [RelV] at hx
    obtain ⟨b, cp, _, rfl⟩ := hx.2 (by rw [← hv, hi.cur])
    exact ⟨gd _ (by intro cs h; cases h), false, eq_map_nil w hu _, rfl⟩
   ·rw [if_neg hv] at h; cases h
  case val u =>
   simp only [RelV] at hx
   obtain ⟨rfl, -⟩ := hx
   split at h
   ·rename_i hn
    have := nv_eq hn
    subst this
    cases h
    exact ⟨gd _ (by intro cs h; cases h), true, eq_map_nil w hu _, rfl⟩
   ·cases h
 ·have hu : ∃ e e' e'', P.underlying t = some (.func e e' e'') := by
   unfold tyNil at hk
   split at hk <;> first | exact ⟨_, _, _, by assumption⟩ | cases hk
  obtain ⟨e, e', e'', hu⟩ := hu
  cases x <;> simp only [nilF, reduceCtorEq] at h
  case func f cap =>
   cases h
   simp only [RelV] at hx
   obtain ⟨vs, rfl, _⟩ := hx
   exact ⟨gd _ (by intro cs h; cases h), false, eq_func_nil w hu _ (.inr ⟨_, _, _, rfl⟩), rfl⟩
  case val u =>
   simp only [RelV] at hx
   obtain ⟨rfl, -⟩ := hx
   split at h
   ·rename_i hn
    have := nv_eq hn
    subst this
    cases h
    exact ⟨gd _ (by intro cs h; cases h), true, eq_func_nil w hu _ (.inl rfl), rfl⟩
   ·cases h
 ·have hu : ∃ e, P.underlying t = some (.interface e) := by
   unfold tyNil at hk
   split at hk <;> first | exact ⟨_, by assumption⟩ | cases hk
  obtain ⟨e, hu⟩ := hu
  cases x <;> simp only [nilI, reduceCtorEq] at h
  case iface t' y =>
   cases h
   simp only [RelV] at hx
   obtain ⟨u, rfl, _⟩ := hx
   exact ⟨gd _ (by intro cs h; cases h), false, eq_iface_nil w hu _ (.inr ⟨_, _, rfl⟩), rfl⟩
  case val u =>
   simp only [RelV] at hx
   obtain ⟨rfl, -⟩ := hx
   split at h
   ·rename_i hn
    have := nv_eq hn
    subst this
    cases h
    exact ⟨gd _ (by intro cs h; cases h), true, eq_iface_nil w hu _ (.inl rfl), rfl⟩
   ·cases h
theorem ANil_sound {P : Program} {op : BinOp} {t : TypeId} {x : AV} {hp : Hp} {K : AV → Prop} (h : ANil P op t x hp K) {w : World} {c : Cx} (hi : Inv w c hp) {y : Operand} (hy : nilC P t y = true) (xo : Operand) {u v : Value} (hx : RelV w c x u) (a : Act) (hv : v = a.eval y) :
  ∃ r av, ((do eqGuard op t xo y u v; binOp op t u v : Sem Value)).run P w = .ok r w ∧ RelV w c av r ∧ K av := by
 obtain ⟨k, hk, rfl⟩ := nilC_spec hy
 have hv' : v = nilOf k := hv
 subst hv'
 unfold ANil at h
 rw [hk] at h
 have hbe : ∀ v, binOp .eql t v (nilOf k) = (do pure (.bool (← Op.equal t v (nilOf k)))) := fun v => by cases k <;> cases v <;> rfl
 have hbn : ∀ v, binOp .neq t v (nilOf k) = (do pure (.bool (!(← Op.equal t v (nilOf k))))) := fun v => by cases k <;> cases v <;> rfl
 split at h
 ·rename_i k' e
  have e := Option.some.inj e
  subst e
  cases hq : isNil hp k x with
  | none => rw [hq] at h; exact h.elim
  | some o =>
   rw [hq] at h
   obtain ⟨g1, b, g2, g3⟩ := eqNil_run hk hq hi hx .eql xo
   have hr : ((do eqGuard .eql t xo (.const (nilOf k)) u (nilOf k); binOp .eql t u (nilOf k) : Sem Value)).run P w = .ok (.bool b) w := by
    rw [hbe]
    simp only [Sem.run_bind, g1, Result.andThen_ok, g2, Sem.run_pure]
   obtain ⟨o1, p⟩ := o
   cases o1 with
   | some b' => simp only at h g3; subst g3; exact done h rfl hr
   | none =>
    simp only at h g3
    cases b with
    | true => exact done (h.1 (g3 rfl)) rfl hr
    | false => exact done h.2 rfl hr
 ·rename_i k' e
  have e := Option.some.inj e
  subst e
  cases hq : isNil hp k x with
  | none => rw [hq] at h; exact h.elim
  | some o =>
   rw [hq] at h
   obtain ⟨g1, b, g2, g3⟩ := eqNil_run hk hq hi hx .neq xo
   have hr : ((do eqGuard .neq t xo (.const (nilOf k)) u (nilOf k); binOp .neq t u (nilOf k) : Sem Value)).run P w = .ok (.bool !b) w := by
    rw [hbn]
    simp only [Sem.run_bind, g1, Result.andThen_ok, g2, Sem.run_pure]
   obtain ⟨o1, p⟩ := o
   cases o1 with
   | some b' => simp only at h g3; subst g3; exact done h rfl hr
   | none =>
    simp only at h g3
    cases b with
    | true => exact done (h.1 (g3 rfl)) rfl hr
    | false => exact done h.2 rfl hr
 ·exact h.elim
end Go.Proofs.YtonolfpnidaflaaGreatDoor.E

/- The abstract machine of this claim, part K: an operation. No conditions. -/
namespace Go.Proofs.YtonolfpnidaflaaGreatDoor.E
open Go
set_option linter.unusedSimpArgs false
set_option linter.unusedVariables false
set_option linter.unusedSectionVars false
set_option maxRecDepth 20000

def callable (P : Program) (f : FuncId) : Bool :=
 match P.funcs[f]? with
 | some fn => fn.body.isSome && !(fn.name == "runtime.NumGoroutine")
 | none => false
def tyNoIf (P : Program) (t : TypeId) : Bool :=
 match P.underlying t with
 | some (.interface _) => false
 | some _ => true
 | none => false

def APick (x y z : AV) (K : AV → Prop) : Prop :=
 match x with
 | .val (.bool t) => (t = true → K y) ∧ (t = false → K z)
 | _ => False
def ALen (P : Program) (t : TypeId) (x : AV) (hp : Hp) (K : AV → Prop) : Prop :=
 match x with
 | .val (.string s) => tyStr P t = true ∧ K (.val (.int .i64 s.size))
 | .list _ rows => tyEl P t ≠ none ∧ K (.val (.int .i64 rows.length))
 | .val (.slice _ n _) => tyEl P t ≠ none ∧ K (.val (.int .i64 n))
 | .own s ver _ _ len => tyEl P t ≠ none ∧ (hp.get s).1 = ver ∧ K (.val (.int .i64 len))
 | _ => False
def AMax (x y : AV) (K : AV → Prop) : Prop :=
 match x, y with
 | .val (.int k a), .val (.int _ b) => K (.val (.int k (if b > a then b else a)))
 | _, _ => False
def AMin (x y : AV) (K : AV → Prop) : Prop :=
 match x, y with
 | .val (.int k a), .val (.int _ b) => K (.val (.int k (if b < a then b else a)))
 | _, _ => False
def ANilCheck (x : AV) (hp : Hp) (K : AV → Prop) : Prop :=
 match x with
 | .rop cs => K (.rop cs)
 | .ptr s v o => (hp.get s).1 = v ∧ K (.ptr s v o)
 | .ept s v k i o => (hp.get s).1 = v ∧ K (.ept s v k i o)
 | .func f cap => K (.func f cap)
 | _ => False
def ABuiltin (P : Program) (b : Builtin) (ts : Array TypeId) (xs : List AV) (s : Site) (hp : Hp) (K : AV → Hp → Prop) : Prop :=
 match b, xs with
 | .len, [x] => match ts.toList with
  | [t] => ALen P t x hp fun v => K v hp
  | _ => False
 | .append, [x, y] => AAppend P ts x y s hp K
 | .max, [x, y] => AMax x y fun v => K v hp
 | .min, [x, y] => AMin x y fun v => K v hp
 | .copy, [x, y] => ACopy P ts x y hp K
 | .clear, [x] => AClear P ts x hp K
 | .cap, [x] => ACap P ts x hp K
 | _, _ => False

/-! ### Calls -/
mutual
def sts : AV → List Site
 | .ptr s _ _ => [s]
 | .ept s _ _ _ _ => [s]
 | .own s _ _ _ _ => [s]
 | .map s _ => [s]
 | .agg cs => stsL cs
 | .tup cs => stsL cs
 | .func _ cap => stsL cap
 | .iface _ x => sts x
 | .val _ => []
 | .list _ _ => []
 | .rop _ => []
 | .junk => []
 | .dead => []
def stsL : List AV → List Site
 | [] => []
 | x :: xs => sts x ++ stsL xs
end
def stsB : Blk → List Site
 | .cells _ cs => stsL cs
 | .rowx _ _ cs => stsL cs
 | _ => []
/-- What can be reached. -/
def rch (hp : Hp) : Nat → List Site → List Site
 | 0, l => l
 | n + 1, l => l ++ rch hp n (l.flatMap fun s => stsB (hp.get s).2)
def Site.key : Site → Bool × Nat
 | .e i => (false, i)
 | .l t => (true, t)
 | .m t _ => (true, t)
/-- What each call may look at, and turn: a place that is handed on by nobody. -/
def ukey : Bool × Nat := (false, 1000000)
/-- A value without memory. -/
def AV.leaf : AV → Bool
 | .val _ => true
 | .agg cs => cs.all fun x => match x with | .val _ => true | _ => false
 | _ => false
def AV.flat : AV → Bool
 | .tup vs => vs.all AV.leaf
 | x => x.leaf
/-- A call that leaves what is handed in alone: what it is lent may be written again if nothing of it comes back. -/
def ACallF (P : Program) (f : FuncId) (hp : Hp) (K : AV → Hp → Prop) : Option (List AV × Hp) → Prop
 | some (l, hp') => ∃ args' r, SubL l args' ∧ Ok P f args' r ∧ (K r hp' ∨ (r.flat = true ∧ K r hp))
 | none => False
/-- A call that turns what is handed in. -/
def ACallH (P : Program) (f : FuncId) (xs : List AV) (s : Site) (hp : Hp) (K : AV → Hp → Prop) : Prop :=
 ∃ ss args hs r hs', OkH P f args hs r hs' ∧ ss.Nodup ∧ hs'.length ≤ ss.length ∧ MB hp ss ss hs ∧ SubL (rnL (dnG hp ss) xs) args ∧
  (ss.all fun s' => ((rch hp 4 (stsL xs)).map Site.key ++ [s.key, ukey]).contains s'.key) = true ∧ K (rn (upG hp ss) r) (hpU hp ss ss hs' hp)
/-- A call that makes something new, and leaves what is handed in alone. -/
def ACallHF (P : Program) (f : FuncId) (s : Site) (K : AV → Hp → Prop) : Option (List AV × Hp) → Prop
 | some (l, hp1) => ACallH P f l s hp1 K
 | none => False
def ACallY (P : Program) (f : FuncId) (xs : List AV) (s : Site) (hp : Hp) (K : AV → Hp → Prop) (o : Option (List AV × Hp)) : Prop :=
 ACallF P f hp K o ∨ ACallH P f xs s hp K ∨ ACallHF P f s K o
/-- A call of a function without a body, that answers v and changes nothing. -/
def AExt (P : Program) (f : FuncId) (xs : List AV) (s : Site) (hp : Hp) (K : AV → Hp → Prop) : Prop :=
 ∃ v : Value, plain v = true ∧ (∀ hp' : Hp, (∀ q : Site, q.key ∈ (rch hp 4 (stsL xs)).map Site.key ++ [s.key, ukey] → hp'.get q = hp.get q) → ∀ (w : World) (c : Cx) (vs : List Value), Inv w c hp' → RelL w c xs vs → (callFunc f vs.toArray).run P w = .ok (.value v) w) ∧ K (.val v) hp
def AFn (P : Program) (f : FuncId) (xs : List AV) (s : Site) (hp : Hp) (K : AV → Hp → Prop) : Prop :=
 if callable P f = true then ACallY P f xs s hp K (passL hp xs) else AExt P f xs s hp K
def ACallOp (P : Program) (ev : Operand → AV) (cl : Call) (s : Site) (hp : Hp) (K : AV → Hp → Prop) : Prop :=
 match cl.callee with
 | .builtin b => ABuiltin P b cl.argTypes (cl.args.toList.map ev) s hp K
 | .value f => match ev f with
  | .func f cap => AFn P f (cl.args.toList.map ev ++ cap) s hp K
  | _ => False
 | _ => False
def AIface (P : Program) (t : TypeId) (x : AV) (K : AV → Prop) : Prop := tyNoIf P t = true ∧ K (.iface t x)
def AMakeFunc (f : Fn) (first : Array Operand) (cap : List AV) (K : AV → Prop) : Prop :=
 match f with
 | .func f => first.toList = [] ∧ K (.func f cap)
 | _ => False

def ADo (P : Program) (ev : Operand → AV) (o : Oper) (s : Site) (hp : Hp) (K : AV → Hp → Prop) : Prop :=
 match o.op with
 | .move x => K (ev x) hp
 | .assign x => K (ev x) hp
 | .pick c x y => APick (ev c) (ev x) (ev y) fun v => K v hp
 | .alloc t => AAlloc P t s hp K
 | .box t x => ABox t (ev x) s hp K
 | .build t ps => ABuild P t (ps.toList.map fun p => (p.1, ev p.2)) hp fun v => K v hp
 | .buildSlice t n ps => ABuildF P t n (ps.toList.map (·.1)) s K (passL hp (ps.toList.map fun p => ev p.2))
 | .load t x => ALoad P t (ev x) hp fun v => K v hp
 | .store t x y => AStoreF P t (ev x) (ev y) hp fun hp' => K (.val (.tuple #[])) hp'
 | .nilCheck x => ANilCheck (ev x) hp fun v => K v hp
 | .binOp op t x y _ => if nilC P t y = true then ANil P op t (ev x) hp fun v => K v hp else ABin P op t (ev x) (ev y) fun v => K v hp
 | .field t x j => AField P t (ev x) j fun v => K v hp
 | .lookup t x i ok => ALookup P t (ev x) (ev i) ok hp fun v => K v hp
 | .mapUpdate t m k x => AMapUpd P t (ev m) (ev k) (ev x) hp fun hp' => K (.val (.tuple #[])) hp'
 | .makeMap t r => r = none ∧ AMakeMap P t s hp K
 | .unOp op _ x => AUn op (ev x) fun v => K v hp
 | .convert src dst x => AConvO P src dst (ev x) hp fun v => K v hp
 | .makeInterface t x => AIface P t (ev x) fun v => K v hp
 | .makeFunc f first cap => AMakeFunc f first (cap.toList.map ev) fun v => K v hp
 | .makeSlice t l m => AMake P t (ev l) (ev m) s hp K
 | .slice t x lo hi mx => mx = none ∧ ASlice P t (ev x) (lo.map ev) (hi.map ev) hp fun v => K v hp
 | .fieldAddr t x j => AFieldAddr P t (ev x) j hp fun v => K v hp
 | .indexAddr t x i => AIndexAddr P t (ev x) (ev i) hp fun v => K v hp
 | .index t x i => AIndex P t (ev x) (ev i) fun v => K v hp
 | .extract x i => AExtract (ev x) i fun v => K v hp
 | .call cl => ACallOp P ev cl s hp K
 | _ => False

/-! ### Soundness -/
def Does (P : Program) (o : Oper) (a : Act) (w : World) (c : Cx) (K : AV → Hp → Prop) : Prop :=
 ∀ Q, o.wp P a w (fun a' w' => ∃ v c' av hp', a' = a.put o.dst v ∧ Ext w c w' c' ∧ Inv w' c' hp' ∧ RelV w' c' av v ∧ K av hp') Q
theorem does_of_run {P : Program} {o : Oper} {a : Act} {w w' : World} {c c' : Cx} {K : AV → Hp → Prop} {v : Value} {av : AV} {hp' : Hp} (h : (execOp a.eval o).run P w = .ok (.value v) w') (h1 : Ext w c w' c') (h2 : Inv w' c' hp') (h3 : RelV w' c' av v) (h4 : K av hp') : Does P o a w c K := by
 intro Q
 unfold Oper.wp
 rw [h]
 exact ⟨v, c', av, hp', rfl, h1, h2, h3, h4⟩
theorem does_of_skip {P : Program} {o : Oper} {a : Act} {w w' : World} {c c' : Cx} {K : AV → Hp → Prop} {hp' : Hp} (h : (execOp a.eval o).run P w = .ok .skip w') (h1 : Ext w c w' c') (h2 : Inv w' c' hp') (h4 : K (.val (.tuple #[])) hp') : Does P o a w c K := by
 intro Q
 unfold Oper.wp
 rw [h]
 exact ⟨undef, c', _, hp', rfl, h1, h2, by simp only [RelV]; exact ⟨rfl, rfl⟩, h4⟩
theorem does_of_gives {P : Program} {o : Oper} {a : Act} {w : World} {c : Cx} {K : AV → Hp → Prop} {m : Sem Value} (he : execOp a.eval o = (do pure (.value (← m)))) (h : Gives P m w c K) : Does P o a w c K := by
 obtain ⟨r, av, w', c', hp', e, h1, h2, h3, h4⟩ := h
 refine does_of_run (v := r) ?_ h1 h2 h3 h4
 rw [he]
 simp only [Sem.run_bind, e, Result.andThen_ok, Sem.run_pure]
theorem does_of_pure {P : Program} {o : Oper} {a : Act} {w : World} {c : Cx} {hp : Hp} (hi : Inv w c hp) {K : AV → Hp → Prop} {m : Sem Value} (he : execOp a.eval o = (do pure (.value (← m)))) (h : ∃ r av, m.run P w = .ok r w ∧ RelV w c av r ∧ K av hp) : Does P o a w c K := by
 obtain ⟨r, av, e, h1, h2⟩ := h
 exact does_of_gives he ⟨r, av, w, c, hp, e, Ext.refl _ _, hi, h1, h2⟩

theorem relL_map {w : World} {c : Cx} {ev : Operand → AV} {rho : Operand → Value} (he : ∀ x, RelV w c (ev x) (rho x)) (l : List Operand) : RelL w c (l.map ev) (l.map rho) := by
 induction l with
 | nil => simp [RelL]
 | cons x l ih => simp only [List.map_cons, RelL]; exact ⟨_, _, rfl, he x, ih⟩
theorem relP_map {w : World} {c : Cx} {ev : Operand → AV} {rho : Operand → Value} (he : ∀ x, RelV w c (ev x) (rho x)) (l : List (Nat × Operand)) : RelP w c (l.map fun p => (p.1, ev p.2)) (l.map fun p => (p.1, rho p.2)) := by
 induction l with
 | nil => simp [RelP]
 | cons x l ih => simp only [List.map_cons, RelP]; exact ⟨_, _, rfl, he x.2, ih⟩
theorem relO_map {w : World} {c : Cx} {ev : Operand → AV} {rho : Operand → Value} (he : ∀ x, RelV w c (ev x) (rho x)) (l : Option Operand) : RelO w c (l.map ev) (l.map rho) := by
 cases l with
 | none => simp [RelO]
 | some x => simp only [Option.map_some, RelO]; exact he x
theorem pairs_map (rho : Operand → Value) (ps : Array (Nat × Operand)) : (ps.map fun (i, x) => (i, rho x)) = ((ps.toList.map fun p => (p.1, rho p.2))).toArray := by
 rw [← Array.toList_inj]
 simp

theorem APick_sound {P : Program} {x y z : AV} {K : AV → Prop} (h : APick x y z K) {w : World} {c : Cx} {u v q : Value} (hx : RelV w c x u) (hy : RelV w c y v) (hz : RelV w c z q) :
  ∃ r av, (do pure (if ← asBool u then v else q) : Sem Value).run P w = .ok r w ∧ RelV w c av r ∧ K av := by
 unfold APick at h
 split at h
 ·rename_i t
  simp only [RelV] at hx
  obtain ⟨rfl, -⟩ := hx
  cases t
  ·exact ⟨q, z, by simp [asBool], hz, h.2 rfl⟩
  ·exact ⟨v, y, by simp [asBool], hy, h.1 rfl⟩
 ·exact h.elim
theorem ALen_sound {P : Program} {t : TypeId} {x : AV} {hp : Hp} {K : AV → Prop} (h : ALen P t x hp K) {w : World} {c : Cx} (hi : Inv w c hp) (ty : TypeId) {v : Value} (hx : RelV w c x v) :
  ∃ r av, (Builtin.len_ #[t] ty #[v]).run P w = .ok r w ∧ RelV w c av r ∧ K av := by
 have hsl : ∀ (b : Option Addr) (n m : Nat), tyEl P t ≠ none → (Builtin.len_ #[t] ty #[.slice b n m]).run P w = .ok (.int .i64 n) w := by
  intro b n m hne
  obtain ⟨e, he⟩ := Option.ne_none_iff_exists'.1 hne
  have hu := und_of_tyEl he
  have he2 : P.elem t = e := by simp [Program.elem, hu]
  exact run_len_slice (P := P) w t ty b n m (by rw [he2]; exact hu)
 unfold ALen at h
 split at h
 ·rename_i s
  simp only [RelV] at hx
  obtain ⟨rfl, -⟩ := hx
  refine done h.2 rfl ?_
  simp [Builtin.len_, run_underlying (und_of_tyStr h.1), goInt]
 ·rename_i k rows
  simp only [RelV, RV] at hx
  obtain ⟨a, cap, rfl, _⟩ := hx
  exact done h.2 rfl (hsl _ _ _ h.1)
 ·simp only [RelV] at hx
  obtain ⟨rfl, -⟩ := hx
  exact done h.2 rfl (hsl _ _ _ h.1)
 ·rename_i s ver k off len
  simp only [RelV] at hx
  obtain ⟨h1, h2, h⟩ := h
  have h3 := hx.2 (by rw [← h2, hi.cur])
  split at h3
  ·obtain ⟨_, rfl, rfl⟩ := h3
   exact done h rfl (hsl _ _ _ h1)
  ·obtain ⟨_, a, rfl, _⟩ := h3
   exact done h rfl (hsl _ _ _ h1)
 ·exact h.elim
theorem AMax_sound {P : Program} {x y : AV} {K : AV → Prop} (h : AMax x y K) {w : World} {c : Cx} (ts : Array TypeId) (ty : TypeId) {u v : Value} (hx : RelV w c x u) (hy : RelV w c y v) :
  ∃ r av, (Builtin.max_ ts ty #[u, v]).run P w = .ok r w ∧ RelV w c av r ∧ K av := by
 unfold AMax at h
 split at h
 ·simp only [RelV] at hx hy
  obtain ⟨rfl, -⟩ := hx
  obtain ⟨rfl, -⟩ := hy
  exact done h rfl (by simp [Builtin.max_, Builtin.max2])
 ·exact h.elim
theorem AMin_sound {P : Program} {x y : AV} {K : AV → Prop} (h : AMin x y K) {w : World} {c : Cx} (ts : Array TypeId) (ty : TypeId) {u v : Value} (hx : RelV w c x u) (hy : RelV w c y v) :
  ∃ r av, (Builtin.min_ ts ty #[u, v]).run P w = .ok r w ∧ RelV w c av r ∧ K av := by
 unfold AMin at h
 split at h
 ·simp only [RelV] at hx hy
  obtain ⟨rfl, -⟩ := hx
  obtain ⟨rfl, -⟩ := hy
  exact done h rfl (by simp [Builtin.min_, Builtin.min2])
 ·exact h.elim

theorem run_callFunc {P : Program} {f : FuncId} (h : callable P f = true) (w : World) (args : Array Value) : (callFunc f args).run P w = .ok (.enter f args) w := by
 unfold callable at h
 split at h
 ·rename_i fn hf
  simp only [Bool.and_eq_true, Bool.not_eq_true', beq_eq_false_iff_ne] at h
  have hb : fn.body ≠ none := by intro hq; rw [hq] at h; simp at h
  simp [callFunc, hf, h.2, hb]
 ·cases h

theorem leaf_rel {w w' : World} {c : Cx} {S : Nat → Prop} {x : AV} (hx : x.leaf = true) {v : Value} (h : RV w S x v) : RelV w' c x v := by
 cases x <;> simp only [AV.leaf, Bool.false_eq_true] at hx
 case val u => simpa only [RV, RelV] using h
 case agg cs =>
  simp only [RV, RelV] at h ⊢
  obtain ⟨vs, e, ho, hr⟩ := h
  refine ⟨vs, e, ho, ?_⟩
  clear e ho
  induction cs generalizing vs with
  | nil => simpa only [RVL, RelL] using hr
  | cons x xs ih =>
   simp only [List.all_cons, Bool.and_eq_true] at hx
   simp only [RVL, RelL] at hr ⊢
   obtain ⟨u, us, rfl, h1, h2⟩ := hr
   refine ⟨u, us, rfl, ?_, ih hx.2 us h2⟩
   cases x <;> simp only [Bool.false_eq_true, false_and] at hx
   simpa only [RV, RelV] using h1
theorem flat_rel {w w' : World} {c : Cx} {S : Nat → Prop} {x : AV} (hx : x.flat = true) {v : Value} (h : RV w S x v) : RelV w' c x v := by
 unfold AV.flat at hx
 split at hx
 ·rename_i vs
  simp only [RV, RelV] at h ⊢
  obtain ⟨us, e, hr⟩ := h
  refine ⟨us, e, ?_⟩
  clear e
  induction vs generalizing us with
  | nil => simpa only [RVL, RelL] using hr
  | cons x xs ih =>
   simp only [List.all_cons, Bool.and_eq_true] at hx
   simp only [RVL, RelL] at hr ⊢
   obtain ⟨u, us, rfl, h1, h2⟩ := hr
   exact ⟨u, us, rfl, leaf_rel hx.1 h1, ih hx.2 us h2⟩
 ·exact leaf_rel hx h
theorem AFn_does {P : Program} {f : FuncId} {xs : List AV} {s : Site} {hp : Hp} {K : AV → Hp → Prop} (h : AFn P f xs s hp K) {o : Oper} {a : Act} {w : World} {c : Cx} (hi : Inv w c hp) {vs : List Value} (hx : RelL w c xs vs)
  (he : (execOp a.eval o).run P w = (callFunc f vs.toArray).run P w) : Does P o a w c K := by
 unfold AFn at h
 by_cases hc : callable P f = true
 case neg =>
  rw [if_neg hc] at h
  obtain ⟨v, hpl, hrun, hK⟩ := h
  exact does_of_run (he.trans (hrun hp (fun _ _ => rfl) w c vs hi hx)) (Ext.refl _ _) hi (by simp only [RelV]; exact ⟨trivial, hpl⟩) hK
 rw [if_pos hc] at h
 have useH : ∀ {xs : List AV} {hp : Hp} {c : Cx}, ACallH P f xs s hp K → Inv w c hp → RelL w c xs vs → Does P o a w c K := by
  intro xs hp c h hi hx
  obtain ⟨ss, args, hs, r, hs', hok, hn, hlen, hm, ha, _, hK⟩ := h
  intro Q
  unfold Oper.wp
  rw [he, run_callFunc hc]
  refine (callH_sound hok hn hlen hm ha hi hx).mono ?_
  rintro e w' ⟨v, c', rfl, h1, h2, h3⟩
  exact ⟨v, c', _, _, rfl, h1, h2, h3, hK⟩
 rcases h with h | h | h
 ·unfold ACallF at h
  split at h
  ·rename_i l hp' hp2
   obtain ⟨args', r, hs, hok, hK⟩ := h
   obtain ⟨c', g1, g2, g3⟩ := passL_sound hi hx hp2
   intro Q
   unfold Oper.wp
   rw [he, run_callFunc hc]
   refine (hok w (still w c') vs (fun b hb => hb.1) g2.glob (hs.sound g3)).mono ?_
   rintro e w' ⟨v, rfl, hb, hv⟩
   rcases hK with hK | ⟨hfl, hK⟩
   ·obtain ⟨x1, x2⟩ := below_ext g2 hb
    exact ⟨v, c', r, hp', rfl, g1.trans x1, x2, RelV.of_RV _ _ (RV.mono (fun b h => ⟨grown_is_still g2 x1 b h, rfl⟩) _ _ hv), hK⟩
   ·obtain ⟨x1, x2⟩ := below_ext hi hb
    exact ⟨v, c, r, hp, rfl, x1, x2, flat_rel hfl hv, hK⟩
  ·exact h.elim
 ·exact useH h hi hx
 ·cases ep : passL hp xs with
  | none => rw [ep] at h; exact h.elim
  | some y =>
   obtain ⟨l, hp1⟩ := y
   rw [ep] at h
   obtain ⟨c1, g1, g2, g3⟩ := passL_sound hi hx ep
   intro Q
   refine Oper.wp_mono ?_ (useH (c := c1) h g2 (RelL.of_RVL _ _ g3) Q)
   rintro a' w' ⟨v, c', av, hp', e1, e2, e3, e4, e5⟩
   exact ⟨v, c', av, hp', e1, g1.trans e2, e3, e4, e5⟩

theorem ADo_sound {P : Program} {ev : Operand → AV} {o : Oper} {s : Site} {hp : Hp} {K : AV → Hp → Prop} (h : ADo P ev o s hp K) {a : Act} {w : World} {c : Cx} (hi : Inv w c hp) (he : ∀ x, RelV w c (ev x) (a.eval x)) : Does P o a w c K := by
 obtain ⟨dst, op, type, pos, after, guard⟩ := o
 cases op <;> simp only [ADo] at h
 case move x => exact does_of_run rfl (Ext.refl _ _) hi (he x) h
 case assign x => exact does_of_run rfl (Ext.refl _ _) hi (he x) h
 case pick x y z => 
  obtain ⟨r, av, e, h1, h2⟩ := APick_sound (P := P) h (he x) (he y) (he z)
  refine does_of_run (v := r) ?_ (Ext.refl _ _) hi h1 h2
  simp only [execOp, Sem.run_bind] at e ⊢
  cases hq : (asBool (a.eval x)).run P w with
  | ok b w2 => rw [hq] at e; simp only [Result.andThen_ok, Sem.run_pure, Result.ok.injEq] at e ⊢; obtain ⟨e, rfl⟩ := e; exact ⟨by rw [e], rfl⟩
  | halt x w2 => rw [hq] at e; simp at e
 case alloc t => exact does_of_gives rfl (AAlloc_sound h hi)
 case box t x => exact does_of_gives rfl (ABox_sound h hi (he x))
 case build t ps => exact does_of_pure hi (by simp only [execOp]; rw [pairs_map]) (ABuild_sound h hi (relP_map he _))
 case buildSlice t n ps => exact does_of_gives (by simp only [execOp]; rw [pairs_map]) (ABuildF_sound (parts := ps.toList.map fun p => (p.1, ev p.2)) (by rw [List.map_map, List.map_map]; exact h) hi (relP_map he _))
 case load t x => exact does_of_pure hi rfl (ALoad_sound h hi (he x))
 case store t x y =>
  obtain ⟨w', c', hp', e, h1, h2, h3⟩ := AStoreF_sound h hi (he x) (he y)
  exact does_of_skip (by simp only [execOp, Sem.run_bind, e, Result.andThen_ok, Sem.run_pure]) h1 h2 h3
 case nilCheck x =>
  unfold ANilCheck at h
  have hx := he x
  split at h
  ·rename_i cs e
   rw [e] at hx
   have hx2 := hx
   simp only [RelV, RV] at hx2
   obtain ⟨b, off, e2, _⟩ := hx2
   exact does_of_run (v := a.eval x) (by simp only [execOp, e2]; rfl) (Ext.refl _ _) hi hx h
  ·rename_i s' v off e
   rw [e] at hx
   have hx2 := hx
   simp only [RelV] at hx2
   obtain ⟨b, cp, _, e2⟩ := hx2.2 (by rw [← h.1, hi.cur])
   exact does_of_run (v := a.eval x) (by simp only [execOp, e2]; rfl) (Ext.refl _ _) hi hx h.2
  ·rename_i s' v k i off e
   rw [e] at hx
   have hx2 := hx
   simp only [RelV] at hx2
   obtain ⟨b, cp, _, e2⟩ := hx2.2 (by rw [← h.1, hi.cur])
   exact does_of_run (v := a.eval x) (by simp only [execOp, e2]; rfl) (Ext.refl _ _) hi hx h.2
  ·rename_i f cap e
   rw [e] at hx
   have hx2 := hx
   simp only [RelV] at hx2
   obtain ⟨vs, e2, _⟩ := hx2
   exact does_of_run (v := a.eval x) (by simp only [execOp, e2]; rfl) (Ext.refl _ _) hi hx h
  ·exact h.elim
 case binOp op t x y yt =>
  split at h
  ·rename_i hn
   exact does_of_pure hi rfl (ANil_sound h hi hn x (he x) a rfl)
  ·exact does_of_pure hi rfl (ABin_sound h x y (he x) (he y))
 case field t x j => exact does_of_pure hi rfl (AField_sound h (he x))
 case lookup t x i ok => exact does_of_pure hi rfl (ALookup_sound h hi (he x) (he i))
 case mapUpdate t m k x =>
  obtain ⟨w', hp', e, h1, h2, h3⟩ := AMapUpd_sound h hi (he m) (he k) (he x)
  exact does_of_skip (by simp only [execOp, Sem.run_bind, e, Result.andThen_ok, Sem.run_pure]) h1 h2 h3
 case makeMap t r =>
  obtain ⟨rfl, h⟩ := h
  exact does_of_gives rfl (AMakeMap_sound h hi)
 case unOp op t x => exact does_of_pure hi rfl (AUn_sound h (he x))
 case convert src dst x =>
  obtain ⟨r, a, w', e, h1, h2, h3, h4⟩ := AConvO_sound h hi (he x)
  exact does_of_gives rfl ⟨r, a, w', c, hp, e, h1, h2, h3, h4⟩
 case makeInterface t x =>
  refine does_of_pure (m := Instr.makeInterface t (a.eval x)) hi rfl ⟨.iface t (a.eval x), .iface t (ev x), ?_, by simp only [RelV]; exact ⟨_, rfl, he x⟩, h.2⟩
  have h1 := h.1
  unfold tyNoIf at h1
  split at h1
  ·cases h1
  ·rename_i d hd hu
   simp only [Instr.makeInterface, Sem.run_bind, run_underlying hu, Result.andThen_ok]
   cases d <;> first | rfl | exact absurd rfl (hd _)
  ·cases h1
 case makeFunc f first cap =>
  unfold AMakeFunc at h
  split at h
  ·obtain ⟨h1, h2⟩ := h
   have hf : first = #[] := by rw [← Array.toList_inj]; exact h1
   subst hf
   refine does_of_pure (m := Instr.makeFunc _ _ _) hi rfl ⟨_, _, rfl, ?_, h2⟩
   simp only [RelV]
   exact ⟨cap.toList.map a.eval, by simp [← Array.toList_inj], relL_map he _⟩
  ·exact h.elim
 case makeSlice t l m => exact does_of_gives rfl (AMake_sound h hi (he l) (he m))
 case slice t x lo hi' mx =>
  obtain ⟨rfl, h⟩ := h
  exact does_of_pure hi rfl (ASlice_sound h hi (he x) (relO_map he _) (relO_map he _))
 case fieldAddr t x j => exact does_of_pure hi rfl (AFieldAddr_sound h hi (he x))
 case indexAddr t x i => exact does_of_pure hi rfl (AIndexAddr_sound h hi (he x) (he i))
 case index t x i => exact does_of_pure hi rfl (AIndex_sound h (he x) (he i))
 case extract x i => exact does_of_pure hi rfl (AExtract_sound h (he x))
 case call cl =>
  obtain ⟨callee, args, ts⟩ := cl
  unfold ACallOp at h
  have hargs : args.map a.eval = (args.toList.map a.eval).toArray := by simp [← Array.toList_inj]
  cases callee with
  | builtin b =>
   simp only at h
   have hl := relL_map he args.toList
   have hex : ∀ m : Sem Value, builtin b ts type (args.map fun | .const _ => true | _ => false) (args.toList.map a.eval).toArray = (do pure (.value (← m))) → execOp a.eval { dst, op := .call { callee := .builtin b, args, argTypes := ts }, type, pos, after, guard } = (do pure (.value (← m))) := by
    intro m hm
    simp only [execOp, resolve, hargs]
    exact hm
   unfold ABuiltin at h
   split at h
   ·rename_i x hx
    split at h
    ·rename_i t ht
     have hts : ts = #[t] := by rw [← Array.toList_inj]; exact ht
     subst hts
     rw [hx] at hl
     simp only [RelL] at hl
     obtain ⟨u, us, e1, h1, rfl⟩ := hl
     exact does_of_pure hi (hex (Builtin.len_ #[t] type #[u]) (by rw [e1]; rfl)) (ALen_sound h hi type h1)
    ·exact h.elim
   ·rename_i x y hx
    rw [hx] at hl
    simp only [RelL] at hl
    obtain ⟨u, us, e1, h1, u2, us2, rfl, h2, rfl⟩ := hl
    exact does_of_gives (hex (Builtin.append_ ts type #[u, u2]) (by rw [e1]; rfl)) (AAppend_sound h hi type h1 h2)
   ·rename_i x y hx
    rw [hx] at hl
    simp only [RelL] at hl
    obtain ⟨u, us, e1, h1, u2, us2, rfl, h2, rfl⟩ := hl
    exact does_of_pure hi (hex (Builtin.max_ ts type #[u, u2]) (by rw [e1]; rfl)) (AMax_sound h ts type h1 h2)
   ·rename_i x y hx
    rw [hx] at hl
    simp only [RelL] at hl
    obtain ⟨u, us, e1, h1, u2, us2, rfl, h2, rfl⟩ := hl
    exact does_of_pure hi (hex (Builtin.min_ ts type #[u, u2]) (by rw [e1]; rfl)) (AMin_sound h ts type h1 h2)
   ·rename_i x y hx
    rw [hx] at hl
    simp only [RelL] at hl
    obtain ⟨u, us, e1, h1, u2, us2, rfl, h2, rfl⟩ := hl
    exact does_of_gives (hex (Builtin.copy_ ts type #[u, u2]) (by rw [e1]; rfl)) (ACopy_sound h hi type h1 h2)
   ·rename_i x hx
    rw [hx] at hl
    simp only [RelL] at hl
    obtain ⟨u, us, e1, h1, rfl⟩ := hl
    exact does_of_gives (hex (Builtin.clear_ ts type #[u]) (by rw [e1]; rfl)) (AClear_sound h hi type h1)
   ·rename_i x hx
    rw [hx] at hl
    simp only [RelL] at hl
    obtain ⟨u, us, e1, h1, rfl⟩ := hl
    exact does_of_gives (hex (Builtin.cap_ ts type #[u]) (by rw [e1]; rfl)) (ACap_sound h hi type h1)
   ·exact h.elim
  | value f =>
   simp only at h
   have hf := he f
   split at h
   ·rename_i g cap e
    rw [e] at hf
    simp only [RelV] at hf
    obtain ⟨vs, e2, hf⟩ := hf
    refine AFn_does h hi ((relL_map he args.toList).append hf) ?_
    simp only [execOp, resolve, e2, Deferred.ofValue, Sem.run_bind, Sem.run_pure, Result.andThen_ok, invoke, hargs]
    simp
   ·exact h.elim
  | invoke r m => exact h.elim
end Go.Proofs.YtonolfpnidaflaaGreatDoor.E

/- The abstract machine of this claim, part R: what an operation looks at, and what it turns. No conditions. -/
namespace Go.Proofs.YtonolfpnidaflaaGreatDoor.E
open Go
set_option linter.unusedSimpArgs false
set_option linter.unusedVariables false
set_option linter.unusedSectionVars false
set_option maxRecDepth 20000

/-! ### Operations that look at no memory -/
/-- One value is answered. -/
def Wit (F : (AV → Prop) → Prop) (K : AV → Prop) : Prop := ∃ a, K a ∧ ∀ K' : AV → Prop, K' a → F K'
section
variable {P : Program} {K : AV → Prop}
theorem wit_AInt {op : BinOp} {k : IntKind} {a b : Int} (h : AInt op k a b K) : Wit (AInt op k a b) K := by
 cases op <;> first | exact ⟨_, h, fun _ h => h⟩ | exact ⟨_, h.2, fun _ hk => ⟨h.1, hk⟩⟩ | exact h.elim
theorem wit_AStr {op : BinOp} {a b : ByteArray} (h : AStr op a b K) : Wit (AStr op a b) K := by
 cases op <;> first | exact ⟨_, h, fun _ h => h⟩ | exact ⟨_, h.2, fun _ hk => ⟨h.1, hk⟩⟩ | exact h.elim
theorem wit_AEqS {s : Option (List EK)} {xs ys : List AV} {K : Bool → Prop} (h : AEqS s xs ys K) : ∃ b, K b ∧ ∀ K' : Bool → Prop, K' b → AEqS s xs ys K' := by
 unfold AEqS at h ⊢
 cases s with
 | none => exact h.elim
 | some l => exact ⟨_, h.2.2, fun K' hk => ⟨h.1, h.2.1, hk⟩⟩
theorem wit_ABin {op : BinOp} {t : TypeId} {x y : AV} (h : ABin P op t x y K) : Wit (ABin P op t x y) K := by
 unfold Wit
 unfold ABin at h ⊢
 split at h
 ·rename_i k a k' b
  split at h
  ·exact ⟨_, h.2, fun _ hk => ⟨h.1, hk⟩⟩
  ·exact ⟨_, h.2, fun _ hk => ⟨h.1, hk⟩⟩
  ·rename_i h1 h2
   obtain ⟨h3, h⟩ := h
   obtain ⟨a', hk, hall⟩ := wit_AInt h
   exact ⟨a', hk, fun K' hk' => ⟨h3, hall K' hk'⟩⟩
 ·exact wit_AStr h
 ·split at h
  ·exact ⟨_, h.2, fun _ hk => ⟨h.1, hk⟩⟩
  ·exact ⟨_, h.2, fun _ hk => ⟨h.1, hk⟩⟩
  ·exact h.elim
 ·split at h
  ·obtain ⟨b, hk, hall⟩ := wit_AEqS h
   exact ⟨_, hk, fun K' hk' => hall _ hk'⟩
  ·obtain ⟨b, hk, hall⟩ := wit_AEqS h
   exact ⟨_, hk, fun K' hk' => hall _ hk'⟩
  ·exact h.elim
 ·exact h.elim
theorem wit_AUn {op : UnOp} {x : AV} (h : AUn op x K) : Wit (AUn op x) K := by
 unfold Wit
 unfold AUn at h ⊢
 split at h <;> first | exact ⟨_, h, fun _ h => h⟩ | exact h.elim
theorem wit_AConv {s t : TypeId} {x : AV} (h : AConv P s t x K) : Wit (AConv P s t x) K := by
 unfold Wit
 unfold AConv at h ⊢
 split at h
 ·obtain ⟨h1, h⟩ := h
  split at h
  ·rename_i k hk
   exact ⟨_, h, fun _ h => ⟨h1, h⟩⟩
  ·exact h.elim
 ·obtain ⟨h1, h⟩ := h
  split at h
  ·rename_i h2
   exact ⟨_, h, fun _ hk => ⟨h1, by rw [if_pos h2]; exact hk⟩⟩
  ·rename_i h2
   exact ⟨_, h.2, fun _ hk => ⟨h1, by rw [if_neg h2]; exact ⟨h.1, hk⟩⟩⟩
 ·exact h.elim
theorem wit_AIface {t : TypeId} {x : AV} (h : AIface P t x K) : Wit (AIface P t x) K := ⟨_, h.2, fun _ hk => ⟨h.1, hk⟩⟩
theorem wit_AMakeFunc {f : Fn} {fi : Array Operand} {cap : List AV} (h : AMakeFunc f fi cap K) : Wit (AMakeFunc f fi cap) K := by
 unfold Wit
 unfold AMakeFunc at h ⊢
 split at h
 ·exact ⟨_, h.2, fun _ hk => ⟨h.1, hk⟩⟩
 ·exact h.elim
theorem wit_AExtract {x : AV} {i : Nat} (h : AExtract x i K) : Wit (AExtract x i) K := by
 unfold Wit
 unfold AExtract at h ⊢
 split at h
 ·obtain ⟨a, ha, h⟩ := h
  exact ⟨a, h, fun _ hk => ⟨a, ha, hk⟩⟩
 ·exact h.elim
theorem wit_AIndex {t : TypeId} {x i : AV} (h : AIndex P t x i K) : Wit (AIndex P t x i) K := by
 unfold Wit
 unfold AIndex at h ⊢
 split at h
 ·obtain ⟨h1, h2, b, h3, h⟩ := h
  exact ⟨_, h, fun _ hk => ⟨h1, h2, b, h3, hk⟩⟩
 ·exact h.elim
theorem wit_AField {t : TypeId} {x : AV} {j : Nat} (h : AField P t x j K) : Wit (AField P t x j) K := by
 unfold Wit
 unfold AField at h ⊢
 split at h
 ·split at h
  ·split at h
   ·exact ⟨_, h.2, fun _ hk => ⟨h.1, hk⟩⟩
   ·obtain ⟨y, hy, h⟩ := h
    exact ⟨_, h, fun _ hk => ⟨y, hy, hk⟩⟩
   ·exact h.elim
  ·exact h.elim
 ·exact h.elim
theorem wit_AMax {x y : AV} (h : AMax x y K) : Wit (AMax x y) K := by
 unfold Wit
 unfold AMax at h ⊢
 split at h
 ·exact ⟨_, h, fun _ h => h⟩
 ·exact h.elim
theorem wit_AMin {x y : AV} (h : AMin x y K) : Wit (AMin x y) K := by
 unfold Wit
 unfold AMin at h ⊢
 split at h
 ·exact ⟨_, h, fun _ h => h⟩
 ·exact h.elim
theorem wit_APick {x y z : AV} (h : APick x y z K) : Wit (APick x y z) K := by
 unfold Wit
 unfold APick at h ⊢
 split at h
 ·rename_i t
  cases t
  ·exact ⟨z, h.2 rfl, fun _ hk => ⟨(fun e => by cases e), fun _ => hk⟩⟩
  ·exact ⟨y, h.1 rfl, fun _ hk => ⟨fun _ => hk, (fun e => by cases e)⟩⟩
 ·exact h.elim

/-! ### Operations that read -/
def SameAt (l : List Site) (hp hp' : Hp) : Prop := ∀ s, s ∈ l → hp'.get s = hp.get s
def WitR (l : List Site) (hp : Hp) (F : Hp → (AV → Prop) → Prop) (K : AV → Prop) : Prop := ∃ a, K a ∧ ∀ hp', SameAt l hp hp' → ∀ K' : AV → Prop, K' a → F hp' K'
variable {hp : Hp}
theorem wit_ALoad1 {t : TypeId} {cs : List AV} (h : ALoad1 P t cs K) : Wit (ALoad1 P t cs) K := by
 unfold Wit
 unfold ALoad1 at h ⊢
 split at h
 ·split at h
  ·exact ⟨_, h.2, fun _ hk => ⟨h.1, hk⟩⟩
  ·exact h.elim
 ·split at h
  ·exact ⟨_, h, fun _ h => h⟩
  ·exact h.elim
 ·exact h.elim
theorem wit_AConvO {s t : TypeId} {x : AV} (h : AConvO P s t x hp K) : WitR (sts x) hp (fun hp K => AConvO P s t x hp K) K := by
 unfold WitR
 have other : (∀ hp K, AConvO P s t x hp K = AConv P s t x K) → ∃ a, K a ∧ ∀ hp', SameAt (sts x) hp hp' → ∀ K' : AV → Prop, K' a → AConvO P s t x hp' K' := fun e => by
  rw [e] at h
  obtain ⟨a, h1, h2⟩ := wit_AConv h
  exact ⟨a, h1, fun hp' _ K' hk => by rw [e]; exact h2 K' hk⟩
 cases x with
 | own st ver k off len =>
  have hs : st ∈ sts (.own st ver k off len) := by simp [sts]
  unfold AConvO AConvB at h
  simp only at h
  split at h
  ·rename_i n t' k' q rows e
   obtain ⟨g1, g2, g3, g4, g5, g6, l, g7, g8, g9, h⟩ := h
   refine ⟨_, h, fun hp' hs' K' hk => ?_⟩
   unfold AConvO AConvB
   simp only [hs' st hs, e]
   exact ⟨g1, g2, g3, g4, g5, g6, l, g7, g8, g9, hk⟩
  ·exact h.elim
 | _ => exact other fun _ _ => rfl
theorem wit_ALoad {t : TypeId} {x : AV} (h : ALoad P t x hp K) : WitR (sts x) hp (fun hp K => ALoad P t x hp K) K := by
 unfold WitR
 unfold ALoad at h ⊢
 split at h
 ·obtain ⟨a, h1, h2⟩ := wit_ALoad1 h
  exact ⟨a, h1, fun _ _ K' hk => h2 K' hk⟩
 ·rename_i s ver off
  have hs : s ∈ sts (.ptr s ver off) := by simp [sts]
  split at h
  ·rename_i n t' cs e
   obtain ⟨a, h1, h2⟩ := wit_ALoad1 h.2
   refine ⟨a, h1, fun hp' hs' K' hk => ?_⟩
   simp only [hs' s hs, e]
   exact ⟨h.1, h2 K' hk⟩
  ·rename_i n t' cs e
   obtain ⟨a, h1, h2⟩ := wit_ALoad1 h.2
   refine ⟨a, h1, fun hp' hs' K' hk => ?_⟩
   simp only [hs' s hs, e]
   exact ⟨h.1, h2 K' hk⟩
  ·rename_i n t' k' cs e
   obtain ⟨a, h1, h2⟩ := wit_ALoad1 h.2
   refine ⟨a, h1, fun hp' hs' K' hk => ?_⟩
   simp only [hs' s hs, e]
   exact ⟨h.1, h2 K' hk⟩
  ·exact h.elim
 ·rename_i s ver k i off
  have hs : s ∈ sts (.ept s ver k i off) := by simp [sts]
  split at h
  ·rename_i n t' k' q rows e
   obtain ⟨g1, g2, r, g3, h⟩ := h
   obtain ⟨a, h1, h2⟩ := wit_ALoad1 h
   refine ⟨a, h1, fun hp' hs' K' hk => ?_⟩
   simp only [hs' s hs, e]
   exact ⟨g1, g2, r, g3, h2 K' hk⟩
  ·rename_i n k' rows e
   obtain ⟨g1, g2, r, g3, h⟩ := h
   obtain ⟨a, h1, h2⟩ := wit_ALoad1 h
   refine ⟨a, h1, fun hp' hs' K' hk => ?_⟩
   simp only [hs' s hs, e]
   exact ⟨g1, g2, r, g3, h2 K' hk⟩
  ·exact h.elim
 ·exact h.elim
theorem wit_AFieldAddr {t : TypeId} {x : AV} {j : Nat} (h : AFieldAddr P t x j hp K) : WitR (sts x) hp (fun hp K => AFieldAddr P t x j hp K) K := by
 unfold WitR
 unfold AFieldAddr at h ⊢
 split at h
 ·split at h
  ·exact ⟨_, h, fun _ _ _ h => h⟩
  ·rename_i s v o
   refine ⟨_, h.2, fun hp' hs' _ hk => ⟨?_, hk⟩⟩
   rw [hs' s (by simp [sts])]; exact h.1
  ·rename_i s v k i o
   refine ⟨_, h.2, fun hp' hs' _ hk => ⟨?_, hk⟩⟩
   rw [hs' s (by simp [sts])]; exact h.1
  ·exact h.elim
 ·exact h.elim
theorem wit_AIndexAddr {t : TypeId} {x i : AV} (h : AIndexAddr P t x i hp K) : WitR (sts x) hp (fun hp K => AIndexAddr P t x i hp K) K := by
 unfold WitR
 unfold AIndexAddr at h ⊢
 split at h
 ·split at h
  ·obtain ⟨h1, h2, h3, r, h4, h⟩ := h
   exact ⟨_, h, fun _ _ _ hk => ⟨h1, h2, h3, r, h4, hk⟩⟩
  ·rename_i s ver k off len
   obtain ⟨h1, h2, h3, h⟩ := h
   have hs : s ∈ sts (.own s ver k off len) := by simp [sts]
   split at h
   ·rename_i m t' k' q rows e
    refine ⟨_, h.2.2, fun hp' hs' _ hk => ?_⟩
    simp only [hs' s hs, e]
    exact ⟨h1, h2, h3, h.1, h.2.1, hk⟩
   ·rename_i m k' rows e
    obtain ⟨g1, g2, r, g3, h⟩ := h
    refine ⟨_, h, fun hp' hs' _ hk => ?_⟩
    simp only [hs' s hs, e]
    exact ⟨h1, h2, h3, g1, g2, r, g3, hk⟩
   ·rename_i m t' cs e
    refine ⟨_, h.2, fun hp' hs' _ hk => ?_⟩
    simp only [hs' s hs, e]
    exact ⟨h1, h2, h3, h.1, hk⟩
   ·rename_i m t' k' cs e
    refine ⟨_, h.2, fun hp' hs' _ hk => ?_⟩
    simp only [hs' s hs, e]
    exact ⟨h1, h2, h3, h.1, hk⟩
   ·exact h.elim
  ·exact h.elim
 ·exact h.elim
theorem wit_ABnd {x : Option AV} {d : Int} {K : Int → Prop} (h : ABnd x d K) : ∃ n, K n ∧ ∀ K' : Int → Prop, K' n → ABnd x d K' := by
 unfold ABnd at h ⊢
 split at h
 ·exact ⟨_, h, fun _ h => h⟩
 ·exact ⟨_, h, fun _ h => h⟩
 ·exact h.elim
theorem wit_ASlice {t : TypeId} {x : AV} {lo hi : Option AV} (h : ASlice P t x lo hi hp K) : WitR (sts x) hp (fun hp K => ASlice P t x lo hi hp K) K := by
 unfold WitR
 unfold ASlice at h ⊢
 split at h
 ·obtain ⟨h1, h⟩ := h
  obtain ⟨l, h, a1⟩ := wit_ABnd h
  obtain ⟨m, h, a2⟩ := wit_ABnd h
  obtain ⟨h2, h3, h4, h⟩ := h
  exact ⟨_, h, fun _ _ _ hk => ⟨h1, a1 _ (a2 _ ⟨h2, h3, h4, hk⟩)⟩⟩
 ·obtain ⟨h1, h⟩ := h
  obtain ⟨l, h, a1⟩ := wit_ABnd h
  obtain ⟨m, h, a2⟩ := wit_ABnd h
  obtain ⟨h2, h3, h4, h⟩ := h
  exact ⟨_, h, fun _ _ _ hk => ⟨h1, a1 _ (a2 _ ⟨h2, h3, h4, hk⟩)⟩⟩
 ·obtain ⟨h1, h⟩ := h
  obtain ⟨l, h, a1⟩ := wit_ABnd h
  obtain ⟨m, h, a2⟩ := wit_ABnd h
  obtain ⟨h2, h3, h4, h⟩ := h
  exact ⟨_, h, fun _ _ _ hk => ⟨h1, a1 _ (a2 _ ⟨h2, h3, h4, hk⟩)⟩⟩
 ·rename_i s ver k off len
  obtain ⟨h0, h1, h⟩ := h
  obtain ⟨l, h, a1⟩ := wit_ABnd h
  obtain ⟨m, h, a2⟩ := wit_ABnd h
  obtain ⟨h2, h3, h4, h⟩ := h
  refine ⟨_, h, fun hp' hs' _ hk => ?_⟩
  have hs := hs' s (by simp [sts])
  simp only [hs]
  exact ⟨h0, h1, a1 _ (a2 _ ⟨h2, h3, h4, hk⟩)⟩
 ·exact h.elim
theorem wit_ANilCheck {x : AV} (h : ANilCheck x hp K) : WitR (sts x) hp (fun hp K => ANilCheck x hp K) K := by
 unfold WitR
 unfold ANilCheck at h ⊢
 split at h
 ·exact ⟨_, h, fun _ _ _ h => h⟩
 ·rename_i s v o
  refine ⟨_, h.2, fun hp' hs' _ hk => ⟨?_, hk⟩⟩
  rw [hs' s (by simp [sts])]; exact h.1
 ·rename_i s v k i o
  refine ⟨_, h.2, fun hp' hs' _ hk => ⟨?_, hk⟩⟩
  rw [hs' s (by simp [sts])]; exact h.1
 ·exact ⟨_, h, fun _ _ _ h => h⟩
 ·exact h.elim
theorem wit_ALen {t : TypeId} {x : AV} (h : ALen P t x hp K) : WitR (sts x) hp (fun hp K => ALen P t x hp K) K := by
 unfold WitR
 unfold ALen at h ⊢
 split at h
 ·exact ⟨_, h.2, fun _ _ _ hk => ⟨h.1, hk⟩⟩
 ·exact ⟨_, h.2, fun _ _ _ hk => ⟨h.1, hk⟩⟩
 ·exact ⟨_, h.2, fun _ _ _ hk => ⟨h.1, hk⟩⟩
 ·rename_i s ver k off len
  refine ⟨_, h.2.2, fun hp' hs' _ hk => ⟨h.1, ?_, hk⟩⟩
  rw [hs' s (by simp [sts])]; exact h.2.1
 ·exact h.elim
theorem wit_ALookup {t : TypeId} {x k : AV} {ok : Bool} (h : ALookup P t x k ok hp K) : WitR (sts x) hp (fun hp K => ALookup P t x k ok hp K) K := by
 unfold WitR
 unfold ALookup at h ⊢
 split at h
 ·rename_i s ver u
  have hs : s ∈ sts (.map s ver) := by simp [sts]
  split at h
  ·obtain ⟨h1, h⟩ := h
   split at h
   ·rename_i n mk' es e
    obtain ⟨h2, h3, h⟩ := h
    split at h
    ·refine ⟨_, h, fun hp' hs' _ hk => ?_⟩
     simp only [hs' s hs, e]
     exact ⟨h1, h2, h3, hk⟩
    ·exact h.elim
   ·exact h.elim
  ·exact h.elim
 ·exact h.elim
/-- A comparison with nil whose answer is known. -/
def nilDet (P : Program) (t : TypeId) (x : AV) (hp : Hp) : Prop :=
 match tyNil P t with
 | some k => match isNil hp k x with
  | some (some _, _) => True
  | _ => False
 | none => False
theorem isNil_same {k : NK} {x : AV} {hp' : Hp} (h : SameAt (sts x) hp hp') : isNil hp' k x = isNil hp k x := by
 cases k <;> cases x <;> simp only [isNil, nilS, nilP, nilM] <;> first | rfl | (rw [h _ (by simp [sts])])
theorem wit_ANil {op : BinOp} {t : TypeId} {x : AV} (hd : nilDet P t x hp) (h : ANil P op t x hp K) : WitR (sts x) hp (fun hp K => ANil P op t x hp K) K := by
 unfold WitR
 unfold nilDet at hd
 unfold ANil at h ⊢
 split at hd
 ·rename_i k e
  rw [e] at h ⊢
  split at hd
  ·rename_i b p e2
   cases op <;> simp only [e2] at h <;> first
    | exact h.elim
    | exact ⟨_, h, fun hp' hs' _ hk => by simp only [isNil_same hs', e2]; exact hk⟩
  ·exact hd.elim
 ·exact hd.elim
theorem lf_same {x : AV} {hp' : Hp} (h : SameAt (sts x) hp hp') : x.lf hp' = x.lf hp := by
 cases x <;> simp only [AV.lf] <;> rw [h _ (by simp [sts])]
theorem cs_same {x : AV} {hp' : Hp} (h : SameAt (sts x) hp hp') : x.cs hp' = x.cs hp := by
 unfold AV.cs
 split
 ·rfl
 ·rw [lf_same h]
theorem mem_stsL {l : List AV} {x : AV} (h : x ∈ l) {s : Site} (hs : s ∈ sts x) : s ∈ stsL l := by
 induction l with
 | nil => simp at h
 | cons y l ih =>
  simp only [stsL, List.mem_append]
  rcases List.mem_cons.1 h with rfl | h
  ·exact .inl hs
  ·exact .inr (ih h)
theorem fillA_same {pl : List (Nat × Nat)} {hp' : Hp} : ∀ (cells : List AV) (parts : List (Nat × AV)), (∀ x ∈ parts, SameAt (sts x.2) hp hp') → fillA hp' pl cells parts = fillA hp pl cells parts
 | cells, [], _ => rfl
 | cells, (i, x) :: rest, h => by
  simp only [fillA, cs_same (h (i, x) (.head _))]
  split
  ·split
   ·split
    ·exact fillA_same _ rest fun y hy => h y (.tail _ hy)
    ·rfl
   ·rfl
  ·rfl
theorem wit_ABuild {t : TypeId} {parts : List (Nat × AV)} (h : ABuild P t parts hp K) : WitR (stsL (parts.map (·.2))) hp (fun hp K => ABuild P t parts hp K) K := by
 unfold WitR
 unfold ABuild at h ⊢
 split at h
 ·split at h
  ·split at h
   ·rename_i z hz pl hpl cs hcs
    refine ⟨_, h, fun hp' hs' _ hk => ?_⟩
    try dsimp only
    rw [fillA_same _ parts fun x hx s hs => hs' s (mem_stsL (List.mem_map_of_mem hx) hs), hcs]
    exact hk
   ·exact h.elim
  ·exact h.elim
 ·exact h.elim
end

/-! ### Operations that turn memory -/
def app (up : List (Site × Nat × Blk)) (hp : Hp) : Hp := up.foldl (fun h x => h.set x.1 x.2.1 x.2.2) hp
/-- Turned, at these places alone. -/
def WitW (l wl : List Site) (hp : Hp) (F : Hp → (AV → Hp → Prop) → Prop) (K : AV → Hp → Prop) : Prop :=
 ∃ a up, (∀ x ∈ up, x.1 ∈ wl) ∧ K a (app up hp) ∧ ∀ hp', SameAt l hp hp' → ∀ K' : AV → Hp → Prop, K' a (app up hp') → F hp' K'
section
variable {P : Program} {hp : Hp} {K : AV → Hp → Prop} {s : Site}
theorem wit_ANew {t : TypeId} {cs : List AV} (h : ANew t cs s hp K) : WitW [s] [s] hp (fun hp K => ANew t cs s hp K) K := by
 refine ⟨_, [(s, (hp.get s).1 + 1, .cells t cs)], by simp, h, fun hp' hs' K' hk => ?_⟩
 have := hs' s (by simp)
 try dsimp only
 unfold ANew
 rw [this]
 exact hk
theorem wit_AAlloc {t : TypeId} (h : AAlloc P t s hp K) : WitW [s] [s] hp (fun hp K => AAlloc P t s hp K) K := by
 unfold AAlloc at h ⊢
 cases e : tyZ P t with
 | none => rw [e] at h; exact h.elim
 | some z => rw [e] at h; exact wit_ANew h
theorem wit_ABox {t : TypeId} {x : AV} (h : ABox t x s hp K) : WitW (s :: sts x) [s] hp (fun hp K => ABox t x s hp K) K := by
 unfold ABox at h
 cases e : x.cs hp with
 | none => rw [e] at h; exact h.elim
 | some cs =>
  rw [e] at h
  obtain ⟨a, up, h1, h2, h3⟩ := wit_ANew h
  refine ⟨a, up, h1, h2, fun hp' hs' K' hk => ?_⟩
  try dsimp only
  unfold ABox
  rw [cs_same (hp := hp) fun q hq => hs' q (by simp [hq]), e]
  exact h3 hp' (fun q hq => hs' q (by simp only [List.mem_singleton] at hq; simp [hq])) K' hk
theorem fillR_same {k : Nat} {hp' : Hp} : ∀ (rows : List (List AV)) (parts : List (Nat × AV)), (∀ x ∈ parts, SameAt (sts x.2) hp hp') → fillR hp' k rows parts = fillR hp k rows parts
 | rows, [], _ => rfl
 | rows, (i, x) :: rest, h => by
  simp only [fillR, cs_same (h (i, x) (.head _))]
  split
  ·split
   ·exact fillR_same _ rest fun y hy => h y (.tail _ hy)
   ·rfl
  ·rfl
theorem wit_ABuildSlice {t : TypeId} {n : Nat} {parts : List (Nat × AV)} (h : ABuildSlice P t n parts s hp K) : WitW (s :: stsL (parts.map (·.2))) [s] hp (fun hp K => ABuildSlice P t n parts s hp K) K := by
 unfold ABuildSlice at h
 split at h
 ·rename_i e he
  split at h
  ·rename_i k hk
   split at h
   ·rename_i z hz
    obtain ⟨h0, h1, h2, h⟩ := h
    split at h
    ·rename_i rows hr
     refine ⟨_, [(s, (hp.get s).1 + 1, .row e k none rows)], by simp, h, fun hp' hs' K' hk' => ?_⟩
     try dsimp only
     unfold ABuildSlice
     simp only [he, hk, hz]
     refine ⟨h0, h1, h2, ?_⟩
     rw [fillR_same _ parts fun x hx q hq => hs' q (List.mem_cons_of_mem _ (mem_stsL (List.mem_map_of_mem hx) hq)), hr, hs' s (by simp)]
     exact hk'
    ·exact h.elim
   ·exact h.elim
  ·exact h.elim
 ·exact h.elim
theorem wit_AMake {t : TypeId} {l m : AV} (h : AMake P t l m s hp K) : WitW [s] [s] hp (fun hp K => AMake P t l m s hp K) K := by
 unfold AMake at h
 split at h
 ·split at h
  ·rename_i e he
   split at h
   ·rename_i k by_ hk hby
    split at h
    ·rename_i z hz
     obtain ⟨h1, h2, h3, h4, h5, h6, h⟩ := h
     refine ⟨_, [(s, (hp.get s).1 + 1, _)], by simp, h, fun hp' hs' K' hk' => ?_⟩
     try dsimp only
     unfold AMake
     simp only [he, hk, hby, hz, hs' s (by simp)]
     exact ⟨h1, h2, h3, h4, h5, h6, hk'⟩
    ·exact h.elim
   ·exact h.elim
  ·exact h.elim
 ·exact h.elim
theorem wit_AMakeMap {t : TypeId} (h : AMakeMap P t s hp K) : WitW [s] [s] hp (fun hp K => AMakeMap P t s hp K) K := by
 unfold AMakeMap at h
 split at h
 ·rename_i mk el e
  refine ⟨_, [(s, (hp.get s).1 + 1, _)], by simp, h, fun hp' hs' K' hk' => ?_⟩
  try dsimp only
  unfold AMakeMap
  simp only [e, hs' s (by simp)]
  exact hk'
 ·exact h.elim
theorem wit_AStore {t : TypeId} {x v : AV} {K : Hp → Prop} (h : AStore P t x v hp K) : ∃ up, (∀ q ∈ up, q.1 ∈ sts x) ∧ K (app up hp) ∧ ∀ hp', SameAt (sts x ++ sts v) hp hp' → ∀ K' : Hp → Prop, K' (app up hp') → AStore P t x v hp' K' := by
 unfold AStore at h
 split at h
 ·rename_i l hl
  obtain ⟨h0, h⟩ := h
  split at h
  ·rename_i s ver off
   split at h
   ·rename_i n t' cs e
    refine ⟨[(s, n, _)], by simp [sts], h.2.2, fun hp' hs' K' hk => ?_⟩
    unfold AStore
    have hs := hs' s (by simp [sts])
    simp only [cs_same (hp := hp) fun q hq => hs' q (List.mem_append_right _ hq), hl, hs, e]
    exact ⟨h0, h.1, h.2.1, hk⟩
   ·rename_i n t' k' cs e
    refine ⟨[(s, n, _)], by simp [sts], h.2.2, fun hp' hs' K' hk => ?_⟩
    unfold AStore
    have hs := hs' s (by simp [sts])
    simp only [cs_same (hp := hp) fun q hq => hs' q (List.mem_append_right _ hq), hl, hs, e]
    exact ⟨h0, h.1, h.2.1, hk⟩
   ·exact h.elim
  ·rename_i s ver k i off
   split at h
   ·rename_i n t' k' q rows e
    obtain ⟨h1, h2, h3, r, h4, h5, h⟩ := h
    refine ⟨[(s, n, _)], by simp [sts], h, fun hp' hs' K' hk => ?_⟩
    unfold AStore
    have hs := hs' s (by simp [sts])
    simp only [cs_same (hp := hp) fun q hq => hs' q (List.mem_append_right _ hq), hl, hs, e]
    exact ⟨h0, h1, h2, h3, r, h4, h5, hk⟩
   ·exact h.elim
  ·exact h.elim
 ·exact h.elim
theorem wit_AMapUpd {t : TypeId} {x k v : AV} {K : Hp → Prop} (h : AMapUpd P t x k v hp K) : ∃ up, (∀ q ∈ up, q.1 ∈ sts x) ∧ K (app up hp) ∧ ∀ hp', SameAt (sts x) hp hp' → ∀ K' : Hp → Prop, K' (app up hp') → AMapUpd P t x k v hp' K' := by
 unfold AMapUpd at h
 split at h
 ·rename_i s ver u q
  split at h
  ·rename_i mk el hm
   obtain ⟨h0, h⟩ := h
   split at h
   ·rename_i n mk' es e
    refine ⟨[(s, n, _)], by simp [sts], h.2.2, fun hp' hs' K' hk => ?_⟩
    unfold AMapUpd
    have hs := hs' s (by simp [sts])
    simp only [hm, hs, e]
    exact ⟨h0, h.1, h.2.1, hk⟩
   ·exact h.elim
  ·exact h.elim
 ·exact h.elim
theorem rowsOf_same {k : Nat} {x : AV} {hp' : Hp} (h : SameAt (sts x) hp hp') : x.rowsOf hp' k = x.rowsOf hp k := by
 cases x with
 | own s ver k' off len => simp only [AV.rowsOf]; rw [h _ (by simp [sts])]
 | val v => unfold AV.rowsOf; split <;> simp_all
 | _ => rfl
theorem wit_AApC {e k by_ : Nat} {x y : AV} {ys : List (List AV)} (h : AApC e k by_ x s hp K ys) : WitW (s :: (sts x ++ sts y)) (s :: sts x) hp (fun hp K => AApC e k by_ x s hp K ys) K := by
 unfold AApC at h
 split at h
 ·obtain ⟨h4, h5, h⟩ := h
  refine ⟨_, [(s, (hp.get s).1 + 1, _)], by simp, h, fun hp' hs' K' hk' => ?_⟩
  try dsimp only
  unfold AApC
  rw [hs' s (by simp)]
  exact ⟨h4, h5, hk'⟩
 ·rename_i s1 ver k1 off len
  split at h
  ·rename_i n e' k2 q rows hrow
   obtain ⟨h4, h5, h6, h7, h8, h9, h10, h⟩ := h
   have key : ∀ hp', SameAt (s :: (sts (.own s1 ver k1 off len) ++ sts y)) hp hp' → hp'.get s1 = (n, .row e' k2 q rows) ∧ hp'.get s = hp.get s := fun hp' hs' =>
    ⟨by rw [hs' s1 (by simp [sts]), hrow], hs' s (by simp)⟩
   cases q with
   | none =>
    refine ⟨_, [(s1, n + 1, _)], by simp [sts], h, fun hp' hs' K' hk' => ?_⟩
    obtain ⟨k1', k3'⟩ := key hp' hs'
    try dsimp only
    unfold AApC
    simp only [k1']
    exact ⟨h4, h5, h6, h7, h8, h9, h10, hk'⟩
   | some cp =>
    rcases Nat.lt_or_ge cp (len + ys.length) with hlt | hge
    ·refine ⟨_, [(s, (hp.get s).1 + 1, _)], by simp, h.2 hlt, fun hp' hs' K' hk' => ?_⟩
     obtain ⟨k1', k3'⟩ := key hp' hs'
     try dsimp only
     unfold AApC
     simp only [k1', k3']
     exact ⟨h4, h5, h6, h7, h8, h9, h10, fun h => by omega, fun _ => hk'⟩
    ·refine ⟨_, [(s1, n, _)], by simp [sts], h.1 hge, fun hp' hs' K' hk' => ?_⟩
     obtain ⟨k1', k3'⟩ := key hp' hs'
     try dsimp only
     unfold AApC
     simp only [k1', k3']
     exact ⟨h4, h5, h6, h7, h8, h9, h10, fun _ => hk', fun h => by omega⟩
  ·exact h.elim
 ·exact h.elim
theorem wit_AAppend {ts : Array TypeId} {x y : AV} (h : AAppend P ts x y s hp K) : WitW (s :: (sts x ++ sts y)) (s :: sts x) hp (fun hp K => AAppend P ts x y s hp K) K := by
 unfold AAppend at h
 split at h
 ·rename_i t t' hts
  split at h
  ·rename_i e he
   split at h
   ·rename_i k by_ z hk hby hz
    obtain ⟨h1, h2, h3, h⟩ := h
    have key : ∀ {ys : List (List AV)}, AApC e k by_ x s hp K ys → (∀ hp' K', SameAt (s :: (sts x ++ sts y)) hp hp' → AApC e k by_ x s hp' K' ys → AYs P t t' z k by_ hp' y fun ys => AApC e k by_ x s hp' K' ys) → WitW (s :: (sts x ++ sts y)) (s :: sts x) hp (fun hp K => AAppend P ts x y s hp K) K := by
     intro ys h hy
     obtain ⟨a, up, w1, w2, w3⟩ := wit_AApC (y := y) h
     refine ⟨a, up, w1, w2, fun hp' hs' K' hk' => ?_⟩
     have := w3 hp' hs' K' hk'
     show AAppend P ts x y s hp' K'
     unfold AAppend
     simp only [hts, he, hk, hby, hz]
     exact ⟨h1, h2, h3, hy hp' K' hs' this⟩
    unfold AYs at h
    split at h
    ·rename_i htt
     split at h
     ·rename_i ys hys
      refine key h fun hp' K' hs' hk => ?_
      unfold AYs
      rw [if_pos htt, rowsOf_same (hp := hp) fun q hq => hs' q (by simp [hq]), hys]
      exact hk
     ·exact h.elim
    ·rename_i htt
     split at h
     ·obtain ⟨g1, g2, g3, g4, h⟩ := h
      refine key h fun hp' K' hs' hk => ?_
      unfold AYs
      rw [if_neg htt]
      exact ⟨g1, g2, g3, g4, hk⟩
     ·obtain ⟨g1, g2, h⟩ := h
      refine key h fun hp' K' hs' hk => ?_
      unfold AYs
      rw [if_neg htt]
      exact ⟨g1, g2, hk⟩
     ·exact h.elim
   ·exact h.elim
  ·exact h.elim
 ·exact h.elim
theorem wit_ACopy {ts : Array TypeId} {x y : AV} (h : ACopy P ts x y hp K) : WitW (sts x ++ sts y) (sts x) hp (fun hp K => ACopy P ts x y hp K) K := by
 unfold ACopy at h
 split at h
 ·rename_i t t2 s ver k off len hts
  split at h
  ·rename_i k0 hk0
   obtain ⟨h0, h⟩ := h
   split at h
   ·rename_i n t' k2 q rows e
    obtain ⟨h1, h2, h3, h⟩ := h
    split at h
    ·rename_i ys hys
     refine ⟨_, [(s, n, _)], by simp [sts], h, fun hp' hs' K' hk' => ?_⟩
     try dsimp only
     unfold ACopy
     have hs := hs' s (by simp [sts])
     simp only [hts, hk0, hs, e]
     rw [rowsOf_same (hp := hp) fun q hq => hs' q (List.mem_append_right _ hq), hys]
     exact ⟨h0, h1, h2, h3, hk'⟩
    ·exact h.elim
   ·exact h.elim
  ·exact h.elim
 ·exact h.elim
theorem wit_AClear {ts : Array TypeId} {x : AV} (h : AClear P ts x hp K) : WitW (sts x) (sts x) hp (fun hp K => AClear P ts x hp K) K := by
 unfold AClear at h
 split at h
 ·rename_i t s ver k off len hts
  split at h
  ·rename_i el he
   split at h
   ·rename_i z hz
    obtain ⟨h0, h⟩ := h
    split at h
    ·rename_i n t' k2 q rows e
     refine ⟨_, [(s, n, _)], by simp [sts], h.2.2.2, fun hp' hs' K' hk' => ?_⟩
     try dsimp only
     unfold AClear
     have hs := hs' s (by simp [sts])
     simp only [hts, he, hz, hs, e]
     exact ⟨h0, h.1, h.2.1, h.2.2.1, hk'⟩
    ·exact h.elim
   ·exact h.elim
  ·exact h.elim
 ·exact h.elim
end
end Go.Proofs.YtonolfpnidaflaaGreatDoor.E

/- The abstract machine of this claim, part S: an operation's reach. No conditions. -/
namespace Go.Proofs.YtonolfpnidaflaaGreatDoor.E
open Go
set_option linter.unusedSimpArgs false
set_option linter.unusedVariables false
set_option linter.unusedSectionVars false
set_option maxRecDepth 20000

theorem app_get (up : List (Site × Nat × Blk)) (hp : Hp) (s : Site) : (app up hp).get s = match (up.reverse.find? fun x => x.1 = s) with | some x => x.2 | none => hp.get s := by
 induction up generalizing hp with
 | nil => rfl
 | cons x up ih =>
  show (app up (hp.set x.1 x.2.1 x.2.2)).get s = _
  rw [ih]
  simp only [List.reverse_cons, List.find?_append]
  cases h : up.reverse.find? fun x => x.1 = s with
  | some y => simp
  | none =>
   simp only [Option.none_or, Hp.get_set, List.find?_singleton]
   by_cases e : x.1 = s <;> simp [e]
theorem app_same {l : List Site} {hp hp' : Hp} (h : SameAt l hp hp') (up : List (Site × Nat × Blk)) : SameAt l (app up hp) (app up hp') := by
 intro s hs
 rw [app_get, app_get, h s hs]
theorem app_append (a b : List (Site × Nat × Blk)) (hp : Hp) : app (a ++ b) hp = app b (app a hp) := by simp [app]
theorem app_other {up : List (Site × Nat × Blk)} {hp : Hp} {s : Site} (h : ∀ x ∈ up, x.1 ≠ s) : (app up hp).get s = hp.get s := by
 rw [app_get]
 cases e : up.reverse.find? fun x => x.1 = s with
 | none => rfl
 | some y =>
  have h1 := List.find?_some e
  have h2 := List.mem_of_find?_eq_some e
  simp only [List.mem_reverse] at h2
  exact absurd (of_decide_eq_true h1) (h y h2)

/-! ### What is handed over -/
theorem pass1_loc {hp hp' : Hp} {x y : AV} (h : pass1 hp x = some (y, hp')) : ∃ up, (∀ q ∈ up, q.1 ∈ sts x) ∧ hp' = app up hp ∧ ∀ hp2, SameAt (sts x) hp hp2 → pass1 hp2 x = some (y, app up hp2) := by
 unfold pass1 at h
 split at h
 ·rename_i s ver k off len
  have hs : s ∈ sts (.own s ver k off len) := by simp [sts]
  split at h
  ·rename_i n t k2 q rows e
   split at h
   ·rename_i hc
    cases h
    refine ⟨[(s, n, _)], by simp [sts], rfl, fun hp2 h2 => ?_⟩
    simp only [pass1, h2 s hs, e]
    rw [if_pos hc]
    rfl
   ·cases h
  ·rename_i n k2 rows e
   split at h
   ·rename_i hc
    cases h
    refine ⟨[], by simp, rfl, fun hp2 h2 => ?_⟩
    simp only [pass1, h2 s hs, e]
    rw [if_pos hc]
    rfl
   ·cases h
  ·cases h
 ·rename_i s ver off
  have hs : s ∈ sts (.ptr s ver off) := by simp [sts]
  split at h
  ·rename_i n t cs e
   split at h
   ·rename_i hc
    cases h
    refine ⟨[(s, n, _)], by simp [sts], rfl, fun hp2 h2 => ?_⟩
    simp only [pass1, h2 s hs, e]
    rw [if_pos hc]
    rfl
   ·cases h
  ·rename_i n t cs e
   split at h
   ·rename_i hc
    cases h
    refine ⟨[], by simp, rfl, fun hp2 h2 => ?_⟩
    simp only [pass1, h2 s hs, e]
    rw [if_pos hc]
    rfl
   ·cases h
  ·cases h
 all_goals first
  | (cases h; exact ⟨[], by simp, rfl, fun _ _ => rfl⟩)
  | cases h
theorem passC_loc {hp' : Hp} : ∀ {xs ys : List AV} {hp : Hp}, passC hp xs = some (ys, hp') → ∃ up, (∀ q ∈ up, q.1 ∈ stsL xs) ∧ hp' = app up hp ∧ ∀ hp2, SameAt (stsL xs) hp hp2 → passC hp2 xs = some (ys, app up hp2)
 | [], ys, hp, h => by
  simp only [passC, Option.some.injEq, Prod.mk.injEq] at h
  obtain ⟨rfl, rfl⟩ := h
  exact ⟨[], by simp, rfl, fun _ _ => rfl⟩
 | x :: xs, ys, hp, h => by
  simp only [passC] at h
  split at h
  ·rename_i y hp1 e1
   split at h
   ·rename_i ys' hp2 e2
    cases h
    obtain ⟨u1, a1, rfl, c1⟩ := pass1_loc e1
    obtain ⟨u2, a2, rfl, c2⟩ := passC_loc e2
    refine ⟨u1 ++ u2, fun q hq => ?_, (app_append _ _ _).symm, fun hp3 h3 => ?_⟩
    ·simp only [stsL, List.mem_append] at hq ⊢
     exact hq.imp (a1 q) (a2 q)
    ·have g1 := c1 hp3 fun s hs => h3 s (by simp only [stsL, List.mem_append]; exact .inl hs)
     have g2 := c2 (app u1 hp3) (app_same (fun s hs => h3 s (by simp only [stsL, List.mem_append]; exact .inr hs)) u1)
     simp only [passC, g1, g2, app_append]
   ·cases h
  ·cases h
theorem passA_loc {hp hp' : Hp} {x y : AV} (h : passA hp x = some (y, hp')) : ∃ up, (∀ q ∈ up, q.1 ∈ sts x) ∧ hp' = app up hp ∧ ∀ hp2, SameAt (sts x) hp hp2 → passA hp2 x = some (y, app up hp2) := by
 unfold passA at h
 split at h
 ·rename_i cs
  split at h
  ·rename_i l h2 e
   cases h
   obtain ⟨u, a, b, c⟩ := passC_loc e
   exact ⟨u, fun q hq => by simpa only [sts] using a q hq, b, fun hp2 hs => by simp only [passA, c hp2 (by simpa only [sts] using hs)]⟩
  ·cases h
 ·rename_i f cap
  split at h
  ·rename_i l h2 e
   cases h
   obtain ⟨u, a, b, c⟩ := passC_loc e
   exact ⟨u, fun q hq => by simpa only [sts] using a q hq, b, fun hp2 hs => by simp only [passA, c hp2 (by simpa only [sts] using hs)]⟩
  ·cases h
 ·rename_i h1 h2
  obtain ⟨u, a, b, c⟩ := pass1_loc h
  refine ⟨u, a, b, fun hp2 hs => ?_⟩
  unfold passA
  split
  ·exact absurd rfl (h1 _)
  ·exact absurd rfl (h2 _ _)
  ·exact c hp2 hs
theorem passL_loc {hp' : Hp} : ∀ {xs ys : List AV} {hp : Hp}, passL hp xs = some (ys, hp') → ∃ up, (∀ q ∈ up, q.1 ∈ stsL xs) ∧ hp' = app up hp ∧ ∀ hp2, SameAt (stsL xs) hp hp2 → passL hp2 xs = some (ys, app up hp2)
 | [], ys, hp, h => by
  simp only [passL, Option.some.injEq, Prod.mk.injEq] at h
  obtain ⟨rfl, rfl⟩ := h
  exact ⟨[], by simp, rfl, fun _ _ => rfl⟩
 | x :: xs, ys, hp, h => by
  simp only [passL] at h
  split at h
  ·rename_i y hp1 e1
   split at h
   ·rename_i ys' hp2 e2
    cases h
    obtain ⟨u1, a1, rfl, c1⟩ := passA_loc e1
    obtain ⟨u2, a2, rfl, c2⟩ := passL_loc e2
    refine ⟨u1 ++ u2, fun q hq => ?_, (app_append _ _ _).symm, fun hp3 h3 => ?_⟩
    ·simp only [stsL, List.mem_append] at hq ⊢
     exact hq.imp (a1 q) (a2 q)
    ·have g1 := c1 hp3 fun s hs => h3 s (by simp only [stsL, List.mem_append]; exact .inl hs)
     have g2 := c2 (app u1 hp3) (app_same (fun s hs => h3 s (by simp only [stsL, List.mem_append]; exact .inr hs)) u1)
     simp only [passL, g1, g2, app_append]
   ·cases h
  ·cases h

theorem pass1_sts {hp hp' : Hp} {x y : AV} (h : pass1 hp x = some (y, hp')) : sts y = [] := by
 unfold pass1 at h
 repeat' split at h
 all_goals first | (cases h; rfl) | cases h
theorem passC_sts {hp' : Hp} : ∀ {xs ys : List AV} {hp : Hp}, passC hp xs = some (ys, hp') → stsL ys = []
 | [], ys, hp, h => by simp only [passC, Option.some.injEq, Prod.mk.injEq] at h; rw [← h.1]; rfl
 | x :: xs, ys, hp, h => by
  simp only [passC] at h
  split at h
  ·rename_i y hp1 e1
   split at h
   ·rename_i ys' hp2 e2
    cases h
    simp only [stsL, pass1_sts e1, passC_sts e2, List.append_nil]
   ·cases h
  ·cases h
theorem passA_sts {hp hp' : Hp} {x y : AV} (h : passA hp x = some (y, hp')) : sts y = [] := by
 unfold passA at h
 split at h
 ·split at h
  ·rename_i e; cases h; simp only [sts]; exact passC_sts e
  ·cases h
 ·split at h
  ·rename_i e; cases h; simp only [sts]; exact passC_sts e
  ·cases h
 ·exact pass1_sts h
theorem passL_sts {hp' : Hp} : ∀ {xs ys : List AV} {hp : Hp}, passL hp xs = some (ys, hp') → stsL ys = []
 | [], ys, hp, h => by simp only [passL, Option.some.injEq, Prod.mk.injEq] at h; rw [← h.1]; rfl
 | x :: xs, ys, hp, h => by
  simp only [passL] at h
  split at h
  ·rename_i y hp1 e1
   split at h
   ·rename_i ys' hp2 e2
    cases h
    simp only [stsL, passA_sts e1, passL_sts e2, List.append_nil]
   ·cases h
  ·cases h
theorem sts_nrm1 {k : Option Nat} {x : AV} (h : sts x = []) : sts (nrm1 k x) = [] := by
 unfold nrm1
 split
 ·rfl
 ·exact h
theorem sts_nrmC : ∀ {ks : List (Option Nat)} {xs : List AV}, stsL xs = [] → stsL (nrmC ks xs) = []
 | [], xs, h => by simpa only [nrmC] using h
 | k :: ks, [], h => by simpa only [nrmC] using h
 | k :: ks, x :: xs, h => by
  simp only [stsL, List.append_eq_nil_iff] at h
  simp only [nrmC, stsL, sts_nrm1 h.1, sts_nrmC h.2, List.append_nil]
theorem sts_nrmV {ks : List (Option Nat)} {x : AV} (h : sts x = []) : sts (nrmV ks x) = [] := by
 unfold nrmV
 split
 ·simp only [sts] at h ⊢; exact sts_nrmC h
 ·split
  ·exact sts_nrm1 h
  ·exact h
theorem sts_nrmL {ks : List (Option Nat)} : ∀ {xs : List AV}, stsL xs = [] → stsL (xs.map (nrmV ks)) = []
 | [], h => h
 | x :: xs, h => by
  simp only [stsL, List.append_eq_nil_iff] at h
  simp only [List.map_cons, stsL, sts_nrmV h.1, sts_nrmL h.2, List.append_nil]
theorem stsL_zip (idx : List Nat) : ∀ (l : List AV), stsL l = [] → stsL ((idx.zip l).map (·.2)) = [] := by
 induction idx with
 | nil => intro l _; simp [stsL]
 | cons i idx ih =>
  intro l h
  cases l with
  | nil => simp [stsL]
  | cons x l =>
   simp only [stsL, List.append_eq_nil_iff] at h
   simp only [List.zip_cons_cons, List.map_cons, stsL, h.1, ih l h.2, List.append_nil]
theorem wit_ABuildF {P : Program} {t : TypeId} {n : Nat} {idx : List Nat} {xs : List AV} {s : Site} {hp : Hp} {K : AV → Hp → Prop} (h : ABuildF P t n idx s K (passL hp xs)) : WitW (s :: stsL xs) (s :: stsL xs) hp (fun hp K => ABuildF P t n idx s K (passL hp xs)) K := by
 cases e : passL hp xs with
 | none => rw [e] at h; exact h.elim
 | some x =>
  obtain ⟨l, hp1⟩ := x
  rw [e] at h
  simp only [ABuildF] at h
  obtain ⟨up, a, rfl, b⟩ := passL_loc e
  obtain ⟨v, up2, w1, w2, w3⟩ := wit_ABuildSlice h
  refine ⟨v, up ++ up2, fun q hq => ?_, by rw [app_append]; exact w2, fun hp' hs' K' hk => ?_⟩
  ·rcases List.mem_append.1 hq with hq | hq
   ·exact List.mem_cons_of_mem _ (a q hq)
   ·have := w1 q hq; simp only [List.mem_singleton] at this; rw [this]; exact .head _
  ·try dsimp only
   rw [b hp' fun q hq => hs' q (List.mem_cons_of_mem _ hq)]
   simp only [ABuildF]
   rw [app_append] at hk
   refine w3 (app up hp') (fun q hq => ?_) K' hk
   rw [stsL_zip idx _ (sts_nrmL (passL_sts e))] at hq
   simp only [List.mem_singleton] at hq
   subst hq
   exact app_same (l := [q]) (fun r hr => by simp only [List.mem_singleton] at hr; subst hr; exact hs' r (.head _)) up q (by simp)
theorem wit_AStoreF {P : Program} {t : TypeId} {x v : AV} {hp : Hp} {K : Hp → Prop} (h : AStoreF P t x v hp K) : ∃ up, (∀ q ∈ up, q.1 ∈ sts x ∨ (∃ s ver k i off, x = .ept s ver k i off) ∧ q.1 ∈ sts v) ∧ K (app up hp) ∧ ∀ hp', SameAt (sts x ++ sts v) hp hp' → ∀ K' : Hp → Prop, K' (app up hp') → AStoreF P t x v hp' K' := by
 have base : AStore P t x v hp K → (∀ hp' (K' : Hp → Prop), AStoreF P t x v hp' K' = AStore P t x v hp' K') → ∃ up, (∀ q ∈ up, q.1 ∈ sts x ∨ (∃ s ver k i off, x = .ept s ver k i off) ∧ q.1 ∈ sts v) ∧ K (app up hp) ∧ ∀ hp', SameAt (sts x ++ sts v) hp hp' → ∀ K' : Hp → Prop, K' (app up hp') → AStoreF P t x v hp' K' := fun h e => by
  obtain ⟨up, h0, h1, h2⟩ := wit_AStore h
  exact ⟨up, fun q hq => .inl (h0 q hq), h1, fun hp' hs' K' hk => by rw [e]; exact h2 hp' hs' K' hk⟩
 cases x with
 | ept s ver k i off =>
  simp only [AStoreF] at h
  cases e : passA hp v with
  | none => rw [e] at h; exact h.elim
  | some y =>
   obtain ⟨v1, hp1⟩ := y
   rw [e] at h
   simp only [AStoreE] at h
   obtain ⟨up, a, rfl, b⟩ := passA_loc e
   obtain ⟨up2, w1, w2, w3⟩ := wit_AStore h
   refine ⟨up ++ up2, fun q hq => ?_, by rw [app_append]; exact w2, fun hp' hs' K' hk => ?_⟩
   ·rcases List.mem_append.1 hq with hq | hq
    ·exact .inr ⟨⟨_, _, _, _, _, rfl⟩, a q hq⟩
    ·exact .inl (w1 q hq)
   ·simp only [AStoreF]
    rw [b hp' fun q hq => hs' q (List.mem_append_right _ hq)]
    simp only [AStoreE]
    rw [app_append] at hk
    refine w3 (app up hp') (fun q hq => ?_) K' hk
    rw [sts_nrmV (passA_sts e), List.append_nil] at hq
    exact app_same (l := sts (.ept s ver k i off)) (fun r hr => hs' r (List.mem_append_left _ hr)) up q hq
 | _ => exact base h fun _ _ => rfl

/-! ### Calls -/
def Agree (D : List (Bool × Nat)) (hp hp' : Hp) : Prop := ∀ s : Site, s.key ∈ D → hp'.get s = hp.get s
theorem rch_mem (hp : Hp) (n : Nat) (l : List Site) (s : Site) (h : s ∈ l) : s ∈ rch hp n l := by
 cases n with
 | zero => exact h
 | succ n => exact List.mem_append_left _ h
theorem rch_same {hp hp' : Hp} : ∀ (n : Nat) (l : List Site), SameAt (rch hp n l) hp hp' → rch hp' n l = rch hp n l
 | 0, l, _ => rfl
 | n + 1, l, h => by
  have e : (l.flatMap fun s => stsB (hp'.get s).2) = l.flatMap fun s => stsB (hp.get s).2 := by
   have h1 : ∀ s ∈ l, hp'.get s = hp.get s := fun s hs => h s (List.mem_append_left _ hs)
   clear h
   induction l with
   | nil => rfl
   | cons x l ih =>
    simp only [List.flatMap_cons, h1 x (.head _)]
    rw [ih fun s hs => h1 s (.tail _ hs)]
  simp only [rch]
  rw [e, rch_same n _ fun s hs => h s (List.mem_append_right _ hs)]
def upl (hp : Hp) (ss0 : List Site) : List Site → List (Nat × Blk) → List (Site × Nat × Blk)
 | [], _ => []
 | s :: ss, [] => (s, (hp.get s).1, .gone) :: upl hp ss0 ss []
 | s :: ss, (v, b) :: r => (s, (hp.get s).1 + v, rnB (upG hp ss0) b) :: upl hp ss0 ss r
theorem upl_app (hp : Hp) (ss0 ss : List Site) (hs : List (Nat × Blk)) (acc : Hp) : hpU hp ss0 ss hs acc = app (upl hp ss0 ss hs) acc := by
 induction ss generalizing hs acc with
 | nil => cases hs <;> rfl
 | cons s ss ih =>
  cases hs with
  | nil => simp only [hpU, upl, ih]; rfl
  | cons x r => obtain ⟨v, b⟩ := x; simp only [hpU, upl, ih]; rfl
theorem upl_mem (hp : Hp) (ss0 ss : List Site) (hs : List (Nat × Blk)) : ∀ q ∈ upl hp ss0 ss hs, q.1 ∈ ss := by
 induction ss generalizing hs with
 | nil => intro q hq; cases hs <;> simp [upl] at hq
 | cons s ss ih =>
  intro q hq
  cases hs with
  | nil =>
   simp only [upl] at hq
   rcases List.mem_cons.1 hq with rfl | hq
   ·simp
   ·exact List.mem_cons_of_mem _ (ih [] q hq)
  | cons x r =>
   obtain ⟨v, b⟩ := x
   simp only [upl] at hq
   rcases List.mem_cons.1 hq with rfl | hq
   ·simp
   ·exact List.mem_cons_of_mem _ (ih r q hq)
section
variable {hp hp' : Hp} {ss : List Site} (h : SameAt ss hp hp')
include h
theorem dnG_same : dnG hp' ss = dnG hp ss := by
 funext s ver
 unfold dnG
 cases e : idx ss s with
 | none => rfl
 | some i => simp only [h s (List.mem_of_getElem? (idx_some e))]
theorem upG_same : upG hp' ss = upG hp ss := by
 funext s ver
 unfold upG
 cases s with
 | e i =>
  cases e : ss[i]? with
  | none => simp only [e]
  | some s' => simp only [e, h s' (List.mem_of_getElem? e)]
 | _ => rfl
theorem MB_same {hs : List Blk} (hm : MB hp ss ss hs) : MB hp' ss ss hs := by
 have key : ∀ (l : List Site) (hs : List Blk), (∀ s ∈ l, s ∈ ss) → MB hp ss l hs → MB hp' ss l hs := by
  intro l
  induction l with
  | nil => intro hs _ hm; cases hs <;> exact hm
  | cons s l ih =>
   intro hs hl hm
   cases hs with
   | nil => trivial
   | cons b hs =>
    simp only [MB] at hm ⊢
    rw [dnG_same h, h s (hl s (.head _))]
    exact ⟨hm.1, ih hs (fun q hq => hl q (.tail _ hq)) hm.2⟩
 exact key ss hs (fun _ hs => hs) hm
theorem upl_same (hs : List (Nat × Blk)) : upl hp' ss ss hs = upl hp ss ss hs := by
 have key : ∀ (l : List Site) (hs : List (Nat × Blk)), (∀ s ∈ l, s ∈ ss) → upl hp' ss l hs = upl hp ss l hs := by
  intro l
  induction l with
  | nil => intro hs _; cases hs <;> rfl
  | cons s l ih =>
   intro hs hl
   cases hs with
   | nil => simp only [upl, h s (hl s (.head _)), ih [] (fun q hq => hl q (.tail _ hq))]
   | cons x r => obtain ⟨v, b⟩ := x; simp only [upl, h s (hl s (.head _)), upG_same h, ih r (fun q hq => hl q (.tail _ hq))]
 exact key ss hs fun _ hs => hs
end
def callD (hp : Hp) (xs : List AV) (s : Site) : List (Bool × Nat) := (rch hp 4 (stsL xs)).map Site.key ++ [s.key, ukey]
theorem wit_AFn {P : Program} {f : FuncId} {xs : List AV} {s : Site} {hp : Hp} {K : AV → Hp → Prop} (h : AFn P f xs s hp K) :
  ∃ v up, (∀ q ∈ up, q.1.key ∈ callD hp xs s) ∧ K v (app up hp) ∧ ∀ hp', Agree (callD hp xs s) hp hp' → ∀ K' : AV → Hp → Prop, K' v (app up hp') → AFn P f xs s hp' K' := by
 unfold AFn at h ⊢
 by_cases hc : callable P f = true
 case neg =>
  rw [if_neg hc] at h
  obtain ⟨v, hpl, hrun, hK⟩ := h
  refine ⟨.val v, [], by simp, hK, fun hp' hag K' hk => ?_⟩
  rw [if_neg hc]
  have hr : rch hp' 4 (stsL xs) = rch hp 4 (stsL xs) := rch_same 4 _ fun q hq => hag q (List.mem_append_left _ (List.mem_map_of_mem hq))
  exact ⟨v, hpl, fun hp2 h2 => hrun hp2 fun q hq => (h2 q (by rw [hr]; exact hq)).trans (hag q hq), hk⟩
 rw [if_pos hc] at h
 simp only [if_pos hc]
 have hst : ∀ q ∈ stsL xs, q.key ∈ callD hp xs s := fun q hq => List.mem_append_left _ (List.mem_map_of_mem (rch_mem hp 4 _ q hq))
 rcases h with h | h | h
 ·unfold ACallF at h
  split at h
  ·rename_i l hp1 e
   obtain ⟨args', r, h1, h2, h3⟩ := h
   obtain ⟨up, a, rfl, b⟩ := passL_loc e
   have hs : ∀ hp', Agree (callD hp xs s) hp hp' → SameAt (stsL xs) hp hp' := fun hp' hag q hq => hag q (hst q hq)
   rcases h3 with h3 | ⟨hf, h3⟩
   ·refine ⟨r, up, fun q hq => hst _ (a q hq), h3, fun hp' hag K' hk => .inl ?_⟩
    rw [b hp' (hs hp' hag)]
    exact ⟨args', r, h1, h2, .inl hk⟩
   ·refine ⟨r, [], by simp, h3, fun hp' hag K' hk => .inl ?_⟩
    rw [b hp' (hs hp' hag)]
    exact ⟨args', r, h1, h2, .inr ⟨hf, hk⟩⟩
  ·exact h.elim
 ·obtain ⟨ss, args, hs, r, hs', hok, hn, hlen, hm, ha, hall, hK⟩ := h
  have hss : ∀ q ∈ ss, q.key ∈ callD hp xs s := fun q hq => by
   have := List.all_eq_true.1 hall q hq
   simpa [callD] using this
  refine ⟨_, upl hp ss ss hs', fun q hq => hss _ (upl_mem _ _ _ _ q hq), by rw [← upl_app]; exact hK, fun hp' hag K' hk => .inr (.inl ?_)⟩
  have hsame : SameAt ss hp hp' := fun q hq => hag q (hss q hq)
  have hr : rch hp' 4 (stsL xs) = rch hp 4 (stsL xs) := rch_same 4 _ fun q hq => hag q (List.mem_append_left _ (List.mem_map_of_mem hq))
  refine ⟨ss, args, hs, r, hs', hok, hn, hlen, MB_same hsame hm, by rw [dnG_same hsame]; exact ha, by rw [hr]; exact hall, ?_⟩
  rw [upG_same hsame, upl_app, upl_same hsame]
  exact hk

 ·cases e : passL hp xs with
  | none => rw [e] at h; exact h.elim
  | some y =>
   obtain ⟨l, hp1⟩ := y
   rw [e] at h
   obtain ⟨up, a, rfl, b⟩ := passL_loc e
   obtain ⟨ss, args, hs, r, hs', hok, hn, hlen, hm, ha, hall, hK⟩ := h
   have hl : stsL l = [] := passL_sts e
   have hr0 : ∀ hp2 : Hp, rch hp2 4 (stsL l) = [] := fun hp2 => by rw [hl]; rfl
   have hss0 : ∀ q ∈ ss, q.key = s.key ∨ q.key = ukey := fun q hq => by
    have := List.all_eq_true.1 hall q hq
    rw [hr0] at this
    simpa using this
   have hss : ∀ q ∈ ss, q.key ∈ callD hp xs s := fun q hq => List.mem_append_right _ (by rcases hss0 q hq with e | e <;> simp [e])
   refine ⟨_, up ++ upl (app up hp) ss ss hs', fun q hq => ?_, by rw [app_append, ← upl_app]; exact hK, fun hp' hag K' hk => .inr (.inr ?_)⟩
   ·rcases List.mem_append.1 hq with hq | hq
    ·exact hst _ (a q hq)
    ·exact hss _ (upl_mem _ _ _ _ q hq)
   ·rw [b hp' fun q hq => hag q (hst q hq)]
    have hsame : SameAt ss (app up hp) (app up hp') := app_same (fun q hq => hag q (hss q hq)) up
    refine ⟨ss, args, hs, r, hs', hok, hn, hlen, MB_same hsame hm, by rw [dnG_same hsame]; exact ha, by rw [hr0]; rw [hr0] at hall; exact hall, ?_⟩
    rw [upG_same hsame, upl_app, upl_same hsame, ← app_append]
    exact hk

/-! ### An operation -/
def opIn (ev : Operand → AV) (o : Oper) (s : Site) (hp : Hp) : List (Bool × Nat) :=
 match o.op with
 | .move _ => []
 | .assign _ => []
 | .call ⟨.value f, args, _⟩ => match ev f with
  | .func _ cap => callD hp (args.toList.map ev ++ cap) s
  | _ => []
 | .call ⟨_, args, _⟩ => (stsL (args.toList.map ev)).map Site.key ++ [s.key]
 | op => (stsL (op.operands.toList.map ev)).map Site.key ++ [s.key]
def opOut (ev : Operand → AV) (o : Oper) (s : Site) (hp : Hp) : List (Bool × Nat) :=
 match o.op with
 | .alloc _ | .box _ _ | .makeSlice _ _ _ | .makeMap _ _ => [s.key]
 | .buildSlice _ _ ps => (stsL (ps.toList.map fun p => ev p.2)).map Site.key ++ [s.key]
 | .store _ x y => (match ev x with | .ept _ _ _ _ _ => sts (ev x) ++ sts (ev y) | _ => sts (ev x)).map Site.key
 | .mapUpdate _ x _ _ => (sts (ev x)).map Site.key
 | .call ⟨.value f, args, _⟩ => match ev f with
  | .func _ cap => callD hp (args.toList.map ev ++ cap) s
  | _ => []
 | .call ⟨.builtin b, args, _⟩ => match b with
  | .append | .copy | .clear => (match args.toList with | x :: _ => (sts (ev x)).map Site.key | [] => []) ++ [s.key]
  | _ => []
 | _ => []
def opDet (P : Program) (ev : Operand → AV) (o : Oper) (hp : Hp) : Prop :=
 match o.op with
 | .binOp _ t x y _ => nilC P t y = true → nilDet P t (ev x) hp
 | .call ⟨.builtin .cap, _, _⟩ => False
 | _ => True
def Loc (P : Program) (ev : Operand → AV) (o : Oper) (s : Site) (hp : Hp) (K : AV → Hp → Prop) : Prop :=
 ∃ v up, (∀ q ∈ up, q.1.key ∈ opOut ev o s hp) ∧ K v (app up hp) ∧ ∀ (ev' : Operand → AV) (hp' : Hp), (∀ x ∈ o.op.operands.toList, ev' x = ev x) → Agree (opIn ev o s hp) hp hp' → ∀ K' : AV → Hp → Prop, K' v (app up hp') → ADo P ev' o s hp' K'
theorem map_ev {ev ev' : Operand → AV} {l : List Operand} (h : ∀ x ∈ l, ev' x = ev x) : l.map ev' = l.map ev := List.map_congr_left h
theorem map_ev2 {ev ev' : Operand → AV} {l : List (Nat × Operand)} (h : ∀ x ∈ l.map (·.2), ev' x = ev x) : (l.map fun p => (p.1, ev' p.2)) = l.map fun p => (p.1, ev p.2) :=
 List.map_congr_left fun p hp => by rw [h p.2 (List.mem_map_of_mem hp)]
theorem agree_at {D : List (Bool × Nat)} {hp hp' : Hp} (h : Agree D hp hp') {l : List Site} (hl : ∀ s ∈ l, s.key ∈ D) : SameAt l hp hp' := fun s hs => h s (hl s hs)

theorem ADo_loc {P : Program} {ev : Operand → AV} {o : Oper} {s : Site} {hp : Hp} {K : AV → Hp → Prop} (h : ADo P ev o s hp K) (hd : opDet P ev o hp) : Loc P ev o s hp K := by
 obtain ⟨dst, op, type, pos, after, guard⟩ := o
 unfold Loc
 have pure0 : ∀ {F : (Operand → AV) → (AV → Prop) → Prop}, (Wit (F ev) fun v => K v hp) → (∀ ev', (∀ x ∈ op.operands.toList, ev' x = ev x) → F ev' = F ev) → (∀ ev' hp' (K' : AV → Hp → Prop), ADo P ev' ⟨dst, op, type, pos, after, guard⟩ s hp' K' = F ev' fun v => K' v hp') →
   Loc P ev ⟨dst, op, type, pos, after, guard⟩ s hp K := by
  intro F hw he hF
  obtain ⟨a, h1, h2⟩ := hw
  exact ⟨a, [], by simp, h1, fun ev' hp' hev _ K' hk => by rw [hF, he ev' hev]; exact h2 _ hk⟩
 have read0 : ∀ {l : List Site} {F : (Operand → AV) → Hp → (AV → Prop) → Prop}, WitR l hp (F ev) (fun v => K v hp) → (∀ q ∈ l, q.key ∈ opIn ev ⟨dst, op, type, pos, after, guard⟩ s hp) → (∀ ev', (∀ x ∈ op.operands.toList, ev' x = ev x) → F ev' = F ev) →
   (∀ ev' hp' (K' : AV → Hp → Prop), ADo P ev' ⟨dst, op, type, pos, after, guard⟩ s hp' K' = F ev' hp' fun v => K' v hp') → Loc P ev ⟨dst, op, type, pos, after, guard⟩ s hp K := by
  intro l F hw hl he hF
  obtain ⟨a, h1, h2⟩ := hw
  exact ⟨a, [], by simp, h1, fun ev' hp' hev hag K' hk => by rw [hF, he ev' hev]; exact h2 hp' (agree_at hag hl) _ hk⟩
 have write0 : ∀ {l wl : List Site} {F : (Operand → AV) → Hp → (AV → Hp → Prop) → Prop}, WitW l wl hp (F ev) K → (∀ q ∈ l, q.key ∈ opIn ev ⟨dst, op, type, pos, after, guard⟩ s hp) → (∀ q ∈ wl, q.key ∈ opOut ev ⟨dst, op, type, pos, after, guard⟩ s hp) → (∀ ev', (∀ x ∈ op.operands.toList, ev' x = ev x) → F ev' = F ev) →
   (∀ ev' hp' (K' : AV → Hp → Prop), ADo P ev' ⟨dst, op, type, pos, after, guard⟩ s hp' K' = F ev' hp' K') → Loc P ev ⟨dst, op, type, pos, after, guard⟩ s hp K := by
  intro l wl F hw hl hwl he hF
  obtain ⟨a, up, h0, h1, h2⟩ := hw
  exact ⟨a, up, fun q hq => hwl _ (h0 q hq), h1, fun ev' hp' hev hag K' hk => by rw [hF, he ev' hev]; exact h2 hp' (agree_at hag hl) _ hk⟩
 have inS : ∀ (xs : List AV) (x : AV), x ∈ xs → ∀ q ∈ sts x, q.key ∈ (stsL xs).map Site.key ++ [s.key] := fun xs x hx q hq => List.mem_append_left _ (List.mem_map_of_mem (mem_stsL hx hq))
 cases op <;> simp only [ADo] at h
 case move x => exact pure0 (F := fun ev K => K (ev x)) ⟨_, h, fun _ h => h⟩ (fun ev' he => by rw [he x (by simp [Op.operands])]) fun _ _ _ => rfl
 case assign x => exact pure0 (F := fun ev K => K (ev x)) ⟨_, h, fun _ h => h⟩ (fun ev' he => by rw [he x (by simp [Op.operands])]) fun _ _ _ => rfl
 case pick x y z => exact pure0 (F := fun ev K => APick (ev x) (ev y) (ev z) K) (wit_APick h) (fun ev' he => by rw [he x (by simp [Op.operands]), he y (by simp [Op.operands]), he z (by simp [Op.operands])]) fun _ _ _ => rfl
 case alloc t => exact write0 (F := fun ev hp K => AAlloc P t s hp K) (wit_AAlloc h) (by simp [opIn]) (by simp [opOut]) (fun _ _ => rfl) fun _ _ _ => rfl
 case box t x => exact write0 (F := fun ev hp K => ABox t (ev x) s hp K) (wit_ABox h) (by
   intro q hq
   rcases List.mem_cons.1 hq with rfl | hq
   ·simp [opIn]
   ·simp only [opIn]; exact inS _ (ev x) (by simp [Op.operands]) q hq) (by simp [opOut]) (fun ev' he => by rw [he x (by simp [Op.operands])]) fun _ _ _ => rfl
 case build t ps =>
  have hF : ∀ ev' : Operand → AV, (∀ x ∈ (Op.build t ps).operands.toList, ev' x = ev x) → (fun hp K => ABuild P t (ps.toList.map fun p => (p.1, ev' p.2)) hp K) = fun hp K => ABuild P t (ps.toList.map fun p => (p.1, ev p.2)) hp K := fun ev' he => by
   rw [map_ev2 (ev' := ev') (ev := ev) (by simpa only [Op.operands] using he)]
  refine read0 (F := fun ev hp K => ABuild P t (ps.toList.map fun p => (p.1, ev p.2)) hp K) (wit_ABuild h) (fun q hq => ?_) hF fun _ _ _ => rfl
  simp only [opIn, Op.operands]
  refine List.mem_append_left _ (List.mem_map_of_mem ?_)
  rw [List.map_map] at hq
  simp only [List.map_map]
  exact hq
 case buildSlice t n ps =>
  have hF : ∀ ev' : Operand → AV, (∀ x ∈ (Op.buildSlice t n ps).operands.toList, ev' x = ev x) → (fun hp K => ABuildF P t n (ps.toList.map (·.1)) s K (passL hp (ps.toList.map fun p => ev' p.2))) = fun hp K => ABuildF P t n (ps.toList.map (·.1)) s K (passL hp (ps.toList.map fun p => ev p.2)) := fun ev' he => by
   have e : (ps.toList.map fun p => ev' p.2) = ps.toList.map fun p => ev p.2 := List.map_congr_left fun p hp => he p.2 (by simp only [Op.operands]; simpa using ⟨p.1, by simpa using hp⟩)
   rw [e]
  refine write0 (F := fun ev hp K => ABuildF P t n (ps.toList.map (·.1)) s K (passL hp (ps.toList.map fun p => ev p.2))) (wit_ABuildF h) (fun q hq => ?_) (fun q hq => ?_) hF fun _ _ _ => rfl
  ·simp only [opIn, Op.operands]
   rcases List.mem_cons.1 hq with rfl | hq
   ·simp
   ·refine List.mem_append_left _ (List.mem_map_of_mem ?_)
    simp only [List.map_map]
    simpa [Function.comp_def] using hq
  ·simp only [opOut]
   rcases List.mem_cons.1 hq with rfl | hq
   ·simp
   ·exact List.mem_append_left _ (List.mem_map_of_mem hq)
 case load t x => exact read0 (F := fun ev hp K => ALoad P t (ev x) hp K) (wit_ALoad h) (fun q hq => by simp only [opIn]; exact inS _ (ev x) (by simp [Op.operands]) q hq) (fun ev' he => by rw [he x (by simp [Op.operands])]) fun _ _ _ => rfl
 case store t x y =>
  obtain ⟨up, h0, h1, h2⟩ := wit_AStoreF h
  refine ⟨_, up, fun q hq => by
   simp only [opOut]
   refine List.mem_map_of_mem ?_
   rcases h0 q hq with h0 | ⟨⟨s', v', k', i', o', e⟩, h0⟩
   ·split
    ·exact List.mem_append_left _ h0
    ·exact h0
   ·rw [e]; exact List.mem_append_right _ h0, h1, fun ev' hp' he hag K' hk => ?_⟩
  simp only [ADo, he x (by simp [Op.operands]), he y (by simp [Op.operands])]
  refine h2 hp' (agree_at hag fun q hq => ?_) _ hk
  simp only [opIn]
  rcases List.mem_append.1 hq with hq | hq
  ·exact inS _ (ev x) (by simp [Op.operands]) q hq
  ·exact inS _ (ev y) (by simp [Op.operands]) q hq
 case nilCheck x => exact read0 (F := fun ev hp K => ANilCheck (ev x) hp K) (wit_ANilCheck h) (fun q hq => by simp only [opIn]; exact inS _ (ev x) (by simp [Op.operands]) q hq) (fun ev' he => by rw [he x (by simp [Op.operands])]) fun _ _ _ => rfl
 case binOp op t x y yt =>
  by_cases hn : nilC P t y = true
  ·simp only [hn, if_true] at h
   exact read0 (F := fun ev hp K => ANil P op t (ev x) hp K) (wit_ANil (hd hn) h) (fun q hq => by simp only [opIn]; exact inS _ (ev x) (by simp [Op.operands]) q hq) (fun ev' he => by rw [he x (by simp [Op.operands])]) fun _ _ _ => by simp only [ADo, hn, if_true]
  ·simp only [hn] at h
   exact pure0 (F := fun ev K => ABin P op t (ev x) (ev y) K) (wit_ABin h) (fun ev' he => by rw [he x (by simp [Op.operands]), he y (by simp [Op.operands])]) fun _ _ _ => by simp only [ADo, hn]; rfl
 case unOp op t x => exact pure0 (F := fun ev K => AUn op (ev x) K) (wit_AUn h) (fun ev' he => by rw [he x (by simp [Op.operands])]) fun _ _ _ => rfl
 case convert src d x => exact read0 (F := fun ev hp K => AConvO P src d (ev x) hp K) (wit_AConvO h) (fun q hq => by simp only [opIn]; exact inS _ (ev x) (by simp [Op.operands]) q hq) (fun ev' he => by rw [he x (by simp [Op.operands])]) fun _ _ _ => rfl
 case makeInterface t x => exact pure0 (F := fun ev K => AIface P t (ev x) K) (wit_AIface h) (fun ev' he => by rw [he x (by simp [Op.operands])]) fun _ _ _ => rfl
 case makeFunc f fi ca => exact pure0 (F := fun ev K => AMakeFunc f fi (ca.toList.map ev) K) (wit_AMakeFunc h) (fun ev' he => by rw [map_ev fun x hx => he x (by simp [Op.operands, hx])]) fun _ _ _ => rfl
 case makeMap t r =>
  obtain ⟨rfl, h⟩ := h
  exact write0 (F := fun ev hp K => AMakeMap P t s hp K) (wit_AMakeMap h) (by simp [opIn]) (by simp [opOut]) (fun _ _ => rfl) fun _ _ _ => by simp only [ADo, true_and]
 case makeSlice t l m => exact write0 (F := fun ev hp K => AMake P t (ev l) (ev m) s hp K) (wit_AMake h) (by simp [opIn]) (by simp [opOut]) (fun ev' he => by rw [he l (by simp [Op.operands]), he m (by simp [Op.operands])]) fun _ _ _ => rfl
 case slice t x lo hi mx =>
  obtain ⟨rfl, h⟩ := h
  exact read0 (F := fun ev hp K => ASlice P t (ev x) (lo.map ev) (hi.map ev) hp K) (wit_ASlice h) (fun q hq => by simp only [opIn]; exact inS _ (ev x) (by simp [Op.operands]) q hq) (fun ev' he => by
   rw [he x (by simp [Op.operands])]
   have e1 : lo.map ev' = lo.map ev := by cases lo with | none => rfl | some y => simp only [Option.map_some, he y (by simp [Op.operands])]
   have e2 : hi.map ev' = hi.map ev := by cases hi with | none => rfl | some y => simp only [Option.map_some, he y (by simp [Op.operands])]
   rw [e1, e2]) fun _ _ _ => by simp only [ADo, true_and]
 case fieldAddr t x j => exact read0 (F := fun ev hp K => AFieldAddr P t (ev x) j hp K) (wit_AFieldAddr h) (fun q hq => by simp only [opIn]; exact inS _ (ev x) (by simp [Op.operands]) q hq) (fun ev' he => by rw [he x (by simp [Op.operands])]) fun _ _ _ => rfl
 case field t x j => exact pure0 (F := fun ev K => AField P t (ev x) j K) (wit_AField h) (fun ev' he => by rw [he x (by simp [Op.operands])]) fun _ _ _ => rfl
 case indexAddr t x i => exact read0 (F := fun ev hp K => AIndexAddr P t (ev x) (ev i) hp K) (wit_AIndexAddr h) (fun q hq => by simp only [opIn]; exact inS _ (ev x) (by simp [Op.operands]) q hq) (fun ev' he => by rw [he x (by simp [Op.operands]), he i (by simp [Op.operands])]) fun _ _ _ => rfl
 case index t x i => exact pure0 (F := fun ev K => AIndex P t (ev x) (ev i) K) (wit_AIndex h) (fun ev' he => by rw [he x (by simp [Op.operands]), he i (by simp [Op.operands])]) fun _ _ _ => rfl
 case lookup t x i ok => exact read0 (F := fun ev hp K => ALookup P t (ev x) (ev i) ok hp K) (wit_ALookup h) (fun q hq => by simp only [opIn]; exact inS _ (ev x) (by simp [Op.operands]) q hq) (fun ev' he => by rw [he x (by simp [Op.operands]), he i (by simp [Op.operands])]) fun _ _ _ => rfl
 case mapUpdate t m k x =>
  obtain ⟨up, h0, h1, h2⟩ := wit_AMapUpd h
  refine ⟨_, up, fun q hq => by simp only [opOut]; exact List.mem_map_of_mem (h0 q hq), h1, fun ev' hp' he hag K' hk => ?_⟩
  simp only [ADo, he x (by simp [Op.operands]), he m (by simp [Op.operands]), he k (by simp [Op.operands])]
  exact h2 hp' (agree_at hag fun q hq => by simp only [opIn]; exact inS _ (ev m) (by simp [Op.operands]) q hq) _ hk
 case extract x i => exact pure0 (F := fun ev K => AExtract (ev x) i K) (wit_AExtract h) (fun ev' he => by rw [he x (by simp [Op.operands])]) fun _ _ _ => rfl
 case call cl =>
  obtain ⟨callee, args, ts⟩ := cl
  unfold ACallOp at h
  have hops : ∀ (b : Builtin) (ev' : Operand → AV), (∀ x ∈ (Op.call ⟨.builtin b, args, ts⟩).operands.toList, ev' x = ev x) → args.toList.map ev' = args.toList.map ev := fun b ev' he => map_ev fun x hx => he x (by simp [Op.operands, Call.operands, hx])
  cases callee with
  | builtin b =>
   simp only at h
   unfold ABuiltin at h
   split at h
   ·rename_i x hx
    split at h
    ·rename_i t ht
     exact read0 (F := fun ev hp K => match args.toList.map ev with | [x] => ALen P t x hp K | _ => False) (by
      obtain ⟨a, h1, h2⟩ := wit_ALen h
      exact ⟨a, h1, fun hp' hs K' hk => by simp only [hx]; exact h2 hp' hs K' hk⟩) (fun q hq => by simp only [opIn, hx]; exact inS _ x (by simp) q hq) (fun ev' he => by simp only [hops _ ev' he]) fun ev' hp' K' => by
       simp only [ADo, ACallOp]
       generalize args.toList.map ev' = l
       cases l with
       | nil => rfl
       | cons x l => cases l with
        | nil => simp only [ABuiltin, ht]
        | cons y l => rfl
    ·exact h.elim
   ·rename_i x y hx
    exact write0 (F := fun ev hp K => ABuiltin P .append ts (args.toList.map ev) s hp K) (by
     obtain ⟨a, up, h0, h1, h2⟩ := wit_AAppend h
     exact ⟨a, up, h0, h1, fun hp' hs K' hk => by simp only [ABuiltin, hx]; exact h2 hp' hs K' hk⟩) (fun q hq => by
      simp only [opIn, hx]
      rcases List.mem_cons.1 hq with rfl | hq
      ·simp
      ·rcases List.mem_append.1 hq with hq | hq
       ·exact inS _ x (by simp) q hq
       ·exact inS _ y (by simp) q hq) (fun q hq => by
      simp only [opOut]
      cases ha : args.toList with
      | nil => rw [ha] at hx; simp at hx
      | cons x0 xs0 =>
       rw [ha] at hx
       simp only [List.map_cons, List.cons.injEq] at hx
       simp only [hx.1]
       rcases List.mem_cons.1 hq with rfl | hq
       ·simp
       ·exact List.mem_append_left _ (List.mem_map_of_mem hq)) (fun ev' he => by simp only [hops _ ev' he]) fun _ _ _ => rfl
   ·rename_i x y hx
    exact pure0 (F := fun ev K => match args.toList.map ev with | [x, y] => AMax x y K | _ => False) (by
     obtain ⟨a, h1, h2⟩ := wit_AMax h
     exact ⟨a, h1, fun K' hk => by simp only [hx]; exact h2 K' hk⟩) (fun ev' he => by simp only [hops _ ev' he]) fun ev' hp' K' => by
      simp only [ADo, ACallOp]
      generalize args.toList.map ev' = l
      cases l with
      | nil => rfl
      | cons x l => cases l with
       | nil => rfl
       | cons y l => cases l with
        | nil => rfl
        | cons z l => rfl
   ·rename_i x y hx
    exact pure0 (F := fun ev K => match args.toList.map ev with | [x, y] => AMin x y K | _ => False) (by
     obtain ⟨a, h1, h2⟩ := wit_AMin h
     exact ⟨a, h1, fun K' hk => by simp only [hx]; exact h2 K' hk⟩) (fun ev' he => by simp only [hops _ ev' he]) fun ev' hp' K' => by
      simp only [ADo, ACallOp]
      generalize args.toList.map ev' = l
      cases l with
      | nil => rfl
      | cons x l => cases l with
       | nil => rfl
       | cons y l => cases l with
        | nil => rfl
        | cons z l => rfl
   ·rename_i x y hx
    exact write0 (F := fun ev hp K => ABuiltin P .copy ts (args.toList.map ev) s hp K) (by
     obtain ⟨a, up, h0, h1, h2⟩ := wit_ACopy h
     exact ⟨a, up, h0, h1, fun hp' hs K' hk => by simp only [ABuiltin, hx]; exact h2 hp' hs K' hk⟩) (fun q hq => by
      simp only [opIn, hx]
      rcases List.mem_append.1 hq with hq | hq
      ·exact inS _ x (by simp) q hq
      ·exact inS _ y (by simp) q hq) (fun q hq => by
      simp only [opOut]
      cases ha : args.toList with
      | nil => rw [ha] at hx; simp at hx
      | cons x0 xs0 =>
       rw [ha] at hx
       simp only [List.map_cons, List.cons.injEq] at hx
       simp only [hx.1]
       exact List.mem_append_left _ (List.mem_map_of_mem hq)) (fun ev' he => by simp only [hops _ ev' he]) fun _ _ _ => rfl
   ·rename_i x hx
    exact write0 (F := fun ev hp K => ABuiltin P .clear ts (args.toList.map ev) s hp K) (by
     obtain ⟨a, up, h0, h1, h2⟩ := wit_AClear h
     exact ⟨a, up, h0, h1, fun hp' hs K' hk => by simp only [ABuiltin, hx]; exact h2 hp' hs K' hk⟩) (fun q hq => by
      simp only [opIn, hx]
      exact inS _ x (by simp) q hq) (fun q hq => by
      simp only [opOut]
      cases ha : args.toList with
      | nil => rw [ha] at hx; simp at hx
      | cons x0 xs0 =>
       rw [ha] at hx
       simp only [List.map_cons, List.cons.injEq] at hx
       simp only [hx.1]
       exact List.mem_append_left _ (List.mem_map_of_mem hq)) (fun ev' he => by simp only [hops _ ev' he]) fun _ _ _ => rfl
   ·exact hd.elim
   ·exact h.elim
  | value f =>
   simp only at h
   split at h
   ·rename_i g cap e
    obtain ⟨v, up, h0, h1, h2⟩ := wit_AFn h
    refine ⟨v, up, fun q hq => by simp only [opOut, e]; exact h0 q hq, h1, fun ev' hp' he hag K' hk => ?_⟩
    have ef : ev' f = .func g cap := by rw [he f (by simp [Op.operands, Call.operands]), e]
    have ea : args.toList.map ev' = args.toList.map ev := map_ev fun x hx => he x (by simp [Op.operands, Call.operands, hx])
    simp only [ADo, ACallOp, ef, ea]
    exact h2 hp' (by simpa only [opIn, e] using hag) K' hk
   ·exact h.elim
  | invoke r m => exact h.elim
end Go.Proofs.YtonolfpnidaflaaGreatDoor.E

/- The abstract machine of this claim, part L: regions. No conditions. -/
namespace Go.Proofs.YtonolfpnidaflaaGreatDoor.E
open Go
set_option linter.unusedSimpArgs false
set_option linter.unusedVariables false
set_option linter.unusedSectionVars false
set_option maxRecDepth 20000

/-! ### States -/
def tget : List (Nat × AV) → Nat → AV
 | [], _ => .dead
 | (k, x) :: r, i => if k = i then x else tget r i
def tset : List (Nat × AV) → Nat → AV → List (Nat × AV)
 | [], i, v => [(i, v)]
 | (k, x) :: r, i, v => if k = i then (i, v) :: r else (k, x) :: tset r i v
theorem tget_tset (l : List (Nat × AV)) (i j : Nat) (v : AV) : tget (tset l i v) j = if i = j then v else tget l j := by
 induction l with
 | nil => simp [tset, tget]
 | cons x r ih =>
  obtain ⟨k, y⟩ := x
  simp only [tset]
  by_cases e : k = i
  ·subst e
   simp only [if_true, tget]
   by_cases e2 : k = j <;> simp [e2]
  ·simp only [e, if_false, tget, ih]
   by_cases e2 : k = j
   ·subst e2
    have : ¬ i = k := fun x => e x.symm
    simp [this]
   ·simp [e2]
structure ASt where
 tm : List (Nat × AV)
 hp : Hp
 n : Nat
def evC : Value → AV
 | .agg cs => if cs.all (fun v => plain v && v.oneCell') then .agg (cs.toList.map .val) else .dead
 | v => if plain v then .val v else .dead
def ev (tm : List (Nat × AV)) : Operand → AV
 | .tmp t => tget tm t
 | .const v => evC v
 | .func f => .func f []
 | .global _ => .dead
def ASt.put (st : ASt) (d : Option Nat) (v : AV) : ASt :=
 match d with
 | some d => if d < st.n then { st with tm := tset st.tm d v } else st
 | none => st

structure Sim (D : List Deferred) (w : World) (c : Cx) (st : ASt) (a : Act) : Prop where
 size : a.tmps.size = st.n
 tm : ∀ i, RelV w c (tget st.tm i) (a.tmps.getD i undef)
 inv : Inv w c st.hp
 df : a.defers = D

theorem relV_evC {w : World} {c : Cx} (v : Value) : RelV w c (evC v) v := by
 unfold evC
 split
 ·rename_i cs
  split
  ·rename_i h
   simp only [RelV]
   refine ⟨cs.toList, by simp, ?_, ?_⟩
   ·intro u hu
    have := Array.all_eq_true'.1 h u (Array.mem_toList_iff.1 hu)
    simp only [Bool.and_eq_true] at this
    exact this.2
   ·rw [← Array.all_toList] at h
    generalize cs.toList = l at h
    induction l with
    | nil => simp [RelL]
    | cons x l ih =>
     simp only [List.all_cons, Bool.and_eq_true] at h
     simp only [List.map_cons, RelL]
     exact ⟨x, l, rfl, by simp only [RelV]; exact ⟨trivial, h.1.1⟩, ih h.2⟩
  ·simp only [RelV]
 ·split
  ·rename_i h
   simp only [RelV]
   exact ⟨trivial, h⟩
  ·simp only [RelV]
theorem Sim.ev {D : List Deferred} {w : World} {c : Cx} {st : ASt} {a : Act} (h : Sim D w c st a) (x : Operand) : RelV w c (E.ev st.tm x) (a.eval x) := by
 cases x with
 | tmp t => exact h.tm t
 | const v => exact relV_evC v
 | func f => simp only [E.ev, Act.eval, RelV]; exact ⟨[], rfl, by simp [RelL]⟩
 | global g => simp only [E.ev, RelV]
theorem Sim.step {D : List Deferred} {w w' : World} {c c' : Cx} {st : ASt} {a : Act} (h : Sim D w c st a) (he : Ext w c w' c') {hp' : Hp} (hi : Inv w' c' hp') (d : Option Nat) {x : AV} {v : Value} (hx : RelV w' c' x v) : Sim D w' c' ({ st with hp := hp' }.put d x) (a.put d v) := by
 have h0 : Sim D w' c' { st with hp := hp' } a := ⟨h.size, fun i => RelV.ext he _ _ (h.tm i), hi, h.df⟩
 cases d with
 | none => exact h0
 | some d =>
  simp only [ASt.put]
  split
  ·rename_i hd
   refine ⟨by simp [Act.put, h.size], fun i => ?_, hi, h.df⟩
   simp only [Act.put]
   rw [tget_tset]
   by_cases e : d = i
   ·subst e
    rw [if_pos rfl]
    simpa [h.size, hd] using hx
   ·rw [if_neg e]
    have := h0.tm i
    simpa [Array.getElem?_setIfInBounds_ne e] using this
  ·rename_i hd
   have : a.put (some d) v = a := by
    simp only [Act.put]
    rw [Array.setIfInBounds_eq_of_size_le (by rw [h.size]; omega)]
   rw [this]
   exact h0

/-! ### Regions whose order is the text's -/
def siteOf (o : Oper) : Site := match o.dst with | some d => .l d | none => .l 1000000
def dstAt : List (Option Nat) → Nat → Option Nat
 | [], _ => none
 | d :: _, 0 => d
 | _ :: r, n + 1 => dstAt r n
def AGuard (x : AV) (t : Nat) (b : Bool) (st : ASt) (X Y : ASt → Prop) : Prop :=
 match x with
 | .val (.bool q) => (q = b → X (st.put (some t) (.val (.bool b)))) ∧ (q = !b → Y (st.put (some t) (.val (.bool (!b)))))
 | .val (.tuple _) => Y st
 | _ => False
def AStep (P : Program) (o : Oper) (K : ASt → Prop) (st : ASt) : Prop :=
 ADo P (ev st.tm) o (siteOf o) st.hp fun v hp' => K ({ st with hp := hp' }.put o.dst v)
def AOps (P : Program) (gd : List (Option Nat)) : List Oper → (ASt → Prop) → ASt → Prop
 | [], K, st => K st
 | o :: rest, K, st => match o.guard with
  | none => AStep P o (AOps P gd rest K) st
  | some (j, b) => match dstAt gd j with
   | some t => AGuard (tget st.tm t) t b st (AStep P o (AOps P gd rest K)) fun st' => AOps P gd rest K (st'.put o.dst (.val (.tuple #[])))
   | none => False

theorem Sim.same {D : List Deferred} {w : World} {c : Cx} {st : ASt} {a : Act} (h : Sim D w c st a) (t : Nat) {x : AV} (hx : RelV w c x (a.tmps.getD t undef)) : Sim D w c (st.put (some t) x) a := by
 simp only [ASt.put]
 split
 ·refine ⟨h.size, fun i => ?_, h.inv, h.df⟩
  simp only
  rw [tget_tset]
  by_cases e : t = i
  ·subst e; rw [if_pos rfl]; exact hx
  ·rw [if_neg e]; exact h.tm i
 ·exact h
theorem dstAt_eq (ops : List Oper) (j : Nat) : dstAt (ops.map (·.dst)) j = (ops[j]?).bind (·.dst) := by
 induction ops generalizing j with
 | nil => simp [dstAt]
 | cons o ops ih => cases j with
  | zero => simp [dstAt]
  | succ j => simp [dstAt, ih]
theorem AStep_sound {P : Program} {o : Oper} {K : ASt → Prop} {st : ASt} (h : AStep P o K st) {D : List Deferred} {w : World} {c : Cx} {a : Act} (hs : Sim D w c st a) (Q : Exit → Act → World → Prop) :
  o.wp P a w (fun a' w' => ∃ c' st', Ext w c w' c' ∧ Sim D w' c' st' a' ∧ K st') Q := by
 refine Oper.wp_mono ?_ (ADo_sound h hs.inv hs.ev Q)
 rintro a' w' ⟨v, c', av, hp', rfl, h1, h2, h3, h4⟩
 exact ⟨c', _, h1, hs.step h1 h2 o.dst h3, h4⟩
theorem AOps_sound {P : Program} {ops : Array Oper} {Q : Exit → Act → World → Prop} {K : ASt → Prop} (l : List Oper) :
  ∀ {D : List Deferred} {st : ASt} {w : World} {c : Cx} {a : Act}, AOps P (ops.toList.map (·.dst)) l K st → Sim D w c st a → (∀ st' w' c' a', K st' → Ext w c w' c' → Sim D w' c' st' a' → Q .normal a' w') → wpList P ops Q l a w := by
 induction l with
 | nil => intro D st w c a h hs hQ; exact hQ st w c a h (Ext.refl _ _) hs
 | cons o rest ih =>
  intro D st w c a h hs hQ
  simp only [AOps] at h
  unfold wpList
  have run : ∀ {st : ASt}, AStep P o (AOps P (ops.toList.map (·.dst)) rest K) st → Sim D w c st a → Oper.wp P o a w (wpList P ops Q rest) Q := by
   intro st h hs
   refine Oper.wp_mono ?_ (AStep_sound h hs Q)
   rintro a' w' ⟨c', st', h1, h2, h3⟩
   exact ih h3 h2 fun st2 w2 c2 a2 k e s => hQ st2 w2 c2 a2 k (h1.trans e) s
  split at h
  ·rename_i hg
   rw [if_pos (by simp [Region.wanted, hg])]
   exact .inl (run h hs)
  ·rename_i j b hg
   split at h
   ·rename_i t ht
    have hd : (ops[j]?).bind (·.dst) = some t := by
     rw [dstAt_eq] at ht
     simpa using ht
    have hy : yielded ops a.tmps j = match a.tmps.getD t undef with | .bool q => some q | _ => none := by
     unfold yielded
     simp only [hd, Option.bind_some]
     have e : a.tmps.getD t undef = (a.tmps[t]?).getD undef := by simp
     rw [e]
     cases hq : a.tmps[t]? with
     | none => rfl
     | some v => cases v <;> rfl
    have ht2 := hs.tm t
    unfold AGuard at h
    split at h
    ·rename_i q e
     rw [e] at ht2
     simp only [RelV] at ht2
     rw [ht2.1] at hy
     simp only at hy
     by_cases hqb : q = b
     ·subst hqb
      rw [if_pos (by simp [Region.wanted, hg, hy])]
      exact .inl (run (h.1 rfl) (hs.same t (by simp only [RelV]; exact ht2)))
     ·rw [if_neg (by simp [Region.wanted, hg, hy, hqb])]
      have hq2 : q = !b := by cases q <;> cases b <;> simp_all
      subst hq2
      have h2 := (hs.same t (x := .val (.bool (!b))) (by simp only [RelV]; exact ht2))
      exact ih (h.2 rfl) (h2.step (Ext.refl _ _) h2.inv o.dst (x := .val (.tuple #[])) (v := undef) (by simp only [RelV]; exact ⟨rfl, rfl⟩)) hQ
    ·rename_i vs e
     rw [e] at ht2
     simp only [RelV] at ht2
     rw [ht2.1] at hy
     simp only at hy
     rw [if_neg (by simp [Region.wanted, hg, hy])]
     exact ih h (hs.step (Ext.refl _ _) hs.inv o.dst (x := .val (.tuple #[])) (v := undef) (by simp only [RelV]; exact ⟨rfl, rfl⟩)) hQ
    ·exact h.elim
   ·exact h.elim

end Go.Proofs.YtonolfpnidaflaaGreatDoor.E

/- The abstract machine of this claim, part T: regions whose order is open. No conditions. -/
namespace Go.Proofs.YtonolfpnidaflaaGreatDoor.E
open Go
set_option linter.unusedSimpArgs false
set_option linter.unusedVariables false
set_option linter.unusedSectionVars false
set_option maxRecDepth 20000

/-! ### The text's order, and what may not be turned about -/
def dis (a b : List (Bool × Nat)) : Bool := a.all fun x => !b.contains x
def aftL : List Edge → List Nat
 | [] => []
 | e :: r => if Region.binds .any e = true then e.on :: aftL r else aftL r
def afts (l : List Oper) : List (List Nat) := l.map fun o => aftL o.after.toList
/-- Operation i comes ahead of operation j, whatever the order. -/
def ordB (a : List (List Nat)) : Nat → Nat → Nat → Bool
 | 0, _, _ => false
 | n + 1, i, j => match a[j]? with
  | some l => l.contains i || l.any fun m => ordB a n i m
  | none => false
abbrev Keys := List (Bool × Nat)
def chkQ (a : List (List Nat)) (j : Nat) (D : Keys) : List (Nat × Keys × Keys) → Prop
 | [] => True
 | x :: r => (dis x.2.2 D = true ∨ ordB a a.length x.1 j = true) ∧ chkQ a j D r
def chkW (a : List (List Nat)) (j : Nat) (W : Keys) : List (Nat × Keys) → Prop
 | [] => True
 | x :: r => (dis W x.2 = true ∨ ordB a a.length x.1 j = true) ∧ chkW a j W r
def chkV (a : List (List Nat)) (j : Nat) (D W : Keys) : List (Nat × Keys × Keys) → Prop
 | [] => True
 | x :: r => ((dis x.2.2 D = true ∧ dis W x.2.1 = true) ∨ ordB a a.length x.1 j = true) ∧ chkV a j D W r
/-- An operation's marks against those ahead of it: what follows. -/
def ADk (a : List (List Nat)) (j : Nat) (D : Keys) (rd : List (Nat × Keys)) (wr : List (Nat × Keys × Keys)) (X : List (Nat × Keys) → List (Nat × Keys × Keys) → Prop) : Keys → Prop
 | [] => chkQ a j D wr ∧ X ((j, D) :: rd) wr
 | w :: W => (chkW a j (w :: W) rd ∧ chkV a j D (w :: W) wr) ∧ X rd ((j, D, w :: W) :: wr)
def ADr (P : Program) (gd : List (Option Nat)) (a : List (List Nat)) : List Oper → Nat → List (Nat × Keys) → List (Nat × Keys × Keys) → (ASt → Prop) → ASt → Prop
 | [], _, _, _, K, st => K st
 | o :: rest, j, rd, wr, K, st =>
  let go := fun st : ASt => opDet P (ev st.tm) o st.hp ∧ ADk a j (opIn (ev st.tm) o (siteOf o) st.hp) rd wr (fun rd' wr' => AStep P o (ADr P gd a rest (j + 1) rd' wr' K) st) (opOut (ev st.tm) o (siteOf o) st.hp)
  match o.guard with
  | none => go st
  | some (g, b) => match dstAt gd g with
   | some t => AGuard (tget st.tm t) t b st go fun st' => ADr P gd a rest (j + 1) rd wr K (st'.put o.dst (.val (.tuple #[])))
   | none => False

/-! ### Effects -/
structure Eff where
 v : AV
 up : List (Site × Nat × Blk)
 D : Keys
 W : Keys
def ASt.eff (st : ASt) (d : Option Nat) (e : Eff) : ASt := { st with hp := app e.up st.hp }.put d e.v
theorem put_n (st : ASt) (d : Option Nat) (v : AV) : (st.put d v).n = st.n := by
 cases d with
 | none => rfl
 | some d => simp only [ASt.put]; split <;> rfl
theorem put_hp (st : ASt) (d : Option Nat) (v : AV) : (st.put d v).hp = st.hp := by
 cases d with
 | none => rfl
 | some d => simp only [ASt.put]; split <;> rfl
theorem put_tm (st : ASt) (d : Option Nat) (v : AV) (t : Nat) : tget (st.put d v).tm t = if d = some t ∧ t < st.n then v else tget st.tm t := by
 cases d with
 | none => simp [ASt.put]
 | some d =>
  simp only [ASt.put]
  split
  ·rename_i h
   rw [tget_tset]
   by_cases e : d = t
   ·subst e; simp [h]
   ·simp [e]
  ·rename_i h
   by_cases e : d = t
   ·subst e; simp [h]
   ·simp [e]
theorem eff_n (st : ASt) (d : Option Nat) (e : Eff) : (st.eff d e).n = st.n := put_n _ _ _
theorem eff_hp (st : ASt) (d : Option Nat) (e : Eff) : (st.eff d e).hp = app e.up st.hp := put_hp _ _ _
theorem eff_tm (st : ASt) (d : Option Nat) (e : Eff) (t : Nat) : tget (st.eff d e).tm t = if d = some t ∧ t < st.n then e.v else tget st.tm t := put_tm _ _ _ _
/-- The same state, told in another way. -/
structure Eqv (st st' : ASt) : Prop where
 n : st'.n = st.n
 tm : ∀ t, tget st'.tm t = tget st.tm t
 hp : ∀ s, st'.hp.get s = st.hp.get s
theorem Eqv.refl (st : ASt) : Eqv st st := ⟨rfl, fun _ => rfl, fun _ => rfl⟩
theorem Eqv.symm {a b : ASt} (h : Eqv a b) : Eqv b a := ⟨h.n.symm, fun t => (h.tm t).symm, fun s => (h.hp s).symm⟩
theorem Eqv.trans {a b c : ASt} (h : Eqv a b) (k : Eqv b c) : Eqv a c := ⟨k.n.trans h.n, fun t => (k.tm t).trans (h.tm t), fun s => (k.hp s).trans (h.hp s)⟩
theorem Inv.eqv {w : World} {c : Cx} {hp hp' : Hp} (h : Inv w c hp) (he : ∀ s, hp'.get s = hp.get s) : Inv w c hp' :=
 ⟨h.glob, fun s => by rw [he]; exact h.cur s, fun s => by rw [he]; exact h.ok s, h.inj, h.far, h.lt, h.farlt⟩
theorem Sim.eqv {D : List Deferred} {w : World} {c : Cx} {st st' : ASt} {a : Act} (h : Sim D w c st a) (he : Eqv st st') : Sim D w c st' a :=
 ⟨h.size.trans he.n.symm, fun i => by rw [he.tm]; exact h.tm i, h.inv.eqv he.hp, h.df⟩

abbrev Ent := Nat × Option Nat × Eff
/-- The effects of those of S, in the text's order. -/
def runS (S : Nat → Bool) : List Ent → ASt → ASt
 | [], st => st
 | (j, d, e) :: r, st => runS S r (if S j = true then st.eff d e else st)
theorem runS_n (S : Nat → Bool) (l : List Ent) (st : ASt) : (runS S l st).n = st.n := by
 induction l generalizing st with
 | nil => rfl
 | cons x r ih =>
  obtain ⟨j, d, e⟩ := x
  simp only [runS, ih]
  split
  ·exact eff_n _ _ _
  ·rfl
theorem runS_tm {S S' : Nat → Bool} {t : Nat} : ∀ (l : List Ent) {st st' : ASt}, (∀ x ∈ l, x.2.1 = some t → S x.1 = S' x.1) → st'.n = st.n → tget st'.tm t = tget st.tm t → tget (runS S' l st').tm t = tget (runS S l st).tm t
 | [], _, _, _, _, h => h
 | (j, d, e) :: r, st, st', hS, hn, h => by
  simp only [runS]
  refine runS_tm r (fun x hx => hS x (.tail _ hx)) ?_ ?_
  ·split <;> split <;> simp [eff_n, hn]
  ·by_cases hd : d = some t
   ·rw [← hS _ (.head _) hd]
    split
    ·rw [eff_tm, eff_tm, hn, h]
    ·exact h
   ·have e1 : ∀ st : ASt, tget (st.eff d e).tm t = tget st.tm t := fun st => by rw [eff_tm, if_neg (fun q => hd q.1)]
    split <;> split <;> simp only [e1, h]
theorem runS_hp {S S' : Nat → Bool} {s : Site} : ∀ (l : List Ent) {st st' : ASt}, (∀ x ∈ l, (∃ q ∈ x.2.2.up, q.1 = s) → S x.1 = S' x.1) → st'.hp.get s = st.hp.get s → (runS S' l st').hp.get s = (runS S l st).hp.get s
 | [], _, _, _, h => h
 | (j, d, e) :: r, st, st', hS, h => by
  simp only [runS]
  refine runS_hp r (fun x hx => hS x (.tail _ hx)) ?_
  by_cases hd : ∃ q ∈ e.up, q.1 = s
  ·rw [← hS _ (.head _) hd]
   split
   ·rw [eff_hp, eff_hp, app_get, app_get, h]
   ·exact h
  ·have e1 : ∀ st : ASt, (st.eff d e).hp.get s = st.hp.get s := fun st => by
    rw [eff_hp]
    exact app_other fun q hq he => hd ⟨q, hq, he⟩
   split <;> split <;> simp only [e1, h]
theorem runS_append (S : Nat → Bool) (a b : List Ent) (st : ASt) : runS S (a ++ b) st = runS S b (runS S a st) := by
 induction a generalizing st with
 | nil => rfl
 | cons x r ih => obtain ⟨j, d, e⟩ := x; simp only [List.cons_append, runS, ih]
theorem app_has {up : List (Site × Nat × Blk)} {s : Site} (h : ∃ q ∈ up, q.1 = s) (hp hp' : Hp) : (app up hp).get s = (app up hp').get s := by
 rw [app_get, app_get]
 cases e : up.reverse.find? fun x => x.1 = s with
 | some y => rfl
 | none =>
  obtain ⟨q, hq, he⟩ := h
  have := List.find?_eq_none.1 e q (by simpa using hq)
  simp [he] at this
/-- One more, at its place in the text, or behind all. -/
theorem runS_last {S : Nat → Bool} {l1 l2 : List Ent} {i : Nat} {d : Option Nat} {e : Eff} {st : ASt} (hi : S i = false) (h1 : ∀ x ∈ l1 ++ l2, x.1 ≠ i)
  (ht : ∀ x ∈ l2, S x.1 = true → ∀ t, d = some t → x.2.1 ≠ some t) (hw : ∀ x ∈ l2, S x.1 = true → ∀ q ∈ x.2.2.up, ∀ q' ∈ e.up, q.1 ≠ q'.1) :
  Eqv ((runS S (l1 ++ (i, d, e) :: l2) st).eff d e) (runS (fun j => S j || j == i) (l1 ++ (i, d, e) :: l2) st) := by
 have hne1 : ∀ x ∈ l1, (S x.1 || x.1 == i) = S x.1 := fun x hx => by have := h1 x (List.mem_append_left _ hx); simp [this]
 have hne2 : ∀ x ∈ l2, (S x.1 || x.1 == i) = S x.1 := fun x hx => by have := h1 x (List.mem_append_right _ hx); simp [this]
 simp only [runS_append, runS, hi, Bool.false_eq_true, if_false, Bool.false_or, beq_self_eq_true, if_true]
 refine ⟨by simp only [runS_n, eff_n], fun t => ?_, fun s => ?_⟩
 ·rw [eff_tm, runS_n, runS_n]
  by_cases hd : d = some t ∧ t < st.n
  ·rw [if_pos hd]
   have e0 : tget (runS (fun _ => false) l2 ((runS (fun j => S j || j == i) l1 st).eff d e)).tm t = tget (runS (fun j => S j || j == i) l2 ((runS (fun j => S j || j == i) l1 st).eff d e)).tm t :=
    runS_tm l2 (fun x hx hxt => by
     rw [hne2 x hx]
     cases hs : S x.1 with
     | false => rfl
     | true => exact absurd hxt (ht x hx hs t hd.1)) rfl rfl
   rw [← e0]
   have e3 : ∀ (l : List Ent) (st : ASt), runS (fun _ => false) l st = st := by
    intro l
    induction l with
    | nil => intro _; rfl
    | cons x r ih => intro st; obtain ⟨j, d, e⟩ := x; simp only [runS, Bool.false_eq_true, if_false, ih]
   rw [e3, eff_tm, runS_n, if_pos hd]
  ·rw [if_neg hd]
   refine runS_tm l2 (fun x hx _ => (hne2 x hx).symm) (by simp only [eff_n, runS_n]) ?_
   rw [eff_tm, runS_n, if_neg hd]
   exact runS_tm l1 (fun x hx _ => (hne1 x hx).symm) rfl rfl
 ·rw [eff_hp]
  by_cases hd : ∃ q ∈ e.up, q.1 = s
  ·have e0 : (runS (fun _ => false) l2 ((runS (fun j => S j || j == i) l1 st).eff d e)).hp.get s = (runS (fun j => S j || j == i) l2 ((runS (fun j => S j || j == i) l1 st).eff d e)).hp.get s :=
    runS_hp l2 (fun x hx hxt => by
     rw [hne2 x hx]
     cases hs : S x.1 with
     | false => rfl
     | true =>
      obtain ⟨q, hq, hqs⟩ := hxt
      obtain ⟨q', hq', hqs'⟩ := hd
      exact absurd (hqs.trans hqs'.symm) (hw x hx hs q hq q' hq')) rfl
   rw [← e0]
   have e3 : ∀ (l : List Ent) (st : ASt), runS (fun _ => false) l st = st := by
    intro l
    induction l with
    | nil => intro _; rfl
    | cons x r ih => intro st; obtain ⟨j, d, e⟩ := x; simp only [runS, Bool.false_eq_true, if_false, ih]
   rw [e3, eff_hp]
   exact app_has hd _ _
  ·rw [app_other fun q hq he => hd ⟨q, hq, he⟩]
   refine runS_hp l2 (fun x hx _ => (hne2 x hx).symm) ?_
   rw [eff_hp, app_other fun q hq he => hd ⟨q, hq, he⟩]
   exact runS_hp l1 (fun x hx _ => (hne1 x hx).symm) rfl
end Go.Proofs.YtonolfpnidaflaaGreatDoor.E

/- The abstract machine of this claim, part V: a region whose order is open comes to what its text's order comes to. No conditions. -/
namespace Go.Proofs.YtonolfpnidaflaaGreatDoor.E
open Go
set_option linter.unusedSimpArgs false
set_option linter.unusedVariables false
set_option linter.unusedSectionVars false
set_option maxRecDepth 20000

theorem mem_aftL {l : List Edge} {m : Nat} : m ∈ aftL l ↔ ∃ e ∈ l, Region.binds .any e = true ∧ e.on = m := by
 induction l with
 | nil => simp [aftL]
 | cons e r ih =>
  simp only [aftL]
  split
  ·rename_i h
   simp only [List.mem_cons, ih]
   constructor
   ·rintro (rfl | ⟨e', h1, h2, h3⟩)
    ·exact ⟨e, .inl rfl, h, rfl⟩
    ·exact ⟨e', .inr h1, h2, h3⟩
   ·rintro ⟨e', rfl | h1, h2, h3⟩
    ·exact .inl h3.symm
    ·exact .inr ⟨e', h1, h2, h3⟩
  ·rename_i h
   simp only [ih, List.mem_cons]
   constructor
   ·rintro ⟨e', h1, h2, h3⟩
    exact ⟨e', .inr h1, h2, h3⟩
   ·rintro ⟨e', rfl | h1, h2, h3⟩
    ·exact absurd h2 h
    ·exact ⟨e', h1, h2, h3⟩
def statB (ops : Array Oper) : Bool :=
 let a := afts ops.toList
 Region.noSelect ops && (List.range ops.size).all fun j => (a.getD j []).all (fun m => decide (m < j)) && (List.range j).all fun i =>
  match ops[i]?, ops[j]? with
  | some x, some y => x.apart ops y || ordB a a.length i j
  | _, _ => false

section
variable {P : Program} {ops : Array Oper}
/-- Whatever the state, if it is the same where the operation looks. -/
def GoodAt (P : Program) (ops : Array Oper) (j : Nat) (o : Oper) (st : ASt) (e : Eff) : Prop :=
 ∀ (D : List Deferred) (st' : ASt) (w : World) (c : Cx) (a : Act) (Q : Exit → Act → World → Prop), st'.n = st.n → (∀ t ∈ o.looksAt ops, tget st'.tm t = tget st.tm t) → Agree e.D st.hp st'.hp → Sim D w c st' a →
  wpOp P ops Q j (fun a' w' => ∃ c', Ext w c w' c' ∧ Sim D w' c' (st'.eff o.dst e) a') a w
theorem GoodAt.eqv {j : Nat} {o : Oper} {st st2 : ASt} {e : Eff} (h : GoodAt P ops j o st e) (he : Eqv st st2) : GoodAt P ops j o st2 e := by
 intro D st' w c a Q hn ht hag hs
 exact h D st' w c a Q (hn.trans he.n) (fun t htt => (ht t htt).trans (he.tm t)) (fun s hs => (hag s hs).trans (he.hp s)) hs

theorem opOut_sub (ev : Operand → AV) (o : Oper) (s : Site) (hp : Hp) : ∀ k ∈ opOut ev o s hp, k ∈ opIn ev o s hp := by
 intro k hk
 obtain ⟨dst, op, type, pos, after, guard⟩ := o
 have inS : ∀ (xs : List AV) (x : AV), x ∈ xs → ∀ k ∈ (sts x).map Site.key, k ∈ (stsL xs).map Site.key ++ [s.key] := fun xs x hx k hk => by
  obtain ⟨q, hq, rfl⟩ := List.mem_map.1 hk
  exact List.mem_append_left _ (List.mem_map_of_mem (mem_stsL hx hq))
 cases op <;> simp only [opOut, List.not_mem_nil] at hk
 case alloc t => simp only [opIn]; exact List.mem_append_right _ hk
 case box t x => simp only [opIn]; exact List.mem_append_right _ hk
 case buildSlice t n ps =>
  simp only [opIn, Op.operands, List.map_map] at hk ⊢
  simpa [Function.comp_def] using hk
 case makeMap t r => simp only [opIn]; exact List.mem_append_right _ hk
 case makeSlice t l m => simp only [opIn]; exact List.mem_append_right _ hk
 case store t x y =>
  simp only [opIn]
  have hx := inS ((Op.store t x y).operands.toList.map ev) (ev x) (by simp [Op.operands]) k
  have hy := inS ((Op.store t x y).operands.toList.map ev) (ev y) (by simp [Op.operands]) k
  split at hk
  ·rw [List.map_append] at hk
   rcases List.mem_append.1 hk with hk | hk
   ·exact hx hk
   ·exact hy hk
  ·exact hx hk
 case mapUpdate t m x y => simp only [opIn]; exact inS _ _ (by simp [Op.operands]) k hk
 case call cl =>
  obtain ⟨callee, args, ts⟩ := cl
  cases callee with
  | value f => simpa only [opIn] using hk
  | invoke r m => simp at hk
  | builtin b =>
   simp only [opIn]
   have key : k ∈ (match args.toList with | x :: _ => (sts (ev x)).map Site.key | [] => []) ++ [s.key] → k ∈ (stsL (args.toList.map ev)).map Site.key ++ [s.key] := by
    intro hk
    rcases List.mem_append.1 hk with hk | hk
    ·cases ha : args.toList with
     | nil => rw [ha] at hk; simp at hk
     | cons x xs => rw [ha] at hk; exact inS _ _ (by simp) k hk
    ·exact List.mem_append_right _ hk
   cases b <;> first | exact key hk | (simp only [List.not_mem_nil] at hk)

theorem looks_ev {o : Oper} {st st' : ASt} (h : ∀ t ∈ o.looksAt ops, tget st'.tm t = tget st.tm t) : ∀ x ∈ o.op.operands.toList, ev st'.tm x = ev st.tm x := by
 intro x hx
 cases x with
 | tmp t =>
  refine h t (List.mem_append_left _ (List.mem_filterMap.2 ⟨.tmp t, hx, rfl⟩))
 | _ => rfl
theorem good_step {j : Nat} {o : Oper} {st : ASt} {K : ASt → Prop} (ho : ops[j]? = some o) (hd : opDet P (ev st.tm) o st.hp) (h : AStep P o K st) (hw : ∀ (D : List Deferred) st' (w : World) (c : Cx) a, (∀ t ∈ o.looksAt ops, tget st'.tm t = tget st.tm t) → Sim D w c st' a → Region.wanted o (yielded ops a.tmps) = true) :
  ∃ v up, K (st.eff o.dst ⟨v, up, opIn (ev st.tm) o (siteOf o) st.hp, opOut (ev st.tm) o (siteOf o) st.hp⟩) ∧ (∀ q ∈ up, q.1.key ∈ opOut (ev st.tm) o (siteOf o) st.hp) ∧ GoodAt P ops j o st ⟨v, up, opIn (ev st.tm) o (siteOf o) st.hp, opOut (ev st.tm) o (siteOf o) st.hp⟩ := by
 obtain ⟨v, up, h1, h2, h3⟩ := ADo_loc h hd
 refine ⟨v, up, h2, h1, fun D st' w c a Q hn ht hag hs => ?_⟩
 unfold wpOp
 simp only [ho]
 rw [if_pos (hw D st' w c a ht hs)]
 have hstep : AStep P o (fun s => s = st'.eff o.dst ⟨v, up, opIn (ev st.tm) o (siteOf o) st.hp, opOut (ev st.tm) o (siteOf o) st.hp⟩) st' := h3 (ev st'.tm) st'.hp (looks_ev ht) hag _ rfl
 refine .inl (Oper.wp_mono ?_ (AStep_sound hstep hs Q))
 rintro a' w' ⟨c', st2, e1, e2, rfl⟩
 exact ⟨c', e1, e2⟩
theorem good_skip {j : Nat} {o : Oper} {st : ASt} (ho : ops[j]? = some o) (hw : ∀ (D : List Deferred) st' (w : World) (c : Cx) a, (∀ t ∈ o.looksAt ops, tget st'.tm t = tget st.tm t) → Sim D w c st' a → Region.wanted o (yielded ops a.tmps) = false) :
  GoodAt P ops j o st ⟨.val (.tuple #[]), [], [], []⟩ := by
 intro D st' w c a Q hn ht hag hs
 unfold wpOp
 simp only [ho]
 rw [if_neg (by rw [hw D st' w c a ht hs]; simp)]
 refine ⟨c, Ext.refl _ _, ?_⟩
 have := hs.step (Ext.refl _ _) hs.inv o.dst (x := .val (.tuple #[])) (v := undef) (by simp only [RelV]; exact ⟨rfl, rfl⟩)
 exact this

def foldE : List Oper → List Eff → ASt → ASt
 | o :: os, e :: es, st => foldE os es (st.eff o.dst e)
 | _, _, st => st
theorem Eqv.eff {st st' : ASt} (h : Eqv st st') (d : Option Nat) (e : Eff) : Eqv (st.eff d e) (st'.eff d e) := by
 refine ⟨by simp only [eff_n, h.n], fun t => by rw [eff_tm, eff_tm, h.n, h.tm], fun s => ?_⟩
 rw [eff_hp, eff_hp, app_get, app_get, h.hp]
theorem Eqv.fold {l : List Oper} {es : List Eff} {st st' : ASt} (h : Eqv st st') : Eqv (foldE l es st) (foldE l es st') := by
 induction l generalizing es st st' with
 | nil => exact h
 | cons o l ih => cases es with
  | nil => exact h
  | cons e es => exact ih (h.eff _ _)
/-- What two operations have to be, if one does not wait for the other. -/
def PairOk (a : List (List Nat)) (i j : Nat) (Di Wi Dj Wj : Keys) : Prop := (dis Wi Dj = true ∧ dis Wj Di = true) ∨ ordB a a.length i j = true
theorem dis_nil (D : Keys) : dis [] D = true := rfl
structure Facts (P : Program) (ops : Array Oper) (a : List (List Nat)) (l : List Oper) (j : Nat) (rd : List (Nat × Keys)) (wr : List (Nat × Keys × Keys)) (es : List Eff) (st : ASt) : Prop where
 len : es.length = l.length
 good : ∀ k o e, l[k]? = some o → es[k]? = some e → GoodAt P ops (j + k) o (foldE (l.take k) (es.take k) st) e ∧ (∀ q ∈ e.up, q.1.key ∈ e.W) ∧ ∀ x ∈ e.W, x ∈ e.D
 rd : ∀ k e, es[k]? = some e → ∀ x ∈ rd, PairOk a x.1 (j + k) x.2 [] e.D e.W
 wr : ∀ k e, es[k]? = some e → ∀ x ∈ wr, PairOk a x.1 (j + k) x.2.1 x.2.2 e.D e.W
 pair : ∀ k k' e e', k < k' → es[k]? = some e → es[k']? = some e' → PairOk a (j + k) (j + k') e.D e.W e'.D e'.W
theorem Facts.cons {a : List (List Nat)} {o : Oper} {l : List Oper} {j : Nat} {rd rd' : List (Nat × Keys)} {wr wr' : List (Nat × Keys × Keys)} {e : Eff} {es : List Eff} {st st2 : ASt} (hg : GoodAt P ops j o st e) (hup : ∀ q ∈ e.up, q.1.key ∈ e.W) (hWD : ∀ x ∈ e.W, x ∈ e.D)
  (h1 : ∀ x ∈ rd, PairOk a x.1 j x.2 [] e.D e.W) (h2 : ∀ x ∈ wr, PairOk a x.1 j x.2.1 x.2.2 e.D e.W) (hst : Eqv (st.eff o.dst e) st2) (hF : Facts P ops a l (j + 1) rd' wr' es st2) (hr : ∀ x ∈ rd, x ∈ rd') (hw : ∀ x ∈ wr, x ∈ wr')
  (hme : ((j, e.D) ∈ rd' ∧ e.W = []) ∨ (j, e.D, e.W) ∈ wr') : Facts P ops a (o :: l) j rd wr (e :: es) st where
 len := by simp [hF.len]
 good k o' e' ho he := by
  cases k with
  | zero =>
   simp only [List.getElem?_cons_zero, Option.some.injEq] at ho he
   subst ho
   subst he
   exact ⟨hg, hup, hWD⟩
  | succ k =>
   simp only [List.getElem?_cons_succ] at ho he
   obtain ⟨g1, g2⟩ := hF.good k o' e' ho he
   rw [show j + 1 + k = j + (k + 1) by omega] at g1
   exact ⟨g1.eqv hst.symm.fold, g2⟩
 rd k e' he x hx := by
  cases k with
  | zero => simp at he; subst he; exact h1 x hx
  | succ k => have := hF.rd k e' (by simpa using he) x (hr x hx); rwa [show j + 1 + k = j + (k + 1) by omega] at this
 wr k e' he x hx := by
  cases k with
  | zero => simp at he; subst he; exact h2 x hx
  | succ k => have := hF.wr k e' (by simpa using he) x (hw x hx); rwa [show j + 1 + k = j + (k + 1) by omega] at this
 pair k k' e1 e2 hlt he1 he2 := by
  cases k' with
  | zero => omega
  | succ k' =>
   simp only [List.getElem?_cons_succ] at he2
   cases k with
   | zero =>
    simp only [List.getElem?_cons_zero, Option.some.injEq] at he1
    subst he1
    rcases hme with ⟨hme, hW⟩ | hme
    ·have := hF.rd k' e2 he2 _ hme
     rw [show j + 1 + k' = j + (k' + 1) by omega] at this
     rw [hW]
     exact this
    ·have := hF.wr k' e2 he2 _ hme
     rwa [show j + 1 + k' = j + (k' + 1) by omega] at this
   | succ k =>
    have := hF.pair k k' e1 e2 (by omega) (by simpa using he1) he2
    rwa [show j + 1 + k = j + (k + 1) by omega, show j + 1 + k' = j + (k' + 1) by omega] at this

theorem chkQ_mem {a : List (List Nat)} {j : Nat} {D : Keys} {l : List (Nat × Keys × Keys)} (h : chkQ a j D l) : ∀ x ∈ l, PairOk a x.1 j x.2.1 x.2.2 D [] := by
 induction l with
 | nil => intro x hx; simp at hx
 | cons y l ih =>
  intro x hx
  simp only [chkQ] at h
  rcases List.mem_cons.1 hx with rfl | hx
  ·exact h.1.imp (fun h => ⟨h, dis_nil _⟩) id
  ·exact ih h.2 x hx
theorem chkW_mem {a : List (List Nat)} {j : Nat} {D W : Keys} {l : List (Nat × Keys)} (h : chkW a j W l) : ∀ x ∈ l, PairOk a x.1 j x.2 [] D W := by
 induction l with
 | nil => intro x hx; simp at hx
 | cons y l ih =>
  intro x hx
  simp only [chkW] at h
  rcases List.mem_cons.1 hx with rfl | hx
  ·exact h.1.imp (fun h => ⟨dis_nil _, h⟩) id
  ·exact ih h.2 x hx
theorem chkV_mem {a : List (List Nat)} {j : Nat} {D W : Keys} {l : List (Nat × Keys × Keys)} (h : chkV a j D W l) : ∀ x ∈ l, PairOk a x.1 j x.2.1 x.2.2 D W := by
 induction l with
 | nil => intro x hx; simp at hx
 | cons y l ih =>
  intro x hx
  simp only [chkV] at h
  rcases List.mem_cons.1 hx with rfl | hx
  ·exact h.1
  ·exact ih h.2 x hx
theorem put_same {st : ASt} {t : Nat} {x : AV} (h : tget st.tm t = x) : Eqv st (st.put (some t) x) := by
 refine ⟨put_n _ _ _, fun u => ?_, fun s => by rw [put_hp]⟩
 rw [put_tm]
 split
 ·rename_i hc
  have := hc.1
  simp only [Option.some.injEq] at this
  subst this
  exact h.symm
 ·rfl

theorem ADr_runs {a : List (List Nat)} {K : ASt → Prop} : ∀ (l : List Oper) (j : Nat) (rd : List (Nat × Keys)) (wr : List (Nat × Keys × Keys)) (st sb : ASt), ADr P (ops.toList.map (·.dst)) a l j rd wr K st → Eqv sb st → (∀ k o, l[k]? = some o → ops[j + k]? = some o) →
  ∃ es st', K st' ∧ Eqv (foldE l es sb) st' ∧ Facts P ops a l j rd wr es sb := by
 intro l
 induction l with
 | nil =>
  intro j rd wr st sb h he _
  exact ⟨[], st, h, he, rfl, fun k o e ho => by simp at ho, fun k e he => by simp at he, fun k e he => by simp at he, fun k k' e e' _ he => by simp at he⟩
 | cons o rest ih =>
  intro j rd wr st sb h he hl
  have ho : ops[j]? = some o := hl 0 o rfl
  have hl' : ∀ k y, rest[k]? = some y → ops[j + 1 + k]? = some y := fun k y hy => by
   have := hl (k + 1) y (by simpa using hy)
   simpa [Nat.add_assoc, Nat.add_comm 1 k] using this
  -- the step
  have go : ∀ st : ASt, Eqv sb st → (opDet P (ev st.tm) o st.hp ∧ ADk a j (opIn (ev st.tm) o (siteOf o) st.hp) rd wr (fun rd' wr' => AStep P o (ADr P (ops.toList.map (·.dst)) a rest (j + 1) rd' wr' K) st) (opOut (ev st.tm) o (siteOf o) st.hp)) →
    (∀ (D : List Deferred) st' (w : World) (c : Cx) a, (∀ t ∈ o.looksAt ops, tget st'.tm t = tget st.tm t) → Sim D w c st' a → Region.wanted o (yielded ops a.tmps) = true) → ∃ es st', K st' ∧ Eqv (foldE (o :: rest) es sb) st' ∧ Facts P ops a (o :: rest) j rd wr es sb := by
   intro st he h hw
   obtain ⟨hd, h⟩ := h
   cases hW : opOut (ev st.tm) o (siteOf o) st.hp with
   | nil =>
    rw [hW] at h
    simp only [ADk] at h
    obtain ⟨hc, h⟩ := h
    obtain ⟨v, up, hK, hup, hgood⟩ := good_step ho hd h hw
    obtain ⟨es, st', h1, h2, h3⟩ := ih (j + 1) _ _ _ (sb.eff o.dst ⟨v, up, opIn (ev st.tm) o (siteOf o) st.hp, opOut (ev st.tm) o (siteOf o) st.hp⟩) hK (he.eff _ _) hl'
    refine ⟨_ :: es, st', h1, h2, Facts.cons (hgood.eqv he.symm) hup (opOut_sub _ _ _ _) (fun x hx => ?_) (fun x hx => ?_) (Eqv.refl _) h3 (fun x hx => .tail _ hx) (fun x hx => hx) (.inl ⟨.head _, hW⟩)⟩
    ·simp only [hW]; exact .inl ⟨dis_nil _, dis_nil _⟩
    ·simp only [hW]; exact chkQ_mem hc x hx
   | cons w0 W0 =>
    rw [hW] at h
    simp only [ADk] at h
    obtain ⟨⟨hc1, hc2⟩, h⟩ := h
    obtain ⟨v, up, hK, hup, hgood⟩ := good_step ho hd h hw
    obtain ⟨es, st', h1, h2, h3⟩ := ih (j + 1) _ _ _ (sb.eff o.dst ⟨v, up, opIn (ev st.tm) o (siteOf o) st.hp, opOut (ev st.tm) o (siteOf o) st.hp⟩) hK (he.eff _ _) hl'
    refine ⟨_ :: es, st', h1, h2, Facts.cons (hgood.eqv he.symm) hup (opOut_sub _ _ _ _) (fun x hx => ?_) (fun x hx => ?_) (Eqv.refl _) h3 (fun x hx => hx) (fun x hx => .tail _ hx) (.inr (by simp only [hW]; exact .head _))⟩
    ·simp only [hW]; exact chkW_mem hc1 x hx
    ·simp only [hW]; exact chkV_mem hc2 x hx
  have skip : ∀ st : ASt, Eqv sb st → ADr P (ops.toList.map (·.dst)) a rest (j + 1) rd wr K (st.put o.dst (.val (.tuple #[]))) →
    (∀ (D : List Deferred) st' (w : World) (c : Cx) a, (∀ t ∈ o.looksAt ops, tget st'.tm t = tget st.tm t) → Sim D w c st' a → Region.wanted o (yielded ops a.tmps) = false) → ∃ es st', K st' ∧ Eqv (foldE (o :: rest) es sb) st' ∧ Facts P ops a (o :: rest) j rd wr es sb := by
   intro st he h hw
   obtain ⟨es, st', h1, h2, h3⟩ := ih (j + 1) rd wr _ (sb.eff o.dst ⟨.val (.tuple #[]), [], [], []⟩) h (he.eff o.dst ⟨.val (.tuple #[]), [], [], []⟩) hl'
   refine ⟨_ :: es, st', h1, h2, ?_⟩
   refine { len := by simp [h3.len], good := fun k o' e' ho' he' => ?_, rd := fun k e' he' x hx => ?_, wr := fun k e' he' x hx => ?_, pair := fun k k' e1 e2 hlt he1 he2 => ?_ }
   ·cases k with
    | zero =>
     simp only [List.getElem?_cons_zero, Option.some.injEq] at ho' he'
     subst ho'
     subst he'
     exact ⟨(good_skip ho hw).eqv he.symm, fun q hq => by simp at hq, fun x hx => by simp at hx⟩
    | succ k =>
     simp only [List.getElem?_cons_succ] at ho' he'
     obtain ⟨g1, g2⟩ := h3.good k o' e' ho' he'
     rw [show j + 1 + k = j + (k + 1) by omega] at g1
     exact ⟨g1, g2⟩
   ·cases k with
    | zero => simp at he'; subst he'; exact .inl ⟨dis_nil _, dis_nil _⟩
    | succ k => have := h3.rd k e' (by simpa using he') x hx; rwa [show j + 1 + k = j + (k + 1) by omega] at this
   ·cases k with
    | zero => simp at he'; subst he'; exact .inl ⟨by simp [dis], dis_nil _⟩
    | succ k => have := h3.wr k e' (by simpa using he') x hx; rwa [show j + 1 + k = j + (k + 1) by omega] at this
   ·cases k' with
    | zero => omega
    | succ k' =>
     simp only [List.getElem?_cons_succ] at he2
     cases k with
     | zero =>
      simp only [List.getElem?_cons_zero, Option.some.injEq] at he1
      subst he1
      exact .inl ⟨dis_nil _, by simp [dis]⟩
     | succ k =>
      have := h3.pair k k' e1 e2 (by omega) (by simpa using he1) he2
      rwa [show j + 1 + k = j + (k + 1) by omega, show j + 1 + k' = j + (k' + 1) by omega] at this
  simp only [ADr] at h
  split at h
  ·rename_i hg
   exact go st he h fun D st' w c a _ _ => by simp [Region.wanted, hg]
  ·rename_i g b hg
   split at h
   ·rename_i t ht
    have hd : (ops[g]?).bind (·.dst) = some t := by
     rw [dstAt_eq] at ht
     simpa using ht
    have hlook : t ∈ o.looksAt ops := by
     unfold Oper.looksAt
     refine List.mem_append_right _ ?_
     simp [hg, hd]
    have hy : ∀ (a : Act), yielded ops a.tmps g = match a.tmps.getD t undef with | .bool q => some q | _ => none := by
     intro a
     unfold yielded
     simp only [hd, Option.bind_some]
     have e : a.tmps.getD t undef = (a.tmps[t]?).getD undef := by simp
     rw [e]
     cases hq : a.tmps[t]? with
     | none => rfl
     | some v => cases v <;> rfl
    unfold AGuard at h
    split at h
    ·rename_i q eq
     have hval : ∀ (D : List Deferred) st' (w : World) (c : Cx) a, (∀ t ∈ o.looksAt ops, tget st'.tm t = tget st.tm t) → Sim D w c st' a → yielded ops a.tmps g = some q := by
      intro D st' w c a hlk hs
      have h1 := hs.tm t
      rw [hlk t hlook, eq] at h1
      simp only [RelV] at h1
      rw [hy, h1.1]
     by_cases hqb : q = b
     ·subst hqb
      have h2 := h.1 rfl
      have hp := put_same eq
      refine go _ (he.trans hp) h2 fun D st' w c a hlk hs => ?_
      have := hval D st' w c a (fun t ht => (hlk t ht).trans (hp.tm t)) hs
      simp [Region.wanted, hg, this]
     ·have hq2 : q = !b := by cases q <;> cases b <;> simp_all
      have h2 := h.2 hq2
      have hp : Eqv st (st.put (some t) (.val (.bool !b))) := put_same (by rw [eq, hq2])
      refine skip _ (he.trans hp) h2 fun D st' w c a hlk hs => ?_
      have := hval D st' w c a (fun t ht => (hlk t ht).trans (hp.tm t)) hs
      simp [Region.wanted, hg, this, hqb]
    ·rename_i vs eq
     refine skip st he h fun D st' w c a hlk hs => ?_
     have h1 := hs.tm t
     rw [hlk t hlook, eq] at h1
     simp only [RelV] at h1
     have h2 := hy a
     rw [h1.1] at h2
     simp [Region.wanted, hg, h2]
    ·exact h.elim
   ·exact h.elim
end
end Go.Proofs.YtonolfpnidaflaaGreatDoor.E

