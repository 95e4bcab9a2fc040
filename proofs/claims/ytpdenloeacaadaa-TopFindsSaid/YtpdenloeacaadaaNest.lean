/- An index's memory: lists of names that lie in blocks of a place's own, taken out of it and laid back. No conditions. -/
import Derived.Test.YtpdenloeacaadaaIdxR
namespace Go.Proofs.Ytpdenloeacaadaa.E
open Go
set_option linter.unusedSimpArgs false
set_option linter.unusedVariables false
set_option linter.unusedSectionVars false
set_option maxRecDepth 20000
set_option maxHeartbeats 1000000
/-- An entry as a bare value, and the names that its list holds. -/
abbrev PE := RE × List ByteArray
def nmOk (ex : Nat → Prop) (w : World) (p : PE) : Prop :=
 p.1.n = p.2.length ∧ match p.1.a with
  | none => p.1.n = 0 ∧ p.1.c = 0
  | some ad => ad.off = 0 ∧ ad.spot = none ∧ ex ad.block ∧ p.1.n ≤ p.1.c ∧ p.1.c ≤ maxLen ∧ ∃ rest : List Value, w.heap[ad.block]? = some (.cells (p.2.map Value.string ++ rest).toArray 9 (0, 0)) ∧ (p.2.map Value.string ++ rest).length = p.1.c ∧ ∀ u ∈ rest, u.oneCell' = true
def blkOf (p : PE) : Option Nat := p.1.a.map (·.block)
def apart (l : List PE) : Prop := l.Pairwise fun p q => ∀ b, blkOf p = some b → blkOf q ≠ some b
def NamesR (l : List PE) : Option (Nat × Nat) → (Nat → Prop) → World → Prop := fun loc ex w => loc = none ∧ (∀ p ∈ l, nmOk ex w p) ∧ apart l
def hole (f : Fd) : PE := (⟨f, none, 0, 0⟩, [])
theorem nmOk.mono {ex ex' : Nat → Prop} {w w' : World} {p : PE} (h : nmOk ex w p) (k : ∀ b, blkOf p = some b → ex b → ex' b ∧ w'.heap[b]? = w.heap[b]?) : nmOk ex' w' p := by
 unfold nmOk at h ⊢
 refine ⟨h.1, ?_⟩
 unfold blkOf at k
 cases ha : p.1.a with
 | none => rw [ha] at h; exact h.2
 | some ad =>
  rw [ha] at h
  obtain ⟨h1, h2, h3, h4, h5, rest, h6, h7, h8⟩ := h.2
  obtain ⟨k1, k2⟩ := k ad.block (by rw [ha]; rfl) h3
  exact ⟨h1, h2, k1, h4, h5, rest, by rw [k2]; exact h6, h7, h8⟩
theorem nmOk.ex {ex : Nat → Prop} {w : World} {p : PE} (h : nmOk ex w p) {b : Nat} (hb : blkOf p = some b) : ex b := by
 unfold nmOk at h
 unfold blkOf at hb
 cases ha : p.1.a with
 | none => rw [ha] at hb; cases hb
 | some ad => rw [ha] at h hb; cases hb; exact h.2.2.2.1
theorem nmOk_hole (ex : Nat → Prop) (w : World) (f : Fd) : nmOk ex w (hole f) := ⟨rfl, rfl, rfl⟩
theorem NamesR.loc {l : List PE} {loc : Option (Nat × Nat)} {ex : Nat → Prop} {w w' : World} (h : NamesR l loc ex w) (k : ∀ b, ex b → w'.heap[b]? = w.heap[b]?) : NamesR l loc ex w' :=
 ⟨h.1, fun p hp => (h.2.1 p hp).mono fun b _ hb => ⟨hb, k b hb⟩, h.2.2⟩
theorem pair_get {α : Type} {R : α → α → Prop} {l : List α} (hs : ∀ x y, R x y → R y x) (h : l.Pairwise R) {i j : Nat} {x y : α} (hi : l[i]? = some x) (hj : l[j]? = some y) (hne : i ≠ j) : R x y := by
 obtain ⟨a1, a2⟩ := List.getElem?_eq_some_iff.1 hi
 obtain ⟨b1, b2⟩ := List.getElem?_eq_some_iff.1 hj
 rcases Nat.lt_or_gt_of_ne hne with h1 | h1
 ·have := List.pairwise_iff_getElem.1 h i j a1 b1 h1
  rwa [a2, b2] at this
 ·have := List.pairwise_iff_getElem.1 h j i b1 a1 h1
  rw [a2, b2] at this
  exact hs _ _ this
theorem apart_sym (p q : PE) (h : ∀ b, blkOf p = some b → blkOf q ≠ some b) : ∀ b, blkOf q = some b → blkOf p ≠ some b := fun b h1 h2 => h b h2 h1
theorem apart_set {l : List PE} {i : Nat} {q : PE} (h : apart l) (k : ∀ (j : Nat) (p : PE), j ≠ i → l[j]? = some p → ∀ b, blkOf q = some b → blkOf p ≠ some b) : apart (l.set i q) := by
 unfold apart at h ⊢
 rw [List.pairwise_iff_getElem] at h ⊢
 intro a b ha hb hab
 rw [List.length_set] at ha hb
 rw [List.getElem_set, List.getElem_set]
 by_cases e1 : i = a
 ·rw [if_pos e1, if_neg (by omega)]
  exact k b _ (by omega) (List.getElem?_eq_getElem hb)
 ·rw [if_neg e1]
  by_cases e2 : i = b
  ·rw [if_pos e2]
   exact apart_sym _ _ (k a _ (by omega) (List.getElem?_eq_getElem ha))
  ·rw [if_neg e2]; exact h a b ha hb hab
theorem mem_set_ne {l : List PE} {i : Nat} {q p : PE} (h : p ∈ l.set i q) : p = q ∨ ∃ j, j ≠ i ∧ l[j]? = some p := by
 obtain ⟨j, hj⟩ := List.getElem?_of_mem h
 rw [List.getElem?_set] at hj
 by_cases e : i = j
 ·rw [if_pos e] at hj
  split at hj
  ·cases hj; exact .inl rfl
  ·cases hj
 ·rw [if_neg e] at hj; exact .inr ⟨j, fun e' => e e'.symm, hj⟩
theorem flat_ssC (l : List ByteArray) : (l.map ssC).flatten = l.map S := by
 induction l with
 | nil => rfl
 | cons x l ih => simp only [List.map_cons, List.flatten_cons, ih]; rfl
theorem rvl_str {w : World} {Q : Nat → Prop} {l : List ByteArray} {vs : List Value} (h : RVL w Q (l.map S) vs) : vs = l.map Value.string := by
 induction l generalizing vs with
 | nil => simpa [RVL] using h
 | cons x l ih =>
  simp only [List.map_cons, RVL, RV] at h
  obtain ⟨_, _, rfl, ⟨rfl, _⟩, h⟩ := h
  rw [ih h]; rfl
theorem str_rvl {w : World} {Q : Nat → Prop} (l : List ByteArray) : RVL w Q (l.map S) (l.map Value.string) := by
 induction l with
 | nil => simp [RVL]
 | cons x l ih =>
  simp only [List.map_cons, RVL, RV]
  exact ⟨_, _, rfl, ⟨rfl, rfl⟩, ih⟩
theorem ssC_len (l : List ByteArray) : ∀ r ∈ l.map ssC, r.length = 1 := fun r hr => by obtain ⟨x, _, rfl⟩ := List.mem_map.1 hr; rfl
theorem str_one (l : List ByteArray) : ∀ u ∈ l.map Value.string, u.oneCell' = true := fun u hu => by obtain ⟨x, _, rfl⟩ := List.mem_map.1 hu; rfl
section
variable {w : World} {c : Cx} {hp : Hp}
theorem Inv.sem (hi : Inv w c hp) {s : Site} {n : Nat} {Q : Option (Nat × Nat) → (Nat → Prop) → World → Prop} (e : hp.get s = (n, .sem Q)) : c.cur s = n ∧ c.lv s = true ∧ Q (c.loc s) (c.ex s) w := by
 have h1 := hi.cur s
 have h2 := hi.ok s
 rw [e] at h1 h2
 simp only [BlkOk] at h2
 exact ⟨h1, h2.1, h2.2 w fun _ _ => rfl⟩
/-- A list of names is taken out of the place that owns it, and is a place of its own. -/
theorem extract_core (hi : Inv w c hp) {R sN : Site} (hne : sN ≠ R) {vR : Nat} {l : List PE} (hR : hp.get R = (vR, .sem (NamesR l))) {i : Nat} {p : PE} (hp' : l[i]? = some p) (hnl : (hp.get sN).2 = .gone) :
  ∃ c', Ext w c w c' ∧ Inv w c' ((hp.set sN ((hp.get sN).1 + 1) (.row 9 1 none (p.2.map ssC))).set R vR (.sem (NamesR (l.set i (hole p.1.fd))))) ∧ RelV w c' (.own sN ((hp.get sN).1 + 1) 1 0 p.1.n) (.slice p.1.a p.1.n p.1.c) := by
 obtain ⟨hRc, hRl, hloc, hok, hap⟩ := hi.sem hR
 have hlN : c.lv sN = false := by have := hi.ok sN; rw [hnl] at this; exact this
 have hpok := hok p (List.mem_of_getElem? hp')
 obtain ⟨c', hc'⟩ : ∃ c' : Cx, c' = { cur := fun s => if s = sN then c.cur sN + 1 else c.cur s, loc := fun s => if s = sN then p.1.a.map (fun ad => (ad.block, p.1.c)) else c.loc s, lv := fun s => if s = sN then true else c.lv s, ex := fun s => if s = sN then (fun _ => False) else if s = R then (fun b => c.ex R b ∧ blkOf p ≠ some b) else c.ex s, far := c.far } := ⟨_, rfl⟩
 have aN : c'.cur sN = c.cur sN + 1 ∧ c'.loc sN = p.1.a.map (fun ad => (ad.block, p.1.c)) ∧ c'.lv sN = true ∧ c'.ex sN = (fun _ => False) := by rw [hc']; simp
 have aR : c'.cur R = c.cur R ∧ c'.loc R = c.loc R ∧ c'.lv R = c.lv R ∧ c'.ex R = (fun b => c.ex R b ∧ blkOf p ≠ some b) := by
  have h : ¬ R = sN := fun e => hne e.symm
  rw [hc']; simp [h]
 have aO : ∀ s, s ≠ sN → s ≠ R → c'.cur s = c.cur s ∧ c'.loc s = c.loc s ∧ c'.lv s = c.lv s ∧ c'.ex s = c.ex s := fun s h1 h2 => by rw [hc']; simp [h1, h2]
 have hfar : c'.far = c.far := by rw [hc']
 have oN : ∀ b, c'.own sN b → blkOf p = some b := fun b hb => by
  rcases hb with ⟨cp, hb⟩ | hb
  ·rw [aN.2.1] at hb
   unfold blkOf
   cases ha : p.1.a with
   | none => rw [ha] at hb; cases hb
   | some ad => rw [ha] at hb; simp at hb; simp [hb.1]
  ·rw [aN.2.2.2] at hb; exact hb.elim
 have oR : ∀ b, c'.own R b → c.own R b ∧ blkOf p ≠ some b := fun b hb => by
  rcases hb with ⟨cp, hb⟩ | hb
  ·rw [aR.2.1, hloc] at hb; cases hb
  ·rw [aR.2.2.2] at hb; exact ⟨.inr hb.1, hb.2⟩
 have oO : ∀ s b, s ≠ sN → s ≠ R → (c'.own s b ↔ c.own s b) := fun s b h1 h2 => Cx.own_eq (aO s h1 h2).2.1 (aO s h1 h2).2.2.2 b
 have oNR : ∀ b, blkOf p = some b → c.own R b := fun b hb => .inr (hpok.ex hb)
 have hlive : ∀ b, c'.live b ↔ c.live b := fun b => by
  constructor
  ·rintro ⟨s, l', o⟩
   by_cases e1 : s = sN
   ·subst e1; exact ⟨R, hRl, oNR b (oN b o)⟩
   ·by_cases e2 : s = R
    ·subst e2; exact ⟨_, hRl, (oR b o).1⟩
    ·exact ⟨s, (aO s e1 e2).2.2.1 ▸ l', (oO s b e1 e2).1 o⟩
  ·rintro ⟨s, l', o⟩
   by_cases e1 : s = sN
   ·subst e1; rw [hlN] at l'; cases l'
   ·by_cases e2 : s = R
    ·subst e2
     by_cases e3 : blkOf p = some b
     ·refine ⟨sN, aN.2.2.1, .inl ⟨p.1.c, ?_⟩⟩
      rw [aN.2.1]
      unfold blkOf at e3
      cases ha : p.1.a with
      | none => rw [ha] at e3; cases e3
      | some ad => rw [ha] at e3; simp at e3; simp [e3]
     ·refine ⟨_, by rw [aR.2.2.1]; exact hRl, .inr ?_⟩
      rw [aR.2.2.2]
      rcases o with ⟨cp, o⟩ | o
      ·rw [hloc] at o; cases o
      ·exact ⟨o, e3⟩
    ·exact ⟨s, (aO s e1 e2).2.2.1 ▸ l', (oO s b e1 e2).2 o⟩
 have hst : ∀ b, E.still w c b → E.still w c' b := fun b hb => ⟨hb.1, fun hl => hb.2.1 ((hlive b).1 hl), by rw [hfar]; exact hb.2.2⟩
 have he : Ext w c w c' := ⟨rfl, rfl, rfl, Nat.le_refl _, fun b _ hn => ⟨rfl, fun hl => hn ((hlive b).1 hl)⟩, hfar, fun s => by
  by_cases e1 : s = sN
  ·subst e1; rw [aN.1]; exact .inl (Nat.lt_succ_self _)
  ·by_cases e2 : s = R
   ·subst e2; exact .inr ⟨aR.1, aR.2.1, fun h => by rw [← aR.2.2.1]; exact h⟩
   ·exact .inr ⟨(aO s e1 e2).1, (aO s e1 e2).2.1, fun h => by rw [← (aO s e1 e2).2.2.1]; exact h⟩⟩
 have hRN : ¬ R = sN := fun e => hne e.symm
 refine ⟨c', he, ⟨hi.glob.mono fun b hb => ⟨hst b hb, rfl⟩, fun s => ?_, fun s => ?_, fun s s' b l1 l2 o1 o2 => ?_, fun b hl => by rw [hfar]; exact hi.far b ((hlive b).1 hl), fun b hl => hi.lt b ((hlive b).1 hl), fun b hb => hi.farlt b (by rw [hfar] at hb; exact hb)⟩, ?_⟩
 ·rw [Hp.get_set, Hp.get_set]
  by_cases e2 : R = s
  ·rw [if_pos e2, ← e2, aR.1]; exact hRc
  ·rw [if_neg e2]
   by_cases e1 : sN = s
   ·rw [if_pos e1, ← e1, aN.1, hi.cur sN]
   ·rw [if_neg e1, (aO s (fun e => e1 e.symm) (fun e => e2 e.symm)).1]; exact hi.cur s
 ·rw [Hp.get_set, Hp.get_set]
  by_cases e2 : R = s
  ·rw [if_pos e2, ← e2]
   simp only [BlkOk]
   refine ⟨by rw [aR.2.2.1]; exact hRl, fun w2 h2 => ?_⟩
   have key : NamesR (l.set i (hole p.1.fd)) (c'.loc R) (c'.ex R) w := by
    refine ⟨by rw [aR.2.1]; exact hloc, fun q hq => ?_, apart_set hap fun j q _ _ b hb => by cases hb⟩
    rcases mem_set_ne hq with rfl | ⟨j, hj, hq⟩
    ·exact nmOk_hole _ _ _
    ·refine (hok q (List.mem_of_getElem? hq)).mono fun b hb hx => ⟨?_, rfl⟩
     rw [aR.2.2.2]
     exact ⟨hx, pair_get apart_sym hap hq hp' hj b hb⟩
   exact key.loc fun b hb => h2 b (.inr hb)
  ·rw [if_neg e2]
   by_cases e1 : sN = s
   ·rw [if_pos e1, ← e1]
    simp only [BlkOk]
    refine ⟨aN.2.2.1, by omega, ssC_len _, ?_⟩
    rw [aN.2.1]
    unfold nmOk at hpok
    cases ha : p.1.a with
    | none =>
     rw [ha] at hpok
     have : p.2 = [] := List.eq_nil_of_length_eq_zero (by omega)
     rw [this]
     exact ⟨rfl, .inl trivial⟩
    | some ad =>
     rw [ha] at hpok
     obtain ⟨h1, h2, h3, h4, h5, h6, rest, h7, h8, h9⟩ := hpok
     refine ⟨.inl trivial, h6, p.2.map Value.string, rest, h7, by rw [Nat.mul_one]; exact h8, fun u hu => ?_, ?_⟩
     ·rcases List.mem_append.1 hu with hu | hu
      ·exact str_one _ u hu
      ·exact h9 u hu
     ·rw [flat_ssC]; exact str_rvl _
   ·rw [if_neg e1]
    have e1' : s ≠ sN := fun e => e1 e.symm
    have e2' : s ≠ R := fun e => e2 e.symm
    exact (hi.ok s).move he (aO s e1' e2').2.1 (aO s e1' e2').2.2.1 (aO s e1' e2').2.2.2 fun _ _ _ => rfl
 ·have key : ∀ s b, c'.lv s = true → c'.own s b → ∃ t, c.lv t = true ∧ c.own t b ∧ ((s = sN ∧ t = R ∧ blkOf p = some b) ∨ (s = R ∧ t = R ∧ blkOf p ≠ some b) ∨ (s ≠ sN ∧ s ≠ R ∧ t = s)) := fun s b l' o => by
   by_cases e1 : s = sN
   ·subst e1; exact ⟨R, hRl, oNR b (oN b o), .inl ⟨rfl, rfl, oN b o⟩⟩
   ·by_cases e2 : s = R
    ·subst e2; exact ⟨_, hRl, (oR b o).1, .inr (.inl ⟨rfl, rfl, (oR b o).2⟩)⟩
    ·exact ⟨s, (aO s e1 e2).2.2.1 ▸ l', (oO s b e1 e2).1 o, .inr (.inr ⟨e1, e2, rfl⟩)⟩
  obtain ⟨t, t1, t2, t3⟩ := key s b l1 o1
  obtain ⟨u, u1, u2, u3⟩ := key s' b l2 o2
  have htu := hi.inj t u b t1 u1 t2 u2
  rcases t3 with ⟨rfl, rfl, x⟩ | ⟨rfl, rfl, x⟩ | ⟨x1, x2, rfl⟩ <;> rcases u3 with ⟨rfl, rfl, y⟩ | ⟨rfl, rfl, y⟩ | ⟨y1, y2, rfl⟩
  ·rfl
  ·exact absurd x y
  ·exact absurd htu.symm y2
  ·exact absurd y x
  ·rfl
  ·exact absurd htu.symm y2
  ·exact absurd htu x2
  ·exact absurd htu x2
  ·exact htu
 ·simp only [RelV]
  rw [aN.1, aN.2.1, hi.cur sN]
  refine ⟨Nat.le_refl _, fun _ => ?_⟩
  unfold nmOk at hpok
  cases ha : p.1.a with
  | none => rw [ha] at hpok; simp only [Option.map_none]; rw [hpok.2.1, hpok.2.2]; exact ⟨by trivial, by trivial, rfl⟩
  | some ad =>
   rw [ha] at hpok
   obtain ⟨_, h1, h2, h3, h4, _⟩ := hpok
   simp only [Option.map_some]
   exact ⟨by omega, ad, by simp, fun _ => by cases ad; simp only at h1 h2; rw [h1, h2, Nat.zero_mul]⟩
/-- A list of names is laid back into the place that owned it. -/
theorem merge_core (hi : Inv w c hp) {R sN : Site} (hne : sN ≠ R) {vR vN : Nat} {l : List PE} {i : Nat} {f : Fd} (hR : hp.get R = (vR, .sem (NamesR (l.set i (hole f))))) {q : Option Nat} {ns : List ByteArray} (hN : hp.get sN = (vN, .row 9 1 q (ns.map ssC))) (hil : i < l.length) {u : Value} (hu : RelV w c (.own sN vN 1 0 ns.length) u) :
  ∃ a cp, u = .slice a ns.length cp ∧ ∃ c', Ext w c w c' ∧ Inv w c' ((hp.set sN vN .gone).set R vR (.sem (NamesR (l.set i (⟨f, a, ns.length, cp⟩, ns))))) := by
 obtain ⟨hRc, hRl, hloc, hok, hap⟩ := hi.sem hR
 obtain ⟨hNc, hNl, _⟩ := hi.row hN
 obtain ⟨c', hc'⟩ : ∃ c' : Cx, c' = { cur := c.cur, loc := c.loc, lv := fun s => if s = sN then false else c.lv s, ex := fun s => if s = R then (fun b => c.ex R b ∨ c.own sN b) else c.ex s, far := c.far } := ⟨_, rfl⟩
 have hRN : ¬ R = sN := fun e => hne e.symm
 have aN : c'.lv sN = false := by rw [hc']; simp
 have aR : c'.lv R = c.lv R ∧ c'.ex R = (fun b => c.ex R b ∨ c.own sN b) := by rw [hc']; simp [hRN]
 have aO : ∀ s, s ≠ sN → s ≠ R → c'.lv s = c.lv s ∧ c'.ex s = c.ex s := fun s h1 h2 => by rw [hc']; simp [h1, h2]
 have hcur : c'.cur = c.cur := by rw [hc']
 have hlc : c'.loc = c.loc := by rw [hc']
 have hfar : c'.far = c.far := by rw [hc']
 have oR : ∀ b, c'.own R b ↔ (c.own R b ∨ c.own sN b) := fun b => by
  unfold Cx.own
  rw [hlc, aR.2]
  constructor
  ·rintro (h | h | h)
   ·exact .inl (.inl h)
   ·exact .inl (.inr h)
   ·exact .inr h
  ·rintro ((h | h) | h)
   ·exact .inl h
   ·exact .inr (.inl h)
   ·exact .inr (.inr h)
 have oO : ∀ s b, s ≠ sN → s ≠ R → (c'.own s b ↔ c.own s b) := fun s b h1 h2 => Cx.own_eq (by rw [hlc]) (aO s h1 h2).2 b
 have hlive : ∀ b, c'.live b ↔ c.live b := fun b => by
  constructor
  ·rintro ⟨s, l', o⟩
   by_cases e1 : s = sN
   ·subst e1; rw [aN] at l'; cases l'
   ·by_cases e2 : s = R
    ·subst e2
     rcases (oR b).1 o with o | o
     ·exact ⟨_, hRl, o⟩
     ·exact ⟨sN, hNl, o⟩
    ·exact ⟨s, (aO s e1 e2).1 ▸ l', (oO s b e1 e2).1 o⟩
  ·rintro ⟨s, l', o⟩
   by_cases e1 : s = sN
   ·subst e1; exact ⟨R, by rw [aR.1]; exact hRl, (oR b).2 (.inr o)⟩
   ·by_cases e2 : s = R
    ·subst e2; exact ⟨_, by rw [aR.1]; exact hRl, (oR b).2 (.inl o)⟩
    ·exact ⟨s, (aO s e1 e2).1 ▸ l', (oO s b e1 e2).2 o⟩
 have hst : ∀ b, E.still w c b → E.still w c' b := fun b hb => ⟨hb.1, fun hl => hb.2.1 ((hlive b).1 hl), by rw [hfar]; exact hb.2.2⟩
 have he : Ext w c w c' := ⟨rfl, rfl, rfl, Nat.le_refl _, fun b _ hn => ⟨rfl, fun hl => hn ((hlive b).1 hl)⟩, hfar, fun s => by
  refine .inr ⟨by rw [hcur], by rw [hlc], fun h => ?_⟩
  by_cases e1 : s = sN
  ·subst e1; rw [aN] at h; cases h
  ·by_cases e2 : s = R
   ·subst e2; exact hRl
   ·rw [← (aO s e1 e2).1]; exact h⟩
 have hfin : ∀ a cp, nmOk (c'.ex R) w (⟨f, a, ns.length, cp⟩, ns) → (∀ ad, a = some ad → c.own sN ad.block) → Inv w c' ((hp.set sN vN .gone).set R vR (.sem (NamesR (l.set i (⟨f, a, ns.length, cp⟩, ns))))) := fun a cp hnm hown => by
  have gt : ∀ (j : Nat) (q : PE), j ≠ i → l[j]? = some q → (l.set i (hole f))[j]? = some q := fun j q hj hq => by rw [List.getElem?_set_ne (fun e => hj e.symm)]; exact hq
  refine ⟨hi.glob.mono fun b hb => ⟨hst b hb, rfl⟩, fun s => ?_, fun s => ?_, fun s s' b l1 l2 o1 o2 => ?_, fun b hl => by rw [hfar]; exact hi.far b ((hlive b).1 hl), fun b hl => hi.lt b ((hlive b).1 hl), fun b hb => hi.farlt b (by rw [hfar] at hb; exact hb)⟩
  ·rw [Hp.get_set, Hp.get_set, hcur]
   by_cases e2 : R = s
   ·rw [if_pos e2, ← e2]; exact hRc
   ·rw [if_neg e2]
    by_cases e1 : sN = s
    ·rw [if_pos e1, ← e1]; exact hNc
    ·rw [if_neg e1]; exact hi.cur s
  ·rw [Hp.get_set, Hp.get_set]
   by_cases e2 : R = s
   ·rw [if_pos e2, ← e2]
    simp only [BlkOk]
    refine ⟨by rw [aR.1]; exact hRl, fun w2 h2 => ?_⟩
    have key : NamesR (l.set i (⟨f, a, ns.length, cp⟩, ns)) (c'.loc R) (c'.ex R) w := by
     refine ⟨by rw [hlc]; exact hloc, fun q hq => ?_, ?_⟩
     ·rcases mem_set_ne hq with rfl | ⟨j, hj, hq⟩
      ·exact hnm
      ·refine (hok q (List.mem_of_getElem? (gt j q hj hq))).mono fun b hb hx => ⟨?_, rfl⟩
       rw [aR.2]; exact .inl hx
     ·have := apart_set (i := i) (q := (⟨f, a, ns.length, cp⟩, ns)) hap fun j q hj hq b hb hb2 => by
       rw [List.getElem?_set_ne (fun e => hj e.symm)] at hq
       have hx := (hok q (List.mem_of_getElem? (gt j q hj hq))).ex hb2
       cases a with
       | none => cases hb
       | some ad =>
        cases hb
        exact hne (hi.inj sN R _ hNl hRl (hown ad rfl) (.inr hx))
      rwa [List.set_set] at this
    exact key.loc fun b hb => h2 b (.inr hb)
   ·rw [if_neg e2]
    by_cases e1 : sN = s
    ·rw [if_pos e1, ← e1]; exact aN
    ·rw [if_neg e1]
     have e1' : s ≠ sN := fun e => e1 e.symm
     have e2' : s ≠ R := fun e => e2 e.symm
     exact (hi.ok s).move he (by rw [hlc]) (aO s e1' e2').1 (aO s e1' e2').2 fun _ _ _ => rfl
  ·have key : ∀ s b, c'.lv s = true → c'.own s b → s ≠ sN ∧ ∃ t, c.lv t = true ∧ c.own t b ∧ ((s = R ∧ (t = R ∨ t = sN)) ∨ (s ≠ R ∧ t = s)) := fun s b l' o => by
    by_cases e1 : s = sN
    ·subst e1; rw [aN] at l'; cases l'
    ·refine ⟨e1, ?_⟩
     by_cases e2 : s = R
     ·subst e2
      rcases (oR b).1 o with o | o
      ·exact ⟨_, hRl, o, .inl ⟨rfl, .inl rfl⟩⟩
      ·exact ⟨sN, hNl, o, .inl ⟨rfl, .inr rfl⟩⟩
     ·exact ⟨s, (aO s e1 e2).1 ▸ l', (oO s b e1 e2).1 o, .inr ⟨e2, rfl⟩⟩
   obtain ⟨x0, t, t1, t2, t3⟩ := key s b l1 o1
   obtain ⟨y0, v, u1, u2, u3⟩ := key s' b l2 o2
   have htu := hi.inj t v b t1 u1 t2 u2
   rcases t3 with ⟨rfl, x⟩ | ⟨x, rfl⟩ <;> rcases u3 with ⟨rfl, y⟩ | ⟨y, rfl⟩
   ·rfl
   ·exfalso
    rcases x with x | x
    ·exact y (by rw [← htu, x])
    ·exact y0 (by rw [← htu, x])
   ·exfalso
    rcases y with y | y
    ·exact x (by rw [htu, y])
    ·exact x0 (by rw [htu, y])
   ·exact htu
 rcases row_block hi hN hu (by simp) with ⟨hl0, rfl, h0, _⟩ | ⟨b, cp, xs, rest, hl0, rfl, hle, _, hcp, hb, hlen, hone, hr, _, _⟩
 ·refine ⟨none, 0, by rw [h0], c', he, hfin none 0 ⟨rfl, h0, rfl⟩ fun ad e => by cases e⟩
 ·have hxs : xs = ns.map Value.string := rvl_str (by rw [flat_ssC] at hr; exact hr)
  subst hxs
  refine ⟨some ⟨b, 0, none⟩, cp, rfl, c', he, hfin _ cp ⟨rfl, rfl, rfl, ?_, hle, hcp, rest, hb, by rw [Nat.mul_one] at hlen; exact hlen, fun u hu => hone u (List.mem_append_right _ hu)⟩ fun ad e => by cases e; exact .inl ⟨cp, hl0⟩⟩
  rw [aR.2]
  exact .inr (.inl ⟨cp, hl0⟩)
end
end Go.Proofs.Ytpdenloeacaadaa.E
