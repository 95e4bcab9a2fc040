/- An index as one place: opened, shut. No conditions. -/
import Derived.Test.YtpdenloeacaadaaNest
namespace Go.Proofs.Ytpdenloeacaadaa.E
open Go
set_option linter.unusedSimpArgs false
set_option linter.unusedVariables false
set_option linter.unusedSectionVars false
set_option maxRecDepth 20000
set_option maxHeartbeats 1000000
/-- The first place told as another block. -/
theorem Inv.swapS {w : World} {c : Cx} {hp : Hp} (h : Inv w c hp) {s : Site} {v : Nat} {b b' : Blk} (e : hp.get s = (v, b)) (hb : BlkOk w c s b') : Inv w c (hp.set s v b') := by
 refine ⟨h.glob, fun s' => ?_, fun s' => ?_, h.inj, h.far, h.lt, h.farlt⟩
 ·rw [Hp.get_set]
  by_cases e2 : s = s'
  ·rw [if_pos e2, ← e2]; have := h.cur s; rw [e] at this; exact this
  ·rw [if_neg e2]; exact h.cur s'
 ·rw [Hp.get_set]
  by_cases e2 : s = s'
  ·rw [if_pos e2, ← e2]; exact hb
  ·rw [if_neg e2]; exact h.ok s'
abbrev rowsN (l : List PE) : List (List AV) := (l.map (·.1)).map entC
abbrev cellsN (l : List PE) : List AV := (rowsN l).flatten
def entV (p : PE) : List Value := [.string p.1.fd.key, .string p.1.fd.val, .slice p.1.a p.1.n p.1.c]
def valsN (l : List PE) : List Value := l.flatMap entV
theorem rowsN_len (l : List PE) : ∀ r ∈ rowsN l, r.length = 3 := fun r hr => by
 simp only [List.map_map, List.mem_map, Function.comp] at hr
 obtain ⟨x, _, rfl⟩ := hr
 rfl
theorem cellsN_cons (p : PE) (l : List PE) : cellsN (p :: l) = entC p.1 ++ cellsN l := rfl
theorem valsN_cons (p : PE) (l : List PE) : valsN (p :: l) = entV p ++ valsN l := rfl
theorem valsN_len (l : List PE) : (valsN l).length = l.length * 3 := by
 induction l with
 | nil => rfl
 | cons p l ih => rw [valsN_cons, List.length_append, ih, List.length_cons]; show 3 + _ = _; omega
theorem valsN_one (l : List PE) : ∀ u ∈ valsN l, u.oneCell' = true := fun u hu => by
 simp only [valsN, List.mem_flatMap, entV] at hu
 obtain ⟨p, _, hu⟩ := hu
 simp only [List.mem_cons, List.not_mem_nil, or_false] at hu
 rcases hu with rfl | rfl | rfl <;> rfl
theorem cellsN_rvl (w : World) (Q : Nat → Prop) (l : List PE) : RVL w Q (cellsN l) (valsN l) := by
 induction l with
 | nil => simp [cellsN, valsN, RVL]
 | cons p l ih =>
  rw [cellsN_cons, valsN_cons]
  simp only [entV, List.cons_append, List.nil_append, RVL, RV]
  exact ⟨_, _, rfl, ⟨rfl, rfl⟩, _, _, rfl, ⟨rfl, rfl⟩, _, _, rfl, ⟨rfl, rfl⟩, ih⟩
theorem cellsN_inv {w : World} {c : Cx} {l : List PE} {vs : List Value} (h : RelL w c (cellsN l) vs) : vs = valsN l := by
 induction l generalizing vs with
 | nil => simpa [cellsN, valsN, RelL] using h
 | cons p l ih =>
  rw [cellsN_cons] at h
  simp only [List.cons_append, List.nil_append, RelL, RelV] at h
  obtain ⟨_, _, rfl, ⟨rfl, _⟩, _, _, rfl, ⟨rfl, _⟩, _, _, rfl, ⟨rfl, _⟩, h⟩ := h
  rw [ih h, valsN_cons]
  rfl
/-- What is said of fields. -/
abbrev Es := List (Fd × List ByteArray)
def esOf (l : List PE) : Es := l.map fun p => (p.1.fd, p.2)
def IXR (es : Es) : Option (Nat × Nat) → (Nat → Prop) → World → Prop := fun loc ex w =>
 ∃ (l : List PE) (b0 cp0 : Nat) (a : Option Addr) (cp : Nat), esOf l = es ∧ loc = some (b0, cp0) ∧ ¬ ex b0 ∧ w.heap[b0]? = some (.cells #[.slice a l.length cp] 99 (0, 0)) ∧
  NamesR l none (fun b => ex b ∧ a.map (·.block) ≠ some b) w ∧ match a with
   | none => l = [] ∧ cp = 0
   | some ad => ad.off = 0 ∧ ad.spot = none ∧ ex ad.block ∧ l.length ≤ cp ∧ cp ≤ maxLen ∧ ∃ rest : List Value, w.heap[ad.block]? = some (.cells (valsN l ++ rest).toArray 104 (0, 0)) ∧ (valsN l ++ rest).length = cp * 3 ∧ ∀ u ∈ rest, u.oneCell' = true
theorem IXR.loc {es : Es} {loc : Option (Nat × Nat)} {ex : Nat → Prop} {w w' : World} (h : IXR es loc ex w) (k : ∀ b, ((∃ cp, loc = some (b, cp)) ∨ ex b) → w'.heap[b]? = w.heap[b]?) : IXR es loc ex w' := by
 obtain ⟨l, b0, cp0, a, cp, h1, h2, h3, h4, h5, h6⟩ := h
 refine ⟨l, b0, cp0, a, cp, h1, h2, h3, by rw [k b0 (.inl ⟨cp0, h2⟩)]; exact h4, h5.loc fun b hb => k b (.inr hb.1), ?_⟩
 cases a with
 | none => exact h6
 | some ad =>
  obtain ⟨g1, g2, g3, g4, g5, rest, g6, g7⟩ := h6
  exact ⟨g1, g2, g3, g4, g5, rest, by rw [k _ (.inr g3)]; exact g6, g7⟩
/-- The places of an index that is opened. -/
abbrev openHp (l : List PE) (v : Nat) (L : Hp) : Hp := (.e 0, 0, .cells 99 [.own (.l 999) v 3 0 l.length]) :: (.l 999, v, .rowx 104 3 (cellsN l)) :: (.e 1000000, 1, .sem (NamesR l)) :: L
theorem open_core {w : World} {c : Cx} {es : Es} (hi : Inv w c (hpE 0 [(0, .sem (IXR es))])) : ∃ l c1, (esOf l = es ∧ ∀ p ∈ l, p.1.n = p.2.length) ∧ Ext w c w c1 ∧ Inv w c1 (openHp l 1 []) := by
 have hg : (hpE 0 [(0, Blk.sem (IXR es))]).get (.e 0) = (0, .sem (IXR es)) := rfl
 obtain ⟨_, hlv, l, b0, cp0, a, cp, h1, h2, h3, h4, h5, h6⟩ := hi.sem hg
 have hc0 : ∀ s, c.cur s = 0 := fun s => by
  rw [hi.cur s, hpE_at]
  cases s with
  | e j => cases j <;> rfl
  | l _ => rfl
  | m _ _ => rfl
 have hlo : ∀ s, s ≠ .e 0 → c.lv s = false := fun s hs => by
  have := hi.ok s
  rw [hpE_at] at this
  cases s with
  | e j => cases j with
   | zero => exact absurd rfl hs
   | succ j => exact this
  | l _ => exact this
  | m _ _ => exact this
 obtain ⟨c1, hc1⟩ : ∃ c1 : Cx, c1 = { cur := fun s => if s = .l 999 then 1 else if s = .e 1000000 then 1 else 0, loc := fun s => if s = .l 999 then a.map (fun ad => (ad.block, cp)) else if s = .e 1000000 then none else c.loc s, lv := fun s => if s = .l 999 then true else if s = .e 1000000 then true else c.lv s, ex := fun s => if s = .e 1000000 then (fun b => c.ex (.e 0) b ∧ a.map (·.block) ≠ some b) else fun _ => False, far := c.far } := ⟨_, rfl⟩
 have aE : c1.cur (.l 999) = 1 ∧ c1.loc (.l 999) = a.map (fun ad => (ad.block, cp)) ∧ c1.lv (.l 999) = true ∧ c1.ex (.l 999) = (fun _ => False) := by rw [hc1]; simp
 have aR : c1.cur (.e 1000000) = 1 ∧ c1.loc (.e 1000000) = none ∧ c1.lv (.e 1000000) = true ∧ c1.ex (.e 1000000) = (fun b => c.ex (.e 0) b ∧ a.map (·.block) ≠ some b) := by rw [hc1]; simp
 have a0 : c1.cur (.e 0) = 0 ∧ c1.loc (.e 0) = c.loc (.e 0) ∧ c1.lv (.e 0) = true ∧ c1.ex (.e 0) = (fun _ => False) := by rw [hc1]; simp [hlv]
 have aO : ∀ s, s ≠ .l 999 → s ≠ .e 1000000 → c1.cur s = 0 ∧ c1.loc s = c.loc s ∧ c1.lv s = c.lv s ∧ c1.ex s = (fun _ => False) := fun s h1 h2 => by rw [hc1]; simp [h1, h2]
 have hfar : c1.far = c.far := by rw [hc1]
 have oE : ∀ b, c1.own (.l 999) b → a.map (·.block) = some b := fun b hb => by
  rcases hb with ⟨cp, hb⟩ | hb
  ·rw [aE.2.1] at hb
   cases a with
   | none => cases hb
   | some ad => simp at hb; simp [hb.1]
  ·rw [aE.2.2.2] at hb; exact hb.elim
 have oR : ∀ b, c1.own (.e 1000000) b → c.ex (.e 0) b ∧ a.map (·.block) ≠ some b := fun b hb => by
  rcases hb with ⟨cp, hb⟩ | hb
  ·rw [aR.2.1] at hb; cases hb
  ·rw [aR.2.2.2] at hb; exact hb
 have o0 : ∀ b, c1.own (.e 0) b → b = b0 := fun b hb => by
  rcases hb with ⟨cp, hb⟩ | hb
  ·rw [a0.2.1, h2] at hb; cases hb; rfl
  ·rw [a0.2.2.2] at hb; exact hb.elim
 have hbe : ∀ b, a.map (·.block) = some b → c.ex (.e 0) b := fun b hb => by
  cases a with
  | none => cases hb
  | some ad => cases hb; exact h6.2.2.1
 have hlive : ∀ b, c1.live b ↔ c.live b := fun b => by
  constructor
  ·rintro ⟨s, l', o⟩
   by_cases e1 : s = .l 999
   ·subst e1; exact ⟨.e 0, hlv, .inr (hbe b (oE b o))⟩
   ·by_cases e2 : s = .e 1000000
    ·subst e2; exact ⟨.e 0, hlv, .inr (oR b o).1⟩
    ·by_cases e3 : s = .e 0
     ·subst e3; rw [o0 b o]; exact ⟨.e 0, hlv, .inl ⟨cp0, h2⟩⟩
     ·rw [(aO s e1 e2).2.2.1, hlo s e3] at l'; cases l'
  ·rintro ⟨s, l', o⟩
   by_cases e3 : s = .e 0
   ·subst e3
    rcases o with ⟨cp', o⟩ | o
    ·exact ⟨.e 0, a0.2.2.1, .inl ⟨cp', by rw [a0.2.1]; exact o⟩⟩
    ·by_cases e4 : a.map (·.block) = some b
     ·refine ⟨.l 999, aE.2.2.1, .inl ⟨cp, ?_⟩⟩
      rw [aE.2.1]
      cases a with
      | none => cases e4
      | some ad => simp at e4; simp [e4]
     ·refine ⟨.e 1000000, aR.2.2.1, .inr ?_⟩
      rw [aR.2.2.2]
      exact ⟨o, e4⟩
   ·rw [hlo s e3] at l'; cases l'
 have hst : ∀ b, E.still w c b → E.still w c1 b := fun b hb => ⟨hb.1, fun hl => hb.2.1 ((hlive b).1 hl), by rw [hfar]; exact hb.2.2⟩
 have he : Ext w c w c1 := ⟨rfl, rfl, rfl, Nat.le_refl _, fun b _ hn => ⟨rfl, fun hl => hn ((hlive b).1 hl)⟩, hfar, fun s => by
  rw [hc0 s]
  by_cases e1 : s = .l 999
  ·subst e1; rw [aE.1]; exact .inl (by omega)
  ·by_cases e2 : s = .e 1000000
   ·subst e2; rw [aR.1]; exact .inl (by omega)
   ·exact .inr ⟨(aO s e1 e2).1, (aO s e1 e2).2.1, fun h => by rw [← (aO s e1 e2).2.2.1]; exact h⟩⟩
 have ge : ∀ s, (openHp l 1 []).get s = if s = .e 0 then (0, .cells 99 [.own (.l 999) 1 3 0 l.length]) else if s = .l 999 then (1, .rowx 104 3 (cellsN l)) else if s = .e 1000000 then (1, .sem (NamesR l)) else (0, .gone) := fun s => by
  unfold openHp
  simp only [Hp.get]
  by_cases e3 : s = .e 0
  ·subst e3; simp
  ·by_cases e1 : s = .l 999
   ·subst e1; simp
   ·by_cases e2 : s = .e 1000000
    ·subst e2; simp
    ·rw [if_neg (fun e => e3 e.symm), if_neg (fun e => e1 e.symm), if_neg (fun e => e2 e.symm), if_neg e3, if_neg e1, if_neg e2]
 refine ⟨l, c1, ⟨h1, fun p hp => (h5.2.1 p hp).1⟩, he, hi.glob.mono fun b hb => ⟨hst b hb, rfl⟩, fun s => ?_, fun s => ?_, fun s s' b l1 l2 o1 o2 => ?_, fun b hl => by rw [hfar]; exact hi.far b ((hlive b).1 hl), fun b hl => hi.lt b ((hlive b).1 hl), fun b hb => hi.farlt b (by rw [hfar] at hb; exact hb)⟩
 ·rw [ge]
  by_cases e3 : s = .e 0
  ·rw [if_pos e3, e3, a0.1]
  ·rw [if_neg e3]
   by_cases e1 : s = .l 999
   ·rw [if_pos e1, e1, aE.1]
   ·rw [if_neg e1]
    by_cases e2 : s = .e 1000000
    ·rw [if_pos e2, e2, aR.1]
    ·rw [if_neg e2, (aO s e1 e2).1]
 ·rw [ge]
  by_cases e3 : s = .e 0
  ·rw [if_pos e3, e3]
   simp only [BlkOk]
   refine ⟨a0.2.2.1, b0, cp0, [.slice a l.length cp], by rw [a0.2.1]; exact h2, h4, fun u hu => by simp only [List.mem_singleton] at hu; subst hu; rfl, ?_⟩
   simp only [RelL, RelV]
   refine ⟨_, _, rfl, ?_, rfl⟩
   rw [aE.1, aE.2.1]
   refine ⟨Nat.le_refl _, fun _ => ?_⟩
   cases a with
   | none => rw [h6.1, h6.2]; exact ⟨by trivial, by trivial, rfl⟩
   | some ad =>
    obtain ⟨g1, g2, g3, g4, _⟩ := h6
    exact ⟨by omega, ad, by simp, fun _ => by cases ad; simp only at g1 g2; rw [g1, g2, Nat.zero_mul]⟩
  ·rw [if_neg e3]
   by_cases e1 : s = .l 999
   ·rw [if_pos e1, e1]
    simp only [BlkOk]
    refine ⟨aE.2.2.1, by omega, ?_⟩
    rw [aE.2.1]
    cases a with
    | none => rw [h6.1]; rfl
    | some ad =>
     obtain ⟨g1, g2, g3, g4, g5, rest, g6, g7, g8⟩ := h6
     refine ⟨g5, valsN l, rest, g6, g7, fun u hu => ?_, RelL.of_RVL _ _ (cellsN_rvl _ _ l)⟩
     rcases List.mem_append.1 hu with hu | hu
     ·exact valsN_one l u hu
     ·exact g8 u hu
   ·rw [if_neg e1]
    by_cases e2 : s = .e 1000000
    ·rw [if_pos e2, e2]
     simp only [BlkOk]
     refine ⟨aR.2.2.1, fun w2 hw2 => ?_⟩
     rw [aR.2.1, aR.2.2.2]
     exact h5.loc fun b hb => hw2 b (.inr (by rw [aR.2.2.2]; exact hb))
    ·rw [if_neg e2]
     simp only [BlkOk]
     rw [(aO s e1 e2).2.2.1]
     exact hlo s e3
 ·have key : ∀ s b, c1.lv s = true → c1.own s b → (s = .e 0 ∧ b = b0) ∨ (s = .l 999 ∧ a.map (·.block) = some b) ∨ (s = .e 1000000 ∧ c.ex (.e 0) b ∧ a.map (·.block) ≠ some b) := fun s b l' o => by
   by_cases e3 : s = .e 0
   ·subst e3; exact .inl ⟨rfl, o0 b o⟩
   ·by_cases e1 : s = .l 999
    ·subst e1; exact .inr (.inl ⟨rfl, oE b o⟩)
    ·by_cases e2 : s = .e 1000000
     ·subst e2; exact .inr (.inr ⟨rfl, oR b o⟩)
     ·rw [(aO s e1 e2).2.2.1, hlo s e3] at l'; cases l'
  rcases key s b l1 o1 with ⟨rfl, x⟩ | ⟨rfl, x⟩ | ⟨rfl, x1, x2⟩ <;> rcases key s' b l2 o2 with ⟨rfl, y⟩ | ⟨rfl, y⟩ | ⟨rfl, y1, y2⟩
  ·rfl
  ·exact absurd (x ▸ hbe b y) h3
  ·exact absurd (x ▸ y1) h3
  ·exact absurd (y ▸ hbe b x) h3
  ·rfl
  ·exact absurd x y2
  ·exact absurd (y ▸ x1) h3
  ·exact absurd y x2
  ·rfl
/-- An index that is opened, shut again. -/
theorem close_core {w w' : World} {c c2 : Cx} {B : Blk} {hp : Hp} (h0 : Inv w c (hpE 0 [(0, B)])) (he : ExtW w c w' c2) (hi : Inv w' c2 hp) {sE : Site} {v vR : Nat} {l : List PE}
  (g0 : hp.get (.e 0) = (0, .cells 99 [.own sE v 3 0 l.length])) (gE : hp.get sE = (v, .rowx 104 3 (cellsN l))) {Q : Option (Nat × Nat) → (Nat → Prop) → World → Prop} (gR : hp.get (.e 1000000) = (vR, .sem Q)) (hQ : ∀ x y w, Q x y w → NamesR l x y w) :
  ∃ c3, Ext w c w' c3 ∧ Inv w' c3 (hpE 0 [(0, .sem (IXR (esOf l)))]) ∧ ∀ b, E.still w' c2 b → E.still w' c3 b := by
 have hc0 : ∀ s, c.cur s = 0 := fun s => by
  rw [h0.cur s, hpE_at]
  cases s with
  | e j => cases j <;> rfl
  | l _ => rfl
  | m _ _ => rfl
 obtain ⟨k0, v0, b0, cp0, vs0, l0, m0, o0, r0⟩ := hi.cells g0
 obtain ⟨kE, vE, _, mE⟩ := hi.rowx gE
 obtain ⟨kR, vR', hq⟩ := hi.sem gR
 obtain ⟨hlocR, hok, hap⟩ := hQ _ _ _ hq
 have n1 : sE ≠ .e 0 := fun e => by rw [e, g0] at gE; cases gE
 have n2 : sE ≠ .e 1000000 := fun e => by rw [e, gR] at gE; cases gE
 simp only [RelL] at r0
 obtain ⟨u, _, rfl, hu, rfl⟩ := r0
 simp only [RelV] at hu
 have hu := hu.2 kE.symm
 obtain ⟨c3, hc3⟩ : ∃ c3 : Cx, c3 = { cur := fun _ => 0, loc := fun s => if s = .e 0 then c2.loc (.e 0) else c.loc s, lv := fun s => if s = .e 0 then true else false, ex := fun s => if s = .e 0 then (fun b => c2.own sE b ∨ c2.own (.e 1000000) b) else fun _ => False, far := c2.far } := ⟨_, rfl⟩
 have a0 : c3.loc (.e 0) = c2.loc (.e 0) ∧ c3.lv (.e 0) = true ∧ c3.ex (.e 0) = (fun b => c2.own sE b ∨ c2.own (.e 1000000) b) := by rw [hc3]; simp
 have aO : ∀ s, s ≠ .e 0 → c3.loc s = c.loc s ∧ c3.lv s = false := fun s h => by rw [hc3]; simp [h]
 have hcur : ∀ s, c3.cur s = 0 := fun s => by rw [hc3]
 have hfar : c3.far = c2.far := by rw [hc3]
 have own0 : ∀ b, c3.own (.e 0) b → b = b0 ∨ c2.own sE b ∨ c2.own (.e 1000000) b := fun b hb => by
  rcases hb with ⟨cp, hb⟩ | hb
  ·rw [a0.1, l0] at hb; cases hb; exact .inl rfl
  ·rw [a0.2.2] at hb; exact .inr hb
 have hsub : ∀ b, c3.live b → c2.live b := fun b => by
  rintro ⟨s, l', o⟩
  by_cases e : s = .e 0
  ·subst e
   rcases own0 b o with rfl | o | o
   ·exact ⟨.e 0, v0, .inl ⟨cp0, l0⟩⟩
   ·exact ⟨sE, vE, o⟩
   ·exact ⟨.e 1000000, vR', o⟩
  ·rw [(aO s e).2] at l'; cases l'
 have hst : ∀ b, E.still w' c2 b → E.still w' c3 b := fun b hb => ⟨hb.1, fun hl => hb.2.1 (hsub b hl), by rw [hfar]; exact hb.2.2⟩
 have hx0 := he.cur 0
 rw [k0, hc0] at hx0
 have hx1 : c2.loc (.e 0) = c.loc (.e 0) ∧ (c2.lv (.e 0) = true → c.lv (.e 0) = true) := by
  rcases hx0 with h | h
  ·omega
  ·exact h.2
 refine ⟨c3, ⟨he.os, he.tape, he.output, he.size, fun b hb hn => ⟨(he.block b hb hn).1, fun hl => (he.block b hb hn).2 (hsub b hl)⟩, by rw [hfar]; exact he.far, fun s => ?_⟩, ?_, hst⟩
 ·refine .inr ⟨by rw [hcur, hc0], ?_, fun h => ?_⟩
  ·by_cases e : s = .e 0
   ·subst e; rw [a0.1]; exact hx1.1
   ·exact (aO s e).1
  ·by_cases e : s = .e 0
   ·subst e; exact hx1.2 v0
   ·rw [(aO s e).2] at h; cases h
 ·have nb : ∀ s, s ≠ .e 0 → c2.lv s = true → ¬ c2.own s b0 := fun s hs hl ho => hs (hi.inj s (.e 0) b0 hl v0 ho (.inl ⟨cp0, l0⟩))
  have key : IXR (esOf l) (c3.loc (.e 0)) (c3.ex (.e 0)) w' := by
   rw [a0.1, a0.2.2]
   rcases mE with ⟨x1, x2⟩ | ⟨bE, cpE, vs, rest, x1, x2, x3, x4, x5, x6⟩
   ·rw [x1] at hu
    have hl0 : l = [] := List.eq_nil_of_length_eq_zero hu.2.1
    subst hl0
    refine ⟨[], b0, cp0, none, 0, rfl, l0, ?_, by rw [m0]; simp only [List.length_nil] at hu; rw [hu.2.2]; rfl, ⟨rfl, (fun p hp => by cases hp), List.Pairwise.nil⟩, rfl, rfl⟩
    rintro (h | h)
    ·exact nb sE n1 vE h
    ·exact nb _ (by simp) vR' h
   ·rw [x1] at hu
    obtain ⟨y1, ad, rfl, y2⟩ := hu
    have y2 := y2 (.inr (by trivial))
    rw [Nat.zero_mul] at y2
    subst y2
    have hv := cellsN_inv x6
    subst hv
    refine ⟨l, b0, cp0, some ⟨bE, 0, none⟩, cpE - 0, rfl, l0, ?_, by rw [m0], ⟨rfl, fun p hp => (hok p hp).mono fun b hb hx => ⟨⟨.inr (.inr hx), fun e => ?_⟩, rfl⟩, hap⟩, rfl, rfl, .inl (.inl ⟨cpE, x1⟩), by omega, by omega, rest, x3, by rw [Nat.sub_zero]; exact x4, fun u hu => x5 u (List.mem_append_right _ hu)⟩
    ·rintro (h | h)
     ·exact nb sE n1 vE h
     ·exact nb _ (by simp) vR' h
    ·cases e
     exact n2 (hi.inj sE (.e 1000000) bE vE vR' (.inl ⟨cpE, x1⟩) (.inr hx))
  refine ⟨hi.glob.mono fun b hb => ⟨hst b hb, rfl⟩, fun s => ?_, fun s => ?_, fun s s' b l1 l2 o1 o2 => ?_, fun b hl => by rw [hfar]; exact hi.far b (hsub b hl), fun b hl => hi.lt b (hsub b hl), fun b hb => hi.farlt b (by rw [hfar] at hb; exact hb)⟩
  ·rw [hcur, hpE_at]
   cases s with
   | e j => cases j <;> rfl
   | l _ => rfl
   | m _ _ => rfl
  ·rw [hpE_at]
   by_cases e : s = .e 0
   ·subst e
    show BlkOk w' c3 (.e 0) (.sem (IXR (esOf l)))
    simp only [BlkOk]
    exact ⟨a0.2.1, fun w2 h2 => key.loc fun b hb => h2 b hb⟩
   ·have : atE [(0, Blk.sem (IXR (esOf l)))] s = (0, .gone) := by
     cases s with
     | e j => cases j with
      | zero => exact absurd rfl e
      | succ j => rfl
     | l _ => rfl
     | m _ _ => rfl
    rw [this]
    exact (aO s e).2
  ·have : ∀ s, c3.lv s = true → s = .e 0 := fun s h => by
    by_cases e : s = .e 0
    ·exact e
    ·rw [(aO s e).2] at h; cases h
   rw [this s l1, this s' l2]
end Go.Proofs.Ytpdenloeacaadaa.E
