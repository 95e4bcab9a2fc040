/- Contracts of several ends; ends told as one another. No conditions. -/
import Derived.Test.YtpdenloeacaadaaEngineC
namespace Go.Proofs.Ytpdenloeacaadaa.E
open Go
set_option linter.unusedSimpArgs false
set_option linter.unusedVariables false
set_option linter.unusedSectionVars false
set_option maxRecDepth 20000
/-- The end of a contract of several ends. -/
def AEndO (P : Program) (rs : List ResultVar) (outs : Nat → AV × List (Nat × Blk)) (m : Nat) (e : Ex) (st : ASt) : Prop := ∃ i mv, AEndH P rs (outs i).1 (outs i).2 m mv e st
def OkO (P : Program) (f : FuncId) (args : List AV) (hs : List Blk) (outs : Nat → AV × List (Nat × Blk)) : Prop :=
 ∀ (w : World) (c : Cx) (vs : List Value), Inv w c (hpE 0 (hs.map fun b => (0, b))) → RelL w c args vs →
  Calls P f vs.toArray w fun e w' => ∃ i v c', e = .returned v ∧ Ext w c w' c' ∧ Inv w' c' (hpE 0 (outs i).2) ∧ RelV w' c' (outs i).1 v
theorem OkO.of_wp {P : Program} {f : FuncId} {fn : Func} {code : Code} {rs : List ResultVar} {n : Nat} {args : List AV} {hs : List Blk} {outs : Nat → AV × List (Nat × Blk)} (hf : P.funcs[f]? = some fn) (hb : fn.body = some code) (hrs : fn.results = rs.toArray) (hnt : fn.ntmps = n)
  (hn : args.length ≤ n) (hm : P.follows .mixedOrders = true) (hd : dOk code = true) (h : AWp P code (AEndO P rs outs hs.length) ⟨initT 0 args, hpE 0 (hs.map fun b => (0, b)), n⟩) : OkO P f args hs outs := by
 subst hnt
 intro w c vs hinv hrel
 have hlen := hrel.length
 have hsim : Sim w c ⟨initT 0 args, hpE 0 (hs.map fun b => (0, b)), fn.ntmps⟩ { tmps := vs.toArray ++ Array.replicate (fn.ntmps - vs.toArray.size) undef, defers := [] } := by
  refine ⟨by simp; omega, fun i => ?_, hinv, rfl⟩
  rw [tget_initT]
  simp only [Nat.zero_le, if_true, Nat.sub_zero]
  cases hi : args[i]? with
  | none => simp only [Option.getD_none, RelV]
  | some x =>
   simp only [Option.getD_some]
   obtain ⟨u, hu, hr⟩ := hrel.get i x hi
   have hlt := lt_of_get hu
   have e : (vs.toArray ++ Array.replicate (fn.ntmps - vs.toArray.size) undef).getD i undef = u := by
    obtain ⟨h1, h2⟩ := List.getElem?_eq_some_iff.1 hu
    simp [Array.getElem?_append, hlt, h2]
   rw [e]
   exact hr
 refine calls_of_wp hf hb (AWp_sound hm code hd h hsim fun e st w' c' a' k he s => ?_)
 obtain ⟨i, mv, k⟩ := k
 have fin : AFinH P rs (outs i).1 (outs i).2 hs.length mv st → a'.defers = [] ∧ ∃ v, (results fn a'.tmps).run P w' = .ok v w' ∧ ∃ i v' c'', Ending.returned v = .returned v' ∧ Ext w c w' c'' ∧ Inv w' c'' (hpE 0 (outs i).2) ∧ RelV w' c'' (outs i).1 v' := by
  intro k
  refine ⟨s.df, ?_⟩
  unfold AFinH at k
  obtain ⟨us, xs, e1, h1, hmv, hret, hE, hM⟩ := results_run s hrs k
  obtain ⟨g1, g2, g3, g4⟩ := fin_sound hinv he s.inv hmv hE hM
  obtain ⟨v, e2, h3⟩ := hret.sound g3 (g4 _ _ h1)
  exact ⟨v, by rw [e1, e2], i, v, _, rfl, g1, g2, h3⟩
 cases e with
 | normal => exact fin k
 | ret => exact fin k
 | exit id => exact k.elim
/-! ### Places told anew -/
theorem fits_none (c c' : Cx) : Fits c c' (fun _ _ => none) := fun _ _ _ _ h => by cases h
/-- A place's number is another one; the rest is as it was. -/
theorem Inv.turned {w : World} {c c' : Cx} {hp hp' : Hp} (h : Inv w c hp) (hlive : ∀ b, c'.live b ↔ c.live b) (hfar : c'.far = c.far) (hcur : ∀ s, c'.cur s = (hp'.get s).1) (hok : (∀ b, E.still w c b → E.still w c' b) → ∀ s, BlkOk w c' s (hp'.get s).2)
  (hinj : ∀ s s' b, c'.lv s = true → c'.lv s' = true → c'.own s b → c'.own s' b → s = s') : Inv w c' hp' := by
 have hst : ∀ b, E.still w c b → E.still w c' b := fun b hb => ⟨hb.1, fun hl => hb.2.1 ((hlive b).1 hl), by rw [hfar]; exact hb.2.2⟩
 exact ⟨h.glob.mono fun b hb => ⟨hst b hb, rfl⟩, hcur, hok hst, hinj, fun b hl => by rw [hfar]; exact h.far b ((hlive b).1 hl), fun b hl => h.lt b ((hlive b).1 hl), fun b hb => h.farlt b (by rw [hfar] at hb; exact hb)⟩
def noRef (b : Blk) : Prop := rnB (fun _ _ => none) b = b
theorem noRef.ok {w : World} {c c' : Cx} {s s' : Site} {b : Blk} (hn : noRef b) (h : BlkOk w c s b) (hst : ∀ b, E.still w c b → E.still w c' b) (hl : c'.loc s' = c.loc s) (hv : c'.lv s' = c.lv s) (hx : c'.ex s' = c.ex s) : BlkOk w c' s' b := by
 have := BlkOk.rn (fits_none c c') hst h hl hv hx
 rwa [hn] at this
theorem row_any {w : World} {c : Cx} {s : Site} {T : TypeId} {k : Nat} {q : Option Nat} {rows : List (List AV)} (h : BlkOk w c s (.row T k q rows)) : BlkOk w c s (.row T k none rows) := by
 simp only [BlkOk] at h ⊢
 obtain ⟨h1, h2, h3, h4⟩ := h
 refine ⟨h1, h2, h3, ?_⟩
 split at h4
 ·exact ⟨h4.1, .inl trivial⟩
 ·exact ⟨.inl trivial, h4.2⟩
theorem atE_zero (x : Nat × Blk) (L : List (Nat × Blk)) : atE (x :: L) (.e 0) = x := rfl
theorem atE_suc (x : Nat × Blk) (L : List (Nat × Blk)) (j : Nat) : atE (x :: L) (.e (j + 1)) = (L[j]?).getD (0, .gone) := by simp [atE]
theorem own_bump {w w' : World} {c c' : Cx} (hE : Ext w c w' c') {T : TypeId} {k n : Nat} {q : Option Nat} {rows : List (List AV)} {L : List (Nat × Blk)} {v : Value} (hc : c.cur (.e 0) = 0) (hI : Inv w' c' (hpE 0 ((0, .row T k q rows) :: L))) (hL : ∀ p ∈ L, noRef p.2) (hr : RelV w' c' (.own (.e 0) 0 k 0 n) v) :
  ∃ c'', Ext w c w' c'' ∧ Inv w' c'' (hpE 0 ((1, .row T k none rows) :: L)) ∧ RelV w' c'' (.own (.e 0) 1 k 0 n) v := by
 have h0 : c'.cur (.e 0) = 0 := by have := hI.cur (.e 0); rwa [hpE_at, atE_zero] at this
 obtain ⟨c'', hc''⟩ : ∃ c'' : Cx, c'' = { c' with cur := fun s => if s = .e 0 then 1 else c'.cur s } := ⟨_, rfl⟩
 have e1 : ∀ s, s ≠ .e 0 → c''.cur s = c'.cur s := fun s h => by rw [hc'']; exact if_neg h
 have e2 : c''.cur (.e 0) = 1 := by rw [hc'']; simp
 have e3 : c''.loc = c'.loc := by rw [hc'']
 have e4 : c''.lv = c'.lv := by rw [hc'']
 have e5 : c''.far = c'.far := by rw [hc'']
 have e6 : c''.ex = c'.ex := by rw [hc'']
 have e7 : c''.own = c'.own := by unfold Cx.own; rw [e3, e6]
 have hlive : ∀ b, c''.live b ↔ c'.live b := fun b => by unfold Cx.live; rw [e7, e4]
 refine ⟨c'', ⟨hE.os, hE.tape, hE.output, hE.size, fun b hb hn => ⟨(hE.block b hb hn).1, fun hl => (hE.block b hb hn).2 ((hlive b).1 hl)⟩, by rw [e5]; exact hE.far, fun s => ?_⟩, ?_, ?_⟩
 ·by_cases hs : s = .e 0
  ·subst hs; left; rw [hc, e2]; omega
  ·rw [e1 s hs, e3, e4]; exact hE.cur s
 ·refine hI.turned hlive e5 (fun s => ?_) (fun hst s => ?_) (fun s s' b l1 l2 o1 o2 => ?_)
  ·by_cases hs : s = .e 0
   ·subst hs; rw [e2, hpE_at, atE_zero]
   ·rw [e1 s hs, hI.cur s, hpE_at, hpE_at]
    cases s with
    | e j => cases j with
     | zero => exact absurd rfl hs
     | succ j => rw [atE_suc, atE_suc]
    | l _ => rfl
    | m _ _ => rfl
  ·have ho := hI.ok s
   rw [hpE_at] at ho ⊢
   by_cases hs : s = .e 0
   ·subst hs
    rw [atE_zero] at ho ⊢
    have hn : noRef (.row T k none rows) := rfl
    exact hn.ok (row_any ho) hst (by rw [e3]) (by rw [e4]) (by rw [e6])
   ·cases s with
    | e j => cases j with
     | zero => exact absurd rfl hs
     | succ j =>
      rw [atE_suc] at ho ⊢
      cases hj : L[j]? with
      | none => rw [hj] at ho; simp only [Option.getD_none, BlkOk] at ho ⊢; rw [e4]; exact ho
      | some p =>
       rw [hj] at ho
       exact (hL p (List.mem_of_getElem? hj)).ok ho hst (by rw [e3]) (by rw [e4]) (by rw [e6])
    | l _ => simp only [atE, BlkOk] at ho ⊢; rw [e4]; exact ho
    | m _ _ => simp only [atE, BlkOk] at ho ⊢; rw [e4]; exact ho
  ·rw [e7] at o1 o2; rw [e4] at l1 l2; exact hI.inj s s' b l1 l2 o1 o2
 ·simp only [RelV] at hr ⊢
  rw [e2, e3]
  exact ⟨Nat.le_refl _, fun _ => hr.2 (by rw [h0])⟩
theorem own_move {w w' : World} {c c' : Cx} (hE : Ext w c w' c') {T : TypeId} {k n m : Nat} {q : Option Nat} {rows : List (List AV)} {L : List (Nat × Blk)} {X : List (Nat × Blk)} {v : Value} (hX : Inv w c (hpE 0 X)) (hXl : X.length = m) (hm : L.length + 1 = m) (hc : c.cur (.e 0) = 0) (hI : Inv w' c' (hpE 0 ((0, .gone) :: (L ++ [(1, .row T k q rows)])))) (hL : ∀ p ∈ L, noRef p.2) (hr : RelV w' c' (.own (.e m) 1 k 0 n) v) :
  ∃ c'', Ext w c w' c'' ∧ Inv w' c'' (hpE 0 ((1, .row T k none rows) :: L)) ∧ RelV w' c'' (.own (.e 0) 1 k 0 n) v := by
 have hm0 : (Site.e m) ≠ .e 0 := by rw [← hm]; simp
 have g0 : c.cur (.e m) = 0 ∧ c.lv (.e m) = false := by
  have h1 := hX.cur (.e m)
  have h2 := hX.ok (.e m)
  have e : atE X (.e m) = (0, .gone) := by simp only [atE]; rw [List.getElem?_eq_none (by omega)]; rfl
  rw [hpE_at, e] at h1 h2
  exact ⟨h1, h2⟩
 have gm : atE ((0, Blk.gone) :: (L ++ [(1, Blk.row T k q rows)])) (.e m) = (1, .row T k q rows) := by
  rw [← hm, atE_suc, List.getElem?_append_right (Nat.le_refl _), Nat.sub_self]; rfl
 have h1 := hI.cur (.e m)
 have h2 := hI.ok (.e m)
 rw [hpE_at, gm] at h1 h2
 have h3 := hI.ok (.e 0)
 rw [hpE_at, atE_zero] at h3
 have hlm : c'.lv (.e m) = true := by simp only [BlkOk] at h2; exact h2.1
 have hl0 : c'.lv (.e 0) = false := h3
 obtain ⟨c'', hc''⟩ : ∃ c'' : Cx, c'' = { cur := fun s => if s = .e 0 then 1 else if s = .e m then 0 else c'.cur s, loc := fun s => if s = .e 0 then c'.loc (.e m) else if s = .e m then c.loc (.e m) else c'.loc s, lv := fun s => if s = .e 0 then true else if s = .e m then false else c'.lv s, ex := fun s => if s = .e 0 then c'.ex (.e m) else if s = .e m then (fun _ => False) else c'.ex s, far := c'.far } := ⟨_, rfl⟩
 have a1 : c''.cur (.e 0) = 1 ∧ c''.loc (.e 0) = c'.loc (.e m) ∧ c''.lv (.e 0) = true := by rw [hc'']; simp
 have x1 : c''.ex (.e 0) = c'.ex (.e m) := by rw [hc'']; simp
 have x3 : ∀ s, s ≠ .e 0 → s ≠ .e m → c''.ex s = c'.ex s := fun s h h' => by rw [hc'']; simp only [if_neg h, if_neg h']
 have a2 : c''.cur (.e m) = 0 ∧ c''.loc (.e m) = c.loc (.e m) ∧ c''.lv (.e m) = false := by
  rw [hc'']; simp only [if_neg hm0, if_true]; exact ⟨trivial, trivial, trivial⟩
 have a3 : ∀ s, s ≠ .e 0 → s ≠ .e m → c''.cur s = c'.cur s ∧ c''.loc s = c'.loc s ∧ c''.lv s = c'.lv s := fun s h h' => by
  rw [hc'']; simp only [if_neg h, if_neg h']; exact ⟨trivial, trivial, trivial⟩
 have e5 : c''.far = c'.far := by rw [hc'']
 have w1 : ∀ b, c''.own (.e 0) b ↔ c'.own (.e m) b := fun b => Cx.own_eq a1.2.1 x1 b
 have w3 : ∀ s b, s ≠ .e 0 → s ≠ .e m → (c''.own s b ↔ c'.own s b) := fun s b h h' => Cx.own_eq (a3 s h h').2.1 (x3 s h h') b
 have hlive : ∀ b, c''.live b ↔ c'.live b := fun b => by
  constructor
  ·rintro ⟨s, l, o⟩
   by_cases s0 : s = .e 0
   ·subst s0; exact ⟨.e m, hlm, (w1 b).1 o⟩
   ·by_cases sm : s = .e m
    ·subst sm; rw [a2.2.2] at l; cases l
    ·exact ⟨s, by rw [← (a3 s s0 sm).2.2]; exact l, (w3 s b s0 sm).1 o⟩
  ·rintro ⟨s, l, o⟩
   by_cases s0 : s = .e 0
   ·subst s0; rw [hl0] at l; cases l
   ·by_cases sm : s = .e m
    ·subst sm; exact ⟨.e 0, a1.2.2, (w1 b).2 o⟩
    ·exact ⟨s, by rw [(a3 s s0 sm).2.2]; exact l, (w3 s b s0 sm).2 o⟩
 refine ⟨c'', ⟨hE.os, hE.tape, hE.output, hE.size, fun b hb hn => ⟨(hE.block b hb hn).1, fun hl => (hE.block b hb hn).2 ((hlive b).1 hl)⟩, by rw [e5]; exact hE.far, fun s => ?_⟩, ?_, ?_⟩
 ·by_cases s0 : s = .e 0
  ·subst s0; left; rw [hc, a1.1]; omega
  ·by_cases sm : s = .e m
   ·subst sm; right; rw [a2.1, a2.2.1, a2.2.2, g0.1, g0.2]; exact ⟨rfl, rfl, fun h => h⟩
   ·obtain ⟨b1, b2, b3⟩ := a3 s s0 sm
    rw [b1, b2, b3]; exact hE.cur s
 ·refine hI.turned hlive e5 (fun s => ?_) (fun hst s => ?_) (fun s s' b l1 l2 o1 o2 => ?_)
  ·rw [hpE_at]
   by_cases s0 : s = .e 0
   ·subst s0; rw [a1.1, atE_zero]
   ·by_cases sm : s = .e m
    ·subst sm
     rw [a2.1, ← hm, atE_suc, List.getElem?_eq_none (Nat.le_refl _)]; rfl
    ·rw [(a3 s s0 sm).1, hI.cur s, hpE_at]
     cases s with
     | e j => cases j with
      | zero => exact absurd rfl s0
      | succ j =>
       rw [atE_suc, atE_suc]
       by_cases hj : j < L.length
       ·rw [List.getElem?_append_left hj]
       ·have hj2 : j ≠ L.length := fun e => sm (by rw [e, hm])
        rw [List.getElem?_eq_none (by simp; omega), List.getElem?_eq_none (by omega)]
     | l _ => rfl
     | m _ _ => rfl
  ·have ho := hI.ok s
   rw [hpE_at] at ho ⊢
   by_cases s0 : s = .e 0
   ·subst s0
    rw [atE_zero]
    have hn : noRef (.row T k none rows) := rfl
    exact hn.ok (row_any h2) hst a1.2.1 (by rw [a1.2.2, hlm]) x1
   ·by_cases sm : s = .e m
    ·subst sm
     rw [← hm, atE_suc, List.getElem?_eq_none (Nat.le_refl _), hm]
     exact a2.2.2
    ·obtain ⟨_, b2, b3⟩ := a3 s s0 sm
     cases s with
     | e j => cases j with
      | zero => exact absurd rfl s0
      | succ j =>
       rw [atE_suc] at ho ⊢
       by_cases hj : j < L.length
       ·rw [List.getElem?_append_left hj] at ho
        obtain ⟨p, hp⟩ : ∃ p, L[j]? = some p := ⟨_, List.getElem?_eq_getElem hj⟩
        rw [hp] at ho ⊢
        exact (hL p (List.mem_of_getElem? hp)).ok ho hst b2 b3 (x3 _ s0 sm)
       ·have hj2 : j ≠ L.length := fun e => sm (by rw [e, hm])
        rw [List.getElem?_eq_none (by simp; omega)] at ho
        rw [List.getElem?_eq_none (by omega)]
        simp only [Option.getD_none, BlkOk] at ho ⊢
        rw [b3]; exact ho
     | l _ => simp only [atE, BlkOk] at ho ⊢; rw [b3]; exact ho
     | m _ _ => simp only [atE, BlkOk] at ho ⊢; rw [b3]; exact ho
  ·have key : ∀ s b, c''.lv s = true → c''.own s b → ∃ t, c'.lv t = true ∧ c'.own t b ∧ ((s = .e 0 ∧ t = .e m) ∨ (s ≠ .e 0 ∧ s ≠ .e m ∧ t = s)) := fun s b l o => by
    by_cases s0 : s = .e 0
    ·subst s0; exact ⟨.e m, hlm, (w1 b).1 o, .inl ⟨rfl, rfl⟩⟩
    ·by_cases sm : s = .e m
     ·subst sm; rw [a2.2.2] at l; cases l
     ·exact ⟨s, by rw [← (a3 s s0 sm).2.2]; exact l, (w3 s b s0 sm).1 o, .inr ⟨s0, sm, rfl⟩⟩
   obtain ⟨t, t1, t2, t3⟩ := key s b l1 o1
   obtain ⟨u, u1, u2, u3⟩ := key s' b l2 o2
   have htu := hI.inj t u b t1 u1 t2 u2
   rcases t3 with ⟨rfl, rfl⟩ | ⟨x1, x2, rfl⟩ <;> rcases u3 with ⟨rfl, rfl⟩ | ⟨y1, y2, rfl⟩
   ·rfl
   ·exact absurd htu.symm y2
   ·exact absurd htu x2
   ·exact htu
 ·simp only [RelV] at hr ⊢
  rw [a1.1, a1.2.1]
  exact ⟨Nat.le_refl _, fun _ => hr.2 (by rw [h1])⟩
end Go.Proofs.Ytpdenloeacaadaa.E
