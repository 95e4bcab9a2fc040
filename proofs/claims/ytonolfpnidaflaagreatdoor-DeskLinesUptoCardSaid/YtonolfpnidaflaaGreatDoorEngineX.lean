/- The abstract machine of this claim, part X: two places change their names; ends told anew. No conditions. -/
import Derived.Test.YtonolfpnidaflaaGreatDoorEngineD
import Derived.Test.YtonolfpnidaflaaGreatDoorOkO
namespace Go.Proofs.YtonolfpnidaflaaGreatDoor.E
open Go
set_option linter.unusedSimpArgs false
set_option linter.unusedVariables false
set_option linter.unusedSectionVars false
set_option maxRecDepth 20000
def AEndZ (P : Program) (rs : List ResultVar) (r : AV) (hs' : List (Nat × Blk)) (m : Nat) (e : Ex) (st : ASt) : Prop := ∃ st', Less st st' ∧ AEndX P rs r hs' m e st'
theorem OkH.of_wpZ {P : Program} {f : FuncId} {fn : Func} {code : Code} {rs : List ResultVar} {n : Nat} {args : List AV} {hs : List Blk} {r : AV} {hs' : List (Nat × Blk)} (hf : P.funcs[f]? = some fn) (hb : fn.body = some code) (hrs : fn.results = rs.toArray) (hnt : fn.ntmps = n)
  (hn : args.length ≤ n) (hm : P.follows .mixedOrders = true) (hd : dOk code = true) (h : AWp P code (AEndZ P rs r hs' hs.length) ⟨initT 0 args, hpE 0 (hs.map fun b => (0, b)), n⟩) : OkH P f args hs r hs' := by
 subst hnt
 intro w c vs hinv hrel
 have hlen := hrel.length
 have hsim : Sim [] w c ⟨initT 0 args, hpE 0 (hs.map fun b => (0, b)), fn.ntmps⟩ { tmps := vs.toArray ++ Array.replicate (fn.ntmps - vs.toArray.size) undef, defers := [] } := by
  refine ⟨by simp; omega, fun i => ?_, hinv, rfl⟩
  rw [tget_initT]
  simp only [Nat.zero_le, if_true, Nat.sub_zero]
  cases hi : args[i]? with
  | none => simp only [Option.getD_none, RelV]
  | some x =>
   simp only [Option.getD_some]
   obtain ⟨u, hu, hr⟩ := hrel.get i x hi
   have hlt := lt_of_get hu
   have e : (vs.toArray ++ Array.replicate (fn.ntmps - vs.toArray.size) undef).getD i undef = u := by
    obtain ⟨h1, h2⟩ := List.getElem?_eq_some_iff.1 hu
    simp [Array.getElem?_append, hlt, h2]
   rw [e]
   exact hr
 refine calls_of_wp hf hb (AWp_sound hm code hd h hsim fun e st0 w' c0 a' k0 he0 s0 => ?_)
 obtain ⟨st, hl, mv, k⟩ := k0
 obtain ⟨c', he2, s⟩ := hl s0
 have he := he0.trans he2
 have fin : AFinH P rs r hs' hs.length mv st → a'.defers = [] ∧ ∃ v, (results fn a'.tmps).run P w' = .ok v w' ∧ ∃ v' c'', Ending.returned v = .returned v' ∧ Ext w c w' c'' ∧ Inv w' c'' (hpE 0 hs') ∧ RelV w' c'' r v' := by
  intro k
  refine ⟨s.df, ?_⟩
  unfold AFinH at k
  obtain ⟨us, xs, e1, h1, hmv, hret, hE, hM⟩ := results_run s hrs k
  obtain ⟨g1, g2, g3, g4⟩ := fin_sound hinv he s.inv hmv hE hM
  obtain ⟨v, e2, h3⟩ := hret.sound g3 (g4 _ _ h1)
  exact ⟨v, by rw [e1, e2], v, _, rfl, g1, g2, h3⟩
 cases e with
 | normal => exact fin k
 | ret => exact fin k
 | exit id => exact k.elim
/-- Two places, each under the other's name. -/
def swG (s s' : Site) (u u' n n' : Nat) : Site → Nat → Option (Site × Nat) := fun x v => if x = s then (if v = u then some (s', n') else none) else if x = s' then (if v = u' then some (s, n) else none) else some (x, v)
def swT (g : Site → Nat → Option (Site × Nat)) (tm : List (Nat × AV)) : List (Nat × AV) := tm.map fun p => (p.1, rn g p.2)
def swB (g : Site → Nat → Option (Site × Nat)) (hp : Hp) : Hp := hp.map fun p => (p.1, p.2.1, rnB g p.2.2)
def swH (s s' : Site) (n n' : Nat) (hp : Hp) : Hp := ((swB (swG s s' (hp.get s).1 (hp.get s').1 n n') hp).set s n (rnB (swG s s' (hp.get s).1 (hp.get s').1 n n') (hp.get s').2)).set s' n' (rnB (swG s s' (hp.get s).1 (hp.get s').1 n n') (hp.get s).2)
theorem swT_get (g : Site → Nat → Option (Site × Nat)) (tm : List (Nat × AV)) (i : Nat) : tget (swT g tm) i = rn g (tget tm i) := by
 induction tm with
 | nil => simp only [swT, List.map_nil, tget, rn]
 | cons p r ih =>
  obtain ⟨j, x⟩ := p
  simp only [swT, List.map_cons, tget] at ih ⊢
  split
  ·rfl
  ·exact ih
theorem swB_get (g : Site → Nat → Option (Site × Nat)) (hp : Hp) (x : Site) : (swB g hp).get x = ((hp.get x).1, rnB g (hp.get x).2) := by
 induction hp with
 | nil => simp only [swB, List.map_nil, Hp.get, rnB]
 | cons p r ih =>
  obtain ⟨y, m, b⟩ := p
  simp only [swB, List.map_cons, Hp.get] at ih ⊢
  split
  ·rfl
  ·exact ih
theorem swH_get {s s' : Site} (hne : s ≠ s') (n n' : Nat) (hp : Hp) (x : Site) : (swH s s' n n' hp).get x = if x = s' then (n', rnB (swG s s' (hp.get s).1 (hp.get s').1 n n') (hp.get s).2) else if x = s then (n, rnB (swG s s' (hp.get s).1 (hp.get s').1 n n') (hp.get s').2) else ((hp.get x).1, rnB (swG s s' (hp.get s).1 (hp.get s').1 n n') (hp.get x).2) := by
 unfold swH
 rw [Hp.get_set, Hp.get_set, swB_get]
 by_cases h1 : x = s'
 ·rw [if_pos h1.symm, if_pos h1]
 ·rw [if_neg (fun e => h1 e.symm), if_neg h1]
  by_cases h2 : x = s
  ·rw [if_pos h2.symm, if_pos h2]
  ·rw [if_neg (fun e => h2 e.symm), if_neg h2]
def swS (s s' x : Site) : Site := if x = s then s' else if x = s' then s else x
theorem swS_swS (s s' x : Site) : swS s s' (swS s s' x) = x := by
 unfold swS
 by_cases h1 : x = s
 ·subst h1
  by_cases h2 : s' = x
  ·subst h2; simp
  ·simp [h2]
 ·by_cases h2 : x = s'
  ·subst h2; simp [h1]
  ·simp [h1, h2]
theorem Less.swap {tm : List (Nat × AV)} {hp : Hp} {m : Nat} (s s' : Site) (n n' : Nat) (hne : s ≠ s') (hs' : isE s' = false) (hn : (hp.get s).1 < n) : Less ⟨tm, hp, m⟩ ⟨swT (swG s s' (hp.get s).1 (hp.get s').1 n n') tm, swH s s' n n' hp, m⟩ := by
 intro D w c a hs
 have hi := hs.inv
 let c' : Cx := { cur := fun x => ((swH s s' n n' hp).get x).1, loc := fun x => c.loc (swS s s' x), lv := fun x => c.lv (swS s s' x), ex := fun x => c.ex (swS s s' x), far := c.far }
 have hown : ∀ x b, c'.own x b ↔ c.own (swS s s' x) b := fun x b => Iff.rfl
 have hlive : ∀ b, c'.live b ↔ c.live b := fun b => by
  constructor
  ·rintro ⟨x, h1, h2⟩; exact ⟨_, h1, h2⟩
  ·rintro ⟨x, h1, h2⟩
   refine ⟨swS s s' x, ?_, ?_⟩
   ·show c.lv (swS s s' (swS s s' x)) = true
    rw [swS_swS]; exact h1
   ·show c.own (swS s s' (swS s s' x)) b
    rw [swS_swS]; exact h2
 have hst : ∀ b, still w c b → still w c' b := fun b hb => ⟨hb.1, fun hl => hb.2.1 ((hlive b).1 hl), hb.2.2⟩
 have hcur : ∀ x, c.cur x = (hp.get x).1 := hi.cur
 have hfit : Fits c c' (swG s s' (hp.get s).1 (hp.get s').1 n n') := by
  intro x v y v' hg hv
  unfold swG at hg
  by_cases h1 : x = s
  ·subst h1
   rw [if_pos rfl] at hg
   split at hg
   ·rename_i e
    cases hg
    have e1 : c'.cur s' = n' := by show ((swH x s' n n' hp).get s').1 = n'; rw [swH_get hne, if_pos rfl]
    refine ⟨Nat.le_of_eq e1.symm, fun _ => ⟨by rw [e, hcur], ?_⟩⟩
    show c.loc (swS x s' s') = c.loc x
    unfold swS
    rw [if_neg (fun e => hne e.symm), if_pos rfl]
   ·cases hg
  ·rw [if_neg h1] at hg
   by_cases h2 : x = s'
   ·subst h2
    rw [if_pos rfl] at hg
    split at hg
    ·rename_i e
     cases hg
     have e1 : c'.cur s = n := by show ((swH s x n n' hp).get s).1 = n; rw [swH_get hne, if_neg hne, if_pos rfl]
     refine ⟨Nat.le_of_eq e1.symm, fun _ => ⟨by rw [e, hcur], ?_⟩⟩
     show c.loc (swS s x s) = c.loc x
     unfold swS
     rw [if_pos rfl]
    ·cases hg
   ·rw [if_neg h2] at hg
    cases hg
    have e1 : c'.cur x = c.cur x := by show ((swH s s' n n' hp).get x).1 = _; rw [swH_get hne, if_neg h2, if_neg h1, hcur]
    refine ⟨by rw [e1]; exact hv, fun e => ⟨by rw [e, e1], ?_⟩⟩
    show c.loc (swS s s' x) = c.loc x
    unfold swS
    rw [if_neg h1, if_neg h2]
 refine ⟨c', ⟨rfl, rfl, rfl, Nat.le_refl _, fun b _ hb => ⟨rfl, fun hl => hb ((hlive b).1 hl)⟩, rfl, fun i => ?_⟩, ⟨hs.size, fun i => ?_, ?_, hs.df⟩⟩
 ·by_cases h1 : (Site.e i) = s
  ·left
   rw [hcur, h1]
   show (hp.get s).1 < ((swH s s' n n' hp).get s).1
   rw [swH_get hne, if_neg hne, if_pos rfl]
   exact hn
  ·have h2 : ¬ (Site.e i) = s' := fun e => by rw [← e] at hs'; cases hs'
   right
   refine ⟨?_, ?_, ?_⟩
   ·show ((swH s s' n n' hp).get (.e i)).1 = _
    rw [swH_get hne, if_neg h2, if_neg h1, hcur]
   ·show c.loc (swS s s' (.e i)) = _
    unfold swS
    rw [if_neg h1, if_neg h2]
   ·intro h
    have : c.lv (swS s s' (.e i)) = true := h
    unfold swS at this
    rwa [if_neg h1, if_neg h2] at this
 ·show RelV w c' (tget (swT _ tm) i) _
  rw [swT_get]
  exact RelV.rn hfit hst _ _ (hs.tm i)
 ·refine hi.turned hlive rfl (fun x => rfl) (fun hst x => ?_) (fun x y b h1 h2 h3 h4 => ?_)
  ·have key : ∀ y, swS s s' x = y → BlkOk w c' x (rnB (swG s s' (hp.get s).1 (hp.get s').1 n n') (hp.get y).2) := fun y e => BlkOk.rn hfit hst (hi.ok y) (by show c.loc (swS s s' x) = _; rw [e]) (by show c.lv (swS s s' x) = _; rw [e]) (by show c.ex (swS s s' x) = _; rw [e])
   show BlkOk w c' x ((swH s s' n n' hp).get x).2
   rw [swH_get hne]
   by_cases h1 : x = s'
   ·rw [if_pos h1]
    exact key s (by unfold swS; rw [h1, if_neg (fun e => hne e.symm), if_pos rfl])
   ·rw [if_neg h1]
    by_cases h2 : x = s
    ·rw [if_pos h2]
     exact key s' (by unfold swS; rw [if_pos h2])
    ·rw [if_neg h2]
     exact key x (by unfold swS; rw [if_neg h2, if_neg h1])
  ·have := hi.inj _ _ b h1 h2 h3 h4
   have e := congrArg (swS s s') this
   rwa [swS_swS, swS_swS] at e
end Go.Proofs.YtonolfpnidaflaaGreatDoor.E
