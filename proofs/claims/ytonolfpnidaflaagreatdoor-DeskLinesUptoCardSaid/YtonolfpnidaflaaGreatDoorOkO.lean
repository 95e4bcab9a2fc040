/- Contracts of several ends; ends told as one another. No conditions. -/
import Derived.Test.YtonolfpnidaflaaGreatDoorEngineC
namespace Go.Proofs.YtonolfpnidaflaaGreatDoor.E
open Go
set_option linter.unusedSimpArgs false
set_option linter.unusedVariables false
set_option linter.unusedSectionVars false
set_option maxRecDepth 20000
/-- The end of a contract of several ends. -/
def AEndO (P : Program) (rs : List ResultVar) (outs : Nat → AV × List (Nat × Blk)) (m : Nat) (e : Ex) (st : ASt) : Prop := ∃ i mv, AEndH P rs (outs i).1 (outs i).2 m mv e st
def OkO (P : Program) (f : FuncId) (args : List AV) (hs : List Blk) (outs : Nat → AV × List (Nat × Blk)) : Prop :=
 ∀ (w : World) (c : Cx) (vs : List Value), Inv w c (hpE 0 (hs.map fun b => (0, b))) → RelL w c args vs →
  Calls P f vs.toArray w fun e w' => ∃ i v c', e = .returned v ∧ Ext w c w' c' ∧ Inv w' c' (hpE 0 (outs i).2) ∧ RelV w' c' (outs i).1 v
theorem OkO.of_wp {P : Program} {f : FuncId} {fn : Func} {code : Code} {rs : List ResultVar} {n : Nat} {args : List AV} {hs : List Blk} {outs : Nat → AV × List (Nat × Blk)} (hf : P.funcs[f]? = some fn) (hb : fn.body = some code) (hrs : fn.results = rs.toArray) (hnt : fn.ntmps = n)
  (hn : args.length ≤ n) (hm : P.follows .mixedOrders = true) (hd : dOk code = true) (h : AWp P code (AEndO P rs outs hs.length) ⟨initT 0 args, hpE 0 (hs.map fun b => (0, b)), n⟩) : OkO P f args hs outs := by
 subst hnt
 intro w c vs hinv hrel
 have hlen := hrel.length
 have hsim : Sim [] w c ⟨initT 0 args, hpE 0 (hs.map fun b => (0, b)), fn.ntmps⟩ { tmps := vs.toArray ++ Array.replicate (fn.ntmps - vs.toArray.size) undef, defers := [] } := by
  refine ⟨by simp; omega, fun i => ?_, hinv, rfl⟩
  rw [tget_initT]
  simp only [Nat.zero_le, if_true, Nat.sub_zero]
  cases hi : args[i]? with
  | none => simp only [Option.getD_none, RelV]
  | some x =>
   simp only [Option.getD_some]
   obtain ⟨u, hu, hr⟩ := hrel.get i x hi
   have hlt := lt_of_get hu
   have e : (vs.toArray ++ Array.replicate (fn.ntmps - vs.toArray.size) undef).getD i undef = u := by
    obtain ⟨h1, h2⟩ := List.getElem?_eq_some_iff.1 hu
    simp [Array.getElem?_append, hlt, h2]
   rw [e]
   exact hr
 refine calls_of_wp hf hb (AWp_sound hm code hd h hsim fun e st w' c' a' k he s => ?_)
 obtain ⟨i, mv, k⟩ := k
 have fin : AFinH P rs (outs i).1 (outs i).2 hs.length mv st → a'.defers = [] ∧ ∃ v, (results fn a'.tmps).run P w' = .ok v w' ∧ ∃ i v' c'', Ending.returned v = .returned v' ∧ Ext w c w' c'' ∧ Inv w' c'' (hpE 0 (outs i).2) ∧ RelV w' c'' (outs i).1 v' := by
  intro k
  refine ⟨s.df, ?_⟩
  unfold AFinH at k
  obtain ⟨us, xs, e1, h1, hmv, hret, hE, hM⟩ := results_run s hrs k
  obtain ⟨g1, g2, g3, g4⟩ := fin_sound hinv he s.inv hmv hE hM
  obtain ⟨v, e2, h3⟩ := hret.sound g3 (g4 _ _ h1)
  exact ⟨v, by rw [e1, e2], i, v, _, rfl, g1, g2, h3⟩
 cases e with
 | normal => exact fin k
 | ret => exact fin k
 | exit id => exact k.elim
/-! ### Places told anew -/
theorem fits_none (c c' : Cx) : Fits c c' (fun _ _ => none) := fun _ _ _ _ h => by cases h
/-- A place's number is another one; the rest is as it was. -/
theorem Inv.turned {w : World} {c c' : Cx} {hp hp' : Hp} (h : Inv w c hp) (hlive : ∀ b, c'.live b ↔ c.live b) (hfar : c'.far = c.far) (hcur : ∀ s, c'.cur s = (hp'.get s).1) (hok : (∀ b, E.still w c b → E.still w c' b) → ∀ s, BlkOk w c' s (hp'.get s).2)
  (hinj : ∀ s s' b, c'.lv s = true → c'.lv s' = true → c'.own s b → c'.own s' b → s = s') : Inv w c' hp' := by
 have hst : ∀ b, E.still w c b → E.still w c' b := fun b hb => ⟨hb.1, fun hl => hb.2.1 ((hlive b).1 hl), by rw [hfar]; exact hb.2.2⟩
 exact ⟨h.glob.mono fun b hb => ⟨hst b hb, rfl⟩, hcur, hok hst, hinj, fun b hl => by rw [hfar]; exact h.far b ((hlive b).1 hl), fun b hl => h.lt b ((hlive b).1 hl), fun b hb => h.farlt b (by rw [hfar] at hb; exact hb)⟩
def noRef (b : Blk) : Prop := rnB (fun _ _ => none) b = b
theorem noRef.ok {w : World} {c c' : Cx} {s s' : Site} {b : Blk} (hn : noRef b) (h : BlkOk w c s b) (hst : ∀ b, E.still w c b → E.still w c' b) (hl : c'.loc s' = c.loc s) (hv : c'.lv s' = c.lv s) (hx : c'.ex s' = c.ex s) : BlkOk w c' s' b := by
 have := BlkOk.rn (fits_none c c') hst h hl hv hx
 rwa [hn] at this
end Go.Proofs.YtonolfpnidaflaaGreatDoor.E
