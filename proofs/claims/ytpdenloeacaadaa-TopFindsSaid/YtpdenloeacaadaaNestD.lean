/- Contracts over lists of names, taken out of a place and laid back; a function over an index that is opened. No conditions. -/
import Derived.Test.YtpdenloeacaadaaNestC
import Derived.Test.YtpdenloeacaadaaPageS
namespace Go.Proofs.Ytpdenloeacaadaa.E
open Go
set_option linter.unusedSimpArgs false
set_option linter.unusedVariables false
set_option linter.unusedSectionVars false
set_option maxRecDepth 20000
set_option maxHeartbeats 1000000
theorem nm_len {l : List PE} {w : World} {c : Cx} {hp : Hp} (hi : Inv w c hp) {R : Site} {v : Nat} (hR : hp.get R = (v, .sem (NamesR l))) {i : Nat} {p : PE} (h : l[i]? = some p) : p.1.n = p.2.length := ((hi.sem hR).2.2.2.1 p (List.mem_of_getElem? h)).1
theorem insR_ok (l : List PE) (i : Nat) (p : PE) (hp : l[i]? = some p) (id : ByteArray) (k : Nat) (hk : k ≤ p.2.length) (hl : p.2.length ≤ 1000000) : OkH Try.prog 62 [.val (.slice p.1.a p.1.n p.1.c), I k, .own (.e 1) 0 1 0 1] [.sem (NamesR l), .row 9 1 none [ssC id]] (.own (.e 2) 2 1 0 (p.2.length + 1))
  [(0, .sem (NamesR (l.set i (hole p.1.fd)))), (0, .row 9 1 none [ssC id]), (2, .row 9 1 none ((p.2.take k ++ [id] ++ p.2.drop k).map ssC))] := by
 intro w c vs hi hv
 have hR : (hpE 0 ([Blk.sem (NamesR l), .row 9 1 none [ssC id]].map fun b => (0, b))).get (.e 0) = (0, .sem (NamesR l)) := rfl
 have hn := nm_len hi hR hp
 obtain ⟨c1, e1, i1, r1⟩ := extract_core hi (R := .e 0) (sN := .e 2) (by simp) hR hp rfl
 simp only [RelL] at hv
 obtain ⟨_, _, rfl, hv1, u2, _, rfl, hv2, u3, _, rfl, hv3, rfl⟩ := hv
 simp only [RelV] at hv1
 obtain ⟨rfl, _⟩ := hv1
 have hx : RelL w c1 [.own (.e 2) 1 1 0 p.2.length, I k, .own (.e 1) 0 1 0 1] [.slice p.1.a p.1.n p.1.c, u2, u3] := by
  rw [← hn]
  exact ⟨_, _, rfl, r1, _, _, rfl, RelV.ext e1 _ _ hv2, _, _, rfl, RelV.ext e1 _ _ hv3, rfl⟩
 refine (callH_sound (insS_ok p.2 id k hl hk) (ss := [.e 2, .e 1]) (by simp) (by simp) ?_ ?_ i1 hx).mono ?_
 ·simp [MB, Hp.get_set, hpE, Hp.get, rnB, SubB]
 ·simp [dnG, idx, Hp.get_set, hpE, Hp.get, rnL, rn, SubL, SubA]
 ·rintro e w' ⟨v, c2, rfl, e2, i2, r2⟩
  refine ⟨v, c2, rfl, e1.trans e2, i2.eqv fun s => ?_, ?_⟩
  ·simp only [hpU, rnB]
   cases s with
   | e j => match j with
    | 0 => simp [Hp.get_set, hpE, Hp.get]
    | 1 => simp [Hp.get_set, hpE, Hp.get]
    | 2 => simp [Hp.get_set, hpE, Hp.get]
    | j + 3 => simp [Hp.get_set, hpE, Hp.get]
   | l _ => simp [Hp.get_set, hpE, Hp.get]
   | m _ _ => simp [Hp.get_set, hpE, Hp.get]
  ·simpa [rn, upG, Hp.get_set, hpE, Hp.get] using r2
theorem bsR_ok (l : List PE) (p : PE) (hp : p ∈ l) (id : ByteArray) (hl : p.2.length ≤ 10000) (hs : StrUp p.2) : OkH Try.prog 48 [.val (.slice p.1.a p.1.n p.1.c), S id] [.sem (NamesR l)] (.tup [I (posS id p.2), B (p.2.any fun f => decide (f = id))]) [(0, .sem (NamesR l))] :=
 OkH.read (xs := []) (ys := [S id]) hp rfl rfl (bsS_ok p.2 id hl hs)
/-! ### Rounds that lay a list back -/
def NxtE {σ : Type} (ids : List Nat) (vals : σ → List AV) (hps : σ → Hp) (inv : σ → Prop) (meas : σ → Nat) (n M : Nat) (st : ASt) : Prop :=
 ∃ m, m < M ∧ LessE st fun st' => ∃ s, inv s ∧ m = meas s ∧ st' = atHead ids (vals s) (hps s) n
theorem NxtE.mk {σ : Type} {ids : List Nat} {vals : σ → List AV} {hps : σ → Hp} {inv : σ → Prop} {meas : σ → Nat} {n M : Nat} {tm : List (Nat × AV)} {hp : Hp} (s : σ)
  (h : toK [] hp (hps s) tm ids (vals s)) (hh : toH [] hp (hps s)) (hi : inv s) (hm : meas s < M) : NxtE ids vals hps inv meas n M ⟨tm, hp, n⟩ :=
 ⟨meas s, hm, LessE.of (Less.to h hh) ⟨s, hi, rfl, rfl⟩⟩
theorem ALoop.stE {σ : Type} {W : (Ex → ASt → Prop) → ASt → Prop} {K : Ex → ASt → Prop} {tm : List (Nat × AV)} {hp : Hp} {n : Nat} (ids : List Nat) (vals : σ → List AV) (hps : σ → Hp) (inv : σ → Prop) (meas : σ → Nat) (s0 : σ)
  (h : toK [] hp (hps s0) tm ids (vals s0)) (hh : toH [] hp (hps s0)) (hi : inv s0)
  (hr : ∀ s, inv s → W (Ex.then (NxtE ids vals hps inv meas n (meas s)) K) (atHead ids (vals s) (hps s) n)) : ALoop W K ⟨tm, hp, n⟩ := by
 refine ALoop.invE (fun m st => ∃ s, inv s ∧ m = meas s ∧ st = atHead ids (vals s) (hps s) n) (meas s0) (LessE.of (Less.to h hh) ⟨s0, hi, rfl, rfl⟩) ?_
 rintro m st ⟨s, hs, rfl, rfl⟩
 exact hr s hs
theorem merge_st {tm : List (Nat × AV)} {hp : Hp} {n : Nat} {R sN sE : Site} {vR vN vE : Nat} {l : List PE} {i j : Nat} {f : Fd} {q : Option Nat} {ns : List ByteArray} {T : TypeId} {cs : List AV} (hR : hp.get R = (vR, .sem (NamesR (l.set i (hole f))))) (hN : hp.get sN = (vN, .row 9 1 q (ns.map ssC))) (hE : hp.get sE = (vE, .rowx T 3 cs)) (hcs : cs[j]? = some (.own sN vN 1 0 ns.length)) (hil : i < l.length) :
  LessE ⟨tm, hp, n⟩ fun s => ∃ a cp, s = ⟨tm, ((hp.set sN vN .gone).set R vR (.sem (NamesR (l.set i (⟨f, a, ns.length, cp⟩, ns))))).set sE vE (.rowx T 3 (cs.set j (.val (.slice a ns.length cp)))), n⟩ := by
 intro w c a hs
 have n1 : sN ≠ R := fun e => by rw [e, hR] at hN; cases hN
 have n2 : sE ≠ R := fun e => by rw [e, hR] at hE; cases hE
 have n3 : sE ≠ sN := fun e => by rw [e, hN] at hE; cases hE
 obtain ⟨kE, lE, zE, mE⟩ := hs.inv.rowx hE
 rcases mE with ⟨_, rfl⟩ | ⟨b, cp0, vs, rest, y1, y2, y3, y4, y5, y6⟩
 ·simp at hcs
 obtain ⟨u, hu, hru⟩ := y6.get j _ hcs
 obtain ⟨ad, cp, rfl, c', he, hi⟩ := merge_core hs.inv n1 hR hN hil hru
 have gE : ((hp.set sN vN .gone).set R vR (.sem (NamesR (l.set i (⟨f, ad, ns.length, cp⟩, ns))))).get sE = (vE, .rowx T 3 cs) := by
  rw [Hp.get_set, if_neg (fun e => n2 e.symm), Hp.get_set, if_neg (fun e => n3 e.symm), hE]
 have hset : vs.set j (.slice ad ns.length cp) = vs := by
  obtain ⟨h1, h2⟩ := List.getElem?_eq_some_iff.1 hu
  rw [← h2, List.set_getElem_self]
 obtain ⟨_, lE', zE', mE'⟩ := hi.rowx gE
 refine ⟨c', _, he.toW, ?_, ad, cp, rfl⟩
 refine ⟨hs.size, fun t => RelV.ext he _ _ (hs.tm t), hi.swapS gE ?_, hs.df⟩
 simp only [BlkOk]
 refine ⟨lE', zE', ?_⟩
 rcases mE' with ⟨_, rfl⟩ | ⟨b', cp', vs', rest', x1, x2, x3, x4, x5, x6⟩
 ·simp at hcs
 ·rw [x1]
  obtain ⟨u', hu', hru'⟩ := x6.get j _ hcs
  -- the same value
  have hloc : c'.loc sE = c.loc sE := by
   rcases he.cur sE with h | h
   ·have := hi.cur sE; rw [gE] at this; omega
   ·exact h.2.1
  rw [hloc, y1] at x1
  cases x1
  rw [y3] at x3
  have hvs : vs ++ rest = vs' ++ rest' := by
   have h0 := Option.some.inj x3
   simp only [Obj.cells.injEq] at h0
   simpa using h0.1
  have hl1 := y6.length
  have hl2 := x6.length
  obtain ⟨rfl, rfl⟩ := List.append_inj hvs (by rw [hl1, hl2])
  refine ⟨x2, vs, rest, y3, x4, x5, ?_⟩
  have := x6.set j (x := .val (.slice ad ns.length cp)) (v := .slice ad ns.length cp) (by simp only [RelV]; exact ⟨by trivial, rfl⟩)
  rwa [hset] at this
theorem NxtE.merge {σ : Type} {ids : List Nat} {vals : σ → List AV} {hps : σ → Hp} {inv : σ → Prop} {meas : σ → Nat} {n M : Nat} {tm : List (Nat × AV)} {hp : Hp} (R sN sE : Site) {vR vN vE : Nat} {l : List PE} {i : Nat} (j : Nat) {f : Fd} {q : Option Nat} {ns : List ByteArray} {T : TypeId} {cs : List AV} (m : Nat) (s : Option Addr → Nat → σ)
  (hR : hp.get R = (vR, .sem (NamesR (l.set i (hole f))))) (hN : hp.get sN = (vN, .row 9 1 q (ns.map ssC))) (hE : hp.get sE = (vE, .rowx T 3 cs)) (hcs : cs[j]? = some (.own sN vN 1 0 ns.length)) (hil : i < l.length) (hm : m < M)
  (h : ∀ a cp, toK [] (((hp.set sN vN .gone).set R vR (.sem (NamesR (l.set i (⟨f, a, ns.length, cp⟩, ns))))).set sE vE (.rowx T 3 (cs.set j (.val (.slice a ns.length cp))))) (hps (s a cp)) tm ids (vals (s a cp)) ∧ toH [] (((hp.set sN vN .gone).set R vR (.sem (NamesR (l.set i (⟨f, a, ns.length, cp⟩, ns))))).set sE vE (.rowx T 3 (cs.set j (.val (.slice a ns.length cp))))) (hps (s a cp)) ∧ inv (s a cp) ∧ meas (s a cp) = m) :
  NxtE ids vals hps inv meas n M ⟨tm, hp, n⟩ := by
 refine ⟨m, hm, LessE.trans (merge_st hR hN hE hcs hil) ?_⟩
 rintro st ⟨a, cp, rfl⟩
 obtain ⟨h1, h2, h3, h4⟩ := h a cp
 exact LessE.of (Less.to h1 h2) ⟨s a cp, h3, h4.symm, rfl⟩
/-! ### A function over an index -/
/-- The end of a function that answers nothing, over an index that was opened. -/
def AEndI (es : Es) : Ex → ASt → Prop
 | .exit _, _ => False
 | _, st => ∃ sE v vR l, esOf l = es ∧ st.hp.get (.e 0) = (0, .cells 99 [.own sE v 3 0 l.length]) ∧ st.hp.get sE = (v, .rowx 104 3 (cellsN l)) ∧ ∃ Q, st.hp.get (.e 1000000) = (vR, .sem Q) ∧ ∀ x y w, Q x y w → NamesR l x y w
theorem OkH.of_open {P : Program} {f : FuncId} {fn : Func} {code : Code} {n : Nat} {args : List AV} {es es' : Es} (hf : P.funcs[f]? = some fn) (hb : fn.body = some code) (hrs : fn.results = #[]) (hnt : fn.ntmps = n)
  (hn : args.length ≤ n) (hm : P.follows .mixedOrders = true) (hd : dOk code = true) (h : ∀ l, esOf l = es → (∀ p ∈ l, p.1.n = p.2.length) → AWp P code (AEndI es') ⟨initT 0 args, openHp l 1 [], n⟩) : OkH P f args [.sem (IXR es)] (.val (.tuple #[])) [(0, .sem (IXR es'))] := by
 subst hnt
 intro w c vs hinv hrel
 have hlen := hrel.length
 obtain ⟨l, c1, ⟨hes, hnl⟩, he1, hi1⟩ := open_core hinv
 have hrel1 := RelL.ext he1 _ _ hrel
 have hsim : Sim w c1 ⟨initT 0 args, openHp l 1 [], fn.ntmps⟩ { tmps := vs.toArray ++ Array.replicate (fn.ntmps - vs.toArray.size) undef, defers := [] } := by
  refine ⟨by simp; omega, fun i => ?_, hi1, rfl⟩
  rw [tget_initT]
  simp only [Nat.zero_le, if_true, Nat.sub_zero]
  cases hi : args[i]? with
  | none => simp only [Option.getD_none, RelV]
  | some x =>
   simp only [Option.getD_some]
   obtain ⟨u, hu, hr⟩ := hrel1.get i x hi
   have hlt := lt_of_get hu
   have e : (vs.toArray ++ Array.replicate (fn.ntmps - vs.toArray.size) undef).getD i undef = u := by
    obtain ⟨h1, h2⟩ := List.getElem?_eq_some_iff.1 hu
    simp [Array.getElem?_append, hlt, h2]
   rw [e]
   exact hr
 refine calls_of_wp hf hb (AWp_sound hm code hd (h l hes hnl) hsim fun e st w' c' a' k he s => ?_)
 have fin : (∃ sE v vR l, esOf l = es' ∧ st.hp.get (.e 0) = (0, .cells 99 [.own sE v 3 0 l.length]) ∧ st.hp.get sE = (v, .rowx 104 3 (cellsN l)) ∧ ∃ Q, st.hp.get (.e 1000000) = (vR, .sem Q) ∧ ∀ x y w, Q x y w → NamesR l x y w) →
   a'.defers = [] ∧ ∃ v, (results fn a'.tmps).run P w' = .ok v w' ∧ ∃ v' c'', Ending.returned v = .returned v' ∧ Ext w c w' c'' ∧ Inv w' c'' (hpE 0 [(0, .sem (IXR es'))]) ∧ RelV w' c'' (.val (.tuple #[])) v' := by
  rintro ⟨sE, v, vR, l', h1, h2, h3, Q, h4, h5⟩
  refine ⟨s.df, ?_⟩
  obtain ⟨c3, g1, g2, _⟩ := close_core hinv (he1.toW.trans he) s.inv h2 h3 h4 h5
  rw [h1] at g2
  obtain ⟨us, xs, e1, r1, e2⟩ := results_run (rs := []) s hrs (K := fun l => l = []) rfl
  subst e2
  simp only [RelL] at r1
  subst r1
  exact ⟨.tuple #[], e1, _, c3, rfl, g1, g2, by simp only [RelV]; exact ⟨trivial, rfl⟩⟩
 cases e with
 | normal => exact fin k
 | ret => exact fin k
 | exit id => exact k.elim
end Go.Proofs.Ytpdenloeacaadaa.E
