/- The abstract machine of this claim, part E: deferred calls that catch a panic. No conditions. -/
import Derived.Test.YtonolfpnidaflaaGreatDoorEngineX
import Derived.Defers
import Derived.Recover
namespace Go.Proofs.YtonolfpnidaflaaGreatDoor.E
open Go
set_option linter.unusedSimpArgs false
set_option linter.unusedVariables false
set_option linter.unusedSectionVars false
set_option maxRecDepth 20000
theorem up_all {hp : Hp} {ss : List Site} {hs : List Blk} {hs' : List (Nat × Blk)} {w w' : World} {c c2 : Cx} (hi : Inv w c hp) (hn : ss.Nodup) (he : Ext w (c.dn ss hs) w' c2) (h2 : Inv w' c2 (hpE 0 hs')) : Ext w c w' (c.up c2 ss) ∧ Inv w' (c.up c2 ss) (hpU hp ss ss hs' hp) := by
 have hext := up_ext he
 have hst : ∀ b, still w' c2 b → still w' (c.up c2 ss) b := fun b hb => up_still hi he hb
 have hf2 := up_fits (w := w) (w' := w') (c2 := c2) hi hn
 refine ⟨hext, ?_⟩
 have hcur2 : ∀ i, c2.cur (.e i) = ((hs'[i]?).getD (0, .gone)).1 := fun i => by
  have := h2.cur (.e i)
  rw [hpE_at] at this
  exact this
 have hold : ∀ s b, idx ss s = none → c.lv s = true → c.own s b → ¬ (c.dn ss hs).live b := by
  intro s b e l o hl
  obtain ⟨i, s', b', _, _, k2, k3, k4⟩ := dn_live.1 hl
  have := hi.inj s s' b l k3 o k4
  subst this
  exact idx_none e (List.mem_of_getElem? k2)
 have hnot2 : ∀ s b, idx ss s = none → c.lv s = true → c.own s b → ¬ c2.live b := by
  intro s b e l o hl
  exact (he.block b (hi.lt b ⟨s, l, o⟩) (hold s b e l o)).2 hl
 refine ⟨h2.glob.mono fun b hb => ⟨hst b hb, rfl⟩, fun s => ?_, fun s => ?_, fun s s' b l1 l2 o1 o2 => ?_, fun b hl => ?_, fun b hl => ?_, fun b hb => ?_⟩
 ·rw [hpU_get _ _ _ hn]
  simp only [Cx.up]
  cases e : idx ss s with
  | none => simp [hi.cur s]
  | some i => simp only [hi.cur s, hcur2]
 ·rw [hpU_get _ _ _ hn]
  cases e : idx ss s with
  | none =>
   simp only
   refine (hi.ok s).move hext (by simp only [Cx.up, e]) (by simp only [Cx.up, e]) (by simp only [Cx.up, e]) fun b l o => ?_
   exact (he.block b (hi.lt b ⟨s, l, o⟩) (hold s b e l o)).1
  | some i =>
   simp only
   have := h2.ok (.e i)
   rw [hpE_at] at this
   exact this.rn hf2 hst (by simp only [Cx.up, e]) (by simp only [Cx.up, e]) (by simp only [Cx.up, e])
 ·cases e1 : idx ss s with
  | none =>
   rw [up_own0 e1] at o1
   simp only [Cx.up, e1] at l1
   cases e2 : idx ss s' with
   | none => rw [up_own0 e2] at o2; simp only [Cx.up, e2] at l2; exact hi.inj s s' b l1 l2 o1 o2
   | some j => rw [up_own e2] at o2; simp only [Cx.up, e2] at l2; exact absurd ⟨.e j, l2, o2⟩ (hnot2 s b e1 l1 o1)
  | some i =>
   rw [up_own e1] at o1
   simp only [Cx.up, e1] at l1
   cases e2 : idx ss s' with
   | none => rw [up_own0 e2] at o2; simp only [Cx.up, e2] at l2; exact absurd ⟨.e i, l1, o1⟩ (hnot2 s' b e2 l2 o2)
   | some j =>
    rw [up_own e2] at o2
    simp only [Cx.up, e2] at l2
    have := h2.inj _ _ b l1 l2 o1 o2
    cases this
    have q1 := idx_some e1
    have q2 := idx_some e2
    rw [q1] at q2
    cases q2
    rfl
 ·rcases up_live hl with h | ⟨s, e, l, o⟩
  ·intro hf
   exact h2.far b h (by rw [he.far]; exact .inl hf)
  ·exact hi.far b ⟨s, l, o⟩
 ·rcases up_live hl with h | ⟨s, e, l, o⟩
  ·exact h2.lt b h
  ·exact Nat.lt_of_lt_of_le (hi.lt b ⟨s, l, o⟩) he.size
 ·exact Nat.lt_of_lt_of_le (hi.farlt b hb) he.size
/-- A deferred call of a frame that panics: it catches the panic, and turns what is handed in. -/
def OkD (P : Program) (f : FuncId) (args : List AV) (hs : List Blk) (pv : AV) (hs' : List (Nat × Blk)) : Prop :=
 ∀ (w : World) (c : Cx) (vs : List Value) (v : Value), Inv w c (hpE 0 (hs.map fun b => (0, b))) → RelL w c args vs → RelV w c pv v →
  CallsD P f vs.toArray (.panicking [{ v := v, recovered := false }]) w fun e u' w' => ∃ c' v', e = .returned v' ∧ u' = .panicking [{ v := v, recovered := true }] ∧ Ext w c w' c' ∧ Inv w' c' (hpE 0 hs')
/-- A deferred call of a frame that returns. -/
def OkI (P : Program) (f : FuncId) (args : List AV) (hs : List Blk) (hs' : List (Nat × Blk)) : Prop :=
 ∀ (w : World) (c : Cx) (vs : List Value), Inv w c (hpE 0 (hs.map fun b => (0, b))) → RelL w c args vs →
  CallsD P f vs.toArray .returning w fun e u' w' => ∃ c' v', e = .returned v' ∧ u' = .returning ∧ Ext w c w' c' ∧ Inv w' c' (hpE 0 hs')
theorem okD_sound {P : Program} {f : FuncId} {xs args : List AV} {hs : List Blk} {pv : AV} {hs' : List (Nat × Blk)} {hp : Hp} {ss : List Site} (hok : OkD P f args hs pv hs') (hn : ss.Nodup) (hm : MB hp ss ss hs) (ha : SubL (rnL (dnG hp ss) xs) args) (hpv : rn (dnG hp ss) pv = pv)
  {w : World} {c : Cx} (hi : Inv w c hp) {vs : List Value} (hx : RelL w c xs vs) {v : Value} (hv : RelV w c pv v) :
  CallsD P f vs.toArray (.panicking [{ v := v, recovered := false }]) w fun e u' w' => ∃ c' v', e = .returned v' ∧ u' = .panicking [{ v := v, recovered := true }] ∧ Ext w c w' c' ∧ Inv w' c' (hpU hp ss ss hs' hp) := by
 have hd := dn_inv hi hn hm
 have hfit := dn_fits hi (ss := ss) (hs := hs)
 have hv2 : RelV w (c.dn ss hs) pv v := by
  have := RelV.rn hfit (fun b hb => dn_still.2 hb) _ _ hv
  rwa [hpv] at this
 refine (hok w (c.dn ss hs) vs v hd (ha.rel (RelL.rn hfit (fun b hb => dn_still.2 hb) _ _ hx)) hv2).mono ?_
 rintro e u' w' ⟨c2, v', rfl, rfl, he, h2⟩
 obtain ⟨g1, g2⟩ := up_all hi hn he h2
 exact ⟨_, v', rfl, rfl, g1, g2⟩
theorem okI_sound {P : Program} {f : FuncId} {xs args : List AV} {hs : List Blk} {hs' : List (Nat × Blk)} {hp : Hp} {ss : List Site} (hok : OkI P f args hs hs') (hn : ss.Nodup) (hm : MB hp ss ss hs) (ha : SubL (rnL (dnG hp ss) xs) args)
  {w : World} {c : Cx} (hi : Inv w c hp) {vs : List Value} (hx : RelL w c xs vs) :
  CallsD P f vs.toArray .returning w fun e u' w' => ∃ c' v', e = .returned v' ∧ u' = .returning ∧ Ext w c w' c' ∧ Inv w' c' (hpU hp ss ss hs' hp) := by
 have hd := dn_inv hi hn hm
 have hfit := dn_fits hi (ss := ss) (hs := hs)
 refine (hok w (c.dn ss hs) vs hd (ha.rel (RelL.rn hfit (fun b hb => dn_still.2 hb) _ _ hx))).mono ?_
 rintro e u' w' ⟨c2, v', rfl, rfl, he, h2⟩
 obtain ⟨g1, g2⟩ := up_all hi hn he h2
 exact ⟨_, v', rfl, rfl, g1, g2⟩
theorem run_assert {P : Program} {t xt : TypeId} {u : Value} {w : World} (h1 : tyNoIf P t = true) : (Instr.typeAssert (.iface t u) xt t true).run P w = .ok (.tuple #[u, .bool true]) w := by
 unfold tyNoIf at h1
 split at h1
 ·cases h1
 ·rename_i d hd hu
  simp only [Instr.typeAssert, Sem.run_bind, run_underlying hu, Result.andThen_ok]
  cases d <;> first | rfl | exact absurd rfl (hd _) | simp
 ·cases h1
/-- The end of a deferred call's walk. -/
theorem wp_end {P : Program} {fn : Func} {rs : List ResultVar} {r : AV} {hs : List Blk} {hs' : List (Nat × Blk)} {code : Code} {st : ASt} {w w1 : World} {c cx : Cx} {a : Act} {c₀ c₁ : Frame} {cs : List Frame} {U : FrameMode} (hc : c₁ = { c₀ with mode := U }) (hrs : fn.results = rs.toArray) (hm : P.follows .mixedOrders = true) (hd : dOk code = true)
  (h0 : Inv w c (hpE 0 (hs.map fun b => (0, b)))) (he1 : ExtW w c w1 cx) (hsim : Sim [] w1 cx st a) (h : AWp P code (AEndX P rs r hs' hs.length) st) :
  code.wp P (fun e a' w' => bodyPostS P fn c₀ cs (fun e u' w' => ∃ c' v', e = .returned v' ∧ u' = U ∧ Ext w c w' c' ∧ Inv w' c' (hpE 0 hs')) e a' (c₁ :: cs) w') a w1 := by
 subst hc
 refine AWp_sound hm code hd h hsim fun e st w' c' a' k he s => ?_
 obtain ⟨mv, k⟩ := k
 have fin : AFinH P rs r hs' hs.length mv st → a'.defers = [] ∧ ∃ u', ({ c₀ with mode := U } : Frame) :: cs = { c₀ with mode := u' } :: cs ∧ ∃ v, (results fn a'.tmps).run P w' = .ok v w' ∧ ∃ c'' v', Ending.returned v = .returned v' ∧ u' = U ∧ Ext w c w' c'' ∧ Inv w' c'' (hpE 0 hs') := by
  intro k
  refine ⟨s.df, U, rfl, ?_⟩
  unfold AFinH at k
  obtain ⟨us, xs, e1, h1, hmv, hret, hE, hM⟩ := results_run s hrs k
  obtain ⟨g1, g2, g3, g4⟩ := fin_sound h0 (he1.trans he) s.inv hmv hE hM
  obtain ⟨v, e2, h3⟩ := hret.sound g3 (g4 _ _ h1)
  exact ⟨v, by rw [e1, e2], _, v, rfl, rfl, g1, g2⟩
 cases e with
 | normal => exact fin k
 | ret => exact fin k
 | exit id => exact k.elim
theorem wpS_end {P : Program} {fn : Func} {rs : List ResultVar} {r : AV} {hs : List Blk} {hs' : List (Nat × Blk)} {code : Code} {tm : List (Nat × AV)} {n : Nat} {w : World} {c : Cx} {a : Act} {c₀ c₁ : Frame} {cs : List Frame} {U : FrameMode} (hc : c₁ = { c₀ with mode := U }) (hrs : fn.results = rs.toArray) (hm : P.follows .mixedOrders = true) (hd : dOk code = true)
  (h0 : Inv w c (hpE 0 (hs.map fun b => (0, b)))) (hsim : Sim [] w c ⟨tm, hpE 0 (hs.map fun b => (0, b)), n⟩ a) (h : AWp P code (AEndX P rs r hs' hs.length) ⟨tm, hpE 0 (hs.map fun b => (0, b)), n⟩) :
  code.wpS P (bodyPostS P fn c₀ cs fun e u' w' => ∃ c' v', e = .returned v' ∧ u' = U ∧ Ext w c w' c' ∧ Inv w' c' (hpE 0 hs')) a (c₁ :: cs) w :=
 wpS_of_wp (wp_end hc hrs hm hd h0 (ExtW.refl w c) hsim h)
/-- What holds where a walk ends, ahead of the deferred call of g with a place's address. -/
def KC (P : Program) (g : FuncId) (q v : Nat) (rs : List ResultVar) (r : AV) (hs' : List (Nat × Blk)) (m : Nat) (e : Ex) (st : ASt) : Prop :=
 (match e with | .exit _ => False | _ => True) ∧ ∃ b b', OkI P g [.ptr (.e 0) 0 0] [b] [(0, b')] ∧ MB st.hp [.e q] [.e q] [b] ∧ SubL (rnL (dnG st.hp [.e q]) [.ptr (.e q) v 0]) [.ptr (.e 0) 0 0] ∧ ∃ mv, AEndH P rs r hs' m mv .ret ⟨st.tm, hpU st.hp [.e q] [.e q] [(0, b')] st.hp, st.n⟩
def KP (P : Program) (g : FuncId) (q v : Nat) (rs : List ResultVar) (r : AV) (hs' : List (Nat × Blk)) (m : Nat) (pv : AV) (st : ASt) : Prop :=
 ∃ b b', OkD P g [.ptr (.e 0) 0 0] [b] pv [(0, b')] ∧ rn (dnG st.hp [.e q]) pv = pv ∧ MB st.hp [.e q] [.e q] [b] ∧ SubL (rnL (dnG st.hp [.e q]) [.ptr (.e q) v 0]) [.ptr (.e 0) 0 0] ∧ ∃ mv, AEndH P rs r hs' m mv .ret ⟨st.tm, hpU st.hp [.e q] [.e q] [(0, b')] st.hp, st.n⟩
theorem ptrW {w w' : World} {c c' : Cx} (he : ExtW w c w' c') {q v : Nat} {u : Value} (h : RelV w c (.ptr (.e q) v 0) u) : RelV w' c' (.ptr (.e q) v 0) u := by
 simp only [RelV] at h ⊢
 obtain ⟨h1, h2⟩ := h
 rcases he.cur q with h3 | ⟨h3, h4, _⟩
 ·exact ⟨by omega, fun e => by omega⟩
 ·rw [h3, h4]
  exact ⟨h1, h2⟩
theorem OkH.of_catch {P : Program} {f : FuncId} {fn : Func} {i0 i1 : Nat} {ops0 : Array Oper} {o1 : Oper} {fx : Operand} {ts : Array TypeId} {ty : TypeId} {pos : String} {aft : Array Edge} {rest : Code} {rs : List ResultVar} {n : Nat} {args : List AV} {hs : List Blk} {r : AV} {hs' : List (Nat × Blk)} {g : FuncId} {q v : Nat} {st1 : ASt}
  (hf : P.funcs[f]? = some fn) (hb : fn.body = some (.seq (.region i0 ops0 false) (.seq (.region i1 #[o1, ⟨none, .defer ⟨.value fx, #[], ts⟩, ty, pos, aft, none⟩] false) rest))) (hrs : fn.results = rs.toArray) (hnt : fn.ntmps = n)
  (hn : args.length ≤ n) (hm : P.follows .mixedOrders = true) (hd : dOk rest = true) (hg : callable P g = true)
  (h0 : AWp P (.region i0 ops0 false) (fun e st => e = .normal ∧ Less st st1) ⟨initT 0 args, hpE 0 (hs.map fun b => (0, b)), n⟩)
  (hg1 : o1.guard = none) (h1 : AStep P o1 (fun st => ev st.tm fx = .func g [.ptr (.e q) v 0] ∧ AWpX P rest (KC P g q v rs r hs' hs.length) (KP P g q v rs r hs' hs.length) st) st1) : OkH P f args hs r hs' := by
 subst hnt
 intro w c vs hinv hrel
 have hlen := hrel.length
 have hsim : Sim [] w c ⟨initT 0 args, hpE 0 (hs.map fun b => (0, b)), fn.ntmps⟩ { tmps := vs.toArray ++ Array.replicate (fn.ntmps - vs.toArray.size) undef, defers := [] } := by
  refine ⟨by simp; omega, fun i => ?_, hinv, rfl⟩
  rw [tget_initT]
  simp only [Nat.zero_le, if_true, Nat.sub_zero]
  cases hi : args[i]? with
  | none => simp only [Option.getD_none, RelV]
  | some x =>
   simp only [Option.getD_some]
   obtain ⟨u, hu, hr⟩ := hrel.get i x hi
   have hlt := lt_of_get hu
   have e : (vs.toArray ++ Array.replicate (fn.ntmps - vs.toArray.size) undef).getD i undef = u := by
    obtain ⟨h1, h2⟩ := List.getElem?_eq_some_iff.1 hu
    simp [Array.getElem?_append, hlt, h2]
   rw [e]
   exact hr
 have fin : ∀ {st : ASt} {w1 : World} {c1 : Cx} {a1 : Act} {D : List Deferred} {mv : List (Option Site)}, ExtW w c w1 c1 → Sim D w1 c1 st a1 → AFinH P rs r hs' hs.length mv st → ∃ v, (results fn a1.tmps).run P w1 = .ok v w1 ∧ ∃ v' c'', Ending.returned v = .returned v' ∧ Ext w c w1 c'' ∧ Inv w1 c'' (hpE 0 hs') ∧ RelV w1 c'' r v' := by
  intro st w1 c1 a1 D mv he s k
  unfold AFinH at k
  obtain ⟨us, xs, e1, h1, hmv, hret, hE, hM⟩ := results_run s hrs k
  obtain ⟨g1, g2, g3, g4⟩ := fin_sound hinv he s.inv hmv hE hM
  obtain ⟨v, e2, h3⟩ := hret.sound g3 (g4 _ _ h1)
  exact ⟨v, by rw [e1, e2], v, _, rfl, g1, g2, h3⟩
 refine calls_of_wp_defers hf hb (wp_seq (AWp_sound hm _ rfl h0 hsim fun e st w1 c1 a1 k he0 s0 => ?_))
 obtain ⟨rfl, hl⟩ := k
 obtain ⟨c2, he1, s1⟩ := hl s0
 have he01 := he0.trans he1
 refine wp_seq (wp_region_list ?_)
 have key : ∀ {st2 : ASt} {w2 : World} {c3 : Cx} {a2 : Act}, (ev st2.tm fx = .func g [.ptr (.e q) v 0] ∧ AWpX P rest (KC P g q v rs r hs' hs.length) (KP P g q v rs r hs' hs.length) st2) → ExtW w c w2 c3 → Sim [] w2 c3 st2 a2 →
   ∃ d, (execOp a2.eval ⟨none, .defer ⟨.value fx, #[], ts⟩, ty, pos, aft, none⟩).run P w2 = .ok (.defer d) w2 ∧ rest.wp P (bodyPostD P fn fun e w' => ∃ v c', e = .returned v ∧ Ext w c w' c' ∧ Inv w' c' (hpE 0 hs') ∧ RelV w' c' r v) { a2 with defers := d :: a2.defers } w2 := by
  intro st2 w2 c3 a2 k he s
  obtain ⟨ef, hw⟩ := k
  have hfx := s.ev fx
  rw [ef] at hfx
  simp only [RelV] at hfx
  obtain ⟨us, e2, hcap⟩ := hfx
  simp only [RelL] at hcap
  obtain ⟨u, us', rfl, hu, rfl⟩ := hcap
  have hex : (execOp a2.eval ⟨none, .defer ⟨.value fx, #[], ts⟩, ty, pos, aft, none⟩).run P w2 = .ok (.defer ⟨.fn (.func g) #[u], #[]⟩) w2 := by
   simp only [execOp, resolve, e2, Deferred.ofValue, Sem.run_bind, Sem.run_pure, Result.andThen_ok]
   simp
  refine ⟨_, hex, ?_⟩
  have s2 : Sim [⟨.fn (.func g) #[u], #[]⟩] w2 c3 st2 { a2 with defers := ⟨.fn (.func g) #[u], #[]⟩ :: a2.defers } := ⟨s.size, s.tm, s.inv, by rw [s.df]⟩
  have hinvk : ∀ w3, (invoke (.fn (.func g) #[u]) #[]).run P w3 = .ok (.enter g #[u]) w3 := fun w3 => by
   simp only [invoke]
   exact run_callFunc hg w3 #[u]
  refine AWpX_sound hm rest hd hw s2 ?_ ?_
  ·intro pv st3 w3 c4 x a3 k he2 s3 hx
   obtain ⟨b, b', hok, hpv, hmb, hsub, mv, hfin⟩ := k
   have hu3 : RelL w3 c4 [.ptr (.e q) v 0] [u] := by
    simp only [RelL]
    exact ⟨u, [], rfl, ptrW he2 hu, rfl⟩
   show Leaves P fn a3.tmps _ a3.defers (.panicking _) w3
   rw [s3.df]
   refine leaves_cons (f := g) (args := #[u]) (by simp) (hinvk w3) ?_
   refine (okD_sound hok (by simp) hmb hsub hpv s3.inv hu3 hx).mono ?_
   rintro e u' w4 ⟨c5, v', rfl, rfl, he3, hi4⟩
   have s4 : Sim a3.defers w4 c5 ⟨st3.tm, hpU st3.hp [.e q] [.e q] [(0, b')] st3.hp, st3.n⟩ a3 := ⟨s3.size, fun i => RelV.ext he3 _ _ (s3.tm i), hi4, rfl⟩
   exact fin ((he.trans he2).trans he3.toW) s4 hfin
  ·intro e st3 w3 c4 a3 k he2 s3
   obtain ⟨hx, b, b', hok, hmb, hsub, mv, hfin⟩ := k
   have hu3 : RelL w3 c4 [.ptr (.e q) v 0] [u] := by
    simp only [RelL]
    exact ⟨u, [], rfl, ptrW he2 hu, rfl⟩
   have main : Leaves P fn a3.tmps (fun e w' => ∃ v c', e = .returned v ∧ Ext w c w' c' ∧ Inv w' c' (hpE 0 hs') ∧ RelV w' c' r v) a3.defers .returning w3 := by
    rw [s3.df]
    refine leaves_cons (f := g) (args := #[u]) (by simp) (hinvk w3) ?_
    refine (okI_sound hok (by simp) hmb hsub s3.inv hu3).mono ?_
    rintro e u' w4 ⟨c5, v', rfl, rfl, he3, hi4⟩
    have s4 : Sim a3.defers w4 c5 ⟨st3.tm, hpU st3.hp [.e q] [.e q] [(0, b')] st3.hp, st3.n⟩ a3 := ⟨s3.size, fun i => RelV.ext he3 _ _ (s3.tm i), hi4, rfl⟩
    exact fin ((he.trans he2).trans he3.toW) s4 hfin
   cases e with
   | normal => exact main
   | ret => exact main
   | exit id => exact hx.elim
 show wpList P _ _ [o1, _] a1 w1
 unfold wpList
 rw [if_pos (by simp [Region.wanted, hg1])]
 refine .inl (Oper.wp_mono ?_ (AStep_sound h1 s1 _))
 rintro a2 w2 ⟨c3, st2, e3, s2, k⟩
 obtain ⟨d, hex, hw⟩ := key k (he01.trans e3.toW) s2
 unfold wpList
 rw [if_pos (by simp [Region.wanted])]
 refine .inl ?_
 unfold Oper.wp
 rw [hex, Oper.upon_defer]
 unfold wpList
 exact hw
/-- A function whose second region is open, and ends in a panic. -/
theorem OkP.of_wp2 {P : Program} {f : FuncId} {fn : Func} {r0 rest : Code} {id : Nat} {ops : Array Oper} {n : Nat} {args : List AV} {hs : List Blk} {pv : AV} {hs' : List (Nat × Blk)} (hf : P.funcs[f]? = some fn) (hb : fn.body = some (.seq r0 (.seq (.region id ops true) rest))) (hnt : fn.ntmps = n)
  (hn : args.length ≤ n) (hm : P.follows .mixedOrders = true) (hd : dOk r0 = true) (hst : statB ops = true) (h : AWp P r0 (fun e st => e = .normal ∧ ADrP P ops (APanE pv hs' hs.length) st) ⟨initT 0 args, hpE 0 (hs.map fun b => (0, b)), n⟩) : OkP P f args hs pv hs' := by
 subst hnt
 intro w c vs hinv hrel
 have hlen := hrel.length
 have hsim : Sim [] w c ⟨initT 0 args, hpE 0 (hs.map fun b => (0, b)), fn.ntmps⟩ { tmps := vs.toArray ++ Array.replicate (fn.ntmps - vs.toArray.size) undef, defers := [] } := by
  refine ⟨by simp; omega, fun i => ?_, hinv, rfl⟩
  rw [tget_initT]
  simp only [Nat.zero_le, if_true, Nat.sub_zero]
  cases hi : args[i]? with
  | none => simp only [Option.getD_none, RelV]
  | some x =>
   simp only [Option.getD_some]
   obtain ⟨u, hu, hr⟩ := hrel.get i x hi
   have hlt := lt_of_get hu
   have e : (vs.toArray ++ Array.replicate (fn.ntmps - vs.toArray.size) undef).getD i undef = u := by
    obtain ⟨h1, h2⟩ := List.getElem?_eq_some_iff.1 hu
    simp [Array.getElem?_append, hlt, h2]
   rw [e]
   exact hr
 refine calls_of_wp hf hb (wp_seq (AWp_sound hm r0 hd h hsim fun e st w1 c1 a1 k he0 s0 => ?_))
 obtain ⟨rfl, k⟩ := k
 refine wp_seq (regionP_any hm hst k s0 ?_)
 intro pv1 st1 w' c' v a' k he hi hr
 obtain ⟨mv, hmv, hret, hE, hM⟩ := k
 obtain ⟨g1, g2, g3, g4⟩ := fin_sound hinv (he0.trans he) hi.inv hmv hE hM
 have hx : RelL w' c' [pv1] [v] := ⟨v, [], rfl, hr, rfl⟩
 obtain ⟨v2, e2, h3⟩ := hret.sound g3 (g4 _ _ hx)
 have ev2 : v2 = v := by rw [← e2]; rfl
 subst ev2
 exact ⟨hi.df, v2, _, rfl, g1, g2, h3⟩
/-- A call the second argument of which is frozen first. -/
theorem OkH.lend {P : Program} {f : FuncId} {x0 z y' : AV} {args : List AV} {hs hs2 : List Blk} {r : AV} {hs' hs2' : List (Nat × Blk)} {hp1 : Hp} (ss : List Site) (h : OkH P f args hs r hs') (hl : passL (hpE 0 (hs2.map fun b => (0, b))) [z] = some ([y'], hp1)) (hn : ss.Nodup) (hlen : hs'.length ≤ ss.length) (hm : MB hp1 ss ss hs) (ha : SubL (rnL (dnG hp1 ss) [x0, y']) args)
  (hr : rn (upG hp1 ss) r = r) (hq : ∀ s, (hpE 0 hs2').get s = (hpU hp1 ss ss hs' hp1).get s) : OkH P f [x0, z] hs2 r hs2' := by
 intro w c vs hi hx
 simp only [RelL] at hx
 obtain ⟨u0, _, rfl, h0, u1, _, rfl, h1, rfl⟩ := hx
 have hx1 : RelL w c [z] [u1] := by simp only [RelL]; exact ⟨u1, [], rfl, h1, rfl⟩
 obtain ⟨c1, e1, i1, r1⟩ := passL_sound hi hx1 hl
 have r1 := RelL.of_RVL _ _ r1
 simp only [RelL] at r1
 obtain ⟨u1', _, e, r1, rfl⟩ := r1
 cases e
 refine (callH_sound h hn hlen hm ha i1 (vs := [u0, u1]) (by simp only [RelL]; exact ⟨u0, _, rfl, RelV.ext e1 _ _ h0, u1, _, rfl, r1, rfl⟩)).mono ?_
 rintro e w' ⟨v, c', rfl, he, hi', hv⟩
 rw [hr] at hv
 exact ⟨v, c', rfl, e1.trans he, hi'.eqv hq, hv⟩
theorem OkP.lend {P : Program} {f : FuncId} {x0 z y' : AV} {args : List AV} {hs hs2 : List Blk} {r : AV} {hs' hs2' : List (Nat × Blk)} {hp1 : Hp} (ss : List Site) (h : OkP P f args hs r hs') (hl : passL (hpE 0 (hs2.map fun b => (0, b))) [z] = some ([y'], hp1)) (hn : ss.Nodup) (hlen : hs'.length ≤ ss.length) (hm : MB hp1 ss ss hs) (ha : SubL (rnL (dnG hp1 ss) [x0, y']) args)
  (hr : rn (upG hp1 ss) r = r) (hq : ∀ s, (hpE 0 hs2').get s = (hpU hp1 ss ss hs' hp1).get s) : OkP P f [x0, z] hs2 r hs2' := by
 intro w c vs hi hx
 simp only [RelL] at hx
 obtain ⟨u0, _, rfl, h0, u1, _, rfl, h1, rfl⟩ := hx
 have hx1 : RelL w c [z] [u1] := by simp only [RelL]; exact ⟨u1, [], rfl, h1, rfl⟩
 obtain ⟨c1, e1, i1, r1⟩ := passL_sound hi hx1 hl
 have r1 := RelL.of_RVL _ _ r1
 simp only [RelL] at r1
 obtain ⟨u1', _, e, r1, rfl⟩ := r1
 cases e
 refine (callP_sound h hn hlen hm ha i1 (vs := [u0, u1]) (by simp only [RelL]; exact ⟨u0, _, rfl, RelV.ext e1 _ _ h0, u1, _, rfl, r1, rfl⟩)).mono ?_
 rintro e w' ⟨v, c', rfl, he, hi', hv⟩
 rw [hr] at hv
 exact ⟨v, c', rfl, e1.trans he, hi'.eqv hq, hv⟩
end Go.Proofs.YtonolfpnidaflaaGreatDoor.E
