/- Walks with two ends: a return, or a panic that goes on. No conditions. -/
import Derived.Test.YtonolfpnidaflaaGreatDoorEngineC
namespace Go.Proofs.YtonolfpnidaflaaGreatDoor.E
open Go
set_option linter.unusedSimpArgs false
set_option linter.unusedVariables false
set_option linter.unusedSectionVars false
set_option maxRecDepth 20000
/-- A call that ends in a panic: what is thrown, what becomes of the places. -/
def OkP (P : Program) (f : FuncId) (args : List AV) (hs : List Blk) (pv : AV) (hs' : List (Nat × Blk)) : Prop :=
 ∀ (w : World) (c : Cx) (vs : List Value), Inv w c (hpE 0 (hs.map fun b => (0, b))) → RelL w c args vs →
  Calls P f vs.toArray w fun e w' => ∃ v c', e = .panicked [{ v := v, recovered := false }] ∧ Ext w c w' c' ∧ Inv w' c' (hpE 0 hs') ∧ RelV w' c' pv v
theorem callP_sound {P : Program} {f : FuncId} {xs args : List AV} {hs : List Blk} {r : AV} {hs' : List (Nat × Blk)} {hp : Hp} {ss : List Site} (hok : OkP P f args hs r hs') (hn : ss.Nodup) (hlen : hs'.length ≤ ss.length) (hm : MB hp ss ss hs) (ha : SubL (rnL (dnG hp ss) xs) args)
  {w : World} {c : Cx} (hi : Inv w c hp) {vs : List Value} (hx : RelL w c xs vs) :
  Calls P f vs.toArray w fun e w' => ∃ v c', e = .panicked [{ v := v, recovered := false }] ∧ Ext w c w' c' ∧ Inv w' c' (hpU hp ss ss hs' hp) ∧ RelV w' c' (rn (upG hp ss) r) v := by
 have hd := dn_inv hi hn hm
 have hfit := dn_fits hi (ss := ss) (hs := hs)
 refine (hok w (c.dn ss hs) vs hd (ha.rel (RelL.rn hfit (fun b hb => dn_still.2 hb) _ _ hx))).mono ?_
 rintro e w' ⟨v, c2, rfl, he, h2, hv⟩
 have hext := up_ext he
 have hst : ∀ b, still w' c2 b → still w' (c.up c2 ss) b := fun b hb => up_still hi he hb
 have hf2 := up_fits (w := w) (w' := w') (c2 := c2) hi hn
 refine ⟨v, c.up c2 ss, rfl, hext, ?_, RelV.rn hf2 hst _ _ hv⟩
 have hcur2 : ∀ i, c2.cur (.e i) = ((hs'[i]?).getD (0, .gone)).1 := fun i => by
  have := h2.cur (.e i)
  rw [hpE_at] at this
  exact this
 have hold : ∀ s b, idx ss s = none → c.lv s = true → c.own s b → ¬ (c.dn ss hs).live b := by
  intro s b e l o hl
  obtain ⟨i, s', b', _, _, k2, k3, k4⟩ := dn_live.1 hl
  have := hi.inj s s' b l k3 o k4
  subst this
  exact idx_none e (List.mem_of_getElem? k2)
 have hnot2 : ∀ s b, idx ss s = none → c.lv s = true → c.own s b → ¬ c2.live b := by
  intro s b e l o hl
  exact (he.block b (hi.lt b ⟨s, l, o⟩) (hold s b e l o)).2 hl
 refine ⟨h2.glob.mono fun b hb => ⟨hst b hb, rfl⟩, fun s => ?_, fun s => ?_, fun s s' b l1 l2 o1 o2 => ?_, fun b hl => ?_, fun b hl => ?_, fun b hb => ?_⟩
 ·rw [hpU_get _ _ _ hn]
  simp only [Cx.up]
  cases e : idx ss s with
  | none => simp [hi.cur s]
  | some i => simp only [hi.cur s, hcur2]
 ·rw [hpU_get _ _ _ hn]
  cases e : idx ss s with
  | none =>
   simp only
   refine (hi.ok s).move hext (by simp only [Cx.up, e]) (by simp only [Cx.up, e]) (by simp only [Cx.up, e]) fun b l o => ?_
   exact (he.block b (hi.lt b ⟨s, l, o⟩) (hold s b e l o)).1
  | some i =>
   simp only
   have := h2.ok (.e i)
   rw [hpE_at] at this
   exact this.rn hf2 hst (by simp only [Cx.up, e]) (by simp only [Cx.up, e]) (by simp only [Cx.up, e])
 ·cases e1 : idx ss s with
  | none =>
   rw [up_own0 e1] at o1
   simp only [Cx.up, e1] at l1
   cases e2 : idx ss s' with
   | none => rw [up_own0 e2] at o2; simp only [Cx.up, e2] at l2; exact hi.inj s s' b l1 l2 o1 o2
   | some j => rw [up_own e2] at o2; simp only [Cx.up, e2] at l2; exact absurd ⟨.e j, l2, o2⟩ (hnot2 s b e1 l1 o1)
  | some i =>
   rw [up_own e1] at o1
   simp only [Cx.up, e1] at l1
   cases e2 : idx ss s' with
   | none => rw [up_own0 e2] at o2; simp only [Cx.up, e2] at l2; exact absurd ⟨.e i, l1, o1⟩ (hnot2 s' b e2 l2 o2)
   | some j =>
    rw [up_own e2] at o2
    simp only [Cx.up, e2] at l2
    have := h2.inj _ _ b l1 l2 o1 o2
    cases this
    have q1 := idx_some e1
    have q2 := idx_some e2
    rw [q1] at q2
    cases q2
    rfl
 ·rcases up_live hl with h | ⟨s, e, l, o⟩
  ·intro hf
   exact h2.far b h (by rw [he.far]; exact .inl hf)
  ·exact hi.far b ⟨s, l, o⟩
 ·rcases up_live hl with h | ⟨s, e, l, o⟩
  ·exact h2.lt b h
  ·exact Nat.lt_of_lt_of_le (hi.lt b ⟨s, l, o⟩) he.size
 ·exact Nat.lt_of_lt_of_le (hi.farlt b hb) he.size
/-- A call that ends in a panic. -/
def APan1 (P : Program) (f : FuncId) (xs : List AV) (hp : Hp) (Kp : AV → Hp → Prop) : Prop :=
 ∃ ss args hs pv hs', OkP P f args hs pv hs' ∧ ss.Nodup ∧ hs'.length ≤ ss.length ∧ MB hp ss ss hs ∧ SubL (rnL (dnG hp ss) xs) args ∧ Kp (rn (upG hp ss) pv) (hpU hp ss ss hs' hp)
def APanY (P : Program) (f : FuncId) (xs : List AV) (hp : Hp) (Kp : AV → Hp → Prop) (o : Option (List AV × Hp)) : Prop :=
 APan1 P f xs hp Kp ∨ match o with
  | some (l, hp1) => APan1 P f l hp1 Kp
  | none => False
def APan (P : Program) (f : FuncId) (xs : List AV) (hp : Hp) (Kp : AV → Hp → Prop) : Prop :=
 callable P f = true ∧ APanY P f xs hp Kp (passL hp xs)
def APanV (P : Program) (x : AV) (xs : List AV) (hp : Hp) (Kp : AV → Hp → Prop) : Prop :=
 match x with
 | .func f cap => APan P f (xs ++ cap) hp Kp
 | _ => False
theorem pan {P : Program} {f : FuncId} {xs args : List AV} {hp : Hp} {hs : List Blk} {pv : AV} {hs' : List (Nat × Blk)} {Kp : AV → Hp → Prop} {o : Option (List AV × Hp)} (h : OkP P f args hs pv hs') (ss : List Site)
  (hc : ss.Nodup ∧ hs'.length ≤ ss.length ∧ MB hp ss ss hs ∧ SubL (rnL (dnG hp ss) xs) args ∧ Kp (rn (upG hp ss) pv) (hpU hp ss ss hs' hp)) : APanY P f xs hp Kp o :=
 .inl ⟨ss, args, hs, pv, hs', h, hc.1, hc.2.1, hc.2.2.1, hc.2.2.2.1, hc.2.2.2.2⟩
def AStepX (P : Program) (o : Oper) (K : ASt → Prop) (Kp : AV → ASt → Prop) (st : ASt) : Prop :=
 match o.op with
 | .call ⟨.value f, args, _⟩ => AStep P o K st ∨ APanV P (ev st.tm f) (args.toList.map (ev st.tm)) st.hp (fun v hp' => Kp v ⟨st.tm, hp', st.n⟩)
 | .panic x => match ev st.tm x with
  | .iface t y => Kp (.iface t y) st
  | _ => False
 | _ => AStep P o K st
def AOpsX (P : Program) (gd : List (Option Nat)) : List Oper → (ASt → Prop) → (AV → ASt → Prop) → ASt → Prop
 | [], K, _, st => K st
 | o :: rest, K, Kp, st => match o.guard with
  | none => AStepX P o (AOpsX P gd rest K Kp) Kp st
  | some _ => AOps P gd (o :: rest) K st
/-- What holds where a panic goes on. -/
def PanQ (D : List Deferred) (w : World) (c : Cx) (Kp : AV → ASt → Prop) (Q : Exit → Act → World → Prop) : Prop :=
 ∀ pv st' w' c' v a', Kp pv st' → ExtW w c w' c' → Sim D w' c' st' a' → RelV w' c' pv v → Q (.panic [{ v := v, recovered := false }]) a' w'
theorem PanQ.later {D : List Deferred} {w w' : World} {c c' : Cx} {Kp : AV → ASt → Prop} {Q : Exit → Act → World → Prop} (h : PanQ D w c Kp Q) (he : ExtW w c w' c') : PanQ D w' c' Kp Q :=
 fun pv st' w2 c2 v a' k e i r => h pv st' w2 c2 v a' k (he.trans e) i r
theorem APanV_sound {P : Program} {o : Oper} {f : Operand} {args : Array Operand} {ts : Array TypeId} (ho : o.op = .call ⟨.value f, args, ts⟩) {Kp : AV → ASt → Prop} {st : ASt} (h : APanV P (ev st.tm f) (args.toList.map (ev st.tm)) st.hp (fun v hp' => Kp v ⟨st.tm, hp', st.n⟩)) {D : List Deferred} {w : World} {c : Cx} {a : Act} (hs : Sim D w c st a) {Q : Exit → Act → World → Prop} (hQ : PanQ D w c Kp Q) (K : Act → World → Prop) :
  o.wp P a w K Q := by
 obtain ⟨dst, op, type, pos, after, guard⟩ := o
 simp only at ho
 subst ho
 unfold APanV at h
 split at h
 ·rename_i fid cap ef
  obtain ⟨hc, h⟩ := h
  have hargs : args.map a.eval = (args.toList.map a.eval).toArray := by simp [← Array.toList_inj]
  have hf := hs.ev f
  rw [ef] at hf
  simp only [RelV] at hf
  obtain ⟨us, e2, hcap⟩ := hf
  have he : (execOp a.eval ⟨dst, .call ⟨.value f, args, ts⟩, type, pos, after, guard⟩).run P w = (callFunc fid (args.toList.map a.eval ++ us).toArray).run P w := by
   simp only [execOp, resolve, e2, Deferred.ofValue, Sem.run_bind, Sem.run_pure, Result.andThen_ok, invoke, hargs]
   simp
  unfold Oper.wp
  rw [he, run_callFunc hc, Oper.upon_enter]
  have hx := (relL_map hs.ev args.toList).append hcap
  have main : ∀ {xs : List AV} {hp1 : Hp} {c1 : Cx}, Ext w c w c1 → Inv w c1 hp1 → RelL w c1 xs (args.toList.map a.eval ++ us) → APan1 P fid xs hp1 (fun v hp' => Kp v ⟨st.tm, hp', st.n⟩) → Calls P fid (args.toList.map a.eval ++ us).toArray w fun e w' => match e with
    | .returned v => K (a.put dst v) w'
    | .panicked chain => Q (.panic chain) a w'
    | .outgrown => LetsOut Q := by
   intro xs hp1 c1 e1 i1 r1 h
   obtain ⟨ss, args', hs1, pv, hs2, hok, hn, hlen, hm, ha, hK⟩ := h
   refine (callP_sound hok hn hlen hm ha i1 r1).mono ?_
   rintro e w' ⟨v, c', rfl, h1, h2, h3⟩
   exact hQ _ _ w' c' v a hK (e1.trans h1).toW ⟨hs.size, fun i => RelV.ext (e1.trans h1) _ _ (hs.tm i), h2, hs.df⟩ h3
  rcases h with h | h
  ·exact (main (Ext.refl _ _) hs.inv hx h).mono fun e w' k => by cases e <;> exact k
  ·split at h
   ·rename_i l hp1 el
    obtain ⟨c1, e1, i1, r1⟩ := passL_sound hs.inv hx el
    exact (main e1 i1 (RelL.of_RVL _ _ r1) h).mono fun e w' k => by cases e <;> exact k
   ·exact h.elim
 ·exact h.elim
theorem AStepX_sound {P : Program} {o : Oper} {K : ASt → Prop} {Kp : AV → ASt → Prop} {st : ASt} (h : AStepX P o K Kp st) {D : List Deferred} {w : World} {c : Cx} {a : Act} (hs : Sim D w c st a) {Q : Exit → Act → World → Prop} (hQ : PanQ D w c Kp Q) :
  o.wp P a w (fun a' w' => ∃ c' st', Ext w c w' c' ∧ Sim D w' c' st' a' ∧ K st') Q := by
 unfold AStepX at h
 split at h
 ·rename_i f args ts e
  rcases h with h | h
  ·exact AStep_sound h hs Q
  ·exact APanV_sound e h hs hQ _
 ·rename_i x e
  obtain ⟨dst, op, type, pos, after, guard⟩ := o
  simp only at e
  subst e
  have hx := hs.ev x
  split at h
  ·rename_i t y ex
   rw [ex] at hx
   have hx2 := hx
   simp only [RelV] at hx2
   obtain ⟨v, e2, _⟩ := hx2
   unfold Oper.wp
   have he : (execOp a.eval ⟨dst, .panic x, type, pos, after, guard⟩).run P w = .halt (.panic (.iface t v)) w := by
    simp only [execOp, e2]
    rfl
   rw [he]
   rw [e2] at hx
   exact hQ _ _ w c _ a h (ExtW.refl _ _) hs hx
  ·exact h.elim
 ·exact AStep_sound h hs Q
theorem AOpsX_sound {P : Program} {ops : Array Oper} {Q : Exit → Act → World → Prop} {K : ASt → Prop} {Kp : AV → ASt → Prop} (l : List Oper) :
  ∀ {D : List Deferred} {st : ASt} {w : World} {c : Cx} {a : Act}, AOpsX P (ops.toList.map (·.dst)) l K Kp st → Sim D w c st a → PanQ D w c Kp Q → (∀ st' w' c' a', K st' → Ext w c w' c' → Sim D w' c' st' a' → Q .normal a' w') → wpList P ops Q l a w := by
 induction l with
 | nil => intro D st w c a h hs _ hQ; exact hQ st w c a h (Ext.refl _ _) hs
 | cons o rest ih =>
  intro D st w c a h hs hP hQ
  simp only [AOpsX] at h
  split at h
  ·rename_i hg
   unfold wpList
   rw [if_pos (by simp [Region.wanted, hg])]
   refine .inl (Oper.wp_mono ?_ (AStepX_sound h hs hP))
   rintro a' w' ⟨c', st', h1, h2, h3⟩
   exact ih h3 h2 (hP.later h1.toW) fun st2 w2 c2 a2 k e s => hQ st2 w2 c2 a2 k (h1.trans e) s
  ·exact AOps_sound _ h hs hQ
/-- All other operations of a region come ahead of its last one. -/
def lastB (ops : Array Oper) : Bool := (List.range (ops.size - 1)).all fun i => ordB (afts ops.toList) (afts ops.toList).length i (ops.size - 1)
def APanO (P : Program) (o : Oper) (Kp : AV → ASt → Prop) (st : ASt) : Prop :=
 match o.op with
 | .call ⟨.value f, args, _⟩ => APanV P (ev st.tm f) (args.toList.map (ev st.tm)) st.hp (fun v hp' => Kp v ⟨st.tm, hp', st.n⟩)
 | _ => False
/-- An open region, the last operation of which panics. -/
def ADrP (P : Program) (ops : Array Oper) (Kp : AV → ASt → Prop) (st : ASt) : Prop :=
 match ops.toList.reverse with
 | o :: r => o.guard = none ∧ lastB ops = true ∧ ADr P (ops.toList.map (·.dst)) (afts ops.toList) r.reverse 0 [] [] (APanO P o Kp) st
 | [] => False
section
variable {P : Program} {ops : Array Oper}
theorem any_soundP {last : Oper} {pre : List Oper} {es : List Eff} {st0 stF : ASt} {Q : Exit → Act → World → Prop} (hops : ops.toList = pre ++ [last]) (hst : statB ops = true) (hF : Facts P ops (afts ops.toList) pre 0 [] [] es st0) (hfin : Eqv (foldE pre es st0) stF) {D : List Deferred} {w0 : World} {c0 : Cx}
  (hlast : lastB ops = true) (hg : last.guard = none) (hP : ∀ w c a K, Ext w0 c0 w c → Sim D w c stF a → last.wp P a w K Q) : ∀ (fuel : Nat) (listed : Array Bool) (a : Act) (w : World) (c : Cx), Closed ops listed → listed.getD pre.length false = false → left listed = fuel → Ext w0 c0 w c → Sim D w c (runS (fun j => listed.getD j false) (mkE 0 pre es) st0) a → wpAny P .any ops Q fuel listed a w := by
 have hsz : ops.size = pre.length + 1 := by rw [← Array.length_toList, hops]; simp
 have hpl : ops[pre.length]? = some last := by rw [← Array.getElem?_toList, hops]; simp
 have hpre1 : ∀ k : Nat, k < pre.length → pre[k]? = ops.toList[k]? := fun k hk => by rw [hops, List.getElem?_append_left hk]
 have hprelt : ∀ {k : Nat} {y : Oper}, pre[k]? = some y → k < pre.length := fun {k y} h => (List.getElem?_eq_some_iff.1 h).1
 obtain ⟨_, hback, hpair⟩ := stat_spec hst
 intro fuel
 induction fuel with
 | zero =>
  intro listed a w c hc hz hl he hs
  have := left_zero hl pre.length (by rw [hc.1]; omega)
  rw [hz] at this
  cases this
 | succ fuel ih =>
  intro listed a w c hc hz hl he hs
  refine ⟨fun h => absurd h (ready_some hst hc (by omega)), fun i hi => ?_⟩
  obtain ⟨o, ho, hun, hpre⟩ := (ready_iff hc.1).1 hi
  have hin : i < ops.size := (Array.getElem?_eq_some_iff.1 ho).1
  by_cases hil : i = pre.length
  ·subst hil
   rw [hpl] at ho
   cases ho
   have hall : ∀ x ∈ mkE 0 pre es, listed.getD x.1 false = true := fun x hx => by
    have hx2 := mkE_idx hx
    have hlt : x.1 < pre.length := by omega
    refine ordB_closed hc (afts ops.toList).length x.1 pre.length last ?_ hpl hpre
    unfold lastB at hlast
    rw [List.all_eq_true] at hlast
    have := hlast x.1 (List.mem_range.2 (by omega))
    rw [hsz, Nat.add_sub_cancel] at this
    exact this
   rw [runS_all _ _ _ _ hall] at hs
   unfold wpOp
   rw [hpl]
   simp only
   rw [if_pos (by simp [Region.wanted, hg])]
   exact .inl (hP w c a _ he (hs.eqv hfin))
  have hip : i < pre.length := by omega
  have ho' : pre[i]? = some o := by rw [hpre1 i hip, Array.getElem?_toList]; exact ho
  obtain ⟨e, hei⟩ : ∃ e, es[i]? = some e := ⟨es[i]'(by rw [hF.len]; exact hip), List.getElem?_eq_getElem _⟩
  obtain ⟨hgood, hup, hWD⟩ := hF.good i o e ho' hei
  rw [Nat.zero_add] at hgood
  rw [← runS_text hF.len] at hgood
  -- whoever shares with i is listed just if it comes ahead
  have hshare : ∀ j y ey, pre[j]? = some y → es[j]? = some ey → (¬ (y.apart ops o = true) ∧ ¬ (o.apart ops y = true) ∨ (∃ k, k ∈ ey.W ∧ k ∈ e.D)) → listed.getD j false = decide (j < i) := by
   intro j y ey hy hey hcf
   have hy' : ops[j]? = some y := by rw [hpre1 j (hprelt hy), Array.getElem?_toList] at hy; exact hy
   rcases Nat.lt_trichotomy j i with hji | rfl | hij
   ·have hord : ordB (afts ops.toList) (afts ops.toList).length j i = true := by
     rcases hcf with ⟨h1, _⟩ | ⟨k, h1, h2⟩
     ·exact (hpair j i y o hji hy' ho).resolve_left h1
     ·have := hF.pair j i ey e hji hey hei
      rw [Nat.zero_add, Nat.zero_add] at this
      rcases this with ⟨h3, _⟩ | h3
      ·exact (dis_spec h3 h1 h2).elim
      ·exact h3
    rw [ordB_closed hc _ j i o hord ho hpre]
    simp [hji]
   ·rw [hun]; simp
   ·have hord : ordB (afts ops.toList) (afts ops.toList).length i j = true := by
     rcases hcf with ⟨_, h1⟩ | ⟨k, h1, h2⟩
     ·exact (hpair i j o y hij ho hy').resolve_left h1
     ·have := hF.pair i j e ey hij hei hey
      rw [Nat.zero_add, Nat.zero_add] at this
      rcases this with ⟨_, h3⟩ | h3
      ·exact (dis_spec h3 h1 h2).elim
      ·exact h3
    have : ¬ (j < i) := by omega
    simp only [this, decide_false]
    cases hq : listed.getD j false with
    | false => rfl
    | true =>
     have := ordB_closed hc _ i j y hord hy' (hc.2 j y hy' hq)
     rw [hun] at this
     cases this
  have hidx : ∀ x ∈ mkE 0 pre es, ∃ y, pre[x.1]? = some y ∧ es[x.1]? = some x.2.2 ∧ x.2.1 = y.dst := fun x hx => by
   obtain ⟨k, y, ey, h1, h2, rfl⟩ := mkE_mem hx
   exact ⟨y, by simpa using h1, by simpa using h2, rfl⟩
  have hap : ∀ (y : Oper) (t : Nat), y.dst = some t → t ∈ o.looksAt ops → ¬ (y.apart ops o = true) ∧ ¬ (o.apart ops y = true) := fun y t h1 h2 =>
   ⟨fun h => (apart_tm h).1 t h1 h2, fun h => (apart_tm h).2.2 t h1 h2⟩
  have htm : ∀ t ∈ o.looksAt ops, tget (runS (fun j => listed.getD j false) (mkE 0 pre es) st0).tm t = tget (runS (fun j => decide (j < i)) (mkE 0 pre es) st0).tm t := fun t ht =>
   runS_tm _ (fun x hx hxt => by
    obtain ⟨y, h1, h2, h3⟩ := hidx x hx
    exact (hshare x.1 y x.2.2 h1 h2 (.inl (hap y t (h3 ▸ hxt) ht))).symm) rfl rfl
  have hhp : Agree e.D (runS (fun j => decide (j < i)) (mkE 0 pre es) st0).hp (runS (fun j => listed.getD j false) (mkE 0 pre es) st0).hp := fun s hsD =>
   runS_hp _ (fun x hx hxs => by
    obtain ⟨y, h1, h2, h3⟩ := hidx x hx
    obtain ⟨q, hq, rfl⟩ := hxs
    have h4 := (hF.good x.1 y x.2.2 h1 h2).2.1 q hq
    exact (hshare x.1 y x.2.2 h1 h2 (.inr ⟨_, h4, hsD⟩)).symm) rfl
  refine wpOp_mono ?_ (hgood _ _ w c a Q (by simp only [runS_n]) htm hhp hs)
  rintro a' w' ⟨c', he', hs'⟩
  have hset : ∀ j, (listed.setIfInBounds i true).getD j false = (listed.getD j false || j == i) := by
   intro j
   by_cases hj : j = i
   ·subst hj
    have : j < listed.size := by rw [hc.1]; exact hin
    simp [this]
   ·rw [getD_set_ne false (fun q => hj q.symm)]
    simp [hj]
  refine ih (listed.setIfInBounds i true) a' w' c' ⟨by simp [hc.1], fun j y hy hjl m hm => ?_⟩ (by rw [hset, hz]; simp; omega) ?_ (he.trans he') ?_
  ·rw [hset] at hjl ⊢
   rw [Bool.or_eq_true] at hjl ⊢
   rcases hjl with hjl | hjl
   ·exact .inl (hc.2 j y hy hjl m hm)
   ·have : j = i := by simpa using hjl
    subst this
    rw [ho] at hy
    cases hy
    exact .inl (hpre m hm)
  ·have := left_set (listed := listed) (i := i) (by rw [hc.1]; exact hin) hun
   omega
  ·have hS : (fun j => (listed.setIfInBounds i true).getD j false) = fun j => listed.getD j false || j == i := funext hset
   rw [hS]
   refine hs'.eqv ?_
   rw [mkE_split ho' hei]
   simp only [Nat.zero_add]
   have hne : ∀ x ∈ mkE 0 (pre.take i) (es.take i) ++ mkE (i + 1) (pre.drop (i + 1)) (es.drop (i + 1)), x.1 ≠ i := by
    intro x hx
    rcases List.mem_append.1 hx with hx | hx
    ·have := mkE_idx hx
     simp only [List.length_take] at this
     omega
    ·have := mkE_idx hx
     omega
   have hlater : ∀ x ∈ mkE (i + 1) (pre.drop (i + 1)) (es.drop (i + 1)), ∃ y, pre[x.1]? = some y ∧ es[x.1]? = some x.2.2 ∧ x.2.1 = y.dst ∧ i < x.1 := fun x hx => by
    obtain ⟨k, y, ey, h1, h2, rfl⟩ := mkE_mem hx
    refine ⟨y, ?_, ?_, rfl, by simp only; omega⟩
    ·rw [List.getElem?_drop] at h1; simpa using h1
    ·rw [List.getElem?_drop] at h2; simpa using h2
   refine runS_last hun hne (fun x hx hxl t hd hdt => ?_) fun x hx hxl q hq q' hq' heq => ?_
   ·obtain ⟨y, h1, h2, h3, h4⟩ := hlater x hx
    have := hshare x.1 y x.2.2 h1 h2 (.inl ⟨fun h => (apart_tm h).2.1 t (h3 ▸ hdt) hd, fun h => (apart_tm h).2.1 t hd (h3 ▸ hdt)⟩)
    rw [hxl] at this
    simp at this
    omega
   ·obtain ⟨y, h1, h2, h3, h4⟩ := hlater x hx
    have h5 := (hF.good x.1 y x.2.2 h1 h2).2.1 q hq
    have h6 := hWD _ (hup q' hq')
    rw [heq] at h5
    have := hshare x.1 y x.2.2 h1 h2 (.inr ⟨_, h5, h6⟩)
    rw [hxl] at this
    simp at this
    omega

end
/-- An open region, the last operation of which panics. -/
theorem regionP_any {P : Program} {ops : Array Oper} {id : Nat} {Kp : AV → ASt → Prop} {Q : Exit → Act → World → Prop} {st : ASt} {D : List Deferred} {w : World} {c : Cx} {a : Act} (hm : P.follows .mixedOrders = true) (hst : statB ops = true) (h : ADrP P ops Kp st) (hs : Sim D w c st a) (hQ : PanQ D w c Kp Q) : (Code.region id ops true).wp P Q a w := by
 unfold ADrP at h
 split at h
 ·rename_i o r er
  obtain ⟨hg, hlast, h⟩ := h
  have hops : ops.toList = r.reverse ++ [o] := by
   have := congrArg List.reverse er
   rwa [List.reverse_reverse, List.reverse_cons] at this
  obtain ⟨es, stF, hK, hfin, hF⟩ := ADr_runs (ops := ops) r.reverse 0 [] [] st st h (Eqv.refl st) (fun k y hy => by
   rw [Nat.zero_add, ← Array.getElem?_toList, hops, List.getElem?_append_left (List.getElem?_eq_some_iff.1 hy).1]
   exact hy)
  have hs0 : Sim D w.drew c st a := ⟨hs.size, fun i => RelV.ext (Ext.refl w c).drew _ _ (hs.tm i), hs.inv.drew, hs.df⟩
  have hleft : left (Array.replicate ops.size false) = ops.size := by
   unfold left
   simp
  have hclosed : Closed ops (Array.replicate ops.size false) := ⟨by simp, fun j o ho hl => by rw [getD_replicate_false] at hl; cases hl⟩
  refine wp_region_any hm ?_
  have hnone : runS (fun j => (Array.replicate ops.size false).getD j false) (mkE 0 r.reverse es) st = st := runS_none _ _ fun x hx => getD_replicate_false _ _
  refine any_soundP (w0 := w) (c0 := c) hops hst hF hfin hlast hg (fun w' c' a' K e s => ?_) ops.size _ a w.drew c hclosed (getD_replicate_false _ _) hleft ((Ext.refl w c).drew) (by rw [hnone]; exact hs0)
  unfold APanO at hK
  split at hK
  ·rename_i f args ts eo
   exact APanV_sound eo hK s (hQ.later e.toW) K
  ·exact hK.elim
 ·exact h.elim
def ARegX (P : Program) (ops : Array Oper) (draw : Bool) (K : ASt → Prop) (Kp : AV → ASt → Prop) (st : ASt) : Prop :=
 match draw with
 | false => AOpsX P (ops.toList.map (·.dst)) ops.toList K Kp st
 | true => match (ops.toList.getLast?.map (·.dst)).getD (some 0) with
  | none => ADr P (ops.toList.map (·.dst)) (afts ops.toList) ops.toList 0 [] [] K st ∨ ADrP P ops Kp st
  | some _ => ADr P (ops.toList.map (·.dst)) (afts ops.toList) ops.toList 0 [] [] K st
/-- A walk with two ends. -/
def AWpX (P : Program) : Code → (Ex → ASt → Prop) → (AV → ASt → Prop) → ASt → Prop
 | .region _ ops draw, K, Kp, st => ARegX P ops draw (K .normal) Kp st
 | .seq a b, K, Kp, st => AWpX P a (Ex.then (AWpX P b K Kp) K) Kp st
 | .cond x a b, K, Kp, st => ACond (ev st.tm x) (AWpX P a K Kp st) (AWpX P b K Kp st)
 | .block id a, K, Kp, st => AWpX P a (Ex.inB id K) Kp st
 | c, K, _, st => AWp P c K st
theorem ARegX_sound {P : Program} (hm : P.follows .mixedOrders = true) {id : Nat} {ops : Array Oper} {draw : Bool} {K : ASt → Prop} {Kp : AV → ASt → Prop} {st : ASt} {D : List Deferred} {w : World} {c : Cx} {a : Act} {Q : Exit → Act → World → Prop} (hd : (!draw || statB ops) = true) (h : ARegX P ops draw K Kp st) (hs : Sim D w c st a) (hP : PanQ D w c Kp Q)
  (hQ : ∀ st' w' c' a', K st' → ExtW w c w' c' → Sim D w' c' st' a' → Q .normal a' w') : (Code.region id ops draw).wp P Q a w := by
 unfold ARegX at h
 cases draw with
 | false => exact wp_region_list (AOpsX_sound ops.toList h hs hP fun st' w' c' a' k e s => hQ st' w' c' a' k e.toW s)
 | true =>
  have hst : statB ops = true := by simpa using hd
  simp only at h
  split at h
  ·rcases h with h | h
   ·exact region_any hm hst h hs fun st' w' c' a' k e s => hQ st' w' c' a' k e.toW s
   ·exact regionP_any hm hst h hs hP
  ·exact region_any hm hst h hs fun st' w' c' a' k e s => hQ st' w' c' a' k e.toW s
theorem AWpX_sound {P : Program} (hm : P.follows .mixedOrders = true) : ∀ (code : Code) {D : List Deferred} {K : Ex → ASt → Prop} {Kp : AV → ASt → Prop} {st : ASt} {w : World} {c : Cx} {a : Act} {Q : Exit → Act → World → Prop}, dOk code = true → AWpX P code K Kp st → Sim D w c st a → PanQ D w c Kp Q →
  (∀ e st' w' c' a', K e st' → ExtW w c w' c' → Sim D w' c' st' a' → Q (toExit e) a' w') → code.wp P Q a w
 | .region id ops draw, D, K, Kp, st, w, c, a, Q, hd, h, hs, hP, hQ => ARegX_sound hm hd (by simpa only [AWpX] using h) hs hP fun st' w' c' a' k e s => hQ .normal st' w' c' a' k e s
 | .seq x y, D, K, Kp, st, w, c, a, Q, hd, h, hs, hP, hQ => by
  simp only [AWpX] at h
  simp only [dOk, Bool.and_eq_true] at hd
  refine wp_seq (AWpX_sound hm x hd.1 h hs ?_ fun e st' w' c' a' k he s => ?_)
  ·intro pv st' w' c' v a' k e i r
   exact hP pv st' w' c' v a' k e i r
  cases e with
  | normal => exact AWpX_sound hm y hd.2 k s (hP.later he) fun e2 st2 w2 c2 a2 k2 he2 s2 => hQ e2 st2 w2 c2 a2 k2 (he.trans he2) s2
  | exit id => exact hQ (.exit id) st' w' c' a' k he s
  | ret => exact hQ .ret st' w' c' a' k he s
 | .cond x y z, D, K, Kp, st, w, c, a, Q, hd, h, hs, hP, hQ => by
  simp only [AWpX] at h
  simp only [dOk, Bool.and_eq_true] at hd
  have hx := hs.ev x
  unfold ACond at h
  split at h
  ·rename_i t e
   rw [e] at hx
   simp only [RelV] at hx
   cases t with
   | true => exact wp_cond_true hx.1 (AWpX_sound hm y hd.1 (h.1 rfl) hs hP hQ)
   | false => exact wp_cond_false hx.1 (AWpX_sound hm z hd.2 (h.2 rfl) hs hP hQ)
  ·exact h.elim
 | .block id x, D, K, Kp, st, w, c, a, Q, hd, h, hs, hP, hQ => by
  simp only [AWpX] at h
  simp only [dOk] at hd
  refine wp_block (AWpX_sound hm x hd h hs ?_ fun e st' w' c' a' k he s => ?_)
  ·intro pv st' w' c' v a' k e i r
   exact hP pv st' w' c' v a' k e i r
  cases e with
  | normal => exact hQ .normal st' w' c' a' k he s
  | exit i =>
   simp only [Ex.inB] at k
   simp only [toExit, Exit.inBlock]
   split at k
   ·rename_i hid; rw [if_pos hid]; exact hQ .normal st' w' c' a' k he s
   ·rename_i hid; rw [if_neg hid]; exact hQ (.exit i) st' w' c' a' k he s
  | ret => exact hQ .ret st' w' c' a' k he s
 | .skip, D, K, Kp, st, w, c, a, Q, hd, h, hs, _, hQ => AWp_sound hm .skip hd (by simpa only [AWpX] using h) hs hQ
 | .loop x, D, K, Kp, st, w, c, a, Q, hd, h, hs, _, hQ => AWp_sound hm (.loop x) hd (by simpa only [AWpX] using h) hs hQ
 | .exit id, D, K, Kp, st, w, c, a, Q, hd, h, hs, _, hQ => AWp_sound hm (.exit id) hd (by simpa only [AWpX] using h) hs hQ
 | .ret, D, K, Kp, st, w, c, a, Q, hd, h, hs, _, hQ => AWp_sound hm .ret hd (by simpa only [AWpX] using h) hs hQ
 | .rangeFunc _ _ _ _, _, _, _, _, _, _, _, _, _, h, _, _, _ => by simp only [AWpX, AWp] at h
 | .scope _, _, _, _, _, _, _, _, _, _, h, _, _, _ => by simp only [AWpX, AWp] at h
 | .label _, _, _, _, _, _, _, _, _, _, h, _, _, _ => by simp only [AWpX, AWp] at h
 | .goto _, _, _, _, _, _, _, _, _, _, h, _, _, _ => by simp only [AWpX, AWp] at h
 | .refuse _, _, _, _, _, _, _, _, _, _, h, _, _, _ => by simp only [AWpX, AWp] at h
/-- The end of a walk that panics: what is thrown, what becomes of the places. -/
def APanE (pv : AV) (hs' : List (Nat × Blk)) (m : Nat) (v : AV) (st : ASt) : Prop := ∃ mv, FinAll st.hp m mv pv hs' [v]
def noEnd : Ex → ASt → Prop := fun _ _ => False
theorem OkP.of_wp {P : Program} {f : FuncId} {fn : Func} {code : Code} {n : Nat} {args : List AV} {hs : List Blk} {pv : AV} {hs' : List (Nat × Blk)} (hf : P.funcs[f]? = some fn) (hb : fn.body = some code) (hnt : fn.ntmps = n)
  (hn : args.length ≤ n) (hm : P.follows .mixedOrders = true) (hd : dOk code = true) (h : AWpX P code noEnd (APanE pv hs' hs.length) ⟨initT 0 args, hpE 0 (hs.map fun b => (0, b)), n⟩) : OkP P f args hs pv hs' := by
 subst hnt
 intro w c vs hinv hrel
 have hlen := hrel.length
 have hsim : Sim [] w c ⟨initT 0 args, hpE 0 (hs.map fun b => (0, b)), fn.ntmps⟩ { tmps := vs.toArray ++ Array.replicate (fn.ntmps - vs.toArray.size) undef, defers := [] } := by
  refine ⟨by simp; omega, fun i => ?_, hinv, rfl⟩
  rw [tget_initT]
  simp only [Nat.zero_le, if_true, Nat.sub_zero]
  cases hi : args[i]? with
  | none => simp only [Option.getD_none, RelV]
  | some x =>
   simp only [Option.getD_some]
   obtain ⟨u, hu, hr⟩ := hrel.get i x hi
   have hlt := lt_of_get hu
   have e : (vs.toArray ++ Array.replicate (fn.ntmps - vs.toArray.size) undef).getD i undef = u := by
    obtain ⟨h1, h2⟩ := List.getElem?_eq_some_iff.1 hu
    simp [Array.getElem?_append, hlt, h2]
   rw [e]
   exact hr
 refine calls_of_wp hf hb (AWpX_sound hm code hd h hsim ?_ fun e st w' c' a' k he s => k.elim)
 intro pv1 st1 w' c' v a' k he hi hr
 obtain ⟨mv, hmv, hret, hE, hM⟩ := k
 obtain ⟨g1, g2, g3, g4⟩ := fin_sound hinv he hi.inv hmv hE hM
 have hx : RelL w' c' [pv1] [v] := ⟨v, [], rfl, hr, rfl⟩
 obtain ⟨v2, e2, h3⟩ := hret.sound g3 (g4 _ _ hx)
 have ev2 : v2 = v := by rw [← e2]; rfl
 subst ev2
 exact ⟨hi.df, v2, _, rfl, g1, g2, h3⟩
/-! ### As equations, for the walk -/
section
variable {P : Program} {gd : List (Option Nat)} {K : ASt → Prop} {KE : Ex → ASt → Prop} {Kp : AV → ASt → Prop} {tm : List (Nat × AV)} {hp : Hp} {n : Nat}
theorem xo_nil : AOpsX P gd [] K Kp ⟨tm, hp, n⟩ = K ⟨tm, hp, n⟩ := rfl
theorem xo_plain (d : Option Tmp) (op : Op) (ty : TypeId) (pos : String) (aft : Array Edge) (rest : List Oper) : AOpsX P gd (⟨d, op, ty, pos, aft, none⟩ :: rest) K Kp ⟨tm, hp, n⟩ = AStepX P ⟨d, op, ty, pos, aft, none⟩ (AOpsX P gd rest K Kp) Kp ⟨tm, hp, n⟩ := rfl
theorem xo_guard (d : Option Tmp) (op : Op) (ty : TypeId) (pos : String) (aft : Array Edge) (g : Nat × Bool) (rest : List Oper) : AOpsX P gd (⟨d, op, ty, pos, aft, some g⟩ :: rest) K Kp ⟨tm, hp, n⟩ = AOps P gd (⟨d, op, ty, pos, aft, some g⟩ :: rest) K ⟨tm, hp, n⟩ := rfl
theorem xs_eq (o : Oper) : AStepX P o K Kp ⟨tm, hp, n⟩ = match o.op with
 | .call ⟨.value f, args, _⟩ => AStep P o K ⟨tm, hp, n⟩ ∨ APanV P (ev tm f) (args.toList.map (ev tm)) hp (fun v hp' => Kp v ⟨tm, hp', n⟩)
 | .panic x => (match ev tm x with
  | .iface t y => Kp (.iface t y) ⟨tm, hp, n⟩
  | _ => False)
 | _ => AStep P o K ⟨tm, hp, n⟩ := rfl
theorem xr_f (ops : Array Oper) : ARegX P ops false K Kp ⟨tm, hp, n⟩ = AOpsX P (ops.toList.map (·.dst)) ops.toList K Kp ⟨tm, hp, n⟩ := rfl
theorem xr_t (ops : Array Oper) : ARegX P ops true K Kp ⟨tm, hp, n⟩ = match (ops.toList.getLast?.map (·.dst)).getD (some 0) with
  | none => ADr P (ops.toList.map (·.dst)) (afts ops.toList) ops.toList 0 [] [] K ⟨tm, hp, n⟩ ∨ ADrP P ops Kp ⟨tm, hp, n⟩
  | some _ => ADr P (ops.toList.map (·.dst)) (afts ops.toList) ops.toList 0 [] [] K ⟨tm, hp, n⟩ := rfl
theorem wx_region (id : Nat) (ops : Array Oper) (dr : Bool) : AWpX P (.region id ops dr) KE Kp ⟨tm, hp, n⟩ = ARegX P ops dr (KE .normal) Kp ⟨tm, hp, n⟩ := rfl
theorem wx_seq (a b : Code) : AWpX P (.seq a b) KE Kp ⟨tm, hp, n⟩ = AWpX P a (Ex.then (AWpX P b KE Kp) KE) Kp ⟨tm, hp, n⟩ := rfl
theorem wx_cond (x : Operand) (a b : Code) : AWpX P (.cond x a b) KE Kp ⟨tm, hp, n⟩ = ACond (ev tm x) (AWpX P a KE Kp ⟨tm, hp, n⟩) (AWpX P b KE Kp ⟨tm, hp, n⟩) := rfl
theorem wx_block (id : Nat) (a : Code) : AWpX P (.block id a) KE Kp ⟨tm, hp, n⟩ = AWpX P a (Ex.inB id KE) Kp ⟨tm, hp, n⟩ := rfl
theorem wx_skip : AWpX P .skip KE Kp ⟨tm, hp, n⟩ = KE .normal ⟨tm, hp, n⟩ := rfl
theorem wx_loop (a : Code) : AWpX P (.loop a) KE Kp ⟨tm, hp, n⟩ = AWp P (.loop a) KE ⟨tm, hp, n⟩ := rfl
theorem wx_exit (id : Nat) : AWpX P (.exit id) KE Kp ⟨tm, hp, n⟩ = KE (.exit id) ⟨tm, hp, n⟩ := rfl
theorem wx_ret : AWpX P .ret KE Kp ⟨tm, hp, n⟩ = KE .ret ⟨tm, hp, n⟩ := rfl
theorem xp_func {Kp : AV → Hp → Prop} (f : FuncId) (cap xs : List AV) : APanV P (.func f cap) xs hp Kp = APan P f (xs ++ cap) hp Kp := rfl
theorem xp_eq {Kp : AV → Hp → Prop} (f : FuncId) (xs : List AV) : APan P f xs hp Kp = (callable P f = true ∧ APanY P f xs hp Kp (passL hp xs)) := rfl
theorem xe_no (e : Ex) (st : ASt) : noEnd e st = False := rfl
end
theorem X0 : ((((type_of% @xo_nil) ∧ (type_of% @xo_plain)) ∧ ((type_of% @xo_guard) ∧ (type_of% @xs_eq))) ∧ (((type_of% @xr_f) ∧ (type_of% @xr_t)) ∧ ((type_of% @wx_region) ∧ (type_of% @wx_seq)))) ∧ ((((type_of% @wx_cond) ∧ (type_of% @wx_block)) ∧ ((type_of% @wx_skip) ∧ (type_of% @wx_loop))) ∧ (((type_of% @wx_exit) ∧ (type_of% @wx_ret)) ∧ ((type_of% @xp_func) ∧ ((type_of% @xp_eq) ∧ (type_of% @xe_no))))) := ⟨⟨⟨⟨@xo_nil, @xo_plain⟩, ⟨@xo_guard, @xs_eq⟩⟩, ⟨⟨@xr_f, @xr_t⟩, ⟨@wx_region, @wx_seq⟩⟩⟩, ⟨⟨⟨@wx_cond, @wx_block⟩, ⟨@wx_skip, @wx_loop⟩⟩, ⟨⟨@wx_exit, @wx_ret⟩, ⟨@xp_func, ⟨@xp_eq, @xe_no⟩⟩⟩⟩⟩
end Go.Proofs.YtonolfpnidaflaaGreatDoor.E
