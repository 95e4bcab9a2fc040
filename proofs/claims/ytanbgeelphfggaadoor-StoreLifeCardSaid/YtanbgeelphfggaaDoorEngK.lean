/- The abstract machine of this claim, part K: an operation. No conditions. -/
import Derived.Test.YtanbgeelphfggaaDoorEngP
namespace Go.Proofs.YtanbgeelphfggaaDoor.E
open Go
set_option linter.unusedSimpArgs false
set_option linter.unusedVariables false
set_option linter.unusedSectionVars false
set_option maxRecDepth 20000

def callable (P : Program) (f : FuncId) : Bool :=
  match P.funcs[f]? with
  | some fn => fn.body.isSome && !(fn.name == "runtime.NumGoroutine")
  | none => false
def tyNoIf (P : Program) (t : TypeId) : Bool :=
  match P.underlying t with
  | some (.interface _) => false
  | some _ => true
  | none => false

def APick (x y z : AV) (K : AV → Prop) : Prop :=
  match x with
  | .val (.bool t) => (t = true → K y) ∧ (t = false → K z)
  | _ => False
def ALen (P : Program) (t : TypeId) (x : AV) (hp : Hp) (K : AV → Prop) : Prop :=
  match x with
  | .val (.string s) => tyStr P t = true ∧ K (.val (.int .i64 s.size))
  | .list _ rows => tyEl P t ≠ none ∧ K (.val (.int .i64 rows.length))
  | .val (.slice none 0 0) => tyEl P t ≠ none ∧ K (.val (.int .i64 0))
  | .own s ver _ _ len => tyEl P t ≠ none ∧ (hp.get s).1 = ver ∧ K (.val (.int .i64 len))
  | _ => False
def AMax (x y : AV) (K : AV → Prop) : Prop :=
  match x, y with
  | .val (.int k a), .val (.int _ b) => K (.val (.int k (if b > a then b else a)))
  | _, _ => False
def AMin (x y : AV) (K : AV → Prop) : Prop :=
  match x, y with
  | .val (.int k a), .val (.int _ b) => K (.val (.int k (if b < a then b else a)))
  | _, _ => False
def ANilCheck (x : AV) (hp : Hp) (K : AV → Prop) : Prop :=
  match x with
  | .rop cs => K (.rop cs)
  | .ptr s v o => (hp.get s).1 = v ∧ K (.ptr s v o)
  | .ept s v k i o => (hp.get s).1 = v ∧ K (.ept s v k i o)
  | .func f cap => K (.func f cap)
  | _ => False
def ABuiltin (P : Program) (b : Builtin) (ts : Array TypeId) (xs : List AV) (s : Site) (hp : Hp) (K : AV → Hp → Prop) : Prop :=
  match b, xs with
  | .len, [x] => match ts.toList with
    | [t] => ALen P t x hp fun v => K v hp
    | _ => False
  | .append, [x, y] => AAppend P ts x y s hp K
  | .max, [x, y] => AMax x y fun v => K v hp
  | .min, [x, y] => AMin x y fun v => K v hp
  | .copy, [x, y] => ACopy P ts x y hp K
  | .clear, [x] => AClear P ts x hp K
  | .cap, [x] => ACap P ts x hp K
  | _, _ => False

/-! ### Calls -/
mutual
def sts : AV → List Site
  | .ptr s _ _ => [s]
  | .ept s _ _ _ _ => [s]
  | .own s _ _ _ _ => [s]
  | .map s _ => [s]
  | .agg cs => stsL cs
  | .tup cs => stsL cs
  | .func _ cap => stsL cap
  | .iface _ x => sts x
  | .val _ => []
  | .list _ _ => []
  | .rop _ => []
  | .junk => []
  | .dead => []
def stsL : List AV → List Site
  | [] => []
  | x :: xs => sts x ++ stsL xs
end
def stsB : Blk → List Site
  | .cells _ cs => stsL cs
  | _ => []
/-- What can be reached. -/
def rch (hp : Hp) : Nat → List Site → List Site
  | 0, l => l
  | n + 1, l => l ++ rch hp n (l.flatMap fun s => stsB (hp.get s).2)
def Site.key : Site → Bool × Nat
  | .e i => (false, i)
  | .l t => (true, t)
  | .m t _ => (true, t)
/-- A value without memory. -/
def AV.leaf : AV → Bool
  | .val _ => true
  | .agg cs => cs.all fun x => match x with | .val _ => true | _ => false
  | _ => false
def AV.flat : AV → Bool
  | .tup vs => vs.all AV.leaf
  | x => x.leaf
/-- A call that leaves what is handed in alone: what it is lent may be written again if nothing of it comes back. -/
def ACallF (P : Program) (f : FuncId) (hp : Hp) (K : AV → Hp → Prop) : Option (List AV × Hp) → Prop
  | some (l, hp') => ∃ args' r, SubL l args' ∧ Ok P f args' r ∧ (K r hp' ∨ (r.flat = true ∧ K r hp))
  | none => False
/-- A call that turns what is handed in. -/
def ACallH (P : Program) (f : FuncId) (xs : List AV) (s : Site) (hp : Hp) (K : AV → Hp → Prop) : Prop :=
  ∃ ss args hs r hs', OkH P f args hs r hs' ∧ ss.Nodup ∧ hs'.length ≤ ss.length ∧ MB hp ss ss hs ∧ SubL (rnL (dnG hp ss) xs) args ∧
    (ss.all fun s' => ((rch hp 2 (stsL xs)).map Site.key ++ [s.key]).contains s'.key) = true ∧ K (rn (upG hp ss) r) (hpU hp ss ss hs' hp)
/-- A call that makes something new, and leaves what is handed in alone. -/
def ACallHF (P : Program) (f : FuncId) (s : Site) (K : AV → Hp → Prop) : Option (List AV × Hp) → Prop
  | some (l, hp1) => ACallH P f l s hp1 K
  | none => False
def ACallY (P : Program) (f : FuncId) (xs : List AV) (s : Site) (hp : Hp) (K : AV → Hp → Prop) (o : Option (List AV × Hp)) : Prop :=
  ACallF P f hp K o ∨ ACallH P f xs s hp K ∨ ACallHF P f s K o
def AFn (P : Program) (f : FuncId) (xs : List AV) (s : Site) (hp : Hp) (K : AV → Hp → Prop) : Prop :=
  callable P f = true ∧ ACallY P f xs s hp K (passL hp xs)
def ACallOp (P : Program) (ev : Operand → AV) (cl : Call) (s : Site) (hp : Hp) (K : AV → Hp → Prop) : Prop :=
  match cl.callee with
  | .builtin b => ABuiltin P b cl.argTypes (cl.args.toList.map ev) s hp K
  | .value f => match ev f with
    | .func f cap => AFn P f (cl.args.toList.map ev ++ cap) s hp K
    | _ => False
  | _ => False
def AIface (P : Program) (t : TypeId) (x : AV) (K : AV → Prop) : Prop := tyNoIf P t = true ∧ K (.iface t x)
def AMakeFunc (f : Fn) (first : Array Operand) (cap : List AV) (K : AV → Prop) : Prop :=
  match f with
  | .func f => first.toList = [] ∧ K (.func f cap)
  | _ => False

def ADo (P : Program) (ev : Operand → AV) (o : Oper) (s : Site) (hp : Hp) (K : AV → Hp → Prop) : Prop :=
  match o.op with
  | .move x => K (ev x) hp
  | .assign x => K (ev x) hp
  | .pick c x y => APick (ev c) (ev x) (ev y) fun v => K v hp
  | .alloc t => AAlloc P t s hp K
  | .box t x => ABox t (ev x) s hp K
  | .build t ps => ABuild P t (ps.toList.map fun p => (p.1, ev p.2)) hp fun v => K v hp
  | .buildSlice t n ps => ABuildF P t n (ps.toList.map (·.1)) s K (passL hp (ps.toList.map fun p => ev p.2))
  | .load t x => ALoad P t (ev x) hp fun v => K v hp
  | .store t x y => AStoreF P t (ev x) (ev y) hp fun hp' => K (.val (.tuple #[])) hp'
  | .nilCheck x => ANilCheck (ev x) hp fun v => K v hp
  | .binOp op t x y _ => if nilC P t y = true then ANil P op t (ev x) hp fun v => K v hp else ABin P op t (ev x) (ev y) fun v => K v hp
  | .field t x j => AField P t (ev x) j fun v => K v hp
  | .lookup t x i ok => ALookup P t (ev x) (ev i) ok hp fun v => K v hp
  | .mapUpdate t m k x => AMapUpd P t (ev m) (ev k) (ev x) hp fun hp' => K (.val (.tuple #[])) hp'
  | .makeMap t r => r = none ∧ AMakeMap P t s hp K
  | .unOp op _ x => AUn op (ev x) fun v => K v hp
  | .convert src dst x => AConv P src dst (ev x) fun v => K v hp
  | .makeInterface t x => AIface P t (ev x) fun v => K v hp
  | .makeFunc f first cap => AMakeFunc f first (cap.toList.map ev) fun v => K v hp
  | .makeSlice t l m => AMake P t (ev l) (ev m) s hp K
  | .slice t x lo hi mx => mx = none ∧ ASlice P t (ev x) (lo.map ev) (hi.map ev) hp fun v => K v hp
  | .fieldAddr t x j => AFieldAddr P t (ev x) j hp fun v => K v hp
  | .indexAddr t x i => AIndexAddr P t (ev x) (ev i) hp fun v => K v hp
  | .index t x i => AIndex P t (ev x) (ev i) fun v => K v hp
  | .extract x i => AExtract (ev x) i fun v => K v hp
  | .call cl => ACallOp P ev cl s hp K
  | _ => False

/-! ### Soundness -/
def Does (P : Program) (o : Oper) (a : Act) (w : World) (c : Cx) (K : AV → Hp → Prop) : Prop :=
  ∀ Q, o.wp P a w (fun a' w' => ∃ v c' av hp', a' = a.put o.dst v ∧ Ext w c w' c' ∧ Inv w' c' hp' ∧ RelV w' c' av v ∧ K av hp') Q
theorem does_of_run {P : Program} {o : Oper} {a : Act} {w w' : World} {c c' : Cx} {K : AV → Hp → Prop} {v : Value} {av : AV} {hp' : Hp} (h : (execOp a.eval o).run P w = .ok (.value v) w') (h1 : Ext w c w' c') (h2 : Inv w' c' hp') (h3 : RelV w' c' av v) (h4 : K av hp') : Does P o a w c K := by
  intro Q
  unfold Oper.wp
  rw [h]
  exact ⟨v, c', av, hp', rfl, h1, h2, h3, h4⟩
theorem does_of_skip {P : Program} {o : Oper} {a : Act} {w w' : World} {c c' : Cx} {K : AV → Hp → Prop} {hp' : Hp} (h : (execOp a.eval o).run P w = .ok .skip w') (h1 : Ext w c w' c') (h2 : Inv w' c' hp') (h4 : K (.val (.tuple #[])) hp') : Does P o a w c K := by
  intro Q
  unfold Oper.wp
  rw [h]
  exact ⟨undef, c', _, hp', rfl, h1, h2, by simp only [RelV]; exact ⟨rfl, rfl⟩, h4⟩
theorem does_of_gives {P : Program} {o : Oper} {a : Act} {w : World} {c : Cx} {K : AV → Hp → Prop} {m : Sem Value} (he : execOp a.eval o = (do pure (.value (← m)))) (h : Gives P m w c K) : Does P o a w c K := by
  obtain ⟨r, av, w', c', hp', e, h1, h2, h3, h4⟩ := h
  refine does_of_run (v := r) ?_ h1 h2 h3 h4
  rw [he]
  simp only [Sem.run_bind, e, Result.andThen_ok, Sem.run_pure]
theorem does_of_pure {P : Program} {o : Oper} {a : Act} {w : World} {c : Cx} {hp : Hp} (hi : Inv w c hp) {K : AV → Hp → Prop} {m : Sem Value} (he : execOp a.eval o = (do pure (.value (← m)))) (h : ∃ r av, m.run P w = .ok r w ∧ RelV w c av r ∧ K av hp) : Does P o a w c K := by
  obtain ⟨r, av, e, h1, h2⟩ := h
  exact does_of_gives he ⟨r, av, w, c, hp, e, Ext.refl _ _, hi, h1, h2⟩

theorem relL_map {w : World} {c : Cx} {ev : Operand → AV} {rho : Operand → Value} (he : ∀ x, RelV w c (ev x) (rho x)) (l : List Operand) : RelL w c (l.map ev) (l.map rho) := by
  induction l with
  | nil => simp [RelL]
  | cons x l ih => simp only [List.map_cons, RelL]; exact ⟨_, _, rfl, he x, ih⟩
theorem relP_map {w : World} {c : Cx} {ev : Operand → AV} {rho : Operand → Value} (he : ∀ x, RelV w c (ev x) (rho x)) (l : List (Nat × Operand)) : RelP w c (l.map fun p => (p.1, ev p.2)) (l.map fun p => (p.1, rho p.2)) := by
  induction l with
  | nil => simp [RelP]
  | cons x l ih => simp only [List.map_cons, RelP]; exact ⟨_, _, rfl, he x.2, ih⟩
theorem relO_map {w : World} {c : Cx} {ev : Operand → AV} {rho : Operand → Value} (he : ∀ x, RelV w c (ev x) (rho x)) (l : Option Operand) : RelO w c (l.map ev) (l.map rho) := by
  cases l with
  | none => simp [RelO]
  | some x => simp only [Option.map_some, RelO]; exact he x
theorem pairs_map (rho : Operand → Value) (ps : Array (Nat × Operand)) : (ps.map fun (i, x) => (i, rho x)) = ((ps.toList.map fun p => (p.1, rho p.2))).toArray := by
  rw [← Array.toList_inj]
  simp

theorem APick_sound {P : Program} {x y z : AV} {K : AV → Prop} (h : APick x y z K) {w : World} {c : Cx} {u v q : Value} (hx : RelV w c x u) (hy : RelV w c y v) (hz : RelV w c z q) :
    ∃ r av, (do pure (if ← asBool u then v else q) : Sem Value).run P w = .ok r w ∧ RelV w c av r ∧ K av := by
  unfold APick at h
  split at h
  · rename_i t
    simp only [RelV] at hx
    obtain ⟨rfl, -⟩ := hx
    cases t
    · exact ⟨q, z, by simp [asBool], hz, h.2 rfl⟩
    · exact ⟨v, y, by simp [asBool], hy, h.1 rfl⟩
  · exact h.elim
theorem ALen_sound {P : Program} {t : TypeId} {x : AV} {hp : Hp} {K : AV → Prop} (h : ALen P t x hp K) {w : World} {c : Cx} (hi : Inv w c hp) (ty : TypeId) {v : Value} (hx : RelV w c x v) :
    ∃ r av, (Builtin.len_ #[t] ty #[v]).run P w = .ok r w ∧ RelV w c av r ∧ K av := by
  have hsl : ∀ (b : Option Addr) (n m : Nat), tyEl P t ≠ none → (Builtin.len_ #[t] ty #[.slice b n m]).run P w = .ok (.int .i64 n) w := by
    intro b n m hne
    obtain ⟨e, he⟩ := Option.ne_none_iff_exists'.1 hne
    have hu := und_of_tyEl he
    have he2 : P.elem t = e := by simp [Program.elem, hu]
    exact run_len_slice (P := P) w t ty b n m (by rw [he2]; exact hu)
  unfold ALen at h
  split at h
  · rename_i s
    simp only [RelV] at hx
    obtain ⟨rfl, -⟩ := hx
    refine done h.2 rfl ?_
    simp [Builtin.len_, run_underlying (und_of_tyStr h.1), goInt]
  · rename_i k rows
    simp only [RelV, RV] at hx
    obtain ⟨a, cap, rfl, _⟩ := hx
    exact done h.2 rfl (hsl _ _ _ h.1)
  · simp only [RelV] at hx
    obtain ⟨rfl, -⟩ := hx
    exact done h.2 rfl (hsl _ _ _ h.1)
  · rename_i s ver k off len
    simp only [RelV] at hx
    obtain ⟨h1, h2, h⟩ := h
    have h3 := hx.2 (by rw [← h2, hi.cur])
    split at h3
    · obtain ⟨_, rfl, rfl⟩ := h3
      exact done h rfl (hsl _ _ _ h1)
    · obtain ⟨_, a, rfl, _⟩ := h3
      exact done h rfl (hsl _ _ _ h1)
  · exact h.elim
theorem AMax_sound {P : Program} {x y : AV} {K : AV → Prop} (h : AMax x y K) {w : World} {c : Cx} (ts : Array TypeId) (ty : TypeId) {u v : Value} (hx : RelV w c x u) (hy : RelV w c y v) :
    ∃ r av, (Builtin.max_ ts ty #[u, v]).run P w = .ok r w ∧ RelV w c av r ∧ K av := by
  unfold AMax at h
  split at h
  · simp only [RelV] at hx hy
    obtain ⟨rfl, -⟩ := hx
    obtain ⟨rfl, -⟩ := hy
    exact done h rfl (by simp [Builtin.max_, Builtin.max2])
  · exact h.elim
theorem AMin_sound {P : Program} {x y : AV} {K : AV → Prop} (h : AMin x y K) {w : World} {c : Cx} (ts : Array TypeId) (ty : TypeId) {u v : Value} (hx : RelV w c x u) (hy : RelV w c y v) :
    ∃ r av, (Builtin.min_ ts ty #[u, v]).run P w = .ok r w ∧ RelV w c av r ∧ K av := by
  unfold AMin at h
  split at h
  · simp only [RelV] at hx hy
    obtain ⟨rfl, -⟩ := hx
    obtain ⟨rfl, -⟩ := hy
    exact done h rfl (by simp [Builtin.min_, Builtin.min2])
  · exact h.elim

theorem run_callFunc {P : Program} {f : FuncId} (h : callable P f = true) (w : World) (args : Array Value) : (callFunc f args).run P w = .ok (.enter f args) w := by
  unfold callable at h
  split at h
  · rename_i fn hf
    simp only [Bool.and_eq_true, Bool.not_eq_true', beq_eq_false_iff_ne] at h
    have hb : fn.body ≠ none := by intro hq; rw [hq] at h; simp at h
    simp [callFunc, hf, h.2, hb]
  · cases h

theorem leaf_rel {w w' : World} {c : Cx} {S : Nat → Prop} {x : AV} (hx : x.leaf = true) {v : Value} (h : RV w S x v) : RelV w' c x v := by
  cases x <;> simp only [AV.leaf, Bool.false_eq_true] at hx
  case val u => simpa only [RV, RelV] using h
  case agg cs =>
    simp only [RV, RelV] at h ⊢
    obtain ⟨vs, e, ho, hr⟩ := h
    refine ⟨vs, e, ho, ?_⟩
    clear e ho
    induction cs generalizing vs with
    | nil => simpa only [RVL, RelL] using hr
    | cons x xs ih =>
      simp only [List.all_cons, Bool.and_eq_true] at hx
      simp only [RVL, RelL] at hr ⊢
      obtain ⟨u, us, rfl, h1, h2⟩ := hr
      refine ⟨u, us, rfl, ?_, ih hx.2 us h2⟩
      cases x <;> simp only [Bool.false_eq_true, false_and] at hx
      simpa only [RV, RelV] using h1
theorem flat_rel {w w' : World} {c : Cx} {S : Nat → Prop} {x : AV} (hx : x.flat = true) {v : Value} (h : RV w S x v) : RelV w' c x v := by
  unfold AV.flat at hx
  split at hx
  · rename_i vs
    simp only [RV, RelV] at h ⊢
    obtain ⟨us, e, hr⟩ := h
    refine ⟨us, e, ?_⟩
    clear e
    induction vs generalizing us with
    | nil => simpa only [RVL, RelL] using hr
    | cons x xs ih =>
      simp only [List.all_cons, Bool.and_eq_true] at hx
      simp only [RVL, RelL] at hr ⊢
      obtain ⟨u, us, rfl, h1, h2⟩ := hr
      exact ⟨u, us, rfl, leaf_rel hx.1 h1, ih hx.2 us h2⟩
  · exact leaf_rel hx h
theorem AFn_does {P : Program} {f : FuncId} {xs : List AV} {s : Site} {hp : Hp} {K : AV → Hp → Prop} (h : AFn P f xs s hp K) {o : Oper} {a : Act} {w : World} {c : Cx} (hi : Inv w c hp) {vs : List Value} (hx : RelL w c xs vs)
    (he : (execOp a.eval o).run P w = (callFunc f vs.toArray).run P w) : Does P o a w c K := by
  obtain ⟨hc, h⟩ := h
  have useH : ∀ {xs : List AV} {hp : Hp} {c : Cx}, ACallH P f xs s hp K → Inv w c hp → RelL w c xs vs → Does P o a w c K := by
    intro xs hp c h hi hx
    obtain ⟨ss, args, hs, r, hs', hok, hn, hlen, hm, ha, _, hK⟩ := h
    intro Q
    unfold Oper.wp
    rw [he, run_callFunc hc]
    refine (callH_sound hok hn hlen hm ha hi hx).mono ?_
    rintro e w' ⟨v, c', rfl, h1, h2, h3⟩
    exact ⟨v, c', _, _, rfl, h1, h2, h3, hK⟩
  rcases h with h | h | h
  · unfold ACallF at h
    split at h
    · rename_i l hp' hp2
      obtain ⟨args', r, hs, hok, hK⟩ := h
      obtain ⟨c', g1, g2, g3⟩ := passL_sound hi hx hp2
      intro Q
      unfold Oper.wp
      rw [he, run_callFunc hc]
      refine (hok w (still w c') vs (fun b hb => hb.1) (hs.sound g3)).mono ?_
      rintro e w' ⟨v, rfl, hb, hv⟩
      rcases hK with hK | ⟨hfl, hK⟩
      · obtain ⟨x1, x2⟩ := below_ext g2 hb
        exact ⟨v, c', r, hp', rfl, g1.trans x1, x2, RelV.of_RV _ _ (RV.mono (fun b h => ⟨grown_is_still g2 x1 b h, rfl⟩) _ _ hv), hK⟩
      · obtain ⟨x1, x2⟩ := below_ext hi hb
        exact ⟨v, c, r, hp, rfl, x1, x2, flat_rel hfl hv, hK⟩
    · exact h.elim
  · exact useH h hi hx
  · cases ep : passL hp xs with
    | none => rw [ep] at h; exact h.elim
    | some y =>
      obtain ⟨l, hp1⟩ := y
      rw [ep] at h
      obtain ⟨c1, g1, g2, g3⟩ := passL_sound hi hx ep
      intro Q
      refine Oper.wp_mono ?_ (useH (c := c1) h g2 (RelL.of_RVL _ _ g3) Q)
      rintro a' w' ⟨v, c', av, hp', e1, e2, e3, e4, e5⟩
      exact ⟨v, c', av, hp', e1, g1.trans e2, e3, e4, e5⟩

theorem ADo_sound {P : Program} {ev : Operand → AV} {o : Oper} {s : Site} {hp : Hp} {K : AV → Hp → Prop} (h : ADo P ev o s hp K) {a : Act} {w : World} {c : Cx} (hi : Inv w c hp) (he : ∀ x, RelV w c (ev x) (a.eval x)) : Does P o a w c K := by
  obtain ⟨dst, op, type, pos, after, guard⟩ := o
  cases op <;> simp only [ADo] at h
  case move x => exact does_of_run rfl (Ext.refl _ _) hi (he x) h
  case assign x => exact does_of_run rfl (Ext.refl _ _) hi (he x) h
  case pick x y z => 
    obtain ⟨r, av, e, h1, h2⟩ := APick_sound (P := P) h (he x) (he y) (he z)
    refine does_of_run (v := r) ?_ (Ext.refl _ _) hi h1 h2
    simp only [execOp, Sem.run_bind] at e ⊢
    cases hq : (asBool (a.eval x)).run P w with
    | ok b w2 => rw [hq] at e; simp only [Result.andThen_ok, Sem.run_pure, Result.ok.injEq] at e ⊢; obtain ⟨e, rfl⟩ := e; exact ⟨by rw [e], rfl⟩
    | halt x w2 => rw [hq] at e; simp at e
  case alloc t => exact does_of_gives rfl (AAlloc_sound h hi)
  case box t x => exact does_of_gives rfl (ABox_sound h hi (he x))
  case build t ps => exact does_of_pure hi (by simp only [execOp]; rw [pairs_map]) (ABuild_sound h hi (relP_map he _))
  case buildSlice t n ps => exact does_of_gives (by simp only [execOp]; rw [pairs_map]) (ABuildF_sound (parts := ps.toList.map fun p => (p.1, ev p.2)) (by rw [List.map_map, List.map_map]; exact h) hi (relP_map he _))
  case load t x => exact does_of_pure hi rfl (ALoad_sound h hi (he x))
  case store t x y =>
    obtain ⟨w', c', hp', e, h1, h2, h3⟩ := AStoreF_sound h hi (he x) (he y)
    exact does_of_skip (by simp only [execOp, Sem.run_bind, e, Result.andThen_ok, Sem.run_pure]) h1 h2 h3
  case nilCheck x =>
    unfold ANilCheck at h
    have hx := he x
    split at h
    · rename_i cs e
      rw [e] at hx
      have hx2 := hx
      simp only [RelV, RV] at hx2
      obtain ⟨b, off, e2, _⟩ := hx2
      exact does_of_run (v := a.eval x) (by simp only [execOp, e2]; rfl) (Ext.refl _ _) hi hx h
    · rename_i s' v off e
      rw [e] at hx
      have hx2 := hx
      simp only [RelV] at hx2
      obtain ⟨b, cp, _, e2⟩ := hx2.2 (by rw [← h.1, hi.cur])
      exact does_of_run (v := a.eval x) (by simp only [execOp, e2]; rfl) (Ext.refl _ _) hi hx h.2
    · rename_i s' v k i off e
      rw [e] at hx
      have hx2 := hx
      simp only [RelV] at hx2
      obtain ⟨b, cp, _, e2⟩ := hx2.2 (by rw [← h.1, hi.cur])
      exact does_of_run (v := a.eval x) (by simp only [execOp, e2]; rfl) (Ext.refl _ _) hi hx h.2
    · rename_i f cap e
      rw [e] at hx
      have hx2 := hx
      simp only [RelV] at hx2
      obtain ⟨vs, e2, _⟩ := hx2
      exact does_of_run (v := a.eval x) (by simp only [execOp, e2]; rfl) (Ext.refl _ _) hi hx h
    · exact h.elim
  case binOp op t x y yt =>
    split at h
    · rename_i hn
      exact does_of_pure hi rfl (ANil_sound h hi hn x (he x) a rfl)
    · exact does_of_pure hi rfl (ABin_sound h x y (he x) (he y))
  case field t x j => exact does_of_pure hi rfl (AField_sound h (he x))
  case lookup t x i ok => exact does_of_pure hi rfl (ALookup_sound h hi (he x) (he i))
  case mapUpdate t m k x =>
    obtain ⟨w', hp', e, h1, h2, h3⟩ := AMapUpd_sound h hi (he m) (he k) (he x)
    exact does_of_skip (by simp only [execOp, Sem.run_bind, e, Result.andThen_ok, Sem.run_pure]) h1 h2 h3
  case makeMap t r =>
    obtain ⟨rfl, h⟩ := h
    exact does_of_gives rfl (AMakeMap_sound h hi)
  case unOp op t x => exact does_of_pure hi rfl (AUn_sound h (he x))
  case convert src dst x => exact does_of_pure hi rfl (AConv_sound h (he x))
  case makeInterface t x =>
    refine does_of_pure (m := Instr.makeInterface t (a.eval x)) hi rfl ⟨.iface t (a.eval x), .iface t (ev x), ?_, by simp only [RelV]; exact ⟨_, rfl, he x⟩, h.2⟩
    have h1 := h.1
    unfold tyNoIf at h1
    split at h1
    · cases h1
    · rename_i d hd hu
      simp only [Instr.makeInterface, Sem.run_bind, run_underlying hu, Result.andThen_ok]
      cases d <;> first | rfl | exact absurd rfl (hd _)
    · cases h1
  case makeFunc f first cap =>
    unfold AMakeFunc at h
    split at h
    · obtain ⟨h1, h2⟩ := h
      have hf : first = #[] := by rw [← Array.toList_inj]; exact h1
      subst hf
      refine does_of_pure (m := Instr.makeFunc _ _ _) hi rfl ⟨_, _, rfl, ?_, h2⟩
      simp only [RelV]
      exact ⟨cap.toList.map a.eval, by simp [← Array.toList_inj], relL_map he _⟩
    · exact h.elim
  case makeSlice t l m => exact does_of_gives rfl (AMake_sound h hi (he l) (he m))
  case slice t x lo hi' mx =>
    obtain ⟨rfl, h⟩ := h
    exact does_of_pure hi rfl (ASlice_sound h hi (he x) (relO_map he _) (relO_map he _))
  case fieldAddr t x j => exact does_of_pure hi rfl (AFieldAddr_sound h hi (he x))
  case indexAddr t x i => exact does_of_pure hi rfl (AIndexAddr_sound h hi (he x) (he i))
  case index t x i => exact does_of_pure hi rfl (AIndex_sound h (he x) (he i))
  case extract x i => exact does_of_pure hi rfl (AExtract_sound h (he x))
  case call cl =>
    obtain ⟨callee, args, ts⟩ := cl
    unfold ACallOp at h
    have hargs : args.map a.eval = (args.toList.map a.eval).toArray := by simp [← Array.toList_inj]
    cases callee with
    | builtin b =>
      simp only at h
      have hl := relL_map he args.toList
      have hex : ∀ m : Sem Value, builtin b ts type (args.map fun | .const _ => true | _ => false) (args.toList.map a.eval).toArray = (do pure (.value (← m))) → execOp a.eval { dst, op := .call { callee := .builtin b, args, argTypes := ts }, type, pos, after, guard } = (do pure (.value (← m))) := by
        intro m hm
        simp only [execOp, resolve, hargs]
        exact hm
      unfold ABuiltin at h
      split at h
      · rename_i x hx
        split at h
        · rename_i t ht
          have hts : ts = #[t] := by rw [← Array.toList_inj]; exact ht
          subst hts
          rw [hx] at hl
          simp only [RelL] at hl
          obtain ⟨u, us, e1, h1, rfl⟩ := hl
          exact does_of_pure hi (hex (Builtin.len_ #[t] type #[u]) (by rw [e1]; rfl)) (ALen_sound h hi type h1)
        · exact h.elim
      · rename_i x y hx
        rw [hx] at hl
        simp only [RelL] at hl
        obtain ⟨u, us, e1, h1, u2, us2, rfl, h2, rfl⟩ := hl
        exact does_of_gives (hex (Builtin.append_ ts type #[u, u2]) (by rw [e1]; rfl)) (AAppend_sound h hi type h1 h2)
      · rename_i x y hx
        rw [hx] at hl
        simp only [RelL] at hl
        obtain ⟨u, us, e1, h1, u2, us2, rfl, h2, rfl⟩ := hl
        exact does_of_pure hi (hex (Builtin.max_ ts type #[u, u2]) (by rw [e1]; rfl)) (AMax_sound h ts type h1 h2)
      · rename_i x y hx
        rw [hx] at hl
        simp only [RelL] at hl
        obtain ⟨u, us, e1, h1, u2, us2, rfl, h2, rfl⟩ := hl
        exact does_of_pure hi (hex (Builtin.min_ ts type #[u, u2]) (by rw [e1]; rfl)) (AMin_sound h ts type h1 h2)
      · rename_i x y hx
        rw [hx] at hl
        simp only [RelL] at hl
        obtain ⟨u, us, e1, h1, u2, us2, rfl, h2, rfl⟩ := hl
        exact does_of_gives (hex (Builtin.copy_ ts type #[u, u2]) (by rw [e1]; rfl)) (ACopy_sound h hi type h1 h2)
      · rename_i x hx
        rw [hx] at hl
        simp only [RelL] at hl
        obtain ⟨u, us, e1, h1, rfl⟩ := hl
        exact does_of_gives (hex (Builtin.clear_ ts type #[u]) (by rw [e1]; rfl)) (AClear_sound h hi type h1)
      · rename_i x hx
        rw [hx] at hl
        simp only [RelL] at hl
        obtain ⟨u, us, e1, h1, rfl⟩ := hl
        exact does_of_gives (hex (Builtin.cap_ ts type #[u]) (by rw [e1]; rfl)) (ACap_sound h hi type h1)
      · exact h.elim
    | value f =>
      simp only at h
      have hf := he f
      split at h
      · rename_i g cap e
        rw [e] at hf
        simp only [RelV] at hf
        obtain ⟨vs, e2, hf⟩ := hf
        refine AFn_does h hi ((relL_map he args.toList).append hf) ?_
        simp only [execOp, resolve, e2, Deferred.ofValue, Sem.run_bind, Sem.run_pure, Result.andThen_ok, invoke, hargs]
        simp
      · exact h.elim
    | invoke r m => exact h.elim
end Go.Proofs.YtanbgeelphfggaaDoor.E
