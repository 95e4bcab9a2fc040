/- The abstract machine of this claim, part P: fields of values; what is held against nil; append of zeros. No conditions. -/
import Derived.Test.YtanbgeelphfggaaDoorEngQ
namespace Go.Proofs.YtanbgeelphfggaaDoor.E
open Go
set_option linter.unusedSimpArgs false
set_option linter.unusedVariables false
set_option linter.unusedSectionVars false
set_option maxRecDepth 20000

/-! ### A field of a struct by value -/
def AField (P : Program) (t : TypeId) (x : AV) (j : Nat) (K : AV → Prop) : Prop :=
  match x with
  | .agg cs => match tyFT P t j with
    | some (off, ft) => match tyAgg P ft, tySz P ft with
      | some true, some n => off + n ≤ cs.length ∧ K (.agg ((cs.drop off).take n))
      | some false, _ => ∃ y, cs[off]? = some y ∧ K y
      | _, _ => False
    | none => False
  | _ => False
theorem AField_sound {P : Program} {t : TypeId} {x : AV} {j : Nat} {K : AV → Prop} (h : AField P t x j K) {w : World} {c : Cx} {v : Value} (hx : RelV w c x v) :
    ∃ r a, (Instr.field t v j).run P w = .ok r w ∧ RelV w c a r ∧ K a := by
  unfold AField at h
  split at h
  · rename_i cs
    simp only [RelV] at hx
    obtain ⟨vs, rfl, ho, hr⟩ := hx
    split at h
    · rename_i off ft hft
      have hu : ∃ (fs : Array Field) (f : Field), P.underlying t = some (.struct fs) ∧ fs[j]? = some f ∧ f.offset = off ∧ f.type = ft := by
        unfold tyFT at hft
        split at hft
        · rename_i fs hu
          obtain ⟨f, hf, h2⟩ := Option.map_eq_some_iff.1 hft
          cases h2
          exact ⟨fs, f, hu, hf, rfl, rfl⟩
        · cases hft
      obtain ⟨fs, f, hu, hf, rfl, rfl⟩ := hu
      split at h
      · rename_i n ha hn
        obtain ⟨hle, h⟩ := h
        refine ⟨.agg ((vs.drop f.offset).take n).toArray, _, ?_, ?_, h⟩
        · simp only [Instr.field, Sem.run_bind, run_underlying hu, Result.andThen_ok, hf, asAgg, Sem.run_pure, part_agg w ha hn]
        · simp only [RelV]
          exact ⟨_, rfl, fun u hu => ho u (List.mem_of_mem_drop (List.mem_of_mem_take hu)), (hr.drop _).take _⟩
      · rename_i ha
        obtain ⟨y, hy, h⟩ := h
        obtain ⟨u, hu2, hry⟩ := hr.get _ _ hy
        refine ⟨u, _, ?_, hry, h⟩
        have h1 : ((vs.toArray).toList.drop f.offset).take 1 = [u] := by
          simp only
          rw [List.drop_eq_getElem_cons (lt_of_get hu2)]
          simp only [List.take_succ_cons, List.take_zero, List.cons.injEq, and_true]
          exact (List.getElem?_eq_some_iff.1 hu2).2
        simp only [Instr.field, Sem.run_bind, run_underlying hu, Result.andThen_ok, hf, asAgg, Sem.run_pure, part_one w ha h1]
      · exact h.elim
    · exact h.elim
  · exact h.elim

/-! ### What is held against nil -/
inductive NK | slice | pointer | map | func | iface
  deriving DecidableEq
def tyNil (P : Program) (t : TypeId) : Option NK :=
  match P.underlying t with
  | some (.slice _) => some .slice
  | some (.pointer _) => some .pointer
  | some (.map _ _) => some .map
  | some (.func _ _ _) => some .func
  | some (.interface _) => some .iface
  | _ => none
def nilOf : NK → Value
  | .slice => .slice none 0 0
  | .pointer => .pointer none
  | .map => .map none
  | .func => .nilFunc
  | .iface => .nilIface
def nv : NK → Value → Bool
  | .slice, .slice none 0 0 => true
  | .pointer, .pointer none => true
  | .map, .map none => true
  | .func, .nilFunc => true
  | .iface, .nilIface => true
  | _, _ => false
theorem nv_eq {k : NK} {v : Value} (h : nv k v = true) : v = nilOf k := by
  unfold nv at h
  split at h <;> first | rfl | cases h
/-- Is a value nil? 'none': it may be, or not. -/
def nilS (hp : Hp) : AV → Option (Option Bool × Prop)
  | .list _ rows => some (none, rows = [])
  | .own s ver _ _ len => if (hp.get s).1 = ver then some (none, len = 0) else none
  | .val v => if nv .slice v = true then some (some true, True) else none
  | _ => none
def nilP (hp : Hp) : AV → Option (Option Bool × Prop)
  | .ptr s ver _ => if (hp.get s).1 = ver then some (some false, True) else none
  | .ept s ver _ _ _ => if (hp.get s).1 = ver then some (some false, True) else none
  | .rop _ => some (some false, True)
  | .val v => if nv .pointer v = true then some (some true, True) else none
  | _ => none
def nilM (hp : Hp) : AV → Option (Option Bool × Prop)
  | .map s ver => if (hp.get s).1 = ver then some (some false, True) else none
  | .val v => if nv .map v = true then some (some true, True) else none
  | _ => none
def nilF : AV → Option (Option Bool × Prop)
  | .func _ _ => some (some false, True)
  | .val v => if nv .func v = true then some (some true, True) else none
  | _ => none
def nilI : AV → Option (Option Bool × Prop)
  | .iface _ _ => some (some false, True)
  | .val v => if nv .iface v = true then some (some true, True) else none
  | _ => none
def isNil (hp : Hp) : NK → AV → Option (Option Bool × Prop)
  | .slice => nilS hp
  | .pointer => nilP hp
  | .map => nilM hp
  | .func => nilF
  | .iface => nilI
def ANil (P : Program) (op : BinOp) (t : TypeId) (x : AV) (hp : Hp) (K : AV → Prop) : Prop :=
  match op, tyNil P t with
  | .eql, some k => match isNil hp k x with
    | some (some b, _) => K (.val (.bool b))
    | some (none, p) => (p → K (.val (.bool true))) ∧ K (.val (.bool false))
    | none => False
  | .neq, some k => match isNil hp k x with
    | some (some b, _) => K (.val (.bool !b))
    | some (none, p) => (p → K (.val (.bool false))) ∧ K (.val (.bool true))
    | none => False
  | _, _ => False
/-- The constant nil of a type. -/
def nilC (P : Program) (t : TypeId) : Operand → Bool
  | .const (.slice none 0 0) => tyNil P t == some .slice
  | .const (.pointer none) => tyNil P t == some .pointer
  | .const (.map none) => tyNil P t == some .map
  | .const .nilFunc => tyNil P t == some .func
  | .const .nilIface => tyNil P t == some .iface
  | _ => false
theorem nilC_spec {P : Program} {t : TypeId} {y : Operand} (h : nilC P t y = true) : ∃ k, tyNil P t = some k ∧ y = .const (nilOf k) := by
  unfold nilC at h
  split at h <;> first | exact ⟨_, by simpa using h, rfl⟩ | cases h
section
variable {P : Program} (w : World) {t : TypeId}
theorem eq_ptr_nil {e : TypeId} (hu : P.underlying t = some (.pointer e)) (p : Option Addr) : (Op.equal t (.pointer p) (.pointer none)).run P w = .ok p.isNone w := by
  show (Op.equalIn (9999 + 1) t _ _).run P w = _
  unfold Op.equalIn
  simp only [Sem.run_bind, run_underlying hu, Result.andThen_ok]
  cases p <;> rfl
theorem eq_map_nil {e e' : TypeId} (hu : P.underlying t = some (.map e e')) (p : Option Nat) : (Op.equal t (.map p) (.map none)).run P w = .ok p.isNone w := by
  show (Op.equalIn (9999 + 1) t _ _).run P w = _
  unfold Op.equalIn
  simp only [Sem.run_bind, run_underlying hu, Result.andThen_ok]
  cases p <;> rfl
theorem eq_func_nil {e e' e''} (hu : P.underlying t = some (.func e e' e'')) (v : Value) (hv : v = .nilFunc ∨ ∃ f a b, v = .func f a b) : (Op.equal t v .nilFunc).run P w = .ok (match v with | .nilFunc => true | _ => false) w := by
  show (Op.equalIn (9999 + 1) t _ _).run P w = _
  unfold Op.equalIn
  simp only [Sem.run_bind, run_underlying hu, Result.andThen_ok]
  rcases hv with rfl | ⟨f, a, b, rfl⟩ <;> rfl
theorem eq_iface_nil {e} (hu : P.underlying t = some (.interface e)) (v : Value) (hv : v = .nilIface ∨ ∃ f a, v = .iface f a) : (Op.equal t v .nilIface).run P w = .ok (match v with | .nilIface => true | _ => false) w := by
  show (Op.equalIn (9999 + 1) t _ _).run P w = _
  unfold Op.equalIn
  simp only [Sem.run_bind, run_underlying hu, Result.andThen_ok]
  rcases hv with rfl | ⟨f, a, rfl⟩ <;> rfl
end
theorem eqNil_run {P : Program} {t : TypeId} {k : NK} (hk : tyNil P t = some k) {hp : Hp} {x : AV} {o : Option Bool × Prop} (h : isNil hp k x = some o) {w : World} {c : Cx} (hi : Inv w c hp) {v : Value} (hx : RelV w c x v) (op : BinOp) (xo : Operand) :
    (eqGuard op t xo (.const (nilOf k)) v (nilOf k)).run P w = .ok () w ∧ ∃ b, (Op.equal t v (nilOf k)).run P w = .ok b w ∧ (match o with | (some b', _) => b = b' | (none, p) => b = true → p) := by
  have gd : ∀ v, (∀ cs, v ≠ .agg cs) → (eqGuard op t xo (.const (nilOf k)) v (nilOf k)).run P w = .ok () w := by
    intro v hv
    cases v <;> first | exact absurd rfl (hv _) | (cases op <;> cases k <;> simp [eqGuard, nilOf] <;> done) | (cases op <;> simp [eqGuard])
  cases k <;> simp only [isNil] at h
  · have hu : ∃ e, P.underlying t = some (.slice e) := by
      unfold tyNil at hk
      split at hk <;> first | exact ⟨_, by assumption⟩ | cases hk
    obtain ⟨e, hu⟩ := hu
    cases x <;> simp only [nilS, reduceCtorEq] at h
    case list k rows =>
      cases h
      simp only [RelV, RV] at hx
      obtain ⟨a, cap, rfl, _, _, hr⟩ := hx
      refine ⟨gd _ (by intro cs h; cases h), _, run_equal_slice_nil w t e a _ _ hu, ?_⟩
      rintro hb
      rcases hr with hr | ⟨b, off, rfl, _⟩
      · exact hr
      · cases hb
    case own s ver k' off len =>
      by_cases hv : (hp.get s).1 = ver
      · rw [if_pos hv] at h
        cases h
        simp only [RelV] at hx
        have hx := hx.2 (by rw [← hv, hi.cur])
        cases hl : c.loc s with
        | none =>
          rw [hl] at hx
          obtain ⟨_, rfl, rfl⟩ := hx
          exact ⟨gd _ (by intro cs h; cases h), _, run_equal_slice_nil w t e none _ _ hu, fun _ => rfl⟩
        | some q =>
          obtain ⟨b, cp⟩ := q
          rw [hl] at hx
          obtain ⟨_, a, rfl, _⟩ := hx
          exact ⟨gd _ (by intro cs h; cases h), _, run_equal_slice_nil w t e (some a) _ _ hu, fun hb => by cases hb⟩
      · rw [if_neg hv] at h; cases h
    case val u =>
      simp only [RelV] at hx
      obtain ⟨rfl, -⟩ := hx
      split at h
      · rename_i hn
        have := nv_eq hn
        subst this
        cases h
        exact ⟨gd _ (by intro cs h; cases h), _, run_equal_slice_nil w t e none _ _ hu, rfl⟩
      · cases h
  · have hu : ∃ e, P.underlying t = some (.pointer e) := by
      unfold tyNil at hk
      split at hk <;> first | exact ⟨_, by assumption⟩ | cases hk
    obtain ⟨e, hu⟩ := hu
    cases x <;> simp only [nilP, reduceCtorEq] at h
    case ptr s ver off =>
      by_cases hv : (hp.get s).1 = ver
      · rw [if_pos hv] at h
        cases h
        simp only [RelV] at hx
        obtain ⟨b, cp, _, rfl⟩ := hx.2 (by rw [← hv, hi.cur])
        exact ⟨gd _ (by intro cs h; cases h), false, eq_ptr_nil w hu _, rfl⟩
      · rw [if_neg hv] at h; cases h
    case ept s ver k' i off =>
      by_cases hv : (hp.get s).1 = ver
      · rw [if_pos hv] at h
        cases h
        simp only [RelV] at hx
        obtain ⟨b, cp, _, rfl⟩ := hx.2 (by rw [← hv, hi.cur])
        exact ⟨gd _ (by intro cs h; cases h), false, eq_ptr_nil w hu _, rfl⟩
      · rw [if_neg hv] at h; cases h
    case rop cs =>
      cases h
      simp only [RelV, RV] at hx
      obtain ⟨b, off, rfl, _⟩ := hx
      exact ⟨gd _ (by intro cs h; cases h), false, eq_ptr_nil w hu _, rfl⟩
    case val u =>
      simp only [RelV] at hx
      obtain ⟨rfl, -⟩ := hx
      split at h
      · rename_i hn
        have := nv_eq hn
        subst this
        cases h
        exact ⟨gd _ (by intro cs h; cases h), true, eq_ptr_nil w hu _, rfl⟩
      · cases h
  · have hu : ∃ e e', P.underlying t = some (.map e e') := by
      unfold tyNil at hk
      split at hk <;> first | exact ⟨_, _, by assumption⟩ | cases hk
    obtain ⟨e, e', hu⟩ := hu
    cases x <;> simp only [nilM, reduceCtorEq] at h
    case map s ver =>
      by_cases hv : (hp.get s).1 = ver
      · rw [if_pos hv] at h
        cases h
        simp only [RelV] at hx
        obtain ⟨b, cp, _, rfl⟩ := hx.2 (by rw [← hv, hi.cur])
        exact ⟨gd _ (by intro cs h; cases h), false, eq_map_nil w hu _, rfl⟩
      · rw [if_neg hv] at h; cases h
    case val u =>
      simp only [RelV] at hx
      obtain ⟨rfl, -⟩ := hx
      split at h
      · rename_i hn
        have := nv_eq hn
        subst this
        cases h
        exact ⟨gd _ (by intro cs h; cases h), true, eq_map_nil w hu _, rfl⟩
      · cases h
  · have hu : ∃ e e' e'', P.underlying t = some (.func e e' e'') := by
      unfold tyNil at hk
      split at hk <;> first | exact ⟨_, _, _, by assumption⟩ | cases hk
    obtain ⟨e, e', e'', hu⟩ := hu
    cases x <;> simp only [nilF, reduceCtorEq] at h
    case func f cap =>
      cases h
      simp only [RelV] at hx
      obtain ⟨vs, rfl, _⟩ := hx
      exact ⟨gd _ (by intro cs h; cases h), false, eq_func_nil w hu _ (.inr ⟨_, _, _, rfl⟩), rfl⟩
    case val u =>
      simp only [RelV] at hx
      obtain ⟨rfl, -⟩ := hx
      split at h
      · rename_i hn
        have := nv_eq hn
        subst this
        cases h
        exact ⟨gd _ (by intro cs h; cases h), true, eq_func_nil w hu _ (.inl rfl), rfl⟩
      · cases h
  · have hu : ∃ e, P.underlying t = some (.interface e) := by
      unfold tyNil at hk
      split at hk <;> first | exact ⟨_, by assumption⟩ | cases hk
    obtain ⟨e, hu⟩ := hu
    cases x <;> simp only [nilI, reduceCtorEq] at h
    case iface t' y =>
      cases h
      simp only [RelV] at hx
      obtain ⟨u, rfl, _⟩ := hx
      exact ⟨gd _ (by intro cs h; cases h), false, eq_iface_nil w hu _ (.inr ⟨_, _, rfl⟩), rfl⟩
    case val u =>
      simp only [RelV] at hx
      obtain ⟨rfl, -⟩ := hx
      split at h
      · rename_i hn
        have := nv_eq hn
        subst this
        cases h
        exact ⟨gd _ (by intro cs h; cases h), true, eq_iface_nil w hu _ (.inl rfl), rfl⟩
      · cases h
theorem ANil_sound {P : Program} {op : BinOp} {t : TypeId} {x : AV} {hp : Hp} {K : AV → Prop} (h : ANil P op t x hp K) {w : World} {c : Cx} (hi : Inv w c hp) {y : Operand} (hy : nilC P t y = true) (xo : Operand) {u v : Value} (hx : RelV w c x u) (a : Act) (hv : v = a.eval y) :
    ∃ r av, ((do eqGuard op t xo y u v; binOp op t u v : Sem Value)).run P w = .ok r w ∧ RelV w c av r ∧ K av := by
  obtain ⟨k, hk, rfl⟩ := nilC_spec hy
  have hv' : v = nilOf k := hv
  subst hv'
  unfold ANil at h
  rw [hk] at h
  have hbe : ∀ v, binOp .eql t v (nilOf k) = (do pure (.bool (← Op.equal t v (nilOf k)))) := fun v => by cases k <;> cases v <;> rfl
  have hbn : ∀ v, binOp .neq t v (nilOf k) = (do pure (.bool (!(← Op.equal t v (nilOf k))))) := fun v => by cases k <;> cases v <;> rfl
  split at h
  · rename_i k' e
    have e := Option.some.inj e
    subst e
    cases hq : isNil hp k x with
    | none => rw [hq] at h; exact h.elim
    | some o =>
      rw [hq] at h
      obtain ⟨g1, b, g2, g3⟩ := eqNil_run hk hq hi hx .eql xo
      have hr : ((do eqGuard .eql t xo (.const (nilOf k)) u (nilOf k); binOp .eql t u (nilOf k) : Sem Value)).run P w = .ok (.bool b) w := by
        rw [hbe]
        simp only [Sem.run_bind, g1, Result.andThen_ok, g2, Sem.run_pure]
      obtain ⟨o1, p⟩ := o
      cases o1 with
      | some b' => simp only at h g3; subst g3; exact done h rfl hr
      | none =>
        simp only at h g3
        cases b with
        | true => exact done (h.1 (g3 rfl)) rfl hr
        | false => exact done h.2 rfl hr
  · rename_i k' e
    have e := Option.some.inj e
    subst e
    cases hq : isNil hp k x with
    | none => rw [hq] at h; exact h.elim
    | some o =>
      rw [hq] at h
      obtain ⟨g1, b, g2, g3⟩ := eqNil_run hk hq hi hx .neq xo
      have hr : ((do eqGuard .neq t xo (.const (nilOf k)) u (nilOf k); binOp .neq t u (nilOf k) : Sem Value)).run P w = .ok (.bool !b) w := by
        rw [hbn]
        simp only [Sem.run_bind, g1, Result.andThen_ok, g2, Sem.run_pure]
      obtain ⟨o1, p⟩ := o
      cases o1 with
      | some b' => simp only at h g3; subst g3; exact done h rfl hr
      | none =>
        simp only at h g3
        cases b with
        | true => exact done (h.1 (g3 rfl)) rfl hr
        | false => exact done h.2 rfl hr
  · exact h.elim
end Go.Proofs.YtanbgeelphfggaaDoor.E
