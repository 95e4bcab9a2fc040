/- The abstract machine of this claim, part V: a region whose order is open comes to what its text's order comes to. No conditions. -/
import Derived.Test.YtanbgeelphfggaaDoorEngT
namespace Go.Proofs.YtanbgeelphfggaaDoor.E
open Go
set_option linter.unusedSimpArgs false
set_option linter.unusedVariables false
set_option linter.unusedSectionVars false
set_option maxRecDepth 20000

theorem mem_aftL {l : List Edge} {m : Nat} : m ∈ aftL l ↔ ∃ e ∈ l, Region.binds .any e = true ∧ e.on = m := by
  induction l with
  | nil => simp [aftL]
  | cons e r ih =>
    simp only [aftL]
    split
    · rename_i h
      simp only [List.mem_cons, ih]
      constructor
      · rintro (rfl | ⟨e', h1, h2, h3⟩)
        · exact ⟨e, .inl rfl, h, rfl⟩
        · exact ⟨e', .inr h1, h2, h3⟩
      · rintro ⟨e', rfl | h1, h2, h3⟩
        · exact .inl h3.symm
        · exact .inr ⟨e', h1, h2, h3⟩
    · rename_i h
      simp only [ih, List.mem_cons]
      constructor
      · rintro ⟨e', h1, h2, h3⟩
        exact ⟨e', .inr h1, h2, h3⟩
      · rintro ⟨e', rfl | h1, h2, h3⟩
        · exact absurd h2 h
        · exact ⟨e', h1, h2, h3⟩
def statB (ops : Array Oper) : Bool :=
  let a := afts ops.toList
  Region.noSelect ops && (List.range ops.size).all fun j => (a.getD j []).all (fun m => decide (m < j)) && (List.range j).all fun i =>
    match ops[i]?, ops[j]? with
    | some x, some y => x.apart ops y || ordB a a.length i j
    | _, _ => false

section
variable {P : Program} {ops : Array Oper}
/-- Whatever the state, if it is the same where the operation looks. -/
def GoodAt (P : Program) (ops : Array Oper) (j : Nat) (o : Oper) (st : ASt) (e : Eff) : Prop :=
  ∀ (st' : ASt) (w : World) (c : Cx) (a : Act) (Q : Exit → Act → World → Prop), st'.n = st.n → (∀ t ∈ o.looksAt ops, tget st'.tm t = tget st.tm t) → Agree e.D st.hp st'.hp → Sim w c st' a →
    wpOp P ops Q j (fun a' w' => ∃ c', Ext w c w' c' ∧ Sim w' c' (st'.eff o.dst e) a') a w
theorem GoodAt.eqv {j : Nat} {o : Oper} {st st2 : ASt} {e : Eff} (h : GoodAt P ops j o st e) (he : Eqv st st2) : GoodAt P ops j o st2 e := by
  intro st' w c a Q hn ht hag hs
  exact h st' w c a Q (hn.trans he.n) (fun t htt => (ht t htt).trans (he.tm t)) (fun s hs => (hag s hs).trans (he.hp s)) hs

theorem opOut_sub (ev : Operand → AV) (o : Oper) (s : Site) (hp : Hp) : ∀ k ∈ opOut ev o s hp, k ∈ opIn ev o s hp := by
  intro k hk
  obtain ⟨dst, op, type, pos, after, guard⟩ := o
  have inS : ∀ (xs : List AV) (x : AV), x ∈ xs → ∀ k ∈ (sts x).map Site.key, k ∈ (stsL xs).map Site.key ++ [s.key] := fun xs x hx k hk => by
    obtain ⟨q, hq, rfl⟩ := List.mem_map.1 hk
    exact List.mem_append_left _ (List.mem_map_of_mem (mem_stsL hx hq))
  cases op <;> simp only [opOut, List.not_mem_nil] at hk
  case alloc t => simp only [opIn]; exact List.mem_append_right _ hk
  case box t x => simp only [opIn]; exact List.mem_append_right _ hk
  case buildSlice t n ps =>
    simp only [opIn, Op.operands, List.map_map] at hk ⊢
    simpa [Function.comp_def] using hk
  case makeMap t r => simp only [opIn]; exact List.mem_append_right _ hk
  case makeSlice t l m => simp only [opIn]; exact List.mem_append_right _ hk
  case store t x y =>
    simp only [opIn]
    have hx := inS ((Op.store t x y).operands.toList.map ev) (ev x) (by simp [Op.operands]) k
    have hy := inS ((Op.store t x y).operands.toList.map ev) (ev y) (by simp [Op.operands]) k
    split at hk
    · rw [List.map_append] at hk
      rcases List.mem_append.1 hk with hk | hk
      · exact hx hk
      · exact hy hk
    · exact hx hk
  case mapUpdate t m x y => simp only [opIn]; exact inS _ _ (by simp [Op.operands]) k hk
  case call cl =>
    obtain ⟨callee, args, ts⟩ := cl
    cases callee with
    | value f => simpa only [opIn] using hk
    | invoke r m => simp at hk
    | builtin b =>
      simp only [opIn]
      have key : k ∈ (match args.toList with | x :: _ => (sts (ev x)).map Site.key | [] => []) ++ [s.key] → k ∈ (stsL (args.toList.map ev)).map Site.key ++ [s.key] := by
        intro hk
        rcases List.mem_append.1 hk with hk | hk
        · cases ha : args.toList with
          | nil => rw [ha] at hk; simp at hk
          | cons x xs => rw [ha] at hk; exact inS _ _ (by simp) k hk
        · exact List.mem_append_right _ hk
      cases b <;> first | exact key hk | (simp only [List.not_mem_nil] at hk)

theorem looks_ev {o : Oper} {st st' : ASt} (h : ∀ t ∈ o.looksAt ops, tget st'.tm t = tget st.tm t) : ∀ x ∈ o.op.operands.toList, ev st'.tm x = ev st.tm x := by
  intro x hx
  cases x with
  | tmp t =>
    refine h t (List.mem_append_left _ (List.mem_filterMap.2 ⟨.tmp t, hx, rfl⟩))
  | _ => rfl
theorem good_step {j : Nat} {o : Oper} {st : ASt} {K : ASt → Prop} (ho : ops[j]? = some o) (hd : opDet P (ev st.tm) o st.hp) (h : AStep P o K st) (hw : ∀ st' (w : World) (c : Cx) a, (∀ t ∈ o.looksAt ops, tget st'.tm t = tget st.tm t) → Sim w c st' a → Region.wanted o (yielded ops a.tmps) = true) :
    ∃ v up, K (st.eff o.dst ⟨v, up, opIn (ev st.tm) o (siteOf o) st.hp, opOut (ev st.tm) o (siteOf o) st.hp⟩) ∧ (∀ q ∈ up, q.1.key ∈ opOut (ev st.tm) o (siteOf o) st.hp) ∧ GoodAt P ops j o st ⟨v, up, opIn (ev st.tm) o (siteOf o) st.hp, opOut (ev st.tm) o (siteOf o) st.hp⟩ := by
  obtain ⟨v, up, h1, h2, h3⟩ := ADo_loc h hd
  refine ⟨v, up, h2, h1, fun st' w c a Q hn ht hag hs => ?_⟩
  unfold wpOp
  simp only [ho]
  rw [if_pos (hw st' w c a ht hs)]
  have hstep : AStep P o (fun s => s = st'.eff o.dst ⟨v, up, opIn (ev st.tm) o (siteOf o) st.hp, opOut (ev st.tm) o (siteOf o) st.hp⟩) st' := h3 (ev st'.tm) st'.hp (looks_ev ht) hag _ rfl
  refine .inl (Oper.wp_mono ?_ (AStep_sound hstep hs Q))
  rintro a' w' ⟨c', st2, e1, e2, rfl⟩
  exact ⟨c', e1, e2⟩
theorem good_skip {j : Nat} {o : Oper} {st : ASt} (ho : ops[j]? = some o) (hw : ∀ st' (w : World) (c : Cx) a, (∀ t ∈ o.looksAt ops, tget st'.tm t = tget st.tm t) → Sim w c st' a → Region.wanted o (yielded ops a.tmps) = false) :
    GoodAt P ops j o st ⟨.val (.tuple #[]), [], [], []⟩ := by
  intro st' w c a Q hn ht hag hs
  unfold wpOp
  simp only [ho]
  rw [if_neg (by rw [hw st' w c a ht hs]; simp)]
  refine ⟨c, Ext.refl _ _, ?_⟩
  have := hs.step (Ext.refl _ _) hs.inv o.dst (x := .val (.tuple #[])) (v := undef) (by simp only [RelV]; exact ⟨rfl, rfl⟩)
  exact this

def foldE : List Oper → List Eff → ASt → ASt
  | o :: os, e :: es, st => foldE os es (st.eff o.dst e)
  | _, _, st => st
theorem Eqv.eff {st st' : ASt} (h : Eqv st st') (d : Option Nat) (e : Eff) : Eqv (st.eff d e) (st'.eff d e) := by
  refine ⟨by simp only [eff_n, h.n], fun t => by rw [eff_tm, eff_tm, h.n, h.tm], fun s => ?_⟩
  rw [eff_hp, eff_hp, app_get, app_get, h.hp]
theorem Eqv.fold {l : List Oper} {es : List Eff} {st st' : ASt} (h : Eqv st st') : Eqv (foldE l es st) (foldE l es st') := by
  induction l generalizing es st st' with
  | nil => exact h
  | cons o l ih => cases es with
    | nil => exact h
    | cons e es => exact ih (h.eff _ _)
/-- What two operations have to be, if one does not wait for the other. -/
def PairOk (a : List (List Nat)) (i j : Nat) (Di Wi Dj Wj : Keys) : Prop := (dis Wi Dj = true ∧ dis Wj Di = true) ∨ ordB a a.length i j = true
theorem dis_nil (D : Keys) : dis [] D = true := rfl
structure Facts (P : Program) (ops : Array Oper) (a : List (List Nat)) (l : List Oper) (j : Nat) (rd : List (Nat × Keys)) (wr : List (Nat × Keys × Keys)) (es : List Eff) (st : ASt) : Prop where
  len : es.length = l.length
  good : ∀ k o e, l[k]? = some o → es[k]? = some e → GoodAt P ops (j + k) o (foldE (l.take k) (es.take k) st) e ∧ (∀ q ∈ e.up, q.1.key ∈ e.W) ∧ ∀ x ∈ e.W, x ∈ e.D
  rd : ∀ k e, es[k]? = some e → ∀ x ∈ rd, PairOk a x.1 (j + k) x.2 [] e.D e.W
  wr : ∀ k e, es[k]? = some e → ∀ x ∈ wr, PairOk a x.1 (j + k) x.2.1 x.2.2 e.D e.W
  pair : ∀ k k' e e', k < k' → es[k]? = some e → es[k']? = some e' → PairOk a (j + k) (j + k') e.D e.W e'.D e'.W
theorem Facts.cons {a : List (List Nat)} {o : Oper} {l : List Oper} {j : Nat} {rd rd' : List (Nat × Keys)} {wr wr' : List (Nat × Keys × Keys)} {e : Eff} {es : List Eff} {st st2 : ASt} (hg : GoodAt P ops j o st e) (hup : ∀ q ∈ e.up, q.1.key ∈ e.W) (hWD : ∀ x ∈ e.W, x ∈ e.D)
    (h1 : ∀ x ∈ rd, PairOk a x.1 j x.2 [] e.D e.W) (h2 : ∀ x ∈ wr, PairOk a x.1 j x.2.1 x.2.2 e.D e.W) (hst : Eqv (st.eff o.dst e) st2) (hF : Facts P ops a l (j + 1) rd' wr' es st2) (hr : ∀ x ∈ rd, x ∈ rd') (hw : ∀ x ∈ wr, x ∈ wr')
    (hme : ((j, e.D) ∈ rd' ∧ e.W = []) ∨ (j, e.D, e.W) ∈ wr') : Facts P ops a (o :: l) j rd wr (e :: es) st where
  len := by simp [hF.len]
  good k o' e' ho he := by
    cases k with
    | zero =>
      simp only [List.getElem?_cons_zero, Option.some.injEq] at ho he
      subst ho
      subst he
      exact ⟨hg, hup, hWD⟩
    | succ k =>
      simp only [List.getElem?_cons_succ] at ho he
      obtain ⟨g1, g2⟩ := hF.good k o' e' ho he
      rw [show j + 1 + k = j + (k + 1) by omega] at g1
      exact ⟨g1.eqv hst.symm.fold, g2⟩
  rd k e' he x hx := by
    cases k with
    | zero => simp at he; subst he; exact h1 x hx
    | succ k => have := hF.rd k e' (by simpa using he) x (hr x hx); rwa [show j + 1 + k = j + (k + 1) by omega] at this
  wr k e' he x hx := by
    cases k with
    | zero => simp at he; subst he; exact h2 x hx
    | succ k => have := hF.wr k e' (by simpa using he) x (hw x hx); rwa [show j + 1 + k = j + (k + 1) by omega] at this
  pair k k' e1 e2 hlt he1 he2 := by
    cases k' with
    | zero => omega
    | succ k' =>
      simp only [List.getElem?_cons_succ] at he2
      cases k with
      | zero =>
        simp only [List.getElem?_cons_zero, Option.some.injEq] at he1
        subst he1
        rcases hme with ⟨hme, hW⟩ | hme
        · have := hF.rd k' e2 he2 _ hme
          rw [show j + 1 + k' = j + (k' + 1) by omega] at this
          rw [hW]
          exact this
        · have := hF.wr k' e2 he2 _ hme
          rwa [show j + 1 + k' = j + (k' + 1) by omega] at this
      | succ k =>
        have := hF.pair k k' e1 e2 (by omega) (by simpa using he1) he2
        rwa [show j + 1 + k = j + (k + 1) by omega, show j + 1 + k' = j + (k' + 1) by omega] at this

theorem chkQ_mem {a : List (List Nat)} {j : Nat} {D : Keys} {l : List (Nat × Keys × Keys)} (h : chkQ a j D l) : ∀ x ∈ l, PairOk a x.1 j x.2.1 x.2.2 D [] := by
  induction l with
  | nil => intro x hx; simp at hx
  | cons y l ih =>
    intro x hx
    simp only [chkQ] at h
    rcases List.mem_cons.1 hx with rfl | hx
    · exact h.1.imp (fun h => ⟨h, dis_nil _⟩) id
    · exact ih h.2 x hx
theorem chkW_mem {a : List (List Nat)} {j : Nat} {D W : Keys} {l : List (Nat × Keys)} (h : chkW a j W l) : ∀ x ∈ l, PairOk a x.1 j x.2 [] D W := by
  induction l with
  | nil => intro x hx; simp at hx
  | cons y l ih =>
    intro x hx
    simp only [chkW] at h
    rcases List.mem_cons.1 hx with rfl | hx
    · exact h.1.imp (fun h => ⟨dis_nil _, h⟩) id
    · exact ih h.2 x hx
theorem chkV_mem {a : List (List Nat)} {j : Nat} {D W : Keys} {l : List (Nat × Keys × Keys)} (h : chkV a j D W l) : ∀ x ∈ l, PairOk a x.1 j x.2.1 x.2.2 D W := by
  induction l with
  | nil => intro x hx; simp at hx
  | cons y l ih =>
    intro x hx
    simp only [chkV] at h
    rcases List.mem_cons.1 hx with rfl | hx
    · exact h.1
    · exact ih h.2 x hx
theorem put_same {st : ASt} {t : Nat} {x : AV} (h : tget st.tm t = x) : Eqv st (st.put (some t) x) := by
  refine ⟨put_n _ _ _, fun u => ?_, fun s => by rw [put_hp]⟩
  rw [put_tm]
  split
  · rename_i hc
    have := hc.1
    simp only [Option.some.injEq] at this
    subst this
    exact h.symm
  · rfl

theorem ADr_runs {a : List (List Nat)} {K : ASt → Prop} : ∀ (l : List Oper) (j : Nat) (rd : List (Nat × Keys)) (wr : List (Nat × Keys × Keys)) (st sb : ASt), ADr P (ops.toList.map (·.dst)) a l j rd wr K st → Eqv sb st → (∀ k, l[k]? = ops[j + k]?) →
    ∃ es st', K st' ∧ Eqv (foldE l es sb) st' ∧ Facts P ops a l j rd wr es sb := by
  intro l
  induction l with
  | nil =>
    intro j rd wr st sb h he _
    exact ⟨[], st, h, he, rfl, fun k o e ho => by simp at ho, fun k e he => by simp at he, fun k e he => by simp at he, fun k k' e e' _ he => by simp at he⟩
  | cons o rest ih =>
    intro j rd wr st sb h he hl
    have ho : ops[j]? = some o := by simpa using (hl 0).symm
    have hl' : ∀ k, rest[k]? = ops[j + 1 + k]? := fun k => by
      have := hl (k + 1)
      simpa [Nat.add_assoc, Nat.add_comm 1 k] using this
    -- the step
    have go : ∀ st : ASt, Eqv sb st → (opDet P (ev st.tm) o st.hp ∧ ADk a j (opIn (ev st.tm) o (siteOf o) st.hp) rd wr (fun rd' wr' => AStep P o (ADr P (ops.toList.map (·.dst)) a rest (j + 1) rd' wr' K) st) (opOut (ev st.tm) o (siteOf o) st.hp)) →
        (∀ st' (w : World) (c : Cx) a, (∀ t ∈ o.looksAt ops, tget st'.tm t = tget st.tm t) → Sim w c st' a → Region.wanted o (yielded ops a.tmps) = true) → ∃ es st', K st' ∧ Eqv (foldE (o :: rest) es sb) st' ∧ Facts P ops a (o :: rest) j rd wr es sb := by
      intro st he h hw
      obtain ⟨hd, h⟩ := h
      cases hW : opOut (ev st.tm) o (siteOf o) st.hp with
      | nil =>
        rw [hW] at h
        simp only [ADk] at h
        obtain ⟨hc, h⟩ := h
        obtain ⟨v, up, hK, hup, hgood⟩ := good_step ho hd h hw
        obtain ⟨es, st', h1, h2, h3⟩ := ih (j + 1) _ _ _ (sb.eff o.dst ⟨v, up, opIn (ev st.tm) o (siteOf o) st.hp, opOut (ev st.tm) o (siteOf o) st.hp⟩) hK (he.eff _ _) hl'
        refine ⟨_ :: es, st', h1, h2, Facts.cons (hgood.eqv he.symm) hup (opOut_sub _ _ _ _) (fun x hx => ?_) (fun x hx => ?_) (Eqv.refl _) h3 (fun x hx => .tail _ hx) (fun x hx => hx) (.inl ⟨.head _, hW⟩)⟩
        · simp only [hW]; exact .inl ⟨dis_nil _, dis_nil _⟩
        · simp only [hW]; exact chkQ_mem hc x hx
      | cons w0 W0 =>
        rw [hW] at h
        simp only [ADk] at h
        obtain ⟨⟨hc1, hc2⟩, h⟩ := h
        obtain ⟨v, up, hK, hup, hgood⟩ := good_step ho hd h hw
        obtain ⟨es, st', h1, h2, h3⟩ := ih (j + 1) _ _ _ (sb.eff o.dst ⟨v, up, opIn (ev st.tm) o (siteOf o) st.hp, opOut (ev st.tm) o (siteOf o) st.hp⟩) hK (he.eff _ _) hl'
        refine ⟨_ :: es, st', h1, h2, Facts.cons (hgood.eqv he.symm) hup (opOut_sub _ _ _ _) (fun x hx => ?_) (fun x hx => ?_) (Eqv.refl _) h3 (fun x hx => hx) (fun x hx => .tail _ hx) (.inr (by simp only [hW]; exact .head _))⟩
        · simp only [hW]; exact chkW_mem hc1 x hx
        · simp only [hW]; exact chkV_mem hc2 x hx
    have skip : ∀ st : ASt, Eqv sb st → ADr P (ops.toList.map (·.dst)) a rest (j + 1) rd wr K (st.put o.dst (.val (.tuple #[]))) →
        (∀ st' (w : World) (c : Cx) a, (∀ t ∈ o.looksAt ops, tget st'.tm t = tget st.tm t) → Sim w c st' a → Region.wanted o (yielded ops a.tmps) = false) → ∃ es st', K st' ∧ Eqv (foldE (o :: rest) es sb) st' ∧ Facts P ops a (o :: rest) j rd wr es sb := by
      intro st he h hw
      obtain ⟨es, st', h1, h2, h3⟩ := ih (j + 1) rd wr _ (sb.eff o.dst ⟨.val (.tuple #[]), [], [], []⟩) h (he.eff o.dst ⟨.val (.tuple #[]), [], [], []⟩) hl'
      refine ⟨_ :: es, st', h1, h2, ?_⟩
      refine { len := by simp [h3.len], good := fun k o' e' ho' he' => ?_, rd := fun k e' he' x hx => ?_, wr := fun k e' he' x hx => ?_, pair := fun k k' e1 e2 hlt he1 he2 => ?_ }
      · cases k with
        | zero =>
          simp only [List.getElem?_cons_zero, Option.some.injEq] at ho' he'
          subst ho'
          subst he'
          exact ⟨(good_skip ho hw).eqv he.symm, fun q hq => by simp at hq, fun x hx => by simp at hx⟩
        | succ k =>
          simp only [List.getElem?_cons_succ] at ho' he'
          obtain ⟨g1, g2⟩ := h3.good k o' e' ho' he'
          rw [show j + 1 + k = j + (k + 1) by omega] at g1
          exact ⟨g1, g2⟩
      · cases k with
        | zero => simp at he'; subst he'; exact .inl ⟨dis_nil _, dis_nil _⟩
        | succ k => have := h3.rd k e' (by simpa using he') x hx; rwa [show j + 1 + k = j + (k + 1) by omega] at this
      · cases k with
        | zero => simp at he'; subst he'; exact .inl ⟨by simp [dis], dis_nil _⟩
        | succ k => have := h3.wr k e' (by simpa using he') x hx; rwa [show j + 1 + k = j + (k + 1) by omega] at this
      · cases k' with
        | zero => omega
        | succ k' =>
          simp only [List.getElem?_cons_succ] at he2
          cases k with
          | zero =>
            simp only [List.getElem?_cons_zero, Option.some.injEq] at he1
            subst he1
            exact .inl ⟨dis_nil _, by simp [dis]⟩
          | succ k =>
            have := h3.pair k k' e1 e2 (by omega) (by simpa using he1) he2
            rwa [show j + 1 + k = j + (k + 1) by omega, show j + 1 + k' = j + (k' + 1) by omega] at this
    simp only [ADr] at h
    split at h
    · rename_i hg
      exact go st he h fun st' w c a _ _ => by simp [Region.wanted, hg]
    · rename_i g b hg
      split at h
      · rename_i t ht
        have hd : (ops[g]?).bind (·.dst) = some t := by
          rw [dstAt_eq] at ht
          simpa using ht
        have hlook : t ∈ o.looksAt ops := by
          unfold Oper.looksAt
          refine List.mem_append_right _ ?_
          simp [hg, hd]
        have hy : ∀ (a : Act), yielded ops a.tmps g = match a.tmps.getD t undef with | .bool q => some q | _ => none := by
          intro a
          unfold yielded
          simp only [hd, Option.bind_some]
          have e : a.tmps.getD t undef = (a.tmps[t]?).getD undef := by simp
          rw [e]
          cases hq : a.tmps[t]? with
          | none => rfl
          | some v => cases v <;> rfl
        unfold AGuard at h
        split at h
        · rename_i q eq
          have hval : ∀ st' (w : World) (c : Cx) a, (∀ t ∈ o.looksAt ops, tget st'.tm t = tget st.tm t) → Sim w c st' a → yielded ops a.tmps g = some q := by
            intro st' w c a hlk hs
            have h1 := hs.tm t
            rw [hlk t hlook, eq] at h1
            simp only [RelV] at h1
            rw [hy, h1.1]
          by_cases hqb : q = b
          · subst hqb
            have h2 := h.1 rfl
            have hp := put_same eq
            refine go _ (he.trans hp) h2 fun st' w c a hlk hs => ?_
            have := hval st' w c a (fun t ht => (hlk t ht).trans (hp.tm t)) hs
            simp [Region.wanted, hg, this]
          · have hq2 : q = !b := by cases q <;> cases b <;> simp_all
            have h2 := h.2 hq2
            have hp : Eqv st (st.put (some t) (.val (.bool !b))) := put_same (by rw [eq, hq2])
            refine skip _ (he.trans hp) h2 fun st' w c a hlk hs => ?_
            have := hval st' w c a (fun t ht => (hlk t ht).trans (hp.tm t)) hs
            simp [Region.wanted, hg, this, hqb]
        · rename_i vs eq
          refine skip st he h fun st' w c a hlk hs => ?_
          have h1 := hs.tm t
          rw [hlk t hlook, eq] at h1
          simp only [RelV] at h1
          have h2 := hy a
          rw [h1.1] at h2
          simp [Region.wanted, hg, h2]
        · exact h.elim
      · exact h.elim
end
end Go.Proofs.YtanbgeelphfggaaDoor.E
