/- What the arguments of a law are, read as views, and how large they are at most. No conditions. -/
import Derived.Test.YtljickachmdejaaReadB
namespace Go.Proofs.Ytljickachmdejaa.E
open Go Go.ChangeShapes
set_option linter.unusedSimpArgs false
set_option linter.unusedVariables false
set_option linter.unusedSectionVars false
set_option maxRecDepth 20000
mutual
def Sh.by : Sh → Nat
  | .int .i64 => 8
  | .int _ => 1
  | .bool => 1
  | .str => 16
  | .slice _ _ => 24
  | .struct l => Sh.byL l
def Sh.byL : List Sh → Nat
  | [] => 0
  | s :: l => s.by + Sh.byL l
end
mutual
def Sh.hasR : Sh → List AV → Prop
  | .int k, as => ∃ n, as = [.val (.int k n)] ∧ (Lit.int k n).wf = true
  | .bool, as => ∃ b, as = [.val (.bool b)]
  | .str, as => ∃ s : ByteArray, as = [.val (.string s)] ∧ s.size ≤ reachBytes
  | .slice k e, as => ∃ rows, as = [.list k rows] ∧ rows.length * e.by ≤ reachBytes ∧ ∀ r ∈ rows, e.hasR r
  | .struct l, as => Sh.hasRL l as
def Sh.hasRL : List Sh → List AV → Prop
  | [], as => as = []
  | s :: l, as => ∃ a b, as = a ++ b ∧ s.hasR a ∧ Sh.hasRL l b
end
mutual
def Sh.wide (P : Program) : Sh → TypeId → Bool
  | .slice _ e, t => match P.underlying t with | some (.slice u) => decide (e.by ≤ P.bytesOf u) && e.wide P u | _ => false
  | .struct l, t => match P.underlying t with | some (.struct fs) => Sh.wideL P l fs.toList | _ => false
  | _, _ => true
def Sh.wideL (P : Program) : List Sh → List Field → Bool
  | [], [] => true
  | s :: l, f :: fs => s.wide P f.type && Sh.wideL P l fs
  | _, _ => false
end
section
variable {H : Type} {enc : TypeId × Value → H} {P : Program} {w : World} {sp : Nat → Bool} {held : Bool}
theorem wAll_mem {e : TypeId} {ds : List (DataW H)} {d : DataW H} (h : d ∈ ds) {n : Nat} (hn : n ∈ d.weights P e) : n ∈ DataW.weightsAll P e ds := by
  induction ds with
  | nil => cases h
  | cons x ds ih =>
    unfold DataW.weightsAll
    rcases List.mem_cons.1 h with rfl | h
    · exact List.mem_append_left _ hn
    · exact List.mem_append_right _ (ih h)
theorem wEach_mem {ts : List TypeId} {ds : List (DataW H)} {i : Nat} {t : TypeId} {d : DataW H} (ht : ts[i]? = some t) (hd : ds[i]? = some d) {n : Nat} (hn : n ∈ d.weights P t) : n ∈ DataW.weightsEach P ts ds := by
  induction ts generalizing ds i with
  | nil => simp at ht
  | cons u ts ih =>
    cases ds with
    | nil => simp at hd
    | cons x ds =>
      unfold DataW.weightsEach
      cases i with
      | zero =>
        simp at ht hd
        subst ht hd
        exact List.mem_append_left _ hn
      | succ i => exact List.mem_append_right _ (ih (by simpa using ht) (by simpa using hd))
theorem wEach_app {ts us : List TypeId} {ds gs : List (DataW H)} {n : Nat} (h : n ∈ DataW.weightsEach P ts ds) : n ∈ DataW.weightsEach P (ts ++ us) (ds ++ gs) := by
  induction ts generalizing ds with
  | nil => simp [DataW.weightsEach] at h
  | cons t ts ih =>
    cases ds with
    | nil => simp [DataW.weightsEach] at h
    | cons d ds =>
      rw [List.cons_append, List.cons_append]
      unfold DataW.weightsEach at h ⊢
      rcases List.mem_append.1 h with h | h
      · exact List.mem_append_left _ h
      · exact List.mem_append_right _ (ih h)
mutual
theorem readR : ∀ (s : Sh) {t : TypeId} {fuel : Nat} {cs : List Value} {x : DataW H × List MemPlace}, s.fits P t = true → s.wide P t = true → DataW.trod enc P w 0 sp held fuel t cs = some x → (∀ n ∈ x.1.weights P t, n ≤ reachBytes) → ∃ as, s.hasR as ∧ Cw w as cs ∧ as.length = P.cellsOf t
  | .int k, t, fuel, cs, x, hf, hwi, h, hwe => by
    simp only [Sh.fits] at hf
    split at hf
    · rename_i k' e
      simp only [Bool.and_eq_true, beq_iff_eq] at hf
      obtain ⟨hk, hc⟩ := hf
      have hk : k = k' := by simpa using hk
      subst hk
      obtain ⟨n, rfl, _, hw⟩ := DataW.trod_int e h
      refine ⟨[.val (.int k n)], by simp only [Sh.hasR]; exact ⟨n, rfl, hw⟩, ⟨by simp [RVL, RV, plain], by simp [Value.oneCell']⟩, by simp [hc]⟩
    · cases hf
  | .bool, t, fuel, cs, x, hf, hwi, h, hwe => by
    simp only [Sh.fits] at hf
    split at hf
    · rename_i e
      obtain ⟨b, rfl, _⟩ := DataW.trod_bool e h
      refine ⟨[.val (.bool b)], by simp only [Sh.hasR]; exact ⟨b, rfl⟩, ⟨by simp [RVL, RV, plain], by simp [Value.oneCell']⟩, by simp [(show P.cellsOf t = 1 by simpa using hf)]⟩
    · cases hf
  | .str, t, fuel, cs, x, hf, hwi, h, hwe => by
    simp only [Sh.fits] at hf
    split at hf
    · rename_i e
      obtain ⟨s, rfl, rfl, _⟩ := DataW.trod_string e h
      have hw : s.size ≤ reachBytes := by
        have := hwe s.data.toList.length (by simp [DataW.weights])
        simpa using this
      refine ⟨[.val (.string s)], by simp only [Sh.hasR]; exact ⟨s, rfl, hw⟩, ⟨by simp [RVL, RV, plain], by simp [Value.oneCell']⟩, by simp [(show P.cellsOf t = 1 by simpa using hf)]⟩
    · cases hf
  | .slice k e, t, fuel, cs, x, hf, hwi, h, hwe => by
    simp only [Sh.fits] at hf
    split at hf
    · rename_i u hu
      simp only [Bool.and_eq_true, beq_iff_eq, decide_eq_true_eq] at hf
      obtain ⟨⟨⟨hk, h0⟩, he⟩, hone⟩ := hf
      simp only [Sh.wide, hu, Bool.and_eq_true, decide_eq_true_eq] at hwi
      obtain ⟨hby, hwi⟩ := hwi
      rcases DataW.trod_slice hu h with ⟨rfl, _⟩ | ⟨a, len, cap, elems, rest, n, _, rfl, rfl, hb, hl, hm, hlen, hel, _, _⟩
      · refine ⟨[.list k []], by simp only [Sh.hasR]; exact ⟨[], rfl, by simp, by simp⟩, ⟨?_, by simp [Value.oneCell']⟩, by simp [hone]⟩
        simp only [RVL, RV]
        exact ⟨_, _, rfl, ⟨none, 0, rfl, Nat.le_refl _, fun _ => rfl, .inl trivial⟩, rfl⟩
      · have row : ∀ m j, j + m = len → ∃ rows : List (List AV), rows.length = m ∧ (∀ r ∈ rows, e.hasR r) ∧ RVRows w (old w) k rows a.block (a.off + j * k) ∧ (rows = [] ∨ ((j = 0 → a.spot = none) ∧ old w a.block)) := by
          intro m
          induction m with
          | zero => intro j _; exact ⟨[], rfl, by simp, by simp only [RVRows], .inl rfl⟩
          | succ m ih =>
            intro j hj
            obtain ⟨rows, h1, h2, h3, h4⟩ := ih (j + 1) (by omega)
            have hj' := hel j (by omega)
            have : (elems[j]?) = some (elems[j]'(by omega)) := List.getElem?_eq_getElem (by omega)
            rw [this, Option.bind_eq_some_iff] at hj'
            obtain ⟨cs', hc, ht⟩ := hj'
            obtain ⟨as, k1, k2, k3⟩ := readR e he hwi ht (fun q hq => hwe q (by
              unfold DataW.weights
              simp only [hu]
              exact List.mem_cons_of_mem _ (List.mem_append_left _ (wAll_mem (List.mem_map.2 ⟨elems[j]'(by omega), List.getElem_mem _, rfl⟩) hq))))
            obtain ⟨c1, c2⟩ := cells_get hc
            rw [hk] at c1 c2
            have c0 : ∃ v, cs'[0]? = some v := ⟨cs'[0]'(by omega), List.getElem?_eq_getElem (by omega)⟩
            obtain ⟨v, hv⟩ := c0
            have c3 := c2 0 v hv
            have hadd : ∀ i, (a.add (j * k)).add i = ⟨a.block, a.off + j * k + i, a.spot⟩ ∨ ((a.add (j * k)).add i = ⟨a.block, a.off + j * k + i, none⟩) := by
              intro i
              unfold Addr.add
              by_cases z1 : j * k = 0
              · by_cases z2 : i = 0
                · subst z2; left; simp [z1]
                · right; simp [z1, z2]
              · by_cases z2 : i = 0
                · subst z2; right; simp [z1]
                · right; simp [z1, z2]
            have hold : old w a.block := by
              have := cell_lt c3
              rcases hadd 0 with q | q <;> rw [q] at this <;> exact this
            have hsp : ∀ i, i < k → (a.add (j * k)).add i = ⟨a.block, a.off + j * k + i, none⟩ := by
              intro i hi
              obtain ⟨v', hv'⟩ : ∃ v, cs'[i]? = some v := ⟨cs'[i]'(by omega), List.getElem?_eq_getElem (by omega)⟩
              have h5 := spot_none (c2 i v' hv')
              rcases hadd i with q | q
              · rw [q] at h5 ⊢; simp only at h5; rw [h5]
              · exact q
            refine ⟨as :: rows, by simp [h1], ?_, ?_, ?_⟩
            · intro r hr
              rcases List.mem_cons.1 hr with rfl | hr
              · exact k1
              · exact h2 r hr
            · simp only [RVRows]
              refine ⟨by omega, RVAt_of k2.1 k2.2 fun i u hu => ?_, ?_⟩
              · have hi : i < k := by have := (List.getElem?_eq_some_iff.1 hu).1; omega
                rw [← hsp i hi]; exact c2 i u hu
              · rw [show a.off + j * k + k = a.off + (j + 1) * k by rw [Nat.add_mul]; omega]; exact h3
            · right
              refine ⟨fun hj0 => ?_, hold⟩
              subst hj0
              have := congrArg Addr.spot (hsp 0 h0)
              simpa [Addr.add] using this
        have hrow : ∀ {rows : List (List AV)}, rows.length = len → rows.length * e.by ≤ reachBytes := by
          intro rows hr
          have q := hwe ((elems.length + rest.length) * P.bytesOf u) (by unfold DataW.weights; simp only [hu, List.length_map]; exact List.mem_cons_self ..)
          have q2 : rows.length * e.by ≤ (elems.length + rest.length) * P.bytesOf u := Nat.mul_le_mul (by omega) hby
          omega
        obtain ⟨rows, h1, h2, h3, h4⟩ := row len 0 (by omega)
        refine ⟨[.list k rows], by simp only [Sh.hasR]; refine ⟨rows, rfl, ?_, h2⟩; exact hrow h1, ⟨?_, by simp [Value.oneCell']⟩, by simp [hone]⟩
        simp only [RVL, RV]
        refine ⟨_, _, rfl, ⟨some a, cap, by rw [h1], by omega, fun q => absurd q (by simp), ?_⟩, rfl⟩
        rcases h4 with h4 | ⟨h4, h5⟩
        · exact .inl h4
        · obtain ⟨b, off, spot⟩ := a
          have h4 : spot = none := h4 rfl
          subst h4
          exact .inr ⟨b, off, rfl, h5, by simpa using h3⟩
    · cases hf
  | .struct l, t, fuel, cs, x, hf, hwi, h, hwe => by
    simp only [Sh.fits] at hf
    split at hf
    · rename_i fs e
      obtain ⟨xs, n, _, rfl, hl, hlen, hel⟩ := DataW.trod_struct e h
      simp only [Sh.wide, e] at hwi
      obtain ⟨as, h1, h2, h3⟩ := readRL l (fs := fs.toList) (o := 0) (cs := cs) hf hwi (by omega) (n := n) (fun f hm => by
        obtain ⟨i, hi⟩ := List.getElem?_of_mem hm
        rw [Array.getElem?_toList] at hi
        have := hel i f hi
        have hlt : i < xs.length := by rw [hlen]; exact (Array.getElem?_eq_some_iff.1 hi).1
        rw [List.getElem?_eq_getElem hlt] at this
        refine ⟨_, this, fun q hq => hwe q ?_⟩
        unfold DataW.weights
        simp only [e]
        refine wEach_mem (i := i) (t := f.type) (d := (xs[i]'hlt).1) ?_ ?_ hq
        · rw [List.getElem?_map, Array.getElem?_toList, hi]; rfl
        · rw [List.getElem?_map, List.getElem?_eq_getElem hlt]; rfl)
      exact ⟨as, by simp only [Sh.hasR]; exact h1, by simpa using h2, by simpa using h3⟩
    · cases hf
theorem readRL : ∀ (l : List Sh) {fs : List Field} {o n tot : Nat} {cs : List Value}, Sh.fitsL P l fs o tot = true → Sh.wideL P l fs = true → cs.length = tot → (∀ f ∈ fs, ∃ x, DataW.trod enc P w 0 sp held n f.type ((cs.drop f.offset).take (P.cellsOf f.type)) = some x ∧ ∀ n ∈ x.1.weights P f.type, n ≤ reachBytes) → ∃ as, Sh.hasRL l as ∧ Cw w as (cs.drop o) ∧ as.length + o = tot
  | [], fs, o, n, tot, cs, hf, hwi, hl, h => by
    cases fs with
    | nil =>
      simp only [Sh.fitsL, beq_iff_eq] at hf
      refine ⟨[], by simp only [Sh.hasRL], ?_, by simpa using hf⟩
      rw [List.drop_eq_nil_of_le (by omega)]
      exact Cw.nil
    | cons _ _ => simp [Sh.fitsL] at hf
  | s :: l, fs, o, n, tot, cs, hf, hwi, hl, h => by
    cases fs with
    | nil => simp [Sh.fitsL] at hf
    | cons f fs =>
      simp only [Sh.fitsL, Bool.and_eq_true, beq_iff_eq] at hf
      obtain ⟨⟨h1, h2⟩, h3⟩ := hf
      obtain ⟨x, hx, hxw⟩ := h f (by simp)
      simp only [Sh.wideL, Bool.and_eq_true] at hwi
      obtain ⟨as, k1, k2, k3⟩ := readR s h2 hwi.1 hx hxw
      obtain ⟨bs, k4, k5, k6⟩ := readRL l h3 hwi.2 hl (fun g hg => h g (by simp [hg]))
      refine ⟨as ++ bs, by simp only [Sh.hasRL]; exact ⟨as, bs, rfl, k1, k4⟩, ?_, by simp; omega⟩
      have : cs.drop o = (cs.drop o).take (P.cellsOf f.type) ++ cs.drop (o + P.cellsOf f.type) := by
        rw [← List.drop_drop, List.take_append_drop]
      rw [this]
      rw [h1] at k2
      exact k2.append k5
end
/-- A whole value of a shape. -/
def Sh.hasRV : Sh → AV → Prop
  | .struct l, x => ∃ as, x = .agg as ∧ Sh.hasRL l as
  | s, x => s.hasR [x]
theorem readRV {r : Reach} {base : Nat} {s : Sh} {t : TypeId} {v : Value} {d : DataW H} {ps : List MemPlace} (hf : s.fits P t = true) (hwi : s.wide P t = true) (hv : Value.okWide P w r base t v) (h : DataW.Trod enc P w 0 sp held t v d ps) (hwe : ∀ n ∈ d.weights P t, n ≤ reachBytes) : ∃ x, s.hasRV x ∧ RV w (old w) x v := by
  obtain ⟨fuel, h⟩ := h
  cases s with
  | struct l =>
    have hf' := hf
    simp only [Sh.fits] at hf'
    split at hf'
    · rename_i fs e
      unfold Value.okWide at hv
      rw [e] at hv
      obtain ⟨cs, rfl, _, _⟩ := hv
      obtain ⟨as, h1, h2, _⟩ := readR (.struct l) hf hwi h hwe
      refine ⟨.agg as, ⟨as, rfl, by simpa only [Sh.hasR] using h1⟩, ?_⟩
      simp only [RV]
      exact ⟨cs.toList, by simp, h2.2, h2.1⟩
    · cases hf'
  | _ =>
    all_goals
      obtain ⟨as, h1, h2, h3⟩ := readR _ hf hwi h hwe
      have hna : v.cells.toList = [v] := by
        cases v with
        | agg cs =>
          exfalso
          simp only [Sh.fits] at hf
          split at hf
          · rename_i e
            unfold Value.okWide at hv
            rw [e] at hv
            simp only [Cell.okWide, Cell.ok, e] at hv
          · cases hf
        | _ => rfl
      rw [hna] at h2
      obtain ⟨h4, h5⟩ := h2
      cases as with
      | nil => simp [RVL] at h4
      | cons x as =>
        simp only [RVL] at h4
        obtain ⟨u, us, e, h6, h7⟩ := h4
        cases us with
        | nil =>
          cases as with
          | nil =>
            simp only [List.cons.injEq, and_true] at e
            subst e
            exact ⟨x, h1, h6⟩
          | cons _ _ => simp [RVL] at h7
        | cons _ _ => simp at e
def hasRAll : List Sh → List AV → Prop
  | [], [] => True
  | s :: l, x :: xs => s.hasRV x ∧ hasRAll l xs
  | _, _ => False
theorem hasRAll_cons {s : Sh} {l : List Sh} : ∀ {xs : List AV}, hasRAll (s :: l) xs → ∃ x us, xs = x :: us ∧ s.hasRV x ∧ hasRAll l us
  | [], h => h.elim
  | x :: us, h => ⟨x, us, rfl, h.1, h.2⟩
theorem hasRAll_nil : ∀ {xs : List AV}, hasRAll [] xs → xs = []
  | [], _ => rfl
  | _ :: _, h => h.elim
def wideAll (P : Program) : List Sh → List TypeId → Bool
  | [], [] => true
  | s :: l, t :: ts => s.wide P t && wideAll P l ts
  | _, _ => false
theorem readRAll {r : Reach} {base : Nat} : ∀ {l : List Sh} {ts : List TypeId} {vs : List Value} {ds : List (DataW H)} {ps : List MemPlace}, fitsAll P l ts = true → wideAll P l ts = true → (∀ (j : Nat) t v, ts[j]? = some t → vs[j]? = some v → Value.okWide P w r base t v) →
    DataW.TrodAll enc P w 0 sp held ts vs ds ps → (∀ n ∈ DataW.weightsEach P ts ds, n ≤ reachBytes) → ∃ xs, hasRAll l xs ∧ RVL w (old w) xs vs
  | [], ts, vs, ds, ps, hf, hwi, hv, h, hwe => by
    cases ts with
    | nil =>
      obtain ⟨rfl, rfl, rfl⟩ := trodAll_nil h
      exact ⟨[], trivial, by simp only [RVL]⟩
    | cons _ _ => simp [fitsAll] at hf
  | s :: l, ts, vs, ds, ps, hf, hwi, hv, h, hwe => by
    cases ts with
    | nil => simp [fitsAll] at hf
    | cons t ts =>
      simp only [fitsAll, Bool.and_eq_true] at hf
      simp only [wideAll, Bool.and_eq_true] at hwi
      obtain ⟨v, us, d, ds', p, q, rfl, rfl, rfl, h1, h2⟩ := trodAll_cons h
      obtain ⟨x, h3, h4⟩ := readRV hf.1.1.1 hwi.1 (hv 0 t v rfl rfl) h1 (fun q hq => hwe q (by unfold DataW.weightsEach; exact List.mem_append_left _ hq))
      obtain ⟨xs, h5, h6⟩ := readRAll hf.2 hwi.2 (fun j t v a b => hv (j + 1) t v (by simpa using a) (by simpa using b)) h2 (fun q hq => hwe q (by unfold DataW.weightsEach; exact List.mem_append_right _ hq))
      exact ⟨x :: xs, ⟨h3, h5⟩, by simp only [RVL]; exact ⟨v, us, rfl, h4, h6⟩⟩
/-- A law that answers true, whatever comes in. -/
theorem lift_trueR {C : Checked} {os : Os} {f : FuncId} {fn : Func} {s : ChangeSpec} {l : List Sh} {tb : TypeId} (own : ownKnob C.prog.godebug = none) (started : os.Started) (noInit : C.prog.inits.idxOf? f = none) (hfn : C.prog.funcs[f]? = some fn)
    (witness : ∃ (w : World) (tape : Tape) (i : Input), w.os = os ∧ (w.forCall tape i).Shaped C.prog ∧ i.vars = [] ∧ Input.okWide C.prog (w.forCall tape i) .any w.heap.size f i ∧
      s.pre6 enc C.prog fn [] false (w.forCall tape i).memory i.args ∧ Assume.holds {} C.prog (lone (Frame.enter C.prog f i.args .normal) [] (w.forCall tape i)))
    (hv : s.vars = []) (hres : fn.resultTypes = #[tb]) (htb : C.prog.underlying tb = some .bool) (hl : laidOutB C.prog = true) (hfit : fitsAll C.prog l fn.params.toList = true) (hwide : wideAll C.prog l fn.params.toList = true)
    (hs : ∀ ds : List (DataW H), ds.length = l.length → s.fn H ds = { results := [.lit (.bool true)], args := ds })
    (hok : ∀ xs, hasRAll l xs → Ok C.prog f xs (.val (.bool true))) :
    ReturnsInHanded {} C os f .any (s.pre6 enc C.prog fn [] false) (s.post enc C.prog fn false true false false) := by
  refine returnsInHanded_of_change_sized own started noInit hfn witness ?_
  intro W base args ds gs before hval hW _ hreach _
  have hW' := hW
  obtain ⟨p, q, hA, hV, rfl, hfz, hnd⟩ := hW
  rw [hv] at hV
  obtain ⟨rfl, rfl⟩ := Go.ChangeShapes.trodVars_none hV
  obtain ⟨xs, hx, hr⟩ := readRAll hfit hwide (fun j t v a b => hval j t v (by rw [← Array.getElem?_toList]; exact a) (by rw [← Array.getElem?_toList]; exact b)) hA (fun q hq => by
    have := List.all_eq_true.1 hreach q (wEach_app hq)
    simpa using this)
  have := hok xs hx W (old W) args.toList (fun _ h => h) hr
  rw [Array.toArray_toList] at this
  refine this.mono fun e W' hh => ?_
  obtain ⟨v, he, bel, hv'⟩ := hh
  simp only [RV] at hv'
  obtain ⟨rfl, -⟩ := hv'
  subst he
  have hlen : ds.length = l.length := lenAll hfit hA
  refine ⟨_, rfl, ds, [], _, [], p, [], hW', ?_, ?_, ?_, bel.frame _, fun h => by cases h⟩
  · rw [hres, List.append_nil, hs ds hlen]
    exact trodAll_mk1 (Go.RowKit.shut_bool htb _)
  · rw [List.append_nil, hs ds hlen]
    exact keepAll hl bel hfit hA
  · rw [List.append_nil, hs ds hlen, hv]
    exact rfl
end
theorem rows_mapR {α : Type} {f : α → List AV} {e : Sh} {Q : α → Prop} (hf : ∀ r, e.hasR r → ∃ a, r = f a ∧ Q a) : ∀ {rows : List (List AV)}, (∀ r ∈ rows, e.hasR r) → ∃ l : List α, rows = l.map f ∧ ∀ a ∈ l, Q a
  | [], _ => ⟨[], rfl, by simp⟩
  | r :: rows, h => by
    obtain ⟨a, rfl, qa⟩ := hf r (h r (by simp))
    obtain ⟨l, rfl, hl⟩ := rows_mapR hf (rows := rows) fun r hr => h r (by simp [hr])
    exact ⟨a :: l, rfl, fun b hb => by
      rcases List.mem_cons.1 hb with rfl | hb
      · exact qa
      · exact hl b hb⟩
theorem has_sliceR {α : Type} {f : α → List AV} {e : Sh} {k : Nat} {Q : α → Prop} (hf : ∀ r, e.hasR r → ∃ a, r = f a ∧ Q a) {as : List AV} (h : Sh.hasR (.slice k e) as) : ∃ l : List α, as = [.list k (l.map f)] ∧ l.length * e.by ≤ reachBytes ∧ ∀ a ∈ l, Q a := by
  simp only [Sh.hasR] at h
  obtain ⟨rows, rfl, h1, h2⟩ := h
  obtain ⟨l, rfl, hl⟩ := rows_mapR hf h2
  exact ⟨l, rfl, by simpa using h1, hl⟩
end Go.Proofs.Ytljickachmdejaa.E
