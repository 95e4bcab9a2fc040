/- The abstract machine of this claim, part W: a region whose order is open. No conditions. -/
import Derived.Test.YtanbgeelphfggaaDoorEngV
import Derived.StillTail
namespace Go.Proofs.YtanbgeelphfggaaDoor.E
open Go
set_option linter.unusedSimpArgs false
set_option linter.unusedVariables false
set_option linter.unusedSectionVars false
set_option maxRecDepth 20000

section
variable {P : Program} {ops : Array Oper}
def mkE : Nat → List Oper → List Eff → List Ent
  | j, o :: os, e :: es => (j, o.dst, e) :: mkE (j + 1) os es
  | _, _, _ => []
theorem mkE_mem {l : List Oper} {es : List Eff} {j : Nat} {x : Ent} (h : x ∈ mkE j l es) : ∃ k o e, l[k]? = some o ∧ es[k]? = some e ∧ x = (j + k, o.dst, e) := by
  induction l generalizing es j with
  | nil => simp [mkE] at h
  | cons o l ih => cases es with
    | nil => simp [mkE] at h
    | cons e es =>
      simp only [mkE] at h
      rcases List.mem_cons.1 h with rfl | h
      · exact ⟨0, o, e, rfl, rfl, rfl⟩
      · obtain ⟨k, o', e', h1, h2, rfl⟩ := ih h
        exact ⟨k + 1, o', e', h1, h2, by simp; omega⟩
theorem mkE_split {l : List Oper} {es : List Eff} {j k : Nat} {o : Oper} {e : Eff} (ho : l[k]? = some o) (he : es[k]? = some e) : mkE j l es = mkE j (l.take k) (es.take k) ++ (j + k, o.dst, e) :: mkE (j + k + 1) (l.drop (k + 1)) (es.drop (k + 1)) := by
  induction k generalizing l es j with
  | zero =>
    cases l with
    | nil => simp at ho
    | cons x l => cases es with
      | nil => simp at he
      | cons y es =>
        simp only [List.getElem?_cons_zero, Option.some.injEq] at ho he
        subst ho
        subst he
        simp [mkE]
  | succ k ih =>
    cases l with
    | nil => simp at ho
    | cons x l => cases es with
      | nil => simp at he
      | cons y es =>
        simp only [List.getElem?_cons_succ] at ho he
        simp only [mkE, List.take_succ_cons, List.drop_succ_cons, List.cons_append]
        rw [ih (j := j + 1) ho he]
        rw [show j + 1 + k = j + (k + 1) by omega]
theorem runS_all {S : Nat → Bool} : ∀ (l : List Oper) (es : List Eff) (j : Nat) (st : ASt), (∀ x ∈ mkE j l es, S x.1 = true) → runS S (mkE j l es) st = foldE l es st
  | [], es, j, st, _ => by cases es <;> simp [mkE, runS, foldE]
  | o :: l, [], j, st, _ => by simp [mkE, runS, foldE]
  | o :: l, e :: es, j, st, h => by
    simp only [mkE, runS, foldE]
    rw [if_pos (h (j, o.dst, e) (by simp [mkE]))]
    exact runS_all l es (j + 1) _ fun x hx => h x (by simp [mkE, hx])
theorem runS_none {S : Nat → Bool} : ∀ (l : List Ent) (st : ASt), (∀ x ∈ l, S x.1 = false) → runS S l st = st
  | [], _, _ => rfl
  | (j, d, e) :: r, st, h => by
    simp only [runS]
    rw [if_neg (by rw [h _ (.head _)]; simp)]
    exact runS_none r st fun x hx => h x (.tail _ hx)
theorem mkE_idx {l : List Oper} {es : List Eff} {j : Nat} {x : Ent} (h : x ∈ mkE j l es) : j ≤ x.1 ∧ x.1 < j + l.length := by
  obtain ⟨k, o, e, h1, _, rfl⟩ := mkE_mem h
  have := lt_of_get h1
  simp only; omega
/-- The text's state ahead of operation k. -/
theorem runS_text {l : List Oper} {es : List Eff} {k : Nat} {st : ASt} (hlen : es.length = l.length) : runS (fun j => decide (j < k)) (mkE 0 l es) st = foldE (l.take k) (es.take k) st := by
  rcases Nat.lt_or_ge k l.length with hk | hk
  · obtain ⟨o, ho⟩ : ∃ o, l[k]? = some o := ⟨l[k], List.getElem?_eq_getElem hk⟩
    obtain ⟨e, he⟩ : ∃ e, es[k]? = some e := ⟨es[k]'(by omega), List.getElem?_eq_getElem (by omega)⟩
    rw [mkE_split ho he, runS_append, runS_none]
    · refine runS_all _ _ _ _ fun x hx => ?_
      have := mkE_idx hx
      simp only [List.length_take, Nat.zero_add] at this
      simp; omega
    · intro x hx
      rcases List.mem_cons.1 hx with rfl | hx
      · simp
      · have := mkE_idx hx
        simp; omega
  · rw [List.take_of_length_le hk, List.take_of_length_le (by omega)]
    refine runS_all _ _ _ _ fun x hx => ?_
    have := mkE_idx hx
    simp; omega

/-- Done, with all that they wait for. -/
def Closed (ops : Array Oper) (listed : Array Bool) : Prop := listed.size = ops.size ∧ ∀ j o, ops[j]? = some o → listed.getD j false = true → ∀ m ∈ aftL o.after.toList, listed.getD m false = true
theorem afts_get {j : Nat} {o : Oper} (h : ops[j]? = some o) : (afts ops.toList)[j]? = some (aftL o.after.toList) := by
  unfold afts
  rw [List.getElem?_map, Array.getElem?_toList, h]
  rfl
theorem ordB_closed {listed : Array Bool} (hc : Closed ops listed) : ∀ (n i j : Nat) (o : Oper), ordB (afts ops.toList) n i j = true → ops[j]? = some o → (∀ m ∈ aftL o.after.toList, listed.getD m false = true) → listed.getD i false = true := by
  intro n
  induction n with
  | zero => intro i j o h; simp [ordB] at h
  | succ n ih =>
    intro i j o h ho hp
    simp only [ordB, afts_get ho] at h
    rw [Bool.or_eq_true] at h
    rcases h with h | h
    · exact hp i (by simpa using h)
    · obtain ⟨m, hm, h⟩ := List.any_eq_true.1 h
      have hml := hp m hm
      cases hom : ops[m]? with
      | none =>
        have : ops.size ≤ m := by simpa using Array.getElem?_eq_none_iff.1 hom
        rw [Array.getD_eq_getD_getElem?, Array.getElem?_eq_none (by rw [hc.1]; exact this)] at hml
        cases hml
      | some om => exact ih i m om h hom (hc.2 m om hom hml)
theorem ready_iff {listed : Array Bool} (hs : listed.size = ops.size) {i : Nat} : i ∈ Region.ready .any ops listed ↔ ∃ o, ops[i]? = some o ∧ listed.getD i false = false ∧ ∀ m ∈ aftL o.after.toList, listed.getD m false = true := by
  unfold Region.ready
  simp only [List.mem_filter, List.mem_range, Bool.and_eq_true, Bool.not_eq_true']
  constructor
  · rintro ⟨h1, h2, h3⟩
    obtain ⟨o, ho⟩ : ∃ o, ops[i]? = some o := ⟨ops[i], Array.getElem?_eq_getElem h1⟩
    refine ⟨o, ho, getD_both h2, fun m hm => ?_⟩
    rw [ho] at h3
    simp only [Option.map_some, Option.getD_some] at h3
    obtain ⟨e, he, hb, rfl⟩ := mem_aftL.1 hm
    have := (Array.all_eq_true'.1 h3) e (Array.mem_toList_iff.1 he)
    simpa [hb] using this
  · rintro ⟨o, ho, h2, h3⟩
    have hi : i < ops.size := (Array.getElem?_eq_some_iff.1 ho).1
    refine ⟨hi, getD_in (by omega) h2, ?_⟩
    rw [ho]
    simp only [Option.map_some, Option.getD_some]
    rw [Array.all_eq_true']
    intro e he
    cases hb : Region.binds .any e with
    | false => simp
    | true => simpa using h3 e.on (mem_aftL.2 ⟨e, Array.mem_toList_iff.2 he, hb, rfl⟩)
theorem stat_spec (h : statB ops = true) : Region.noSelect ops = true ∧ (∀ j o, ops[j]? = some o → ∀ m ∈ aftL o.after.toList, m < j) ∧ ∀ i j x y, i < j → ops[i]? = some x → ops[j]? = some y → x.apart ops y = true ∨ ordB (afts ops.toList) (afts ops.toList).length i j = true := by
  unfold statB at h
  simp only [Bool.and_eq_true, List.all_eq_true, List.mem_range] at h
  obtain ⟨h1, h2⟩ := h
  refine ⟨h1, fun j o ho m hm => ?_, fun i j x y hij hx hy => ?_⟩
  · have hj : j < ops.size := (Array.getElem?_eq_some_iff.1 ho).1
    have := (h2 j hj).1
    rw [List.getD_eq_getElem?_getD, afts_get ho] at this
    simpa using this m hm
  · have hj : j < ops.size := (Array.getElem?_eq_some_iff.1 hy).1
    have := (h2 j hj).2 i hij
    rw [hx, hy] at this
    simpa [Bool.or_eq_true] using this
theorem dis_spec {a b : Keys} (h : dis a b = true) {k : Bool × Nat} (ha : k ∈ a) (hb : k ∈ b) : False := by
  unfold dis at h
  have := List.all_eq_true.1 h k ha
  simp only [Bool.not_eq_true', List.contains_eq_mem, decide_eq_false_iff_not] at this
  exact this hb

def left (listed : Array Bool) : Nat := (listed.toList.filter (fun b => !b)).length
theorem left_set {listed : Array Bool} {i : Nat} (hi : i < listed.size) (h : listed.getD i false = false) : left (listed.setIfInBounds i true) + 1 = left listed := by
  unfold left
  rw [Array.toList_setIfInBounds]
  have h' : listed.toList[i]? = some false := by
    rw [Array.getElem?_toList, Array.getElem?_eq_getElem hi]
    simpa [hi] using h
  clear hi h
  generalize listed.toList = l at h'
  induction l generalizing i with
  | nil => simp at h'
  | cons x l ih =>
    cases i with
    | zero => simp at h'; subst h'; simp
    | succ i =>
      simp only [List.getElem?_cons_succ] at h'
      simp only [List.set_cons_succ, List.filter_cons]
      have := ih (i := i) h'
      cases x <;> simp only [Bool.not_true, Bool.not_false, Bool.false_eq_true, if_false, if_true, List.length_cons] <;> omega
theorem left_zero {listed : Array Bool} (h : left listed = 0) (i : Nat) (hi : i < listed.size) : listed.getD i false = true := by
  unfold left at h
  have h1 := List.eq_nil_of_length_eq_zero h
  rw [List.filter_eq_nil_iff] at h1
  have := h1 (listed[i]) (by simp)
  simpa [hi] using this
theorem left_pos {listed : Array Bool} (h : 0 < left listed) : ∃ i, i < listed.size ∧ listed.getD i false = false := by
  unfold left at h
  obtain ⟨b, hb⟩ := List.exists_mem_of_length_pos h
  obtain ⟨h1, h2⟩ := List.mem_filter.1 hb
  obtain ⟨i, hi, rfl⟩ := List.mem_iff_getElem.1 h1
  simp only [Array.length_toList] at hi
  refine ⟨i, hi, ?_⟩
  simpa [hi] using h2
/-- One that waits for nobody. -/
theorem ready_some {listed : Array Bool} (hst : statB ops = true) (hc : Closed ops listed) (h : 0 < left listed) : Region.ready .any ops listed ≠ [] := by
  obtain ⟨_, hback, _⟩ := stat_spec hst
  obtain ⟨i0, hi0, hl0⟩ := left_pos h
  have key : ∀ (n i : Nat), i ≤ n → i < listed.size → listed.getD i false = false → ∃ j, j ∈ Region.ready .any ops listed := by
    intro n
    induction n with
    | zero =>
      intro i hi hlt hl
      obtain ⟨o, ho⟩ : ∃ o, ops[i]? = some o := ⟨ops[i]'(by rw [← hc.1]; exact hlt), Array.getElem?_eq_getElem _⟩
      exact ⟨i, (ready_iff hc.1).2 ⟨o, ho, hl, fun m hm => by have := hback i o ho m hm; omega⟩⟩
    | succ n ih =>
      intro i hi hlt hl
      obtain ⟨o, ho⟩ : ∃ o, ops[i]? = some o := ⟨ops[i]'(by rw [← hc.1]; exact hlt), Array.getElem?_eq_getElem _⟩
      by_cases hall : ∀ m ∈ aftL o.after.toList, listed.getD m false = true
      · exact ⟨i, (ready_iff hc.1).2 ⟨o, ho, hl, hall⟩⟩
      · have : ∃ m, m ∈ aftL o.after.toList ∧ listed.getD m false = false := by
          refine Classical.byContradiction fun hn => hall fun m hm => ?_
          cases hq : listed.getD m false with
          | true => rfl
          | false => exact absurd ⟨m, hm, hq⟩ hn
        obtain ⟨m, hm, hlm⟩ := this
        have hmi := hback i o ho m hm
        exact ih m (by omega) (by omega) hlm
  obtain ⟨j, hj⟩ := key i0 i0 (Nat.le_refl _) hi0 hl0
  intro e
  rw [e] at hj
  cases hj

theorem apart_tm {x y : Oper} (h : x.apart ops y = true) : (∀ d, x.dst = some d → d ∉ y.looksAt ops) ∧ (∀ d, x.dst = some d → y.dst ≠ some d) ∧ (∀ d, y.dst = some d → d ∉ x.looksAt ops) := Oper.apart_spec h

theorem any_sound {es : List Eff} {st0 stF : ASt} {Q : Exit → Act → World → Prop} (hst : statB ops = true) (hF : Facts P ops (afts ops.toList) ops.toList 0 [] [] es st0) (hfin : Eqv (foldE ops.toList es st0) stF) {w0 : World} {c0 : Cx}
    (hQ : ∀ w c a, Ext w0 c0 w c → Sim w c stF a → Q .normal a w) : ∀ (fuel : Nat) (listed : Array Bool) (a : Act) (w : World) (c : Cx), Closed ops listed → left listed = fuel → Ext w0 c0 w c → Sim w c (runS (fun j => listed.getD j false) (mkE 0 ops.toList es) st0) a → wpAny P .any ops Q fuel listed a w := by
  obtain ⟨_, hback, hpair⟩ := stat_spec hst
  intro fuel
  induction fuel with
  | zero =>
    intro listed a w c hc hl he hs
    have hall : ∀ x ∈ mkE 0 ops.toList es, listed.getD x.1 false = true := fun x hx => by
      have := mkE_idx hx
      simp only [Nat.zero_add, Array.length_toList] at this
      exact left_zero hl _ (by rw [hc.1]; exact this.2)
    rw [runS_all _ _ _ _ hall] at hs
    refine ⟨?_, hQ w c a he (hs.eqv hfin)⟩
    rw [List.eq_nil_iff_forall_not_mem]
    intro i hi
    obtain ⟨o, ho, h1, _⟩ := (ready_iff hc.1).1 hi
    have := left_zero hl i (by rw [hc.1]; exact (Array.getElem?_eq_some_iff.1 ho).1)
    rw [this] at h1
    cases h1
  | succ fuel ih =>
    intro listed a w c hc hl he hs
    refine ⟨fun h => absurd h (ready_some hst hc (by omega)), fun i hi => ?_⟩
    obtain ⟨o, ho, hun, hpre⟩ := (ready_iff hc.1).1 hi
    have hin : i < ops.size := (Array.getElem?_eq_some_iff.1 ho).1
    have ho' : ops.toList[i]? = some o := by rw [Array.getElem?_toList]; exact ho
    obtain ⟨e, hei⟩ : ∃ e, es[i]? = some e := ⟨es[i]'(by rw [hF.len]; simpa using hin), List.getElem?_eq_getElem _⟩
    obtain ⟨hgood, hup, hWD⟩ := hF.good i o e ho' hei
    rw [Nat.zero_add] at hgood
    rw [← runS_text hF.len] at hgood
    -- whoever shares with i is listed just if it comes ahead
    have hshare : ∀ j y ey, ops.toList[j]? = some y → es[j]? = some ey → (¬ (y.apart ops o = true) ∧ ¬ (o.apart ops y = true) ∨ (∃ k, k ∈ ey.W ∧ k ∈ e.D)) → listed.getD j false = decide (j < i) := by
      intro j y ey hy hey hcf
      have hy' : ops[j]? = some y := by rw [Array.getElem?_toList] at hy; exact hy
      rcases Nat.lt_trichotomy j i with hji | rfl | hij
      · have hord : ordB (afts ops.toList) (afts ops.toList).length j i = true := by
          rcases hcf with ⟨h1, _⟩ | ⟨k, h1, h2⟩
          · exact (hpair j i y o hji hy' ho).resolve_left h1
          · have := hF.pair j i ey e hji hey hei
            rw [Nat.zero_add, Nat.zero_add] at this
            rcases this with ⟨h3, _⟩ | h3
            · exact (dis_spec h3 h1 h2).elim
            · exact h3
        rw [ordB_closed hc _ j i o hord ho hpre]
        simp [hji]
      · rw [hun]; simp
      · have hord : ordB (afts ops.toList) (afts ops.toList).length i j = true := by
          rcases hcf with ⟨_, h1⟩ | ⟨k, h1, h2⟩
          · exact (hpair i j o y hij ho hy').resolve_left h1
          · have := hF.pair i j e ey hij hei hey
            rw [Nat.zero_add, Nat.zero_add] at this
            rcases this with ⟨_, h3⟩ | h3
            · exact (dis_spec h3 h1 h2).elim
            · exact h3
        have : ¬ (j < i) := by omega
        simp only [this, decide_false]
        cases hq : listed.getD j false with
        | false => rfl
        | true =>
          have := ordB_closed hc _ i j y hord hy' (hc.2 j y hy' hq)
          rw [hun] at this
          cases this
    have hidx : ∀ x ∈ mkE 0 ops.toList es, ∃ y, ops.toList[x.1]? = some y ∧ es[x.1]? = some x.2.2 ∧ x.2.1 = y.dst := fun x hx => by
      obtain ⟨k, y, ey, h1, h2, rfl⟩ := mkE_mem hx
      exact ⟨y, by simpa using h1, by simpa using h2, rfl⟩
    have hap : ∀ (y : Oper) (t : Nat), y.dst = some t → t ∈ o.looksAt ops → ¬ (y.apart ops o = true) ∧ ¬ (o.apart ops y = true) := fun y t h1 h2 =>
      ⟨fun h => (apart_tm h).1 t h1 h2, fun h => (apart_tm h).2.2 t h1 h2⟩
    have htm : ∀ t ∈ o.looksAt ops, tget (runS (fun j => listed.getD j false) (mkE 0 ops.toList es) st0).tm t = tget (runS (fun j => decide (j < i)) (mkE 0 ops.toList es) st0).tm t := fun t ht =>
      runS_tm _ (fun x hx hxt => by
        obtain ⟨y, h1, h2, h3⟩ := hidx x hx
        exact (hshare x.1 y x.2.2 h1 h2 (.inl (hap y t (h3 ▸ hxt) ht))).symm) rfl rfl
    have hhp : Agree e.D (runS (fun j => decide (j < i)) (mkE 0 ops.toList es) st0).hp (runS (fun j => listed.getD j false) (mkE 0 ops.toList es) st0).hp := fun s hsD =>
      runS_hp _ (fun x hx hxs => by
        obtain ⟨y, h1, h2, h3⟩ := hidx x hx
        obtain ⟨q, hq, rfl⟩ := hxs
        have h4 := (hF.good x.1 y x.2.2 h1 h2).2.1 q hq
        exact (hshare x.1 y x.2.2 h1 h2 (.inr ⟨_, h4, hsD⟩)).symm) rfl
    refine wpOp_mono ?_ (hgood _ w c a Q (by simp only [runS_n]) htm hhp hs)
    rintro a' w' ⟨c', he', hs'⟩
    have hset : ∀ j, (listed.setIfInBounds i true).getD j false = (listed.getD j false || j == i) := by
      intro j
      by_cases hj : j = i
      · subst hj
        have : j < listed.size := by rw [hc.1]; exact hin
        simp [this]
      · rw [getD_set_ne false (fun q => hj q.symm)]
        simp [hj]
    refine ih (listed.setIfInBounds i true) a' w' c' ⟨by simp [hc.1], fun j y hy hjl m hm => ?_⟩ ?_ (he.trans he') ?_
    · rw [hset] at hjl ⊢
      rw [Bool.or_eq_true] at hjl ⊢
      rcases hjl with hjl | hjl
      · exact .inl (hc.2 j y hy hjl m hm)
      · have : j = i := by simpa using hjl
        subst this
        rw [ho] at hy
        cases hy
        exact .inl (hpre m hm)
    · have := left_set (listed := listed) (i := i) (by rw [hc.1]; exact hin) hun
      omega
    · have hS : (fun j => (listed.setIfInBounds i true).getD j false) = fun j => listed.getD j false || j == i := funext hset
      rw [hS]
      refine hs'.eqv ?_
      rw [mkE_split ho' hei]
      simp only [Nat.zero_add]
      have hne : ∀ x ∈ mkE 0 (ops.toList.take i) (es.take i) ++ mkE (i + 1) (ops.toList.drop (i + 1)) (es.drop (i + 1)), x.1 ≠ i := by
        intro x hx
        rcases List.mem_append.1 hx with hx | hx
        · have := mkE_idx hx
          simp only [List.length_take] at this
          omega
        · have := mkE_idx hx
          omega
      have hlater : ∀ x ∈ mkE (i + 1) (ops.toList.drop (i + 1)) (es.drop (i + 1)), ∃ y, ops.toList[x.1]? = some y ∧ es[x.1]? = some x.2.2 ∧ x.2.1 = y.dst ∧ i < x.1 := fun x hx => by
        obtain ⟨k, y, ey, h1, h2, rfl⟩ := mkE_mem hx
        refine ⟨y, ?_, ?_, rfl, by simp only; omega⟩
        · rw [List.getElem?_drop] at h1; simpa using h1
        · rw [List.getElem?_drop] at h2; simpa using h2
      refine runS_last hun hne (fun x hx hxl t hd hdt => ?_) fun x hx hxl q hq q' hq' heq => ?_
      · obtain ⟨y, h1, h2, h3, h4⟩ := hlater x hx
        have := hshare x.1 y x.2.2 h1 h2 (.inl ⟨fun h => (apart_tm h).2.1 t (h3 ▸ hdt) hd, fun h => (apart_tm h).2.1 t hd (h3 ▸ hdt)⟩)
        rw [hxl] at this
        simp at this
        omega
      · obtain ⟨y, h1, h2, h3, h4⟩ := hlater x hx
        have h5 := (hF.good x.1 y x.2.2 h1 h2).2.1 q hq
        have h6 := hWD _ (hup q' hq')
        rw [heq] at h5
        have := hshare x.1 y x.2.2 h1 h2 (.inr ⟨_, h5, h6⟩)
        rw [hxl] at this
        simp at this
        omega

/-- A region whose order is open. -/
theorem region_any {id : Nat} {K : ASt → Prop} {Q : Exit → Act → World → Prop} {st : ASt} {w : World} {c : Cx} {a : Act} (hm : P.follows .mixedOrders = true) (hst : statB ops = true) (h : ADr P (ops.toList.map (·.dst)) (afts ops.toList) ops.toList 0 [] [] K st) (hs : Sim w c st a)
    (hQ : ∀ st' w' c' a', K st' → Ext w c w' c' → Sim w' c' st' a' → Q .normal a' w') : (Code.region id ops true).wp P Q a w := by
  obtain ⟨es, stF, hK, hfin, hF⟩ := ADr_runs (ops := ops) ops.toList 0 [] [] st st h (Eqv.refl st) (fun k => by simp)
  have hs0 : Sim w.drew c st a := ⟨hs.size, fun i => RelV.ext (Ext.refl w c).drew _ _ (hs.tm i), hs.inv.drew, hs.df⟩
  have hleft : left (Array.replicate ops.size false) = ops.size := by
    unfold left
    simp
  have hclosed : Closed ops (Array.replicate ops.size false) := ⟨by simp, fun j o ho hl => by rw [getD_replicate_false] at hl; cases hl⟩
  refine wp_region_any hm ?_
  have hnone : runS (fun j => (Array.replicate ops.size false).getD j false) (mkE 0 ops.toList es) st = st := runS_none _ _ fun x hx => getD_replicate_false _ _
  exact any_sound (w0 := w) (c0 := c) hst hF hfin (fun w' c' a' e s => hQ stF w' c' a' hK e s) ops.size _ a w.drew c hclosed hleft ((Ext.refl w c).drew) (by rw [hnone]; exact hs0)
end
end Go.Proofs.YtanbgeelphfggaaDoor.E
