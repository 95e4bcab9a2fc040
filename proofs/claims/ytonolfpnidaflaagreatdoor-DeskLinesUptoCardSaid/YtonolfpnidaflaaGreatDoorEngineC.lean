/- The abstract machine of this claim: parts W Z U X M Y N. No conditions. -/
import Derived.Test.YtonolfpnidaflaaGreatDoorEngineB
import Derived.StillTail
/- The abstract machine of this claim, part W: a region whose order is open. No conditions. -/
namespace Go.Proofs.YtonolfpnidaflaaGreatDoor.E
open Go
set_option linter.unusedSimpArgs false
set_option linter.unusedVariables false
set_option linter.unusedSectionVars false
set_option maxRecDepth 20000

section
variable {P : Program} {ops : Array Oper}
def mkE : Nat → List Oper → List Eff → List Ent
 | j, o :: os, e :: es => (j, o.dst, e) :: mkE (j + 1) os es
 | _, _, _ => []
theorem mkE_mem {l : List Oper} {es : List Eff} {j : Nat} {x : Ent} (h : x ∈ mkE j l es) : ∃ k o e, l[k]? = some o ∧ es[k]? = some e ∧ x = (j + k, o.dst, e) := by
 induction l generalizing es j with
 | nil => simp [mkE] at h
 | cons o l ih => cases es with
  | nil => simp [mkE] at h
  | cons e es =>
   simp only [mkE] at h
   rcases List.mem_cons.1 h with rfl | h
   ·exact ⟨0, o, e, rfl, rfl, rfl⟩
   ·obtain ⟨k, o', e', h1, h2, rfl⟩ := ih h
    exact ⟨k + 1, o', e', h1, h2, by simp; omega⟩
theorem mkE_split {l : List Oper} {es : List Eff} {j k : Nat} {o : Oper} {e : Eff} (ho : l[k]? = some o) (he : es[k]? = some e) : mkE j l es = mkE j (l.take k) (es.take k) ++ (j + k, o.dst, e) :: mkE (j + k + 1) (l.drop (k + 1)) (es.drop (k + 1)) := by
 induction k generalizing l es j with
 | zero =>
  cases l with
  | nil => simp at ho
  | cons x l => cases es with
   | nil => simp at he
   | cons y es =>
    simp only [List.getElem?_cons_zero, Option.some.injEq] at ho he
    subst ho
    subst he
    simp [mkE]
 | succ k ih =>
  cases l with
  | nil => simp at ho
  | cons x l => cases es with
   | nil => simp at he
   | cons y es =>
    simp only [List.getElem?_cons_succ] at ho he
    simp only [mkE, List.take_succ_cons, List.drop_succ_cons, List.cons_append]
    rw [ih (j := j + 1) ho he]
    rw [show j + 1 + k = j + (k + 1) by omega]
theorem runS_all {S : Nat → Bool} : ∀ (l : List Oper) (es : List Eff) (j : Nat) (st : ASt), (∀ x ∈ mkE j l es, S x.1 = true) → runS S (mkE j l es) st = foldE l es st
 | [], es, j, st, _ => by cases es <;> simp [mkE, runS, foldE]
 | o :: l, [], j, st, _ => by simp [mkE, runS, foldE]
 | o :: l, e :: es, j, st, h => by
  simp only [mkE, runS, foldE]
  rw [if_pos (h (j, o.dst, e) (by simp [mkE]))]
  exact runS_all l es (j + 1) _ fun x hx => h x (by simp [mkE, hx])
theorem runS_none {S : Nat → Bool} : ∀ (l : List Ent) (st : ASt), (∀ x ∈ l, S x.1 = false) → runS S l st = st
 | [], _, _ => rfl
 | (j, d, e) :: r, st, h => by
  simp only [runS]
  rw [if_neg (by rw [h _ (.head _)]; simp)]
  exact runS_none r st fun x hx => h x (.tail _ hx)
theorem mkE_idx {l : List Oper} {es : List Eff} {j : Nat} {x : Ent} (h : x ∈ mkE j l es) : j ≤ x.1 ∧ x.1 < j + l.length := by
 obtain ⟨k, o, e, h1, _, rfl⟩ := mkE_mem h
 have := lt_of_get h1
 simp only; omega
/-- The text's state ahead of operation k. -/
theorem runS_text {l : List Oper} {es : List Eff} {k : Nat} {st : ASt} (hlen : es.length = l.length) : runS (fun j => decide (j < k)) (mkE 0 l es) st = foldE (l.take k) (es.take k) st := by
 rcases Nat.lt_or_ge k l.length with hk | hk
 ·obtain ⟨o, ho⟩ : ∃ o, l[k]? = some o := ⟨l[k], List.getElem?_eq_getElem hk⟩
  obtain ⟨e, he⟩ : ∃ e, es[k]? = some e := ⟨es[k]'(by omega), List.getElem?_eq_getElem (by omega)⟩
  rw [mkE_split ho he, runS_append, runS_none]
  ·refine runS_all _ _ _ _ fun x hx => ?_
   have := mkE_idx hx
   simp only [List.length_take, Nat.zero_add] at this
   simp; omega
  ·intro x hx
   rcases List.mem_cons.1 hx with rfl | hx
   ·simp
   ·have := mkE_idx hx
    simp; omega
 ·rw [List.take_of_length_le hk, List.take_of_length_le (by omega)]
  refine runS_all _ _ _ _ fun x hx => ?_
  have := mkE_idx hx
  simp; omega

/-- Done, with all that they wait for. -/
def Closed (ops : Array Oper) (listed : Array Bool) : Prop := listed.size = ops.size ∧ ∀ j o, ops[j]? = some o → listed.getD j false = true → ∀ m ∈ aftL o.after.toList, listed.getD m false = true
theorem afts_get {j : Nat} {o : Oper} (h : ops[j]? = some o) : (afts ops.toList)[j]? = some (aftL o.after.toList) := by
 unfold afts
 rw [List.getElem?_map, Array.getElem?_toList, h]
 rfl
theorem ordB_closed {listed : Array Bool} (hc : Closed ops listed) : ∀ (n i j : Nat) (o : Oper), ordB (afts ops.toList) n i j = true → ops[j]? = some o → (∀ m ∈ aftL o.after.toList, listed.getD m false = true) → listed.getD i false = true := by
 intro n
 induction n with
 | zero => intro i j o h; simp [ordB] at h
 | succ n ih =>
  intro i j o h ho hp
  simp only [ordB, afts_get ho] at h
  rw [Bool.or_eq_true] at h
  rcases h with h | h
  ·exact hp i (by simpa using h)
  ·obtain ⟨m, hm, h⟩ := List.any_eq_true.1 h
   have hml := hp m hm
   cases hom : ops[m]? with
   | none =>
    have : ops.size ≤ m := by simpa using Array.getElem?_eq_none_iff.1 hom
    rw [Array.getD_eq_getD_getElem?, Array.getElem?_eq_none (by rw [hc.1]; exact this)] at hml
    cases hml
   | some om => exact ih i m om h hom (hc.2 m om hom hml)
theorem ready_iff {listed : Array Bool} (hs : listed.size = ops.size) {i : Nat} : i ∈ Region.ready .any ops listed ↔ ∃ o, ops[i]? = some o ∧ listed.getD i false = false ∧ ∀ m ∈ aftL o.after.toList, listed.getD m false = true := by
 unfold Region.ready
 simp only [List.mem_filter, List.mem_range, Bool.and_eq_true, Bool.not_eq_true']
 constructor
 ·rintro ⟨h1, h2, h3⟩
  obtain ⟨o, ho⟩ : ∃ o, ops[i]? = some o := ⟨ops[i], Array.getElem?_eq_getElem h1⟩
  refine ⟨o, ho, getD_both h2, fun m hm => ?_⟩
  rw [ho] at h3
  simp only [Option.map_some, Option.getD_some] at h3
  obtain ⟨e, he, hb, rfl⟩ := mem_aftL.1 hm
  have := (Array.all_eq_true'.1 h3) e (Array.mem_toList_iff.1 he)
  simpa [hb] using this
 ·rintro ⟨o, ho, h2, h3⟩
  have hi : i < ops.size := (Array.getElem?_eq_some_iff.1 ho).1
  refine ⟨hi, getD_in (by omega) h2, ?_⟩
  rw [ho]
  simp only [Option.map_some, Option.getD_some]
  rw [Array.all_eq_true']
  intro e he
  cases hb : Region.binds .any e with
  | false => simp
  | true => simpa using h3 e.on (mem_aftL.2 ⟨e, Array.mem_toList_iff.2 he, hb, rfl⟩)
theorem stat_spec (h : statB ops = true) : Region.noSelect ops = true ∧ (∀ j o, ops[j]? = some o → ∀ m ∈ aftL o.after.toList, m < j) ∧ ∀ i j x y, i < j → ops[i]? = some x → ops[j]? = some y → x.apart ops y = true ∨ ordB (afts ops.toList) (afts ops.toList).length i j = true := by
 unfold statB at h
 simp only [Bool.and_eq_true, List.all_eq_true, List.mem_range] at h
 obtain ⟨h1, h2⟩ := h
 refine ⟨h1, fun j o ho m hm => ?_, fun i j x y hij hx hy => ?_⟩
 ·have hj : j < ops.size := (Array.getElem?_eq_some_iff.1 ho).1
  have := (h2 j hj).1
  rw [List.getD_eq_getElem?_getD, afts_get ho] at this
  simpa using this m hm
 ·have hj : j < ops.size := (Array.getElem?_eq_some_iff.1 hy).1
  have := (h2 j hj).2 i hij
  rw [hx, hy] at this
  simpa [Bool.or_eq_true] using this
theorem dis_spec {a b : Keys} (h : dis a b = true) {k : Bool × Nat} (ha : k ∈ a) (hb : k ∈ b) : False := by
 unfold dis at h
 have := List.all_eq_true.1 h k ha
 simp only [Bool.not_eq_true', List.contains_eq_mem, decide_eq_false_iff_not] at this
 exact this hb

def left (listed : Array Bool) : Nat := (listed.toList.filter (fun b => !b)).length
theorem left_set {listed : Array Bool} {i : Nat} (hi : i < listed.size) (h : listed.getD i false = false) : left (listed.setIfInBounds i true) + 1 = left listed := by
 unfold left
 rw [Array.toList_setIfInBounds]
 have h' : listed.toList[i]? = some false := by
  rw [Array.getElem?_toList, Array.getElem?_eq_getElem hi]
  simpa [hi] using h
 clear hi h
 generalize listed.toList = l at h'
 induction l generalizing i with
 | nil => simp at h'
 | cons x l ih =>
  cases i with
  | zero => simp at h'; subst h'; simp
  | succ i =>
   simp only [List.getElem?_cons_succ] at h'
   simp only [List.set_cons_succ, List.filter_cons]
   have := ih (i := i) h'
   cases x <;> simp only [Bool.not_true, Bool.not_false, Bool.false_eq_true, if_false, if_true, List.length_cons] <;> omega
theorem left_zero {listed : Array Bool} (h : left listed = 0) (i : Nat) (hi : i < listed.size) : listed.getD i false = true := by
 unfold left at h
 have h1 := List.eq_nil_of_length_eq_zero h
 rw [List.filter_eq_nil_iff] at h1
 have := h1 (listed[i]) (by simp)
 simpa [hi] using this
theorem left_pos {listed : Array Bool} (h : 0 < left listed) : ∃ i, i < listed.size ∧ listed.getD i false = false := by
 unfold left at h
 obtain ⟨b, hb⟩ := List.exists_mem_of_length_pos h
 obtain ⟨h1, h2⟩ := List.mem_filter.1 hb
 obtain ⟨i, hi, rfl⟩ := List.mem_iff_getElem.1 h1
 simp only [Array.length_toList] at hi
 refine ⟨i, hi, ?_⟩
 simpa [hi] using h2
/-- One that waits for nobody. -/
theorem ready_some {listed : Array Bool} (hst : statB ops = true) (hc : Closed ops listed) (h : 0 < left listed) : Region.ready .any ops listed ≠ [] := by
 obtain ⟨_, hback, _⟩ := stat_spec hst
 obtain ⟨i0, hi0, hl0⟩ := left_pos h
 have key : ∀ (n i : Nat), i ≤ n → i < listed.size → listed.getD i false = false → ∃ j, j ∈ Region.ready .any ops listed := by
  intro n
  induction n with
  | zero =>
   intro i hi hlt hl
   obtain ⟨o, ho⟩ : ∃ o, ops[i]? = some o := ⟨ops[i]'(by rw [← hc.1]; exact hlt), Array.getElem?_eq_getElem _⟩
   exact ⟨i, (ready_iff hc.1).2 ⟨o, ho, hl, fun m hm => by have := hback i o ho m hm; omega⟩⟩
  | succ n ih =>
   intro i hi hlt hl
   obtain ⟨o, ho⟩ : ∃ o, ops[i]? = some o := ⟨ops[i]'(by rw [← hc.1]; exact hlt), Array.getElem?_eq_getElem _⟩
   by_cases hall : ∀ m ∈ aftL o.after.toList, listed.getD m false = true
   ·exact ⟨i, (ready_iff hc.1).2 ⟨o, ho, hl, hall⟩⟩
   ·have : ∃ m, m ∈ aftL o.after.toList ∧ listed.getD m false = false := by
     refine Classical.byContradiction fun hn => hall fun m hm => ?_
     cases hq : listed.getD m false with
     | true => rfl
     | false => exact absurd ⟨m, hm, hq⟩ hn
    obtain ⟨m, hm, hlm⟩ := this
    have hmi := hback i o ho m hm
    exact ih m (by omega) (by omega) hlm
 obtain ⟨j, hj⟩ := key i0 i0 (Nat.le_refl _) hi0 hl0
 intro e
 rw [e] at hj
 cases hj

theorem apart_tm {x y : Oper} (h : x.apart ops y = true) : (∀ d, x.dst = some d → d ∉ y.looksAt ops) ∧ (∀ d, x.dst = some d → y.dst ≠ some d) ∧ (∀ d, y.dst = some d → d ∉ x.looksAt ops) := Oper.apart_spec h

theorem any_sound {es : List Eff} {st0 stF : ASt} {Q : Exit → Act → World → Prop} (hst : statB ops = true) (hF : Facts P ops (afts ops.toList) ops.toList 0 [] [] es st0) (hfin : Eqv (foldE ops.toList es st0) stF) {D : List Deferred} {w0 : World} {c0 : Cx}
  (hQ : ∀ w c a, Ext w0 c0 w c → Sim D w c stF a → Q .normal a w) : ∀ (fuel : Nat) (listed : Array Bool) (a : Act) (w : World) (c : Cx), Closed ops listed → left listed = fuel → Ext w0 c0 w c → Sim D w c (runS (fun j => listed.getD j false) (mkE 0 ops.toList es) st0) a → wpAny P .any ops Q fuel listed a w := by
 obtain ⟨_, hback, hpair⟩ := stat_spec hst
 intro fuel
 induction fuel with
 | zero =>
  intro listed a w c hc hl he hs
  have hall : ∀ x ∈ mkE 0 ops.toList es, listed.getD x.1 false = true := fun x hx => by
   have := mkE_idx hx
   simp only [Nat.zero_add, Array.length_toList] at this
   exact left_zero hl _ (by rw [hc.1]; exact this.2)
  rw [runS_all _ _ _ _ hall] at hs
  refine ⟨?_, hQ w c a he (hs.eqv hfin)⟩
  rw [List.eq_nil_iff_forall_not_mem]
  intro i hi
  obtain ⟨o, ho, h1, _⟩ := (ready_iff hc.1).1 hi
  have := left_zero hl i (by rw [hc.1]; exact (Array.getElem?_eq_some_iff.1 ho).1)
  rw [this] at h1
  cases h1
 | succ fuel ih =>
  intro listed a w c hc hl he hs
  refine ⟨fun h => absurd h (ready_some hst hc (by omega)), fun i hi => ?_⟩
  obtain ⟨o, ho, hun, hpre⟩ := (ready_iff hc.1).1 hi
  have hin : i < ops.size := (Array.getElem?_eq_some_iff.1 ho).1
  have ho' : ops.toList[i]? = some o := by rw [Array.getElem?_toList]; exact ho
  obtain ⟨e, hei⟩ : ∃ e, es[i]? = some e := ⟨es[i]'(by rw [hF.len]; simpa using hin), List.getElem?_eq_getElem _⟩
  obtain ⟨hgood, hup, hWD⟩ := hF.good i o e ho' hei
  rw [Nat.zero_add] at hgood
  rw [← runS_text hF.len] at hgood
  -- whoever shares with i is listed just if it comes ahead
  have hshare : ∀ j y ey, ops.toList[j]? = some y → es[j]? = some ey → (¬ (y.apart ops o = true) ∧ ¬ (o.apart ops y = true) ∨ (∃ k, k ∈ ey.W ∧ k ∈ e.D)) → listed.getD j false = decide (j < i) := by
   intro j y ey hy hey hcf
   have hy' : ops[j]? = some y := by rw [Array.getElem?_toList] at hy; exact hy
   rcases Nat.lt_trichotomy j i with hji | rfl | hij
   ·have hord : ordB (afts ops.toList) (afts ops.toList).length j i = true := by
     rcases hcf with ⟨h1, _⟩ | ⟨k, h1, h2⟩
     ·exact (hpair j i y o hji hy' ho).resolve_left h1
     ·have := hF.pair j i ey e hji hey hei
      rw [Nat.zero_add, Nat.zero_add] at this
      rcases this with ⟨h3, _⟩ | h3
      ·exact (dis_spec h3 h1 h2).elim
      ·exact h3
    rw [ordB_closed hc _ j i o hord ho hpre]
    simp [hji]
   ·rw [hun]; simp
   ·have hord : ordB (afts ops.toList) (afts ops.toList).length i j = true := by
     rcases hcf with ⟨_, h1⟩ | ⟨k, h1, h2⟩
     ·exact (hpair i j o y hij ho hy').resolve_left h1
     ·have := hF.pair i j e ey hij hei hey
      rw [Nat.zero_add, Nat.zero_add] at this
      rcases this with ⟨_, h3⟩ | h3
      ·exact (dis_spec h3 h1 h2).elim
      ·exact h3
    have : ¬ (j < i) := by omega
    simp only [this, decide_false]
    cases hq : listed.getD j false with
    | false => rfl
    | true =>
     have := ordB_closed hc _ i j y hord hy' (hc.2 j y hy' hq)
     rw [hun] at this
     cases this
  have hidx : ∀ x ∈ mkE 0 ops.toList es, ∃ y, ops.toList[x.1]? = some y ∧ es[x.1]? = some x.2.2 ∧ x.2.1 = y.dst := fun x hx => by
   obtain ⟨k, y, ey, h1, h2, rfl⟩ := mkE_mem hx
   exact ⟨y, by simpa using h1, by simpa using h2, rfl⟩
  have hap : ∀ (y : Oper) (t : Nat), y.dst = some t → t ∈ o.looksAt ops → ¬ (y.apart ops o = true) ∧ ¬ (o.apart ops y = true) := fun y t h1 h2 =>
   ⟨fun h => (apart_tm h).1 t h1 h2, fun h => (apart_tm h).2.2 t h1 h2⟩
  have htm : ∀ t ∈ o.looksAt ops, tget (runS (fun j => listed.getD j false) (mkE 0 ops.toList es) st0).tm t = tget (runS (fun j => decide (j < i)) (mkE 0 ops.toList es) st0).tm t := fun t ht =>
   runS_tm _ (fun x hx hxt => by
    obtain ⟨y, h1, h2, h3⟩ := hidx x hx
    exact (hshare x.1 y x.2.2 h1 h2 (.inl (hap y t (h3 ▸ hxt) ht))).symm) rfl rfl
  have hhp : Agree e.D (runS (fun j => decide (j < i)) (mkE 0 ops.toList es) st0).hp (runS (fun j => listed.getD j false) (mkE 0 ops.toList es) st0).hp := fun s hsD =>
   runS_hp _ (fun x hx hxs => by
    obtain ⟨y, h1, h2, h3⟩ := hidx x hx
    obtain ⟨q, hq, rfl⟩ := hxs
    have h4 := (hF.good x.1 y x.2.2 h1 h2).2.1 q hq
    exact (hshare x.1 y x.2.2 h1 h2 (.inr ⟨_, h4, hsD⟩)).symm) rfl
  refine wpOp_mono ?_ (hgood _ _ w c a Q (by simp only [runS_n]) htm hhp hs)
  rintro a' w' ⟨c', he', hs'⟩
  have hset : ∀ j, (listed.setIfInBounds i true).getD j false = (listed.getD j false || j == i) := by
   intro j
   by_cases hj : j = i
   ·subst hj
    have : j < listed.size := by rw [hc.1]; exact hin
    simp [this]
   ·rw [getD_set_ne false (fun q => hj q.symm)]
    simp [hj]
  refine ih (listed.setIfInBounds i true) a' w' c' ⟨by simp [hc.1], fun j y hy hjl m hm => ?_⟩ ?_ (he.trans he') ?_
  ·rw [hset] at hjl ⊢
   rw [Bool.or_eq_true] at hjl ⊢
   rcases hjl with hjl | hjl
   ·exact .inl (hc.2 j y hy hjl m hm)
   ·have : j = i := by simpa using hjl
    subst this
    rw [ho] at hy
    cases hy
    exact .inl (hpre m hm)
  ·have := left_set (listed := listed) (i := i) (by rw [hc.1]; exact hin) hun
   omega
  ·have hS : (fun j => (listed.setIfInBounds i true).getD j false) = fun j => listed.getD j false || j == i := funext hset
   rw [hS]
   refine hs'.eqv ?_
   rw [mkE_split ho' hei]
   simp only [Nat.zero_add]
   have hne : ∀ x ∈ mkE 0 (ops.toList.take i) (es.take i) ++ mkE (i + 1) (ops.toList.drop (i + 1)) (es.drop (i + 1)), x.1 ≠ i := by
    intro x hx
    rcases List.mem_append.1 hx with hx | hx
    ·have := mkE_idx hx
     simp only [List.length_take] at this
     omega
    ·have := mkE_idx hx
     omega
   have hlater : ∀ x ∈ mkE (i + 1) (ops.toList.drop (i + 1)) (es.drop (i + 1)), ∃ y, ops.toList[x.1]? = some y ∧ es[x.1]? = some x.2.2 ∧ x.2.1 = y.dst ∧ i < x.1 := fun x hx => by
    obtain ⟨k, y, ey, h1, h2, rfl⟩ := mkE_mem hx
    refine ⟨y, ?_, ?_, rfl, by simp only; omega⟩
    ·rw [List.getElem?_drop] at h1; simpa using h1
    ·rw [List.getElem?_drop] at h2; simpa using h2
   refine runS_last hun hne (fun x hx hxl t hd hdt => ?_) fun x hx hxl q hq q' hq' heq => ?_
   ·obtain ⟨y, h1, h2, h3, h4⟩ := hlater x hx
    have := hshare x.1 y x.2.2 h1 h2 (.inl ⟨fun h => (apart_tm h).2.1 t (h3 ▸ hdt) hd, fun h => (apart_tm h).2.1 t hd (h3 ▸ hdt)⟩)
    rw [hxl] at this
    simp at this
    omega
   ·obtain ⟨y, h1, h2, h3, h4⟩ := hlater x hx
    have h5 := (hF.good x.1 y x.2.2 h1 h2).2.1 q hq
    have h6 := hWD _ (hup q' hq')
    rw [heq] at h5
    have := hshare x.1 y x.2.2 h1 h2 (.inr ⟨_, h5, h6⟩)
    rw [hxl] at this
    simp at this
    omega

/-- A region whose order is open. -/
theorem region_any {id : Nat} {K : ASt → Prop} {Q : Exit → Act → World → Prop} {st : ASt} {D : List Deferred} {w : World} {c : Cx} {a : Act} (hm : P.follows .mixedOrders = true) (hst : statB ops = true) (h : ADr P (ops.toList.map (·.dst)) (afts ops.toList) ops.toList 0 [] [] K st) (hs : Sim D w c st a)
  (hQ : ∀ st' w' c' a', K st' → Ext w c w' c' → Sim D w' c' st' a' → Q .normal a' w') : (Code.region id ops true).wp P Q a w := by
 obtain ⟨es, stF, hK, hfin, hF⟩ := ADr_runs (ops := ops) ops.toList 0 [] [] st st h (Eqv.refl st) (fun k o h => by simpa using h)
 have hs0 : Sim D w.drew c st a := ⟨hs.size, fun i => RelV.ext (Ext.refl w c).drew _ _ (hs.tm i), hs.inv.drew, hs.df⟩
 have hleft : left (Array.replicate ops.size false) = ops.size := by
  unfold left
  simp
 have hclosed : Closed ops (Array.replicate ops.size false) := ⟨by simp, fun j o ho hl => by rw [getD_replicate_false] at hl; cases hl⟩
 refine wp_region_any hm ?_
 have hnone : runS (fun j => (Array.replicate ops.size false).getD j false) (mkE 0 ops.toList es) st = st := runS_none _ _ fun x hx => getD_replicate_false _ _
 exact any_sound (w0 := w) (c0 := c) hst hF hfin (fun w' c' a' e s => hQ stF w' c' a' hK e s) ops.size _ a w.drew c hclosed hleft ((Ext.refl w c).drew) (by rw [hnone]; exact hs0)
end
end Go.Proofs.YtonolfpnidaflaaGreatDoor.E

/- The abstract machine of this claim, part Z: states that tell no more than other ones; versions counted anew; nil told as an empty row. No conditions. -/
namespace Go.Proofs.YtonolfpnidaflaaGreatDoor.E
open Go
set_option linter.unusedSimpArgs false
set_option linter.unusedVariables false
set_option linter.unusedSectionVars false
set_option maxRecDepth 20000
/-- What becomes of the world, seen from outside: of the inner places' versions nothing is told. -/
structure ExtW (w : World) (c : Cx) (w' : World) (c' : Cx) : Prop where
 os : w'.os = w.os
 tape : w'.tape = w.tape
 output : w'.output = w.output
 size : w.heap.size ≤ w'.heap.size
 block : ∀ b, b < w.heap.size → ¬ c.live b → w'.heap[b]? = w.heap[b]? ∧ ¬ c'.live b
 far : c'.far = c.far
 cur : ∀ i, c.cur (.e i) < c'.cur (.e i) ∨ (c'.cur (.e i) = c.cur (.e i) ∧ c'.loc (.e i) = c.loc (.e i) ∧ (c'.lv (.e i) = true → c.lv (.e i) = true))
theorem Ext.toW {w w' : World} {c c' : Cx} (h : Ext w c w' c') : ExtW w c w' c' := ⟨h.os, h.tape, h.output, h.size, h.block, h.far, fun i => h.cur (.e i)⟩
theorem ExtW.refl (w : World) (c : Cx) : ExtW w c w c := (Ext.refl w c).toW
theorem ExtW.trans {w w1 w2 : World} {c c1 c2 : Cx} (h : ExtW w c w1 c1) (k : ExtW w1 c1 w2 c2) : ExtW w c w2 c2 where
 os := k.os.trans h.os
 tape := k.tape.trans h.tape
 output := k.output.trans h.output
 size := Nat.le_trans h.size k.size
 block b hb hn := by
  obtain ⟨e1, n1⟩ := h.block b hb hn
  obtain ⟨e2, n2⟩ := k.block b (Nat.lt_of_lt_of_le hb h.size) n1
  exact ⟨e2.trans e1, n2⟩
 far := k.far.trans h.far
 cur s := by
  rcases h.cur s with h1 | ⟨h1, h2, h3⟩ <;> rcases k.cur s with k1 | ⟨k1, k2, k3⟩
  ·exact .inl (Nat.lt_trans h1 k1)
  ·exact .inl (by omega)
  ·exact .inl (by omega)
  ·exact .inr ⟨k1.trans h1, k2.trans h2, fun x => h3 (k3 x)⟩
/-- A state that tells no more than another one. -/
def Less (st s : ASt) : Prop := ∀ {D : List Deferred} {w : World} {c : Cx} {a : Act}, Sim D w c st a → ∃ c', ExtW w c w c' ∧ Sim D w c' s a
/-- A state that tells no more than one of several. -/
def LessE (st : ASt) (I : ASt → Prop) : Prop := ∀ {D : List Deferred} {w : World} {c : Cx} {a : Act}, Sim D w c st a → ∃ c' s, ExtW w c w c' ∧ Sim D w c' s a ∧ I s
theorem LessE.of {st s : ASt} {I : ASt → Prop} (h : Less st s) (k : I s) : LessE st I := fun hs => by
 obtain ⟨c1, e1, h1⟩ := h hs
 exact ⟨c1, s, e1, h1, k⟩
theorem LessE.trans {s1 : ASt} {I J : ASt → Prop} (h : LessE s1 I) (k : ∀ s, I s → LessE s J) : LessE s1 J := fun hs => by
 obtain ⟨c1, s, e1, h1, hI⟩ := h hs
 obtain ⟨c2, s2, e2, h2, hJ⟩ := k s hI h1
 exact ⟨c2, s2, e1.trans e2, h2, hJ⟩
theorem Less.refl (st : ASt) : Less st st := fun hs => ⟨_, ExtW.refl _ _, hs⟩
theorem Less.trans {s1 s2 s3 : ASt} (h : Less s1 s2) (k : Less s2 s3) : Less s1 s3 := fun hs => by
 obtain ⟨c1, e1, h1⟩ := h hs
 obtain ⟨c2, e2, h2⟩ := k h1
 exact ⟨c2, e1.trans e2, h2⟩
theorem Less.of_tm {st s : ASt} (h1 : st.n = s.n) (h2 : st.hp = s.hp) (h3 : ∀ i, tget s.tm i = .dead ∨ tget s.tm i = tget st.tm i) : Less st s := fun {D w c a} hs => by
 refine ⟨c, ExtW.refl _ _, hs.size.trans h1, fun i => ?_, h2 ▸ hs.inv, hs.df⟩
 rcases h3 i with e | e
 ·rw [e]; simp only [RelV]
 ·rw [e]; exact hs.tm i

section
variable (ad : List Site) (hp G : Hp)
/-- A place's number of before, and that of now. -/
def toN (s : Site) (v v' : Nat) : Prop := s ∉ ad ∧ ((v' = v ∧ (G.get s).1 = (hp.get s).1) ∨ (v = (hp.get s).1 ∧ v' = (G.get s).1))
mutual
def toV : AV → AV → Prop
 | .val u, y => match y with
  | .dead => True
  | .val v => u = v
  | .own s v _ o l => o = 0 ∧ l = 0 ∧ u = .slice none 0 0 ∧ s ∈ ad ∧ v = (G.get s).1
  | .list _ r => r = [] ∧ u = .slice none 0 0
  | _ => False
 | .list k r, y => match y with
  | .dead => True
  | .list k' r' => k = k' ∧ r = r'
  | _ => False
 | .rop cs, y => match y with
  | .dead => True
  | .rop ds => cs = ds
  | _ => False
 | .agg cs, y => match y with
  | .dead => True
  | .agg ds => toL cs ds
  | _ => False
 | .tup cs, y => match y with
  | .dead => True
  | .tup ds => toL cs ds
  | _ => False
 | .func f cs, y => match y with
  | .dead => True
  | .func g ds => f = g ∧ toL cs ds
  | _ => False
 | .iface t x, y => match y with
  | .dead => True
  | .iface u z => t = u ∧ toV x z
  | _ => False
 | .ptr s v o, y => match y with
  | .dead => True
  | .ptr s' v' o' => s = s' ∧ toN ad hp G s v v' ∧ o = o'
  | _ => False
 | .ept s v k i o, y => match y with
  | .dead => True
  | .ept s' v' k' i' o' => s = s' ∧ toN ad hp G s v v' ∧ k = k' ∧ i = i' ∧ o = o'
  | _ => False
 | .own s v k o l, y => match y with
  | .dead => True
  | .own s' v' k' o' l' => s = s' ∧ toN ad hp G s v v' ∧ k = k' ∧ o = o' ∧ l = l'
  | _ => False
 | .map s v, y => match y with
  | .dead => True
  | .map s' v' => s = s' ∧ toN ad hp G s v v'
  | _ => False
 | .junk, y => match y with
  | .dead => True
  | .junk => True
  | _ => False
 | .dead, y => match y with
  | .dead => True
  | _ => False
def toL : List AV → List AV → Prop
 | [], ys => match ys with
  | [] => True
  | _ => False
 | x :: xs, ys => match ys with
  | y :: ys => toV x y ∧ toL xs ys
  | _ => False
end
/-- A block of before, and that of now. -/
def toB : Blk → Blk → Prop
 | _, .gone => True
 | .cells t cs, .cells u ds => t = u ∧ toL ad hp G cs ds
 | .cells _ _, _ => False
 | .rowx t k cs, .rowx u k' ds => t = u ∧ k = k' ∧ toL ad hp G cs ds
 | .rowx _ _ _, _ => False
 | .row t k _ rows, .rowx u k' ds => t = u ∧ k = k' ∧ toL ad hp G rows.flatten ds
 | x, y => x = y
def toS (s : Site) : Prop :=
 match s with
 | .e i => (G.get (.e i)).1 = (hp.get (.e i)).1 ∧ (.e i) ∉ ad ∧ toB ad hp G (hp.get (.e i)).2 (G.get (.e i)).2
 | s => if s ∈ ad then (match (G.get s).2 with
   | .row _ k q rows => rows = [] ∧ 0 < k ∧ (q = none ∨ q = some 0)
   | .rowx _ k cs => cs = [] ∧ 0 < k
   | _ => False) else toB ad hp G (hp.get s).2 (G.get s).2
def allS (P : Site → Prop) : List Site → Prop
 | [] => True
 | s :: l => P s ∧ allS P l
/-- One heap told as another one. -/
def toH : Prop := allS (toS ad hp G) (hp.map (·.1) ++ (G.map (·.1) ++ ad))
def toK (tm : List (Nat × AV)) : List Nat → List AV → Prop
 | i :: ids, x :: xs => toV ad hp G (tget tm i) x ∧ toK tm ids xs
 | [], [] => True
 | _, _ => False
end
theorem allS_iff {P : Site → Prop} {l : List Site} : allS P l ↔ ∀ s ∈ l, P s := by
 induction l with
 | nil => simp [allS]
 | cons x l ih => simp [allS, ih]
theorem get_none {hp : Hp} {s : Site} (h : s ∉ hp.map (·.1)) : hp.get s = (0, .gone) := by
 induction hp with
 | nil => rfl
 | cons x hp ih =>
  obtain ⟨s', n, b⟩ := x
  simp only [List.map_cons, List.mem_cons, not_or] at h
  simp only [Hp.get]
  rw [if_neg (fun e => h.1 e.symm)]
  exact ih h.2
theorem toH_all {ad : List Site} {hp G : Hp} (h : toH ad hp G) (s : Site) : toS ad hp G s := by
 by_cases hm : s ∈ hp.map (·.1) ++ (G.map (·.1) ++ ad)
 ·exact allS_iff.1 h s hm
 ·simp only [List.mem_append, not_or] at hm
  have g1 := get_none hm.1
  have g2 := get_none hm.2.1
  cases s with
  | e i => simp only [toS, g1, g2]; exact ⟨trivial, hm.2.2, by simp [toB]⟩
  | l i => simp only [toS, g1, g2]; rw [if_neg hm.2.2]; simp [toB]
  | m i j => simp only [toS, g1, g2]; rw [if_neg hm.2.2]; simp [toB]
/-- The context after it. -/
def Cx.to (c : Cx) (ad : List Site) (G : Hp) : Cx where
 cur s := (G.get s).1
 loc s := if s ∈ ad then none else c.loc s
 lv s := if s ∈ ad then true else c.lv s && (match (G.get s).2 with | .gone => false | _ => true)
 ex s := if s ∈ ad then (fun _ => False) else c.ex s
 far := c.far
theorem toC_own {c : Cx} {ad : List Site} {G : Hp} {s : Site} {b : Nat} (h : (c.to ad G).own s b) : s ∉ ad ∧ c.own s b := by
 by_cases e : s ∈ ad
 ·rcases h with ⟨cp, h⟩ | h
  ·simp only [Cx.to, if_pos e] at h; cases h
  ·simp only [Cx.to, if_pos e] at h
 ·exact ⟨e, (Cx.own_eq (c' := c.to ad G) (by simp only [Cx.to, if_neg e]) (by simp only [Cx.to, if_neg e]) b).1 h⟩
theorem to_lv {c : Cx} {ad : List Site} {G : Hp} {s : Site} (e : s ∉ ad) (h : (c.to ad G).lv s = true) : c.lv s = true := by
 simp only [Cx.to, if_neg e, Bool.and_eq_true] at h
 exact h.1
theorem to_live {c : Cx} {ad : List Site} {G : Hp} {b : Nat} (h : (c.to ad G).live b) : c.live b := by
 obtain ⟨s, h1, h2⟩ := h
 obtain ⟨e, h2⟩ := toC_own h2
 exact ⟨s, to_lv e h1, h2⟩
theorem to_still {w : World} {c : Cx} {ad : List Site} {G : Hp} (b : Nat) (h : still w c b) : still w (c.to ad G) b ∧ w.heap[b]? = w.heap[b]? := ⟨⟨h.1, fun hl => h.2.1 (to_live hl), h.2.2⟩, rfl⟩
section
variable {w : World} {c : Cx} {ad : List Site} {hp G : Hp} (hi : Inv w c hp)
include hi
theorem toN_sound {s : Site} {v v' : Nat} {X : Prop} {Y : Option (Nat × Nat) → Prop} (h : toN ad hp G s v v') (hx : v ≤ c.cur s ∧ (v = c.cur s → Y (c.loc s))) : v' ≤ (c.to ad G).cur s ∧ (v' = (c.to ad G).cur s → Y ((c.to ad G).loc s)) := by
 obtain ⟨h1, h2⟩ := h
 have hc := hi.cur s
 simp only [Cx.to, if_neg h1]
 rcases h2 with ⟨rfl, e⟩ | ⟨e1, rfl⟩
 ·rw [e, ← hc]; exact hx
 ·exact ⟨Nat.le_refl _, fun _ => hx.2 (by rw [hc]; exact e1)⟩
mutual
theorem toV_sound : ∀ (x y : AV) (v : Value), toV ad hp G x y → RelV w c x v → RelV w (c.to ad G) y v
 | .val u, y, v, h, hx => by
  cases y with
  | dead => simp only [RelV]
  | val u' => simp only [toV] at h; subst h; simpa only [RelV] using hx
  | own s n k o l =>
   simp only [toV] at h
   obtain ⟨rfl, rfl, rfl, h1, rfl⟩ := h
   simp only [RelV] at hx ⊢
   refine ⟨Nat.le_refl _, fun _ => ?_⟩
   simp only [Cx.to, if_pos h1]
   exact ⟨trivial, trivial, hx.1⟩
  | list k r =>
   simp only [toV] at h
   obtain ⟨rfl, rfl⟩ := h
   simp only [RelV, RV] at hx ⊢
   exact ⟨none, 0, hx.1, Nat.le_refl _, fun _ => rfl, .inl trivial⟩
  | _ => simp only [toV] at h
 | .list k r, y, v, h, hx => by
  cases y with
  | dead => simp only [RelV]
  | list k' r' =>
   simp only [toV] at h
   obtain ⟨rfl, rfl⟩ := h
   simp only [RelV] at hx ⊢
   exact RV.mono to_still _ _ hx
  | _ => simp only [toV] at h
 | .rop cs, y, v, h, hx => by
  cases y with
  | dead => simp only [RelV]
  | rop ds =>
   simp only [toV] at h
   subst h
   simp only [RelV] at hx ⊢
   exact RV.mono to_still _ _ hx
  | _ => simp only [toV] at h
 | .agg cs, y, v, h, hx => by
  cases y with
  | dead => simp only [RelV]
  | agg ds =>
   simp only [toV] at h
   simp only [RelV] at hx ⊢
   obtain ⟨vs, e, ho, hr⟩ := hx
   exact ⟨vs, e, ho, toL_sound cs ds vs h hr⟩
  | _ => simp only [toV] at h
 | .tup cs, y, v, h, hx => by
  cases y with
  | dead => simp only [RelV]
  | tup ds =>
   simp only [toV] at h
   simp only [RelV] at hx ⊢
   obtain ⟨vs, e, hr⟩ := hx
   exact ⟨vs, e, toL_sound cs ds vs h hr⟩
  | _ => simp only [toV] at h
 | .func f cs, y, v, h, hx => by
  cases y with
  | dead => simp only [RelV]
  | func g ds =>
   simp only [toV] at h
   simp only [RelV] at hx ⊢
   obtain ⟨vs, e, hr⟩ := hx
   obtain ⟨rfl, h⟩ := h
   exact ⟨vs, e, toL_sound cs ds vs h hr⟩
  | _ => simp only [toV] at h
 | .iface t x, y, v, h, hx => by
  cases y with
  | dead => simp only [RelV]
  | iface u z =>
   simp only [toV] at h
   simp only [RelV] at hx ⊢
   obtain ⟨u, e, hr⟩ := hx
   obtain ⟨rfl, h⟩ := h
   exact ⟨u, e, toV_sound x z u h hr⟩
  | _ => simp only [toV] at h
 | .ptr s n o, y, v, h, hx => by
  cases y with
  | dead => simp only [RelV]
  | ptr s' n' o' =>
   simp only [toV] at h
   obtain ⟨rfl, h, rfl⟩ := h
   simp only [RelV] at hx ⊢
   exact toN_sound hi (X := True) (Y := fun q => ∃ b cp, q = some (b, cp) ∧ v = .pointer (some ⟨b, o, none⟩)) h hx
  | _ => simp only [toV] at h
 | .ept s n k i o, y, v, h, hx => by
  cases y with
  | dead => simp only [RelV]
  | ept s' n' k' i' o' =>
   simp only [toV] at h
   obtain ⟨rfl, h, rfl, rfl, rfl⟩ := h
   simp only [RelV] at hx ⊢
   exact toN_sound hi (X := True) (Y := fun q => ∃ b cp, q = some (b, cp) ∧ v = .pointer (some ⟨b, i * k + o, none⟩)) h hx
  | _ => simp only [toV] at h
 | .own s n k o l, y, v, h, hx => by
  cases y with
  | dead => simp only [RelV]
  | own s' n' k' o' l' =>
   simp only [toV] at h
   obtain ⟨rfl, h, rfl, rfl, rfl⟩ := h
   simp only [RelV] at hx ⊢
   exact toN_sound hi (X := True) (Y := fun q => match q with
    | none => o = 0 ∧ l = 0 ∧ v = .slice none 0 0
    | some (b, cp) => o + l ≤ cp ∧ ∃ a, v = .slice (some a) l (cp - o) ∧ (o < cp ∨ o = 0 → a = ⟨b, o * k, none⟩)) h hx
  | _ => simp only [toV] at h
 | .map s n, y, v, h, hx => by
  cases y with
  | dead => simp only [RelV]
  | map s' n' =>
   simp only [toV] at h
   obtain ⟨rfl, h⟩ := h
   simp only [RelV] at hx ⊢
   exact toN_sound hi (X := True) (Y := fun q => ∃ b cp, q = some (b, cp) ∧ v = .map (some b)) h hx
  | _ => simp only [toV] at h
 | .junk, y, v, h, hx => by
  cases y with
  | dead => simp only [RelV]
  | junk => simpa only [RelV] using hx
  | _ => simp only [toV] at h
 | .dead, y, v, h, hx => by
  cases y with
  | dead => simp only [RelV]
  | _ => simp only [toV] at h
theorem toL_sound : ∀ (xs ys : List AV) (vs : List Value), toL ad hp G xs ys → RelL w c xs vs → RelL w (c.to ad G) ys vs
 | [], ys, vs, h, hx => by
  cases ys with
  | nil => simpa only [RelL] using hx
  | cons _ _ => simp only [toL] at h
 | x :: xs, ys, vs, h, hx => by
  cases ys with
  | nil => simp only [toL] at h
  | cons y ys =>
   simp only [toL] at h
   simp only [RelL] at hx ⊢
   obtain ⟨u, us, e, h1, h2⟩ := hx
   exact ⟨u, us, e, toV_sound x y u h.1 h1, toL_sound xs ys us h.2 h2⟩
end
end
theorem toB_sound {w : World} {c : Cx} {ad : List Site} {hp G : Hp} (hi : Inv w c hp) {s : Site} (hs : s ∉ ad) (h : toB ad hp G (hp.get s).2 (G.get s).2) : BlkOk w (c.to ad G) s (G.get s).2 := by
 have hl : (c.to ad G).loc s = c.loc s := by simp only [Cx.to, if_neg hs]
 have hv : (c.to ad G).lv s = (c.lv s && (match (G.get s).2 with | .gone => false | _ => true)) := by simp only [Cx.to, if_neg hs]
 have ho := hi.ok s
 generalize e1 : (hp.get s).2 = x at h ho
 generalize e2 : (G.get s).2 = y at h hv ⊢
 cases y with
 | gone => simp only [BlkOk]; rw [hv]; simp
 | cells u ds =>
  cases x with
  | cells t cs =>
   simp only [toB] at h
   obtain ⟨rfl, h⟩ := h
   simp only [BlkOk] at ho ⊢
   obtain ⟨h1, b, cp, vs, h2, h3, h4, h5⟩ := ho
   exact ⟨by rw [hv, h1]; rfl, b, cp, vs, by rw [hl]; exact h2, h3, h4, toL_sound hi cs ds vs h h5⟩
  | _ => simp [toB] at h
 | icc t cs =>
  cases x <;> simp only [toB, Blk.icc.injEq, reduceCtorEq] at h
  obtain ⟨rfl, rfl⟩ := h
  simp only [BlkOk] at ho ⊢
  obtain ⟨h1, b, cp, h2, h3, h4⟩ := ho
  exact ⟨by rw [hv, h1]; rfl, b, cp, by rw [hl]; exact h2, (to_still b h3).1, RVAt.mono to_still _ _ _ h3 h4⟩
 | row t k q rows =>
  cases x <;> simp only [toB, Blk.row.injEq, reduceCtorEq] at h
  obtain ⟨rfl, rfl, rfl, rfl⟩ := h
  simp only [BlkOk] at ho ⊢
  obtain ⟨h1, h2, h3, h4⟩ := ho
  refine ⟨by rw [hv, h1]; rfl, h2, h3, ?_⟩
  rw [hl]
  generalize c.loc s = L at h4 ⊢
  cases L with
  | none => exact h4
  | some e =>
   obtain ⟨q1, q2, vs, rest, q3, q4, q5, q6⟩ := h4
   exact ⟨q1, q2, vs, rest, q3, q4, q5, RVL.mono to_still _ _ q6⟩
 | ice k rows =>
  cases x <;> simp only [toB, Blk.ice.injEq, reduceCtorEq] at h
  obtain ⟨rfl, rfl⟩ := h
  simp only [BlkOk] at ho ⊢
  obtain ⟨h1, h4⟩ := ho
  refine ⟨by rw [hv, h1]; rfl, ?_⟩
  rw [hl]
  generalize c.loc s = L at h4 ⊢
  cases L with
  | none => exact h4
  | some e =>
   refine ⟨h4.1, ?_⟩
   rcases h4.2 with q | ⟨q1, q2⟩
   ·exact .inl q
   ·exact .inr ⟨(to_still _ q1).1, RVRows.mono _ to_still _ _ _ q1 q2⟩
 | rowx u k ds =>
  cases x with
  | rowx t k' cs =>
   simp only [toB] at h
   obtain ⟨rfl, rfl, h⟩ := h
   simp only [BlkOk] at ho ⊢
   obtain ⟨h1, h0, h3⟩ := ho
   refine ⟨by rw [hv, h1]; rfl, h0, ?_⟩
   rw [hl]
   generalize c.loc s = L at h3 ⊢
   cases L with
   | none =>
    simp only at h3
    subst h3
    cases ds with
    | nil => rfl
    | cons y ys => simp only [toL] at h
   | some x =>
    obtain ⟨h3, vs, rest, h4, h5, ho, h6⟩ := h3
    exact ⟨h3, vs, rest, h4, h5, ho, toL_sound hi cs ds vs h h6⟩
  | row t k' q rows =>
   simp only [toB] at h
   obtain ⟨rfl, rfl, h⟩ := h
   simp only [BlkOk] at ho ⊢
   obtain ⟨h1, h0, _, h3⟩ := ho
   refine ⟨by rw [hv, h1]; rfl, h0, ?_⟩
   rw [hl]
   generalize c.loc s = L at h3 ⊢
   cases L with
   | none =>
    simp only at h3
    obtain ⟨rfl, _⟩ := h3
    cases ds with
    | nil => rfl
    | cons y ys => simp only [List.flatten_nil, toL] at h
   | some x =>
    obtain ⟨_, h3, vs, rest, h4, h5, ho, h6⟩ := h3
    exact ⟨h3, vs, rest, h4, h5, ho, toL_sound hi _ ds vs h (RelL.of_RVL _ _ h6)⟩
  | _ => simp [toB] at h
 | sem R =>
  cases x <;> simp only [toB, Blk.sem.injEq, reduceCtorEq] at h
  subst h
  simp only [BlkOk] at ho ⊢
  refine ⟨by rw [hv, ho.1]; rfl, fun w2 h2 => ?_⟩
  have hx : (c.to ad G).ex s = c.ex s := by simp only [Cx.to, if_neg hs]
  rw [hl, hx]
  exact ho.2 w2 fun b hbo => h2 b ((Cx.own_eq hl hx b).2 hbo)
 | map t es =>
  cases x <;> simp only [toB, Blk.map.injEq, reduceCtorEq] at h
  obtain ⟨rfl, rfl⟩ := h
  simp only [BlkOk] at ho ⊢
  obtain ⟨h1, h2, b, cp, ents, clock, h3, h4⟩ := ho
  exact ⟨by rw [hv, h1]; rfl, h2, b, cp, ents, clock, by rw [hl]; exact h3, h4⟩
theorem Inv.to {w : World} {c : Cx} {ad : List Site} {hp G : Hp} (hi : Inv w c hp) (h : toH ad hp G) : Inv w (c.to ad G) G := by
 refine ⟨hi.glob.mono fun b hb => to_still b hb, fun s => rfl, fun s => ?_, fun s s' b l1 l2 o1 o2 => ?_, fun b hl => hi.far b (to_live hl), fun b hl => hi.lt b (to_live hl), hi.farlt⟩
 ·have h1 := toH_all h s
  unfold toS at h1
  split at h1
  ·exact toB_sound hi h1.2.1 h1.2.2
  ·split at h1
   ·rename_i hs
    split at h1
    ·rename_i t k q rows e
     obtain ⟨rfl, h2, h3⟩ := h1
     rw [e]
     simp only [BlkOk, Cx.to, if_pos hs]
     exact ⟨trivial, h2, fun r hr => absurd hr (by simp), trivial, h3⟩
    ·rename_i t k cs e
     obtain ⟨rfl, h2⟩ := h1
     rw [e]
     simp only [BlkOk, Cx.to, if_pos hs]
     exact ⟨trivial, h2, trivial⟩
    ·exact h1.elim
   ·rename_i hs
    exact toB_sound hi hs h1
 ·obtain ⟨a1, o1⟩ := toC_own o1
  obtain ⟨a2, o2⟩ := toC_own o2
  exact hi.inj s s' b (to_lv a1 l1) (to_lv a2 l2) o1 o2
theorem toW {w : World} {c : Cx} {ad : List Site} {hp G : Hp} (hi : Inv w c hp) (h : toH ad hp G) : ExtW w c w (c.to ad G) := by
 refine ⟨rfl, rfl, rfl, Nat.le_refl _, fun b _ hn => ⟨rfl, fun hl => hn (to_live hl)⟩, rfl, fun i => .inr ?_⟩
 have h1 := toH_all h (.e i)
 simp only [toS] at h1
 refine ⟨by simp only [Cx.to]; rw [h1.1, hi.cur], by simp only [Cx.to, if_neg h1.2.1], fun e => ?_⟩
 simp only [Cx.to, if_neg h1.2.1, Bool.and_eq_true] at e
 exact e.1
def zipT : List Nat → List AV → List (Nat × AV)
 | i :: l, x :: xs => (i, x) :: zipT l xs
 | _, _ => []
theorem tget_zipT {w : World} {c : Cx} {ad : List Site} {hp G : Hp} (hi : Inv w c hp) {tm : List (Nat × AV)} {vs : Nat → Value} (hr : ∀ i, RelV w c (tget tm i) (vs i)) : ∀ (ids : List Nat) (xs : List AV), toK ad hp G tm ids xs → ∀ i, RelV w (c.to ad G) (tget (zipT ids xs) i) (vs i)
 | [], xs, _, i => by simp only [zipT, tget, RelV]
 | j :: ids, [], _, i => by simp only [zipT, tget, RelV]
 | j :: ids, x :: xs, h, i => by
  simp only [toK] at h
  simp only [zipT, tget]
  by_cases e : j = i
  ·subst e; rw [if_pos rfl]; exact toV_sound hi _ _ _ h.1 (hr _)
  ·rw [if_neg e]; exact tget_zipT hi hr ids xs h.2 i
theorem Less.to {ad : List Site} {tm : List (Nat × AV)} {hp G : Hp} {n : Nat} {ids : List Nat} {xs : List AV} (h : toK ad hp G tm ids xs) (hh : toH ad hp G) : Less ⟨tm, hp, n⟩ ⟨zipT ids xs, G, n⟩ := fun {D w c a} hs =>
 ⟨c.to ad G, toW hs.inv hh, hs.size, tget_zipT hs.inv hs.tm ids xs h, hs.inv.to hh, hs.df⟩
end Go.Proofs.YtonolfpnidaflaaGreatDoor.E

/- The abstract machine of this claim, part U: code, functions. No conditions. -/
namespace Go.Proofs.YtonolfpnidaflaaGreatDoor.E
open Go
set_option linter.unusedSimpArgs false
set_option linter.unusedVariables false
set_option linter.unusedSectionVars false
set_option maxRecDepth 20000

/-! ### Code -/
inductive Ex where
 | normal
 | exit (id : Nat)
 | ret
def ACond (x : AV) (X Y : Prop) : Prop :=
 match x with
 | .val (.bool t) => (t = true → X) ∧ (t = false → Y)
 | _ => False
def Ex.then (X : ASt → Prop) (K : Ex → ASt → Prop) : Ex → ASt → Prop
 | .normal, s => X s
 | e, s => K e s
def Ex.inB (id : Nat) (K : Ex → ASt → Prop) : Ex → ASt → Prop
 | .exit i, s => if i = id then K .normal s else K (.exit i) s
 | e, s => K e s
/-- A loop that ends within so many rounds. -/
def ALoopN (W : (Ex → ASt → Prop) → ASt → Prop) (K : Ex → ASt → Prop) : Nat → ASt → Prop
 | 0, _ => False
 | n + 1, st => W (Ex.then (ALoopN W K n) K) st
/-- A loop: what holds at the head of each round, and what becomes less. -/
def ALoop (W : (Ex → ASt → Prop) → ASt → Prop) (K : Ex → ASt → Prop) (st : ASt) : Prop :=
 (∃ (I : Nat → ASt → Prop), (∃ n s, Less st s ∧ I n s) ∧ ∀ n s, I n s → W (Ex.then (fun s' => ∃ m s2, Less s' s2 ∧ I m s2 ∧ m < n) K) s) ∨ (∃ n s, Less st s ∧ ALoopN W K n s) ∨
  ∃ (I : Nat → ASt → Prop), (∃ n, LessE st (I n)) ∧ ∀ n s, I n s → W (Ex.then (fun s' => ∃ m, m < n ∧ LessE s' (I m)) K) s
/-- Only these temporaries are looked at from now on. -/
def keep (l : List Nat) (tm : List (Nat × AV)) : List (Nat × AV) := l.map fun i => (i, tget tm i)
theorem tget_keep (l : List Nat) (tm : List (Nat × AV)) (i : Nat) : tget (keep l tm) i = if i ∈ l then tget tm i else .dead := by
 induction l with
 | nil => simp [keep, tget]
 | cons x l ih =>
  simp only [keep, List.map_cons, tget] at ih ⊢
  by_cases e : x = i
  ·subst e; simp
  ·have : ¬ i = x := fun h => e h.symm
   simp only [e, if_false, ih, List.mem_cons, this, false_or]
theorem Less.keep (l : List Nat) (tm : List (Nat × AV)) (hp : Hp) (n : Nat) : Less ⟨tm, hp, n⟩ ⟨E.keep l tm, hp, n⟩ := Less.of_tm (s := ⟨E.keep l tm, hp, n⟩) (st := ⟨tm, hp, n⟩) rfl rfl fun i => by
 simp only [tget_keep]
 split
 ·exact .inr rfl
 ·exact .inl rfl
theorem ALoop.unrollK {W : (Ex → ASt → Prop) → ASt → Prop} {K : Ex → ASt → Prop} {tm : List (Nat × AV)} {hp : Hp} {m : Nat} (l : List Nat) (n : Nat) (h : ALoopN W K n ⟨keep l tm, hp, m⟩) : ALoop W K ⟨tm, hp, m⟩ := .inr (.inl ⟨n, _, Less.keep l tm hp m, h⟩)
theorem ALoop.inv {W : (Ex → ASt → Prop) → ASt → Prop} {K : Ex → ASt → Prop} {st : ASt} (I : Nat → ASt → Prop) (n : Nat) (s : ASt) (hl : Less st s) (h0 : I n s)
  (hr : ∀ n s, I n s → W (Ex.then (fun s' => ∃ m s2, Less s' s2 ∧ I m s2 ∧ m < n) K) s) : ALoop W K st := .inl ⟨I, ⟨n, s, hl, h0⟩, hr⟩
def ARegion (P : Program) (ops : Array Oper) (draw : Bool) (K : ASt → Prop) (st : ASt) : Prop :=
 match draw with
 | false => AOps P (ops.toList.map (·.dst)) ops.toList K st
 | true => ADr P (ops.toList.map (·.dst)) (afts ops.toList) ops.toList 0 [] [] K st
/-- What a code's open regions are asked once and for all. -/
def dOk : Code → Bool
 | .region _ ops draw => !draw || statB ops
 | .seq a b => dOk a && dOk b
 | .cond _ a b => dOk a && dOk b
 | .block _ a => dOk a
 | .loop a => dOk a
 | _ => true
def AWp (P : Program) : Code → (Ex → ASt → Prop) → ASt → Prop
 | .skip, K, st => K .normal st
 | .region _ ops draw, K, st => ARegion P ops draw (K .normal) st
 | .seq a b, K, st => AWp P a (Ex.then (AWp P b K) K) st
 | .cond x a b, K, st => ACond (ev st.tm x) (AWp P a K st) (AWp P b K st)
 | .block id a, K, st => AWp P a (Ex.inB id K) st
 | .loop a, K, st => ALoop (AWp P a) K st
 | .exit id, K, st => K (.exit id) st
 | .ret, K, st => K .ret st
 | _, _, _ => False
def toExit : Ex → Exit
 | .normal => .normal
 | .exit id => .exit id
 | .ret => .ret

theorem AWp_sound {P : Program} (hm : P.follows .mixedOrders = true) : ∀ (code : Code) {D : List Deferred} {K : Ex → ASt → Prop} {st : ASt} {w : World} {c : Cx} {a : Act} {Q : Exit → Act → World → Prop}, dOk code = true → AWp P code K st → Sim D w c st a →
  (∀ e st' w' c' a', K e st' → ExtW w c w' c' → Sim D w' c' st' a' → Q (toExit e) a' w') → code.wp P Q a w
 | .skip, D, K, st, w, c, a, Q, _, h, hs, hQ => wp_skip (hQ .normal st w c a h (ExtW.refl _ _) hs)
 | .region id ops draw, D, K, st, w, c, a, Q, hd, h, hs, hQ => by
  simp only [AWp, ARegion] at h
  cases draw with
  | false => exact wp_region_list (AOps_sound ops.toList h hs fun st' w' c' a' k e s => hQ .normal st' w' c' a' k e.toW s)
  | true => exact region_any hm (by simpa [dOk] using hd) h hs fun st' w' c' a' k e s => hQ .normal st' w' c' a' k e.toW s
 | .seq x y, D, K, st, w, c, a, Q, hd, h, hs, hQ => by
  simp only [AWp] at h
  simp only [dOk, Bool.and_eq_true] at hd
  refine wp_seq (AWp_sound hm x hd.1 h hs fun e st' w' c' a' k he s => ?_)
  cases e with
  | normal => exact AWp_sound hm y hd.2 k s fun e2 st2 w2 c2 a2 k2 he2 s2 => hQ e2 st2 w2 c2 a2 k2 (he.trans he2) s2
  | exit id => exact hQ (.exit id) st' w' c' a' k he s
  | ret => exact hQ .ret st' w' c' a' k he s
 | .cond x y z, D, K, st, w, c, a, Q, hd, h, hs, hQ => by
  simp only [AWp] at h
  simp only [dOk, Bool.and_eq_true] at hd
  have hx := hs.ev x
  unfold ACond at h
  split at h
  ·rename_i t e
   rw [e] at hx
   simp only [RelV] at hx
   cases t with
   | true => exact wp_cond_true hx.1 (AWp_sound hm y hd.1 (h.1 rfl) hs hQ)
   | false => exact wp_cond_false hx.1 (AWp_sound hm z hd.2 (h.2 rfl) hs hQ)
  ·exact h.elim
 | .block id x, D, K, st, w, c, a, Q, hd, h, hs, hQ => by
  simp only [AWp] at h
  simp only [dOk] at hd
  refine wp_block (AWp_sound hm x hd h hs fun e st' w' c' a' k he s => ?_)
  cases e with
  | normal => exact hQ .normal st' w' c' a' k he s
  | exit i =>
   simp only [Ex.inB] at k
   simp only [toExit, Exit.inBlock]
   split at k
   ·rename_i hid; rw [if_pos hid]; exact hQ .normal st' w' c' a' k he s
   ·rename_i hid; rw [if_neg hid]; exact hQ (.exit i) st' w' c' a' k he s
  | ret => exact hQ .ret st' w' c' a' k he s
 | .loop x, D, K, st, w, c, a, Q, hd, h, hs, hQ => by
  simp only [AWp] at h
  simp only [dOk] at hd
  rcases h with ⟨I, ⟨n0, s0, hl, h0⟩, hr⟩ | ⟨n0, s0, hl, h⟩ | ⟨I, ⟨n0, h0⟩, hr⟩
  ·obtain ⟨c0, e0, hs0⟩ := hl hs
   refine wp_loop_ghost (fun n a' w' => ∃ c' s, ExtW w c w' c' ∧ Sim D w' c' s a' ∧ I n s) n0 ⟨c0, s0, e0, hs0, h0⟩ ?_
   rintro n a' w' ⟨c', s, he, hsim, hI⟩
   refine AWp_sound hm x hd (hr n s hI) hsim fun e st2 w2 c2 a2 k he2 s2 => ?_
   cases e with
   | normal =>
    obtain ⟨m, s3, hl3, hI3, hlt⟩ := k
    obtain ⟨c3, e3, hs3⟩ := hl3 s2
    exact ⟨m, hlt, c3, s3, (he.trans he2).trans e3, hs3, hI3⟩
   | exit id => exact hQ (.exit id) st2 w2 c2 a2 k (he.trans he2) s2
   | ret => exact hQ .ret st2 w2 c2 a2 k (he.trans he2) s2
  ·obtain ⟨c0, e0, hs0⟩ := hl hs
   refine wp_loop_ghost (fun n a' w' => ∃ c' s, ExtW w c w' c' ∧ Sim D w' c' s a' ∧ ALoopN (AWp P x) K n s) n0 ⟨c0, s0, e0, hs0, h⟩ ?_
   rintro n a' w' ⟨c', s, he, hsim, hI⟩
   cases n with
   | zero => exact hI.elim
   | succ n =>
    refine AWp_sound hm x hd hI hsim fun e st2 w2 c2 a2 k he2 s2 => ?_
    cases e with
    | normal => exact ⟨n, Nat.lt_succ_self n, c2, st2, he.trans he2, s2, k⟩
    | exit id => exact hQ (.exit id) st2 w2 c2 a2 k (he.trans he2) s2
    | ret => exact hQ .ret st2 w2 c2 a2 k (he.trans he2) s2
  ·obtain ⟨c0, s0, e0, hs0, h0⟩ := h0 hs
   refine wp_loop_ghost (fun n a' w' => ∃ c' s, ExtW w c w' c' ∧ Sim D w' c' s a' ∧ I n s) n0 ⟨c0, s0, e0, hs0, h0⟩ ?_
   rintro n a' w' ⟨c', s, he, hsim, hI⟩
   refine AWp_sound hm x hd (hr n s hI) hsim fun e st2 w2 c2 a2 k he2 s2 => ?_
   cases e with
   | normal =>
    obtain ⟨m, hlt, hl3⟩ := k
    obtain ⟨c3, s3, e3, hs3, hI3⟩ := hl3 s2
    exact ⟨m, hlt, c3, s3, (he.trans he2).trans e3, hs3, hI3⟩
   | exit id => exact hQ (.exit id) st2 w2 c2 a2 k (he.trans he2) s2
   | ret => exact hQ .ret st2 w2 c2 a2 k (he.trans he2) s2
 | .exit id, D, K, st, w, c, a, Q, _, h, hs, hQ => wp_exit (hQ (.exit id) st w c a h (ExtW.refl _ _) hs)
 | .ret, D, K, st, w, c, a, Q, _, h, hs, hQ => wp_ret (hQ .ret st w c a h (ExtW.refl _ _) hs)
 | .rangeFunc _ _ _ _, _, _, _, _, _, _, _, _, h, _, _ => by simp only [AWp] at h
 | .scope _, _, _, _, _, _, _, _, _, h, _, _ => by simp only [AWp] at h
 | .label _, _, _, _, _, _, _, _, _, h, _, _ => by simp only [AWp] at h
 | .goto _, _, _, _, _, _, _, _, _, h, _, _ => by simp only [AWp] at h
 | .refuse _, _, _, _, _, _, _, _, _, h, _, _ => by simp only [AWp] at h

/-! ### Functions -/
def ARes (P : Program) (st : ASt) : List ResultVar → (List AV → Prop) → Prop
 | [], K => K []
 | .tmp t :: r, K => ARes P st r fun l => K (tget st.tm t :: l)
 | .cell a t :: r, K => ALoad P t (tget st.tm a) st.hp fun v => ARes P st r fun l => K (v :: l)
def ARet (l : List AV) (r : AV) : Prop :=
 match l with
 | [x] => SubA x r
 | l => match r with
  | .tup rs => SubL l rs
  | _ => False
def AFin (P : Program) (rs : List ResultVar) (r : AV) (st : ASt) : Prop :=
 ARes P st rs fun l => match passL st.hp l with
  | some (l', _) => ARet l' r
  | none => False
def AEnd (P : Program) (rs : List ResultVar) (r : AV) : Ex → ASt → Prop
 | .exit _, _ => False
 | _, st => AFin P rs r st
def initT : Nat → List AV → List (Nat × AV)
 | _, [] => []
 | i, x :: xs => (i, x) :: initT (i + 1) xs

theorem run_results {P : Program} {st : ASt} {D : List Deferred} {w : World} {c : Cx} {a : Act} (hs : Sim D w c st a) : ∀ (l : List ResultVar) {K : List AV → Prop}, ARes P st l K →
  ∃ vs xs, (l.mapM fun (x : ResultVar) => (match x with | .tmp t => pure (a.tmps.getD t undef) | .cell q t => do loadVar t (← asAddr (a.tmps.getD q undef)) : Sem Value)).run P w = .ok vs w ∧ RelL w c xs vs ∧ K xs := by
 intro l
 induction l with
 | nil => intro K h; exact ⟨[], [], by simp, by simp [RelL], h⟩
 | cons x l ih =>
  intro K h
  cases x with
  | tmp t =>
   simp only [ARes] at h
   obtain ⟨vs, xs, e, h1, h2⟩ := ih h
   refine ⟨a.tmps.getD t undef :: vs, _, ?_, ?_, h2⟩
   ·rw [List.mapM_cons]
    simp only [Sem.run_bind, Sem.run_pure, Result.andThen_ok]
    rw [e]
    rfl
   ·simp only [RelL]
    exact ⟨_, _, rfl, hs.tm t, h1⟩
  | cell q t =>
   simp only [ARes] at h
   obtain ⟨r, x, e, h1, h2⟩ := ALoad_sound h hs.inv (hs.tm q)
   obtain ⟨vs, xs, e2, h3, h4⟩ := ih h2
   refine ⟨r :: vs, _, ?_, ?_, h4⟩
   ·have e3 : (do loadVar t (← asAddr (a.tmps.getD q undef)) : Sem Value).run P w = .ok r w := by
     generalize a.tmps.getD q undef = v at e
     cases v with
     | pointer p => cases p with
      | some p => exact e
      | none => simp [Instr.loadAt, Instr.sureAddr] at e
     | _ => simp [Instr.loadAt, Instr.sureAddr] at e
    rw [List.mapM_cons]
    simp only [Sem.run_bind] at e3 ⊢
    rw [e3]
    simp only [Result.andThen_ok]
    rw [e2]
    rfl
   ·simp only [RelL]
    exact ⟨_, _, rfl, h1, h3⟩

theorem results_run {P : Program} {st : ASt} {D : List Deferred} {w : World} {c : Cx} {a : Act} (hs : Sim D w c st a) {fn : Func} {rs : List ResultVar} (hrs : fn.results = rs.toArray) {K : List AV → Prop} (k : ARes P st rs K) :
  ∃ us xs, (results fn a.tmps).run P w = .ok (if h : us.toArray.size = 1 then us.toArray[0] else .tuple us.toArray) w ∧ RelL w c xs us ∧ K xs := by
 obtain ⟨us, xs, e1, h1, h2⟩ := run_results hs _ k
 refine ⟨us, xs, ?_, h1, h2⟩
 have hm : (fn.results.mapM fun (x : ResultVar) => (match x with | .tmp t => pure (a.tmps.getD t undef) | .cell q t => do loadVar t (← asAddr (a.tmps.getD q undef)) : Sem Value)).run P w = .ok us.toArray w := by
  rw [hrs, List.mapM_toArray]
  simp only [Sem.run_map, e1, Result.andThen_ok]
 unfold results
 simp only [Sem.run_bind]
 erw [hm]
 simp only [Result.andThen_ok, Sem.run_pure]
theorem ARet.sound {w : World} {S : Nat → Prop} {l : List AV} {r : AV} (h : ARet l r) {vs : List Value} (hv : RVL w S l vs) : ∃ v, (if h : vs.toArray.size = 1 then vs.toArray[0] else .tuple vs.toArray) = v ∧ RV w S r v := by
 have hlen := hv.length
 refine ⟨_, rfl, ?_⟩
 unfold ARet at h
 split at h
 ·rename_i x
  simp only [RVL] at hv
  obtain ⟨u, us, rfl, h1, rfl⟩ := hv
  exact h.sound h1
 ·rename_i hne
  split at h
  ·rename_i rs
   rw [dif_neg (by
    intro he
    simp only [List.size_toArray] at he
    rw [hlen] at he
    obtain ⟨x, hx⟩ := List.length_eq_one_iff.1 he
    exact hne x hx)]
   simp only [RV]
   exact ⟨vs, rfl, h.sound hv⟩
  ·exact h.elim

theorem tget_initT (args : List AV) (k i : Nat) : tget (initT k args) i = if k ≤ i then (args[i - k]?).getD .dead else .dead := by
 induction args generalizing k with
 | nil => simp [initT, tget]
 | cons x xs ih =>
  simp only [initT, tget, ih]
  by_cases e : k = i
  ·subst e; simp
  ·simp only [e, if_false]
   by_cases h : k ≤ i
   ·rw [if_pos (by omega), if_pos h, show i - k = (i - (k + 1)) + 1 by omega, List.getElem?_cons_succ]
   ·rw [if_neg (by omega), if_neg h]

theorem Ok.of_wp {P : Program} {f : FuncId} {fn : Func} {code : Code} {rs : List ResultVar} {n : Nat} {args : List AV} {r : AV} (hf : P.funcs[f]? = some fn) (hb : fn.body = some code) (hrs : fn.results = rs.toArray) (hnt : fn.ntmps = n)
  (hn : args.length ≤ n) (hm : P.follows .mixedOrders = true) (hd : dOk code = true) (h : AWp P code (AEnd P rs r) ⟨initT 0 args, [], n⟩) : Ok P f args r := by
 subst hnt
 intro w S vs hS hG hv
 let c : Cx := { cur := fun _ => 0, loc := fun _ => none, lv := fun _ => false, ex := fun _ _ => False, far := fun b => b < w.heap.size ∧ ¬ S b }
 have hlv : ∀ b, ¬ c.live b := by rintro b ⟨s, l, _⟩; exact absurd l (by simp [c])
 have hst : ∀ b, S b → still w c b := fun b hb => ⟨hS b hb, hlv b, fun hf => hf.2 hb⟩
 have hlen := hv.length
 have hinv : Inv w c [] := ⟨hG.mono fun b hb => ⟨hst b hb, rfl⟩, fun _ => rfl, fun s => by simp only [Hp.get, BlkOk, c], fun s s' b l => absurd l (by simp [c]), fun b hl => absurd hl (hlv b), fun b hl => absurd hl (hlv b), fun b hf => hf.1⟩
 have hrel : RelL w c args vs := RelL.of_RVL _ _ (RVL.mono (fun b hb => ⟨hst b hb, rfl⟩) _ _ hv)
 have hsim : Sim [] w c ⟨initT 0 args, [], fn.ntmps⟩ { tmps := vs.toArray ++ Array.replicate (fn.ntmps - vs.toArray.size) undef, defers := [] } := by
  refine ⟨by simp; omega, fun i => ?_, hinv, rfl⟩
  rw [tget_initT]
  simp only [Nat.zero_le, if_true, Nat.sub_zero]
  cases hi : args[i]? with
  | none => simp only [Option.getD_none, RelV]
  | some x =>
   simp only [Option.getD_some]
   obtain ⟨u, hu, hr⟩ := hrel.get i x hi
   have hlt := lt_of_get hu
   have e : (vs.toArray ++ Array.replicate (fn.ntmps - vs.toArray.size) undef).getD i undef = u := by
    obtain ⟨h1, h2⟩ := List.getElem?_eq_some_iff.1 hu
    simp [Array.getElem?_append, hlt, h2]
   rw [e]
   exact hr
 refine calls_of_wp hf hb (AWp_sound hm code hd h hsim fun e st w' c' a' k he s => ?_)
 have fin : AFin P rs r st → a'.defers = [] ∧ ∃ v, (results fn a'.tmps).run P w' = .ok v w' ∧ ∃ v', Ending.returned v = .returned v' ∧ Go.RowKit.Below w.heap.size w w' ∧ RV w' (grownS S w w') r v' := by
  intro k
  refine ⟨s.df, ?_⟩
  unfold AFin at k
  obtain ⟨us, xs, e1, h1, h2⟩ := run_results s _ k
  split at h2
  ·rename_i l' hp' hpass
   obtain ⟨c2, g1, g2, g3⟩ := passL_sound s.inv h1 hpass
   obtain ⟨v, e2, h3⟩ := h2.sound g3
   refine ⟨v, ?_, v, rfl, ⟨he.os, he.tape, he.output, he.size, fun b hb => (he.block b hb (hlv b)).1⟩, RV.mono (fun b hb => ⟨?_, rfl⟩) _ _ h3⟩
   ·have hm : (fn.results.mapM fun (x : ResultVar) => (match x with | .tmp t => pure (a'.tmps.getD t undef) | .cell q t => do loadVar t (← asAddr (a'.tmps.getD q undef)) : Sem Value)).run P w' = .ok us.toArray w' := by
     rw [hrs, List.mapM_toArray]
     simp only [Sem.run_map, e1, Result.andThen_ok]
    unfold results
    simp only [Sem.run_bind]
    erw [hm]
    simp only [Result.andThen_ok, Sem.run_pure]
    rw [e2]
   ·rcases Nat.lt_or_ge b w.heap.size with hlt | hge
    ·refine .inl (Classical.byContradiction fun hn => ?_)
     have hfar := hb.2.2
     rw [g1.far, he.far] at hfar
     exact hfar ⟨hlt, hn⟩
    ·exact .inr ⟨hge, hb.1⟩
  ·exact h2.elim
 cases e with
 | normal => exact fin k
 | ret => exact fin k
 | exit id => exact k.elim
end Go.Proofs.YtonolfpnidaflaaGreatDoor.E

/- The abstract machine of this claim, part X: functions that turn what is handed in. No conditions. -/
namespace Go.Proofs.YtonolfpnidaflaaGreatDoor.E
open Go
set_option linter.unusedSimpArgs false
set_option linter.unusedVariables false
set_option linter.unusedSectionVars false
set_option maxRecDepth 20000

/-! ### What is given back -/
def idxO : List (Option Site) → Site → Option Nat
 | [], _ => none
 | some x :: r, s => if x = s then some 0 else (idxO r s).map (· + 1)
 | none :: r, s => (idxO r s).map (· + 1)
theorem idxO_some {l : List (Option Site)} {s : Site} {i : Nat} (h : idxO l s = some i) : l[i]? = some (some s) := by
 induction l generalizing i with
 | nil => simp [idxO] at h
 | cons x r ih =>
  cases x with
  | none =>
   simp only [idxO] at h
   obtain ⟨j, hj, rfl⟩ := Option.map_eq_some_iff.1 h
   simpa using ih hj
  | some x =>
   simp only [idxO] at h
   split at h
   ·rename_i e; cases h; subst e; rfl
   ·obtain ⟨j, hj, rfl⟩ := Option.map_eq_some_iff.1 h
    simpa using ih hj
def isE : Site → Bool
 | .e _ => true
 | _ => false
/-- The places that stay in the caller's hands, and under which names: the first m as they were, then the new ones. -/
def outG (hp : Hp) (m : Nat) (mv : List (Option Site)) (hs' : List (Nat × Blk)) : Site → Nat → Option (Site × Nat)
 | .e i, ver => if i < m ∧ isGone ((hs'[i]?).getD (0, .gone)).2 = false then some (.e i, ver) else none
 | s, ver => match idxO mv s with
  | some j => if ver = (hp.get s).1 then some (.e (m + j), 1) else none
  | none => none
section
variable (hp : Hp) (g : Site → Nat → Option (Site × Nat))
def fz1 (x : AV) : AV := match pass1 hp x with
 | some (y, _) => y
 | none => .dead
/-- What stays keeps its place; what does not is written no more. -/
def fzS (s : Site) (ver : Nat) (x : AV) : AV := match g s ver with
 | some _ => rn g x
 | none => fz1 hp x
mutual
def fz : AV → AV
 | .ptr s ver off => fzS hp g s ver (.ptr s ver off)
 | .ept s ver k i off => fzS hp g s ver (.ept s ver k i off)
 | .own s ver k off len => fzS hp g s ver (.own s ver k off len)
 | .map s ver => fzS hp g s ver (.map s ver)
 | .agg cs => .agg (fzL cs)
 | .tup cs => .tup (fzL cs)
 | .func f cap => .func f (fzL cap)
 | .iface t x => .iface t (fz x)
 | .val v => .val v
 | .list k rows => .list k rows
 | .rop cs => .rop cs
 | .junk => .junk
 | .dead => .dead
def fzL : List AV → List AV
 | [] => []
 | x :: xs => fz x :: fzL xs
end
end
def fzB (hp : Hp) (g : Site → Nat → Option (Site × Nat)) : Blk → Blk
 | .cells t cs => .cells t (fzL hp g cs)
 | .rowx t k cs => .rowx t k (fzL hp g cs)
 | b => b
/-- The frozen places are none of those that stay. -/
theorem pass1_cx {w : World} {c : Cx} {hp hp' : Hp} (hi : Inv w c hp) {x y : AV} {v : Value} (hx : RelV w c x v) (h : pass1 hp x = some (y, hp')) : ∃ c1 : Cx, c1.far = c.far ∧ (∀ s', c1.lv s' = c.lv s' ∨ s' ∈ sts x) ∧ c1.own = c.own ∧ RV w (still w c1) y v := by
 cases x <;> simp only [pass1, reduceCtorEq] at h
 case val u => cases h; exact ⟨c, rfl, fun _ => .inl rfl, rfl, by simpa only [RelV, RV] using hx⟩
 case list k rows => cases h; exact ⟨c, rfl, fun _ => .inl rfl, rfl, by simpa only [RelV] using hx⟩
 case rop cs => cases h; exact ⟨c, rfl, fun _ => .inl rfl, rfl, by simpa only [RelV] using hx⟩
 case junk => cases h; exact ⟨c, rfl, fun _ => .inl rfl, rfl, by simpa only [RelV, RV] using hx⟩
 case own s ver k off len =>
  have fr : ∀ s', (c.freeze s).lv s' = c.lv s' ∨ s' ∈ sts (.own s ver k off len) := fun s' => by
   by_cases e : s' = s
   ·exact .inr (by simp [sts, e])
   ·exact .inl (by simp [Cx.freeze, e])
  split at h
  ·rename_i n t k2 q rows e
   split at h
   ·rename_i hc
    obtain ⟨rfl, rfl, hlen⟩ := hc
    cases h
    obtain ⟨h1, h2⟩ := freeze_sound hi e
    exact ⟨c.freeze s, rfl, fr, rfl, rows_rv h2 (RelV.ext h1 _ _ hx) (by rw [Hp.get_set, if_pos rfl]) rfl hlen⟩
   ·cases h
  ·rename_i n k2 rows e
   split at h
   ·rename_i hc
    obtain ⟨rfl, rfl, hlen⟩ := hc
    cases h
    exact ⟨c, rfl, fun _ => .inl rfl, rfl, rows_rv hi hx e rfl hlen⟩
   ·cases h
  ·cases h
 case ptr s ver off =>
  have fr : ∀ s', (c.freeze s).lv s' = c.lv s' ∨ s' ∈ sts (.ptr s ver off) := fun s' => by
   by_cases e : s' = s
   ·exact .inr (by simp [sts, e])
   ·exact .inl (by simp [Cx.freeze, e])
  split at h
  ·rename_i n t cs e
   split at h
   ·rename_i hc
    obtain ⟨rfl, hf⟩ := hc
    cases h
    obtain ⟨h1, h2⟩ := freezeC_sound hi e hf
    exact ⟨c.freeze s, rfl, fr, rfl, rop_rv h2 (RelV.ext h1 _ _ hx) (t := t) (by rw [Hp.get_set, if_pos rfl]) rfl⟩
   ·cases h
  ·rename_i n t cs e
   split at h
   ·rename_i hc
    subst hc
    cases h
    exact ⟨c, rfl, fun _ => .inl rfl, rfl, rop_rv hi hx e rfl⟩
   ·cases h
  ·cases h
section
variable {w : World} {c c' : Cx} {hp : Hp} {g : Site → Nat → Option (Site × Nat)}
/-- A place that does not stay is nobody's. -/
def Drops (c c' : Cx) (hp : Hp) (g : Site → Nat → Option (Site × Nat)) : Prop :=
 ∀ s ver, g s ver = none → ver = c.cur s → ∀ b, c'.live b → ∃ s', s' ≠ s ∧ c.lv s' = true ∧ c.own s' b
theorem fz1_rel (hi : Inv w c hp) (hfar : c'.far = c.far) (hsub : ∀ b, c'.live b → c.live b) {x : AV} {v : Value} (hx : RelV w c x v) (hone : ∀ s ∈ sts x, ∀ b, c'.live b → ∃ s', s' ≠ s ∧ c.lv s' = true ∧ c.own s' b) (h1 : sts x = [] ∨ ∃ s, sts x = [s]) : RelV w c' (fz1 hp x) v := by
 unfold fz1
 cases h : pass1 hp x with
 | none => simp only [RelV]
 | some q =>
  obtain ⟨y, hp'⟩ := q
  simp only
  obtain ⟨c1, g1, g2, g3, g4⟩ := pass1_cx hi hx h
  refine RelV.of_RV _ _ (RV.mono (fun b hb => ⟨⟨hb.1, fun hl => ?_, by rw [hfar, ← g1]; exact hb.2.2⟩, rfl⟩) _ _ g4)
  refine hb.2.1 ?_
  rcases h1 with h1 | ⟨s, h1⟩
  ·obtain ⟨s', l, o⟩ := hsub b hl
   refine ⟨s', ?_, by rw [g3]; exact o⟩
   rcases g2 s' with e | e
   ·rw [e]; exact l
   ·rw [h1] at e; cases e
  ·obtain ⟨s', hne, l, o⟩ := hone s (by simp [h1]) b hl
   refine ⟨s', ?_, by rw [g3]; exact o⟩
   rcases g2 s' with e | e
   ·rw [e]; exact l
   ·rw [h1] at e; exact absurd (by simpa using e) hne
theorem fzS_rel (hi : Inv w c hp) (hfar : c'.far = c.far) (hsub : ∀ b, c'.live b → c.live b) (hg : Fits c c' g) (hst : ∀ b, still w c b → still w c' b) (hdr : Drops c c' hp g) {s : Site} {ver : Nat} {x : AV} {v : Value} (hx : RelV w c x v) (hs : sts x = [s])
  (hcur : ver ≠ c.cur s → fz1 hp x = .dead) : RelV w c' (fzS hp g s ver x) v := by
 unfold fzS
 cases e : g s ver with
 | some q => exact RelV.rn hg hst x v hx
 | none =>
  by_cases hv : ver = c.cur s
  ·exact fz1_rel hi hfar hsub hx (fun s' hs' => by rw [hs] at hs'; simp only [List.mem_singleton] at hs'; subst hs'; exact hdr s' ver e hv) (.inr ⟨s, hs⟩)
  ·simp only [hcur hv, RelV]
mutual
theorem RelV.fz (hi : Inv w c hp) (hfar : c'.far = c.far) (hsub : ∀ b, c'.live b → c.live b) (hg : Fits c c' g) (hst : ∀ b, still w c b → still w c' b) (hdr : Drops c c' hp g) : ∀ (x : AV) (v : Value), RelV w c x v → RelV w c' (E.fz hp g x) v
 | .ptr s ver off, v, h => by
  simp only [E.fz]
  refine fzS_rel hi hfar hsub hg hst hdr h rfl fun hne => ?_
  rw [hi.cur] at hne
  unfold fz1
  simp only [pass1]
  cases e : hp.get s with
  | mk n b =>
   rw [e] at hne
   cases b <;> simp only
   case cells t cs => rw [if_neg (fun q => hne q.1.symm)]
   case icc t cs => rw [if_neg (fun q => hne q.symm)]
 | .ept s ver k i off, v, h => by
  simp only [E.fz]
  exact fzS_rel hi hfar hsub hg hst hdr h rfl fun hne => rfl
 | .own s ver k off len, v, h => by
  simp only [E.fz]
  refine fzS_rel hi hfar hsub hg hst hdr h rfl fun hne => ?_
  rw [hi.cur] at hne
  unfold fz1
  simp only [pass1]
  cases e : hp.get s with
  | mk n b =>
   rw [e] at hne
   cases b <;> simp only
   case row t k2 q rows => rw [if_neg (fun q => hne q.1.symm)]
   case ice k2 rows => rw [if_neg (fun q => hne q.1.symm)]
 | .map s ver, v, h => by
  simp only [E.fz]
  exact fzS_rel hi hfar hsub hg hst hdr h rfl fun hne => rfl
 | .agg cs, v, h => by
  simp only [E.fz, RelV] at h ⊢
  obtain ⟨vs, e, ho, hr⟩ := h
  exact ⟨vs, e, ho, RelL.fz hi hfar hsub hg hst hdr cs vs hr⟩
 | .tup cs, v, h => by
  simp only [E.fz, RelV] at h ⊢
  obtain ⟨vs, e, hr⟩ := h
  exact ⟨vs, e, RelL.fz hi hfar hsub hg hst hdr cs vs hr⟩
 | .func f cap, v, h => by
  simp only [E.fz, RelV] at h ⊢
  obtain ⟨vs, e, hr⟩ := h
  exact ⟨vs, e, RelL.fz hi hfar hsub hg hst hdr cap vs hr⟩
 | .iface t x, v, h => by
  simp only [E.fz, RelV] at h ⊢
  obtain ⟨u, e, hr⟩ := h
  exact ⟨u, e, RelV.fz hi hfar hsub hg hst hdr x u hr⟩
 | .val u, v, h => by simpa only [E.fz, RelV] using h
 | .list k rows, v, h => by
  simp only [E.fz, RelV] at h ⊢
  exact rv_still hst _ _ h
 | .rop cs, v, h => by
  simp only [E.fz, RelV] at h ⊢
  exact rv_still hst _ _ h
 | .junk, v, h => by simpa only [E.fz, RelV] using h
 | .dead, v, h => by simp only [E.fz, RelV]
theorem RelL.fz (hi : Inv w c hp) (hfar : c'.far = c.far) (hsub : ∀ b, c'.live b → c.live b) (hg : Fits c c' g) (hst : ∀ b, still w c b → still w c' b) (hdr : Drops c c' hp g) : ∀ (x : List AV) (v : List Value), RelL w c x v → RelL w c' (E.fzL hp g x) v
 | [], v, h => by simpa only [E.fzL, RelL] using h
 | x :: xs, v, h => by
  simp only [E.fzL, RelL] at h ⊢
  obtain ⟨u, us, e, h1, h2⟩ := h
  exact ⟨u, us, e, RelV.fz hi hfar hsub hg hst hdr x u h1, RelL.fz hi hfar hsub hg hst hdr xs us h2⟩
end
end

/-! ### What may be told as something else, at the end -/
def Cv (nb : Nat → Prop) : AV → AV → Prop
 | .val (.slice none 0 0), .list _ rows => rows = []
 | .val (.slice none 0 0), .own (.e i) v _ off len => nb i ∧ v = 1 ∧ off = 0 ∧ len = 0
 | x, y => x = y
def CvC (nb : Nat → Prop) : List AV → List AV → Prop
 | [], [] => True
 | x :: xs, y :: ys => Cv nb x y ∧ CvC nb xs ys
 | _, _ => False
def CvA (nb : Nat → Prop) : AV → AV → Prop
 | .agg cs, .agg ds => CvC nb cs ds
 | x, y => Cv nb x y
def CvL (nb : Nat → Prop) : List AV → List AV → Prop
 | [], [] => True
 | x :: xs, y :: ys => CvA nb x y ∧ CvL nb xs ys
 | _, _ => False
def CvB (nb : Nat → Prop) : Blk → Blk → Prop
 | .cells t cs, .cells t' ds => t = t' ∧ CvC nb cs ds
 | .row t k q rows, .row t' k' q' rows' => t = t' ∧ k = k' ∧ (q' = none ∨ q' = q) ∧ rows' <+: rows
 | .row t _ q rows, .cells t' cs => t = t' ∧ q = some rows.length ∧ rows ≠ [] ∧ CvC nb rows.flatten cs
 | .rowx t k cs, .rowx t' k' ds => t = t' ∧ k = k' ∧ CvC nb cs ds
 | .row t k _ rows, .rowx t' k' ds => t = t' ∧ k = k' ∧ CvC nb rows.flatten ds
 | x, y => x = y
section
variable {w : World} {c : Cx} {nb : Nat → Prop}
/-- Places that began as nil. -/
def Nb (c : Cx) (nb : Nat → Prop) : Prop := ∀ i, nb i → c.cur (.e i) = 1 ∧ c.loc (.e i) = none
theorem Cv.rel (hn : Nb c nb) {x y : AV} (h : Cv nb x y) {v : Value} (hx : RelV w c x v) : RelV w c y v := by
 unfold Cv at h
 split at h
 ·subst h
  simp only [RelV, RV] at hx ⊢
  obtain ⟨rfl, _⟩ := hx
  exact ⟨none, 0, rfl, Nat.le_refl _, fun _ => rfl, .inl trivial⟩
 ·obtain ⟨h1, rfl, rfl, rfl⟩ := h
  obtain ⟨h2, h3⟩ := hn _ h1
  simp only [RelV] at hx ⊢
  obtain ⟨rfl, _⟩ := hx
  rw [h2, h3]
  exact ⟨Nat.le_refl _, fun _ => ⟨trivial, trivial, rfl⟩⟩
 ·exact h ▸ hx
theorem CvC.rel (hn : Nb c nb) {xs ys : List AV} (h : CvC nb xs ys) {vs : List Value} (hx : RelL w c xs vs) : RelL w c ys vs := by
 induction xs generalizing ys vs with
 | nil => cases ys with
  | nil => exact hx
  | cons y ys => simp only [CvC] at h
 | cons x xs ih => cases ys with
  | nil => simp only [CvC] at h
  | cons y ys =>
   simp only [CvC] at h
   simp only [RelL] at hx ⊢
   obtain ⟨u, us, rfl, h1, h2⟩ := hx
   exact ⟨u, us, rfl, h.1.rel hn h1, ih h.2 h2⟩
theorem CvA.rel (hn : Nb c nb) {x y : AV} (h : CvA nb x y) {v : Value} (hx : RelV w c x v) : RelV w c y v := by
 unfold CvA at h
 split at h
 ·simp only [RelV] at hx ⊢
  obtain ⟨vs, rfl, ho, hx⟩ := hx
  exact ⟨vs, rfl, ho, h.rel hn hx⟩
 ·exact h.rel hn hx
theorem CvL.rel (hn : Nb c nb) {xs ys : List AV} (h : CvL nb xs ys) {vs : List Value} (hx : RelL w c xs vs) : RelL w c ys vs := by
 induction xs generalizing ys vs with
 | nil => cases ys with
  | nil => exact hx
  | cons y ys => simp only [CvL] at h
 | cons x xs ih => cases ys with
  | nil => simp only [CvL] at h
  | cons y ys =>
   simp only [CvL] at h
   simp only [RelL] at hx ⊢
   obtain ⟨u, us, rfl, h1, h2⟩ := hx
   exact ⟨u, us, rfl, h.1.rel hn h1, ih h.2 h2⟩
theorem CvB.ok (hn : Nb c nb) {s : Site} {x y : Blk} (h : CvB nb x y) (hx : BlkOk w c s x) : BlkOk w c s y := by
 unfold CvB at h
 split at h
 ·obtain ⟨rfl, h⟩ := h
  simp only [BlkOk] at hx ⊢
  obtain ⟨h1, b, cp, vs, h2, h3, ho, h4⟩ := hx
  exact ⟨h1, b, cp, vs, h2, h3, ho, h.rel hn h4⟩
 ·rename_i t k q rows t' k' q' rows'
  obtain ⟨rfl, rfl, hq, hpre⟩ := h
  simp only [BlkOk] at hx ⊢
  obtain ⟨h1, h0, h2, h3⟩ := hx
  refine ⟨h1, h0, fun r hr => h2 r (hpre.subset hr), ?_⟩
  obtain ⟨n, hn'⟩ : ∃ n, rows' = rows.take n := ⟨rows'.length, (List.prefix_iff_eq_take.1 hpre)⟩
  cases hl : c.loc s with
  | none =>
   rw [hl] at h3
   obtain ⟨rfl, h4⟩ := h3
   refine ⟨by rw [hn']; simp, ?_⟩
   rcases hq with rfl | rfl
   ·exact .inl rfl
   ·exact h4
  | some x =>
   obtain ⟨b, cp⟩ := x
   rw [hl] at h3
   obtain ⟨hcq, hcp, vs, rest, h5, h6, ho, h7⟩ := h3
   refine ⟨?_, hcp, vs.take (n * k), vs.drop (n * k) ++ rest, ?_, ?_, ?_, ?_⟩
   ·rcases hq with rfl | rfl
    ·exact .inl rfl
    ·exact hcq
   ·rw [← List.append_assoc, List.take_append_drop]; exact h5
   ·rw [← List.append_assoc, List.take_append_drop]; exact h6
   ·rw [← List.append_assoc, List.take_append_drop]; exact ho
   ·rw [hn', flatten_take h2]
    exact h7.take _
 ·rename_i t k q rows t' cs
  obtain ⟨rfl, rfl, hne, h⟩ := h
  simp only [BlkOk] at hx ⊢
  obtain ⟨h1, h0, h2, h3⟩ := hx
  cases hl : c.loc s with
  | none =>
   rw [hl] at h3
   exact absurd h3.1 hne
  | some x =>
   obtain ⟨b, cp⟩ := x
   rw [hl] at h3
   obtain ⟨hcq, hcp, vs, rest, h5, h6, ho, h7⟩ := h3
   have hcpe : rows.length = cp := by
    rcases hcq with hcq | hcq
    ·cases hcq
    ·exact Option.some.inj hcq
   have hvl := h7.length
   rw [flatten_length h2] at hvl
   have hrest : rest = [] := List.eq_nil_of_length_eq_zero (by rw [List.length_append, hvl, hcpe] at h6; omega)
   subst hrest
   rw [List.append_nil] at h5 ho
   exact ⟨h1, b, cp, vs, rfl, h5, ho, h.rel hn (RelL.of_RVL _ _ h7)⟩
 ·obtain ⟨rfl, rfl, h⟩ := h
  simp only [BlkOk] at hx ⊢
  obtain ⟨h1, h0, h3⟩ := hx
  refine ⟨h1, h0, ?_⟩
  cases hq : c.loc s with
  | none =>
   rw [hq] at h3
   subst h3
   rename_i ds
   cases ds with
   | nil => rfl
   | cons y ys => simp only [CvC] at h
  | some x =>
   rw [hq] at h3
   obtain ⟨h3, vs, rest, h4, h5, ho, h6⟩ := h3
   exact ⟨h3, vs, rest, h4, h5, ho, h.rel hn h6⟩
 ·rename_i t k q rows t' k' ds
  obtain ⟨rfl, rfl, h⟩ := h
  simp only [BlkOk] at hx ⊢
  obtain ⟨h1, h0, _, h3⟩ := hx
  refine ⟨h1, h0, ?_⟩
  cases hq : c.loc s with
  | none =>
   rw [hq] at h3
   obtain ⟨rfl, _⟩ := h3
   cases ds with
   | nil => rfl
   | cons y ys => simp only [List.flatten_nil, CvC] at h
  | some x =>
   rw [hq] at h3
   obtain ⟨_, h3, vs, rest, h4, h5, ho, h6⟩ := h3
   exact ⟨h3, vs, rest, h4, h5, ho, h.rel hn (RelL.of_RVL _ _ h6)⟩
 ·exact h ▸ hx
end

/-! ### The end -/
def nbO (m : Nat) (mv : List (Option Site)) (i : Nat) : Prop := m ≤ i ∧ mv[i - m]? = some none
/-- The old places, at the end. -/
def FinE (nb : Nat → Prop) (hp : Hp) (g : Site → Nat → Option (Site × Nat)) : Nat → Nat → List (Nat × Blk) → Prop
 | _, 0, _ => True
 | _, _ + 1, [] => False
 | i, m + 1, (v, b) :: r => (if isGone b = true then v = 0 else (hp.get (.e i)).1 = v ∧ CvB nb (fzB hp g (hp.get (.e i)).2) b) ∧ FinE nb hp g (i + 1) m r
/-- The new places, at the end. -/
def FinM (nb : Nat → Prop) (hp : Hp) (g : Site → Nat → Option (Site × Nat)) : List (Option Site) → List (Nat × Blk) → Prop
 | [], r => r = []
 | _ :: _, [] => False
 | some s :: mv, (v, b) :: r => (v = 1 ∧ isGone b = false ∧ CvB nb (fzB hp g (hp.get s).2) b) ∧ FinM nb hp g mv r
 | none :: mv, (v, b) :: r => (v = 1 ∧ match b with | .row _ k q rows => 0 < k ∧ rows = [] ∧ (q = none ∨ q = some 0) | _ => False) ∧ FinM nb hp g mv r
def mvOk : List (Option Site) → Bool
 | [] => true
 | some s :: r => !isE s && !r.contains (some s) && mvOk r
 | none :: r => mvOk r
def RetH (nb : Nat → Prop) : List AV → AV → Prop
 | [x], r => CvA nb x r
 | l, .tup rs => CvL nb l rs
 | _, _ => False
def AFinH (P : Program) (rs : List ResultVar) (r : AV) (hs' : List (Nat × Blk)) (m : Nat) (mv : List (Option Site)) (st : ASt) : Prop :=
 ARes P st rs fun l => mvOk mv = true ∧ RetH (nbO m mv) (fzL st.hp (outG st.hp m mv hs') l) r ∧ FinE (nbO m mv) st.hp (outG st.hp m mv hs') 0 m hs' ∧ FinM (nbO m mv) st.hp (outG st.hp m mv hs') mv (hs'.drop m)
def AEndH (P : Program) (rs : List ResultVar) (r : AV) (hs' : List (Nat × Blk)) (m : Nat) (mv : List (Option Site)) : Ex → ASt → Prop
 | .exit _, _ => False
 | _, st => AFinH P rs r hs' m mv st
theorem mvOk_spec {mv : List (Option Site)} (h : mvOk mv = true) : ∀ (i j : Nat) s, mv[i]? = some (some s) → mv[j]? = some (some s) → i = j ∧ isE s = false := by
 induction mv with
 | nil => intro i j s h; simp at h
 | cons x r ih =>
  intro i j s h1 h2
  have hr : mvOk r = true := by
   cases x with
   | none => exact h
   | some y => simp only [mvOk, Bool.and_eq_true] at h; exact h.2
  cases i with
  | zero =>
   simp only [List.getElem?_cons_zero, Option.some.injEq] at h1
   subst h1
   simp only [mvOk, Bool.and_eq_true, Bool.not_eq_true'] at h
   cases j with
   | zero => exact ⟨rfl, h.1.1⟩
   | succ j =>
    simp only [List.getElem?_cons_succ] at h2
    have := List.mem_of_getElem? h2
    have h3 := h.1.2
    simp at h3
    exact absurd this h3
  | succ i =>
   simp only [List.getElem?_cons_succ] at h1
   cases j with
   | zero =>
    simp only [List.getElem?_cons_zero, Option.some.injEq] at h2
    subst h2
    simp only [mvOk, Bool.and_eq_true, Bool.not_eq_true'] at h
    have := List.mem_of_getElem? h1
    have h3 := h.1.2
    simp at h3
    exact absurd this h3
   | succ j =>
    simp only [List.getElem?_cons_succ] at h2
    obtain ⟨h3, h4⟩ := ih hr i j s h1 h2
    exact ⟨by rw [h3], h4⟩
theorem idxO_get {mv : List (Option Site)} (h : mvOk mv = true) {j : Nat} {s : Site} (hj : mv[j]? = some (some s)) : idxO mv s = some j := by
 cases e : idxO mv s with
 | some i => rw [(mvOk_spec h i j s (idxO_some e) hj).1]
 | none =>
  exfalso
  clear h
  induction mv generalizing j with
  | nil => simp at hj
  | cons x r ih =>
   cases x with
   | none =>
    simp only [idxO] at e
    cases j with
    | zero => simp at hj
    | succ j => exact ih (by simpa using hj) (by simpa using e)
   | some y =>
    simp only [idxO] at e
    split at e
    ·cases e
    ·rename_i hne
     cases j with
     | zero => simp only [List.getElem?_cons_zero, Option.some.injEq] at hj; exact hne hj
     | succ j => exact ih (by simpa using hj) (by simpa using e)
theorem FinE.get {nb : Nat → Prop} {hp : Hp} {g : Site → Nat → Option (Site × Nat)} {l : List (Nat × Blk)} : ∀ {i m : Nat}, FinE nb hp g i m l → ∀ k, k < m → ∃ v b, l[k]? = some (v, b) ∧ if isGone b = true then v = 0 else (hp.get (.e (i + k))).1 = v ∧ CvB nb (fzB hp g (hp.get (.e (i + k))).2) b := by
 induction l with
 | nil => intro i m h k hk; cases m with
  | zero => omega
  | succ m => simp only [FinE] at h
 | cons x r ih =>
  obtain ⟨v, b⟩ := x
  intro i m h k hk
  cases m with
  | zero => omega
  | succ m =>
   simp only [FinE] at h
   cases k with
   | zero => exact ⟨v, b, rfl, h.1⟩
   | succ k =>
    obtain ⟨v', b', h1, h2⟩ := ih h.2 k (by omega)
    rw [show i + 1 + k = i + (k + 1) by omega] at h2
    exact ⟨v', b', by simpa using h1, h2⟩
theorem FinM.get {nb : Nat → Prop} {hp : Hp} {g : Site → Nat → Option (Site × Nat)} {mv : List (Option Site)} {l : List (Nat × Blk)} (h : FinM nb hp g mv l) : l.length = mv.length ∧ ∀ k : Nat, (∀ s, mv[k]? = some (some s) → ∃ b, l[k]? = some (1, b) ∧ isGone b = false ∧ CvB nb (fzB hp g (hp.get s).2) b) ∧
  (mv[k]? = some none → ∃ t k' q, l[k]? = some (1, Blk.row t k' q []) ∧ 0 < k' ∧ (q = none ∨ q = some 0)) := by
 induction mv generalizing l with
 | nil => simp only [FinM] at h; subst h; exact ⟨rfl, fun k => ⟨fun s h => by simp at h, fun h => by simp at h⟩⟩
 | cons x mv ih =>
  cases l with
  | nil => cases x <;> simp only [FinM] at h
  | cons y l =>
   obtain ⟨v, b⟩ := y
   have hr : FinM nb hp g mv l := by cases x <;> (simp only [FinM] at h; exact h.2)
   obtain ⟨h1, h2⟩ := ih hr
   refine ⟨by simp [h1], fun k => ?_⟩
   cases k with
   | succ k => simpa using h2 k
   | zero =>
    cases x with
    | some s =>
     simp only [FinM] at h
     obtain ⟨⟨rfl, h3, h4⟩, _⟩ := h
     refine ⟨fun s' hs => ?_, fun h => by simp at h⟩
     simp only [List.getElem?_cons_zero, Option.some.injEq] at hs
     subst hs
     exact ⟨b, rfl, h3, h4⟩
    | none =>
     simp only [FinM] at h
     obtain ⟨⟨rfl, h3⟩, _⟩ := h
     refine ⟨fun s' hs => by simp at hs, fun _ => ?_⟩
     cases b <;> simp only at h3
     obtain ⟨h3, rfl, h4⟩ := h3
     exact ⟨_, _, _, rfl, h3, h4⟩

/-- The caller's view, at the end. -/
def endLoc (c c' : Cx) (m : Nat) (mv : List (Option Site)) (hs' : List (Nat × Blk)) : Site → Option (Nat × Nat)
 | .e i => if i < m then (if isGone ((hs'[i]?).getD (0, .gone)).2 = true then c.loc (.e i) else c'.loc (.e i)) else match mv[i - m]? with
  | some (some s) => c'.loc s
  | some none => none
  | none => c.loc (.e i)
 | s => c.loc s
def endLv (c' : Cx) (m : Nat) (mv : List (Option Site)) (hs' : List (Nat × Blk)) : Site → Bool
 | .e i => if i < m then (if isGone ((hs'[i]?).getD (0, .gone)).2 = true then false else c'.lv (.e i)) else match mv[i - m]? with
  | some (some s) => c'.lv s
  | some none => true
  | none => false
 | _ => false
def endEx (c' : Cx) (m : Nat) (mv : List (Option Site)) (hs' : List (Nat × Blk)) : Site → Nat → Prop
 | .e i => if i < m then (if isGone ((hs'[i]?).getD (0, .gone)).2 = true then (fun _ => False) else c'.ex (.e i)) else match mv[i - m]? with
  | some (some s) => c'.ex s
  | _ => fun _ => False
 | _ => fun _ => False
def Cx.fin (c c' : Cx) (m : Nat) (mv : List (Option Site)) (hs' : List (Nat × Blk)) : Cx where
 cur := fun s => (atE hs' s).1
 loc := endLoc c c' m mv hs'
 lv := endLv c' m mv hs'
 ex := endEx c' m mv hs'
 far := c'.far
theorem fin_from {c c' : Cx} {m : Nat} {mv : List (Option Site)} {hs' : List (Nat × Blk)} {s : Site} {b : Nat} (l : (c.fin c' m mv hs').lv s = true) (o : (c.fin c' m mv hs').own s b) :
  ∃ i, s = .e i ∧ ((i < m ∧ isGone ((hs'[i]?).getD (0, .gone)).2 = false ∧ c'.lv (.e i) = true ∧ c'.own (.e i) b) ∨ (m ≤ i ∧ ∃ s', mv[i - m]? = some (some s') ∧ c'.lv s' = true ∧ c'.own s' b)) := by
 cases s with
 | e i =>
  refine ⟨i, rfl, ?_⟩
  by_cases hi : i < m
  ·cases hg : isGone ((hs'[i]?).getD (0, .gone)).2 with
   | true => simp only [Cx.fin, endLv] at l; rw [if_pos hi, hg] at l; simp at l
   | false =>
    have e1 : (c.fin c' m mv hs').lv (.e i) = c'.lv (.e i) := by simp only [Cx.fin, endLv]; rw [if_pos hi, hg]; simp
    have e2 : (c.fin c' m mv hs').loc (.e i) = c'.loc (.e i) := by simp only [Cx.fin, endLoc]; rw [if_pos hi, hg]; simp
    have e3 : (c.fin c' m mv hs').ex (.e i) = c'.ex (.e i) := by simp only [Cx.fin, endEx]; rw [if_pos hi, hg]; simp
    exact .inl ⟨hi, rfl, e1 ▸ l, (Cx.own_eq e2 e3 b).1 o⟩
  ·refine .inr ⟨by omega, ?_⟩
   cases hm : mv[i - m]? with
   | none => simp only [Cx.fin, endLv] at l; rw [if_neg hi, hm] at l; simp at l
   | some x =>
    cases x with
    | none =>
     exfalso
     rcases o with ⟨cp, o⟩ | o
     ·simp only [Cx.fin, endLoc] at o; rw [if_neg hi, hm] at o; simp at o
     ·simp only [Cx.fin, endEx] at o; rw [if_neg hi, hm] at o; exact o
    | some s' =>
     have e1 : (c.fin c' m mv hs').lv (.e i) = c'.lv s' := by simp only [Cx.fin, endLv]; rw [if_neg hi, hm]
     have e2 : (c.fin c' m mv hs').loc (.e i) = c'.loc s' := by simp only [Cx.fin, endLoc]; rw [if_neg hi, hm]
     have e3 : (c.fin c' m mv hs').ex (.e i) = c'.ex s' := by simp only [Cx.fin, endEx]; rw [if_neg hi, hm]
     exact ⟨s', rfl, e1 ▸ l, (Cx.own_eq e2 e3 b).1 o⟩
 | l t => simp [Cx.fin, endLv] at l
 | m t i => simp [Cx.fin, endLv] at l

theorem fin_sound {w w' : World} {c c' : Cx} {hs : List Blk} {hp : Hp} {mv : List (Option Site)} {hs' : List (Nat × Blk)} (h0 : Inv w c (hpE 0 (hs.map fun b => (0, b)))) (he : ExtW w c w' c') (hi : Inv w' c' hp) (hmv : mvOk mv = true)
  (hE : FinE (nbO hs.length mv) hp (outG hp hs.length mv hs') 0 hs.length hs') (hM : FinM (nbO hs.length mv) hp (outG hp hs.length mv hs') mv (hs'.drop hs.length)) :
  Ext w c w' (c.fin c' hs.length mv hs') ∧ Inv w' (c.fin c' hs.length mv hs') (hpE 0 hs') ∧ Nb (c.fin c' hs.length mv hs') (nbO hs.length mv) ∧ ∀ xs vs, RelL w' c' xs vs → RelL w' (c.fin c' hs.length mv hs') (fzL hp (outG hp hs.length mv hs') xs) vs := by
 generalize hmm : hs.length = m at *
 have hc0 : ∀ s, c.cur s = 0 := fun s => by
  have := h0.cur s
  rw [hpE_at] at this
  rw [this]
  cases s with
  | e j => simp only [atE, List.getElem?_map]; cases hs[j]? <;> rfl
  | _ => rfl
 have hEg := hE.get
 obtain ⟨hMl, hMg⟩ := hM.get
 have hlen : m ≤ hs'.length := by
  rcases Nat.eq_zero_or_pos m with h | h
  ·omega
  ·obtain ⟨v, b, h1, _⟩ := hEg (m - 1) (by omega)
   have := lt_of_get h1
   omega
 have hget : ∀ k, (hs'.drop m)[k]? = hs'[m + k]? := fun k => by rw [List.getElem?_drop]
 have hsub : ∀ b, (c.fin c' m mv hs').live b → c'.live b := by
  rintro b ⟨s, l, o⟩
  obtain ⟨i, rfl, h⟩ := fin_from l o
  rcases h with ⟨_, _, h1, h2⟩ | ⟨_, s', _, h1, h2⟩
  ·exact ⟨_, h1, h2⟩
  ·exact ⟨s', h1, h2⟩
 have hst : ∀ b, still w' c' b → still w' (c.fin c' m mv hs') b := fun b hb => ⟨hb.1, fun hl => hb.2.1 (hsub b hl), hb.2.2⟩
 have hfit : Fits c' (c.fin c' m mv hs') (outG hp m mv hs') := by
  intro s ver s2 ver2 h hle
  have hnew : ∀ (s : Site), isE s = false → (match idxO mv s with | some j => if ver = (hp.get s).1 then some (Site.e (m + j), 1) else none | none => none) = some (s2, ver2) → ver2 ≤ (c.fin c' m mv hs').cur s2 ∧ (ver2 = (c.fin c' m mv hs').cur s2 → ver = c'.cur s ∧ (c.fin c' m mv hs').loc s2 = c'.loc s) := by
   intro s _ h
   split at h
   ·rename_i j e
    split at h
    ·rename_i hv
     cases h
     have hj := idxO_some e
     obtain ⟨b, h1, _, _⟩ := (hMg j).1 s hj
     rw [hget] at h1
     have hcur : (c.fin c' m mv hs').cur (.e (m + j)) = 1 := by simp only [Cx.fin, atE, h1, Option.getD_some]
     rw [hcur]
     refine ⟨Nat.le_refl _, fun _ => ⟨by rw [hv, hi.cur], ?_⟩⟩
     simp only [Cx.fin, endLoc]
     rw [if_neg (by omega), show m + j - m = j by omega, hj]
    ·cases h
   ·cases h
  cases s with
  | e i =>
   simp only [outG] at h
   split at h
   ·rename_i hc
    cases h
    obtain ⟨v, b, h1, h2⟩ := hEg i hc.1
    have hg : isGone b = false := by have := hc.2; rw [h1] at this; exact this
    rw [if_neg (by rw [hg]; simp), Nat.zero_add] at h2
    have hcur : (c.fin c' m mv hs').cur (.e i) = c'.cur (.e i) := by
     simp only [Cx.fin, atE, h1, Option.getD_some]
     rw [← h2.1, hi.cur]
    rw [hcur]
    refine ⟨hle, fun h => ⟨h, ?_⟩⟩
    simp only [Cx.fin, endLoc]
    rw [if_pos hc.1, if_neg (by rw [hc.2]; simp)]
   ·cases h
  | l t => exact hnew (.l t) rfl h
  | m t i => exact hnew (.m t i) rfl h
 have hdr : Drops c' (c.fin c' m mv hs') hp (outG hp m mv hs') := by
  intro s ver h hv b hl
  obtain ⟨s2, l, o⟩ := hl
  obtain ⟨i, rfl, h1⟩ := fin_from l o
  rcases h1 with ⟨h1, h2, h3, h4⟩ | ⟨h1, s', h2, h3, h4⟩
  ·refine ⟨.e i, ?_, h3, h4⟩
   rintro rfl
   simp only [outG] at h
   rw [if_pos ⟨h1, h2⟩] at h
   cases h
  ·refine ⟨s', ?_, h3, h4⟩
   rintro rfl
   have hj := idxO_get hmv h2
   have hne := (mvOk_spec hmv _ _ _ h2 h2).2
   cases s' with
   | e k => simp [isE] at hne
   | l t => simp only [outG, hj] at h; rw [if_pos (by rw [hv, hi.cur])] at h; cases h
   | m t k => simp only [outG, hj] at h; rw [if_pos (by rw [hv, hi.cur])] at h; cases h
 have hnb : Nb (c.fin c' m mv hs') (nbO m mv) := by
  rintro i ⟨h1, h2⟩
  obtain ⟨t, k', q, h3, _⟩ := (hMg (i - m)).2 h2
  rw [hget, show m + (i - m) = i by omega] at h3
  refine ⟨by simp only [Cx.fin, atE, h3, Option.getD_some], ?_⟩
  simp only [Cx.fin, endLoc]
  rw [if_neg (by omega), h2]
 have hrel : ∀ xs vs, RelL w' c' xs vs → RelL w' (c.fin c' m mv hs') (fzL hp (outG hp m mv hs') xs) vs := fun xs vs h => RelL.fz (c' := c.fin c' m mv hs') hi rfl hsub hfit hst hdr xs vs h
 refine ⟨⟨he.os, he.tape, he.output, he.size, fun b hb hn => ⟨(he.block b hb hn).1, fun hl => (he.block b hb hn).2 (hsub b hl)⟩, he.far, fun s => ?_⟩, ⟨hi.glob.mono fun b hb => ⟨hst b hb, rfl⟩, fun s => ?_, fun s => ?_, fun s s' b l1 l2 o1 o2 => ?_, fun b hl => hi.far b (hsub b hl), fun b hl => hi.lt b (hsub b hl), fun b hb => hi.farlt b hb⟩, hnb, hrel⟩
 ·-- numbers
  rw [hc0 s]
  cases s with
  | e i =>
   by_cases him : i < m
   ·obtain ⟨v, b, h1, h2⟩ := hEg i him
    cases hg : isGone b with
    | true =>
     rw [hg] at h2
     simp only [if_true] at h2
     subst h2
     refine .inr ⟨by simp only [Cx.fin, atE, h1, Option.getD_some], ?_, ?_⟩
     ·simp only [Cx.fin, endLoc]
      rw [if_pos him, h1]
      simp [hg]
     ·simp only [Cx.fin, endLv]
      rw [if_pos him, h1]
      simp [hg]
    | false =>
     rw [hg] at h2
     simp only [Bool.false_eq_true, if_false, Nat.zero_add] at h2
     have hcur : (c.fin c' m mv hs').cur (.e i) = c'.cur (.e i) := by
      simp only [Cx.fin, atE, h1, Option.getD_some]
      rw [← h2.1, hi.cur]
     have hloc : (c.fin c' m mv hs').loc (.e i) = c'.loc (.e i) := by
      simp only [Cx.fin, endLoc]
      rw [if_pos him, h1]
      simp [hg]
     have hlv : (c.fin c' m mv hs').lv (.e i) = c'.lv (.e i) := by
      simp only [Cx.fin, endLv]
      rw [if_pos him, h1]
      simp [hg]
     rw [hcur, hloc, hlv]
     have := he.cur i
     rwa [hc0] at this
   ·cases hq : mv[i - m]? with
    | some x =>
     refine .inl ?_
     have : ∃ b, hs'[i]? = some (1, b) := by
      cases x with
      | some s' =>
       obtain ⟨b, h3, _⟩ := (hMg (i - m)).1 s' hq
       rw [hget, show m + (i - m) = i by omega] at h3
       exact ⟨b, h3⟩
      | none =>
       obtain ⟨t, k', q, h3, _⟩ := (hMg (i - m)).2 hq
       rw [hget, show m + (i - m) = i by omega] at h3
       exact ⟨_, h3⟩
     obtain ⟨b, h3⟩ := this
     simp only [Cx.fin, atE, h3, Option.getD_some]
     omega
    | none =>
     have hnone : hs'[i]? = none := by
      rw [List.getElem?_eq_none_iff] at hq ⊢
      have : hs'.length = m + mv.length := by rw [← hMl, List.length_drop]; omega
      omega
     refine .inr ⟨by simp only [Cx.fin, atE, hnone, Option.getD_none], ?_, ?_⟩
     ·simp only [Cx.fin, endLoc]; rw [if_neg him, hq]
     ·simp only [Cx.fin, endLv]; rw [if_neg him, hq]; simp
  | l t => exact .inr ⟨rfl, rfl, fun h => by simp [Cx.fin, endLv] at h⟩
  | m t i => exact .inr ⟨rfl, rfl, fun h => by simp [Cx.fin, endLv] at h⟩
 ·rw [hpE_at]; rfl
 ·rw [hpE_at]
  have cells : ∀ {t : TypeId} {cs : List AV} {s0 s1 : Site}, BlkOk w' c' s0 (.cells t cs) → (c.fin c' m mv hs').loc s1 = c'.loc s0 → (c.fin c' m mv hs').lv s1 = c'.lv s0 → BlkOk w' (c.fin c' m mv hs') s1 (.cells t (fzL hp (outG hp m mv hs') cs)) := by
   intro t cs s0 s1 h hl hv
   simp only [BlkOk] at h ⊢
   obtain ⟨h1, b, cp, vs, h2, h3, ho, h4⟩ := h
   exact ⟨by rw [hv]; exact h1, b, cp, vs, by rw [hl]; exact h2, h3, ho, hrel _ _ h4⟩
  have blk : ∀ {b : Blk} {s0 s1 : Site}, BlkOk w' c' s0 b → (c.fin c' m mv hs').loc s1 = c'.loc s0 → (c.fin c' m mv hs').lv s1 = c'.lv s0 → (c.fin c' m mv hs').ex s1 = c'.ex s0 → BlkOk w' (c.fin c' m mv hs') s1 (fzB hp (outG hp m mv hs') b) := by
   intro b s0 s1 h hl hv hx
   cases b with
   | cells t cs => exact cells h hl hv
   | rowx t k cs =>
    simp only [fzB, BlkOk] at h ⊢
    obtain ⟨h1, h0, h3⟩ := h
    refine ⟨by rw [hv]; exact h1, h0, ?_⟩
    rw [hl]
    generalize c'.loc s0 = L at h3 ⊢
    cases L with
    | none => simp only at h3; rw [h3]; simp only [fzL]
    | some x =>
     obtain ⟨h3, vs, rest, h4, h5, ho, h6⟩ := h3
     exact ⟨h3, vs, rest, h4, h5, ho, hrel _ _ h6⟩
   | _ =>
    have hempty : Fits c' (c.fin c' m mv hs') (fun _ _ => none) := fun _ _ _ _ h => by cases h
    exact BlkOk.rn hempty hst h hl hv hx
  cases s with
  | e i =>
   by_cases him : i < m
   ·obtain ⟨v, b, h1, h2⟩ := hEg i him
    simp only [atE, h1, Option.getD_some]
    cases hg : isGone b with
    | true =>
     cases b <;> simp only [isGone, Bool.false_eq_true] at hg
     simp only [BlkOk, Cx.fin, endLv]
     rw [if_pos him, h1]
     rfl
    | false =>
     rw [hg] at h2
     simp only [Bool.false_eq_true, if_false, Nat.zero_add] at h2
     refine h2.2.ok hnb (blk (hi.ok (.e i)) ?_ ?_ ?_)
     ·simp only [Cx.fin, endLoc]
      rw [if_pos him, h1]
      simp [hg]
     ·simp only [Cx.fin, endLv]
      rw [if_pos him, h1]
      simp [hg]
     ·simp only [Cx.fin, endEx]
      rw [if_pos him, h1]
      simp [hg]
   ·cases hq : mv[i - m]? with
    | some x =>
     cases x with
     | some s' =>
      obtain ⟨b, h3, h4, h5⟩ := (hMg (i - m)).1 s' hq
      rw [hget, show m + (i - m) = i by omega] at h3
      simp only [atE, h3, Option.getD_some]
      refine h5.ok hnb (blk (hi.ok s') ?_ ?_ ?_)
      ·simp only [Cx.fin, endLoc]; rw [if_neg him, hq]
      ·simp only [Cx.fin, endLv]; rw [if_neg him, hq]
      ·simp only [Cx.fin, endEx]; rw [if_neg him, hq]
     | none =>
      obtain ⟨t, k', q, h3, h4, h5⟩ := (hMg (i - m)).2 hq
      rw [hget, show m + (i - m) = i by omega] at h3
      simp only [atE, h3, Option.getD_some, BlkOk]
      have hl : (c.fin c' m mv hs').loc (.e i) = none := by simp only [Cx.fin, endLoc]; rw [if_neg him, hq]
      rw [hl]
      refine ⟨?_, h4, fun r hr => by simp at hr, trivial, h5⟩
      simp only [Cx.fin, endLv]; rw [if_neg him, hq]
    | none =>
     have hnone : hs'[i]? = none := by
      rw [List.getElem?_eq_none_iff] at hq ⊢
      have : hs'.length = m + mv.length := by rw [← hMl, List.length_drop]; omega
      omega
     simp only [atE, hnone, Option.getD_none, BlkOk, Cx.fin, endLv]
     rw [if_neg him, hq]
  | l t => simp [atE, BlkOk, Cx.fin, endLv]
  | m t i => simp [atE, BlkOk, Cx.fin, endLv]
 ·obtain ⟨i, rfl, h1⟩ := fin_from l1 o1
  obtain ⟨j, rfl, h2⟩ := fin_from l2 o2
  rcases h1 with ⟨a1, a2, a3, a4⟩ | ⟨a1, s1, a2, a3, a4⟩ <;> rcases h2 with ⟨b1, b2, b3, b4⟩ | ⟨b1, s2, b2, b3, b4⟩
  ·exact hi.inj _ _ b a3 b3 a4 b4
  ·have := hi.inj _ _ b a3 b3 a4 b4
   have hne := (mvOk_spec hmv _ _ _ b2 b2).2
   rw [← this] at hne
   simp [isE] at hne
  ·have := hi.inj _ _ b a3 b3 a4 b4
   have hne := (mvOk_spec hmv _ _ _ a2 a2).2
   rw [this] at hne
   simp [isE] at hne
  ·have := hi.inj _ _ b a3 b3 a4 b4
   subst this
   have := (mvOk_spec hmv _ _ _ a2 b2).1
   congr 1
   omega

theorem RetH.sound {w : World} {c : Cx} {nb : Nat → Prop} (hn : Nb c nb) {l : List AV} {r : AV} (h : RetH nb l r) {vs : List Value} (hv : RelL w c l vs) : ∃ v, (if h : vs.toArray.size = 1 then vs.toArray[0] else .tuple vs.toArray) = v ∧ RelV w c r v := by
 have hlen := hv.length
 refine ⟨_, rfl, ?_⟩
 unfold RetH at h
 split at h
 ·rename_i x r
  simp only [RelL] at hv
  obtain ⟨u, us, rfl, h1, rfl⟩ := hv
  exact h.rel hn h1
 ·rename_i l rs hne
  rw [dif_neg (by
   intro he
   simp only [List.size_toArray] at he
   rw [hlen] at he
   obtain ⟨x, hx⟩ := List.length_eq_one_iff.1 he
   exact hne x hx)]
  simp only [RelV]
  exact ⟨vs, rfl, h.rel hn hv⟩
 ·exact h.elim

theorem OkH.of_wpK {P : Program} {f : FuncId} {fn : Func} {code : Code} {rs : List ResultVar} {n : Nat} {args : List AV} {hs : List Blk} {r : AV} {hs' : List (Nat × Blk)} (Kf : Ex → ASt → Prop) (hK : ∀ e st, Kf e st → ∃ mv, AEndH P rs r hs' hs.length mv e st) (hf : P.funcs[f]? = some fn) (hb : fn.body = some code) (hrs : fn.results = rs.toArray) (hnt : fn.ntmps = n)
  (hn : args.length ≤ n) (hm : P.follows .mixedOrders = true) (hd : dOk code = true) (h : AWp P code Kf ⟨initT 0 args, hpE 0 (hs.map fun b => (0, b)), n⟩) : OkH P f args hs r hs' := by
 subst hnt
 intro w c vs hinv hrel
 have hlen := hrel.length
 have hsim : Sim [] w c ⟨initT 0 args, hpE 0 (hs.map fun b => (0, b)), fn.ntmps⟩ { tmps := vs.toArray ++ Array.replicate (fn.ntmps - vs.toArray.size) undef, defers := [] } := by
  refine ⟨by simp; omega, fun i => ?_, hinv, rfl⟩
  rw [tget_initT]
  simp only [Nat.zero_le, if_true, Nat.sub_zero]
  cases hi : args[i]? with
  | none => simp only [Option.getD_none, RelV]
  | some x =>
   simp only [Option.getD_some]
   obtain ⟨u, hu, hr⟩ := hrel.get i x hi
   have hlt := lt_of_get hu
   have e : (vs.toArray ++ Array.replicate (fn.ntmps - vs.toArray.size) undef).getD i undef = u := by
    obtain ⟨h1, h2⟩ := List.getElem?_eq_some_iff.1 hu
    simp [Array.getElem?_append, hlt, h2]
   rw [e]
   exact hr
 refine calls_of_wp hf hb (AWp_sound hm code hd h hsim fun e st w' c' a' k he s => ?_)
 obtain ⟨mv, k⟩ := hK _ _ k
 have fin : AFinH P rs r hs' hs.length mv st → a'.defers = [] ∧ ∃ v, (results fn a'.tmps).run P w' = .ok v w' ∧ ∃ v' c'', Ending.returned v = .returned v' ∧ Ext w c w' c'' ∧ Inv w' c'' (hpE 0 hs') ∧ RelV w' c'' r v' := by
  intro k
  refine ⟨s.df, ?_⟩
  unfold AFinH at k
  obtain ⟨us, xs, e1, h1, hmv, hret, hE, hM⟩ := results_run s hrs k
  obtain ⟨g1, g2, g3, g4⟩ := fin_sound hinv he s.inv hmv hE hM
  obtain ⟨v, e2, h3⟩ := hret.sound g3 (g4 _ _ h1)
  exact ⟨v, by rw [e1, e2], v, _, rfl, g1, g2, h3⟩
 cases e with
 | normal => exact fin k
 | ret => exact fin k
 | exit id => exact k.elim
theorem OkH.of_wp {P : Program} {f : FuncId} {fn : Func} {code : Code} {rs : List ResultVar} {n : Nat} {args : List AV} {hs : List Blk} {r : AV} {hs' : List (Nat × Blk)} (mv : List (Option Site)) (hf : P.funcs[f]? = some fn) (hb : fn.body = some code) (hrs : fn.results = rs.toArray) (hnt : fn.ntmps = n)
  (hn : args.length ≤ n) (hm : P.follows .mixedOrders = true) (hd : dOk code = true) (h : AWp P code (AEndH P rs r hs' hs.length mv) ⟨initT 0 args, hpE 0 (hs.map fun b => (0, b)), n⟩) : OkH P f args hs r hs' :=
 OkH.of_wpK _ (fun _ _ k => ⟨mv, k⟩) hf hb hrs hnt hn hm hd h
/-- The end, where which places are new is told at each return apart. -/
def AEndX (P : Program) (rs : List ResultVar) (r : AV) (hs' : List (Nat × Blk)) (m : Nat) (e : Ex) (st : ASt) : Prop := ∃ mv, AEndH P rs r hs' m mv e st
theorem OkH.of_wpX {P : Program} {f : FuncId} {fn : Func} {code : Code} {rs : List ResultVar} {n : Nat} {args : List AV} {hs : List Blk} {r : AV} {hs' : List (Nat × Blk)} (hf : P.funcs[f]? = some fn) (hb : fn.body = some code) (hrs : fn.results = rs.toArray) (hnt : fn.ntmps = n)
  (hn : args.length ≤ n) (hm : P.follows .mixedOrders = true) (hd : dOk code = true) (h : AWp P code (AEndX P rs r hs' hs.length) ⟨initT 0 args, hpE 0 (hs.map fun b => (0, b)), n⟩) : OkH P f args hs r hs' :=
 OkH.of_wpK _ (fun _ _ k => k) hf hb hrs hnt hn hm hd h
end Go.Proofs.YtonolfpnidaflaaGreatDoor.E

/- The abstract machine of this claim, part M: its operations as equations, for the walk. No conditions. -/
namespace Go.Proofs.YtonolfpnidaflaaGreatDoor.E
open Go
set_option linter.unusedSimpArgs false
set_option linter.unusedVariables false
set_option linter.unusedSectionVars false
set_option maxRecDepth 20000

def puts (tm : List (Nat × AV)) (hp : Hp) (n : Nat) : Option Nat → AV → ASt
 | none, _ => ⟨tm, hp, n⟩
 | some d, v => if d < n then ⟨tset tm d v, hp, n⟩ else ⟨tm, hp, n⟩
theorem put_eq (tm : List (Nat × AV)) (hp : Hp) (n : Nat) (d : Option Nat) (v : AV) : ASt.put ⟨tm, hp, n⟩ d v = puts tm hp n d v := by cases d <;> rfl
/-- What follows, behind a value. -/
def kp (dst : Option Nat) (tm : List (Nat × AV)) (hp : Hp) (n : Nat) (K : ASt → Prop) (v : AV) : Prop := K (puts tm hp n dst v)
/-- What follows, behind a value and a local heap. -/
def kq (dst : Option Nat) (tm : List (Nat × AV)) (n : Nat) (K : ASt → Prop) (v : AV) (hp : Hp) : Prop := K (puts tm hp n dst v)
def kh (dst : Option Nat) (tm : List (Nat × AV)) (n : Nat) (K : ASt → Prop) (hp : Hp) : Prop := K (puts tm hp n dst (.val (.tuple #[])))
def siteD : Option Nat → Site
 | some d => .l d
 | none => .l 1000000
section
variable {P : Program} {gd : List (Option Nat)} {rest : List Oper} {K : ASt → Prop} {tm : List (Nat × AV)} {hp : Hp} {n : Nat} {dst : Option Nat} {ty : TypeId} {pos : String} {aft : Array Edge} {g : Option (Nat × Bool)}
theorem kp_eq (v : AV) : kp dst tm hp n K v = K (puts tm hp n dst v) := rfl
theorem kq_eq (v : AV) : kq dst tm n K v hp = K (puts tm hp n dst v) := rfl
theorem kh_eq : kh dst tm n K hp = K (puts tm hp n dst (.val (.tuple #[]))) := rfl
theorem fold_kp : (fun v => K (ASt.put ⟨tm, hp, n⟩ dst v)) = kp dst tm hp n K := by funext v; simp only [put_eq, kp]
theorem fold_kq : (fun v hp' => K (ASt.put ⟨tm, hp', n⟩ dst v)) = kq dst tm n K := by funext v hp'; simp only [put_eq, kq]
theorem site_eq (op : Op) : siteOf ⟨dst, op, ty, pos, aft, g⟩ = siteD dst := by cases dst <;> rfl

theorem o_nil (st : ASt) : AOps P gd [] K st = K st := rfl
theorem o_plain (op : Op) (st : ASt) : AOps P gd (⟨dst, op, ty, pos, aft, none⟩ :: rest) K st = AStep P ⟨dst, op, ty, pos, aft, none⟩ (AOps P gd rest K) st := rfl
/-- A guarded operation: its guard's temporary, what it is, the step, what follows. -/
def AG (P : Program) (gd : List (Option Nat)) (o : Oper) (rest : List Oper) (K : ASt → Prop) (b : Bool) (tm : List (Nat × AV)) (hp : Hp) (n : Nat) : Option Nat → AV → Prop
 | some t, .val (.bool q) => (q = b → AStep P o (AOps P gd rest K) (puts tm hp n (some t) (.val (.bool b)))) ∧ (q = !b → AOps P gd rest K (ASt.put (puts tm hp n (some t) (.val (.bool !b))) o.dst (.val (.tuple #[]))))
 | some _, .val (.tuple _) => AOps P gd rest K (puts tm hp n o.dst (.val (.tuple #[])))
 | _, _ => False
def gget (tm : List (Nat × AV)) : Option Nat → AV
 | some t => tget tm t
 | none => .dead
theorem o_guard (op : Op) (j : Nat) (b : Bool) : AOps P gd (⟨dst, op, ty, pos, aft, some (j, b)⟩ :: rest) K ⟨tm, hp, n⟩ = AG P gd ⟨dst, op, ty, pos, aft, some (j, b)⟩ rest K b tm hp n (dstAt gd j) (gget tm (dstAt gd j)) := by
 simp only [AOps]
 cases dstAt gd j with
 | none => rfl
 | some t =>
  simp only [gget]
  cases tget tm t with
  | val v => cases v <;> simp only [AGuard, AG, put_eq]
  | _ => rfl

theorem ag_t (o : Oper) (tm : List (Nat × AV)) (hp : Hp) (n t : Nat) (q : Bool) : AG P gd o rest K true tm hp n (some t) (.val (.bool q)) =
  (if q = true then AStep P o (AOps P gd rest K) (puts tm hp n (some t) (.val (.bool true))) else AOps P gd rest K (ASt.put (puts tm hp n (some t) (.val (.bool false))) o.dst (.val (.tuple #[])))) := by
 cases q <;> simp [AG]
theorem ag_f (o : Oper) (tm : List (Nat × AV)) (hp : Hp) (n t : Nat) (q : Bool) : AG P gd o rest K false tm hp n (some t) (.val (.bool q)) =
  (if q = true then AOps P gd rest K (ASt.put (puts tm hp n (some t) (.val (.bool true))) o.dst (.val (.tuple #[]))) else AStep P o (AOps P gd rest K) (puts tm hp n (some t) (.val (.bool false)))) := by
 cases q <;> simp [AG]
theorem ag_tup (o : Oper) (tm : List (Nat × AV)) (hp : Hp) (n t : Nat) (b : Bool) (l : Array Value) : AG P gd o rest K b tm hp n (some t) (.val (.tuple l)) = AOps P gd rest K (puts tm hp n o.dst (.val (.tuple #[]))) := rfl
theorem s_move (x : Operand) : AStep P ⟨dst, .move x, ty, pos, aft, g⟩ K ⟨tm, hp, n⟩ = K (puts tm hp n dst (ev tm x)) := by simp only [AStep, ADo, put_eq]
theorem s_assign (x : Operand) : AStep P ⟨dst, .assign x, ty, pos, aft, g⟩ K ⟨tm, hp, n⟩ = K (puts tm hp n dst (ev tm x)) := by simp only [AStep, ADo, put_eq]
theorem s_pick (x y z : Operand) : AStep P ⟨dst, .pick x y z, ty, pos, aft, g⟩ K ⟨tm, hp, n⟩ = APick (ev tm x) (ev tm y) (ev tm z) (kp dst tm hp n K) := by simp only [AStep, ADo]; rw [fold_kp]
theorem s_alloc (t : TypeId) : AStep P ⟨dst, .alloc t, ty, pos, aft, g⟩ K ⟨tm, hp, n⟩ = AAlloc P t (siteD dst) hp (kq dst tm n K) := by simp only [AStep, ADo, site_eq]; rw [fold_kq]
theorem s_box (t : TypeId) (x : Operand) : AStep P ⟨dst, .box t x, ty, pos, aft, g⟩ K ⟨tm, hp, n⟩ = ABox t (ev tm x) (siteD dst) hp (kq dst tm n K) := by simp only [AStep, ADo, site_eq]; rw [fold_kq]
theorem s_build (t : TypeId) (ps : Array (Nat × Operand)) : AStep P ⟨dst, .build t ps, ty, pos, aft, g⟩ K ⟨tm, hp, n⟩ = ABuild P t (ps.toList.map fun p => (p.1, ev tm p.2)) hp (kp dst tm hp n K) := by simp only [AStep, ADo]; rw [fold_kp]
theorem s_buildSlice (t : TypeId) (m : Nat) (ps : Array (Nat × Operand)) : AStep P ⟨dst, .buildSlice t m ps, ty, pos, aft, g⟩ K ⟨tm, hp, n⟩ = ABuildF P t m (ps.toList.map (·.1)) (siteD dst) (kq dst tm n K) (passL hp (ps.toList.map fun p => ev tm p.2)) := by simp only [AStep, ADo, site_eq]; rw [fold_kq]
theorem s_load (t : TypeId) (x : Operand) : AStep P ⟨dst, .load t x, ty, pos, aft, g⟩ K ⟨tm, hp, n⟩ = ALoad P t (ev tm x) hp (kp dst tm hp n K) := by simp only [AStep, ADo]; rw [fold_kp]
theorem s_store (t : TypeId) (x y : Operand) : AStep P ⟨dst, .store t x y, ty, pos, aft, g⟩ K ⟨tm, hp, n⟩ = AStoreF P t (ev tm x) (ev tm y) hp (kh dst tm n K) := by
 simp only [AStep, ADo]
 have : (fun hp' => K (ASt.put ⟨tm, hp', n⟩ dst (.val (.tuple #[])))) = kh dst tm n K := by funext hp'; simp only [put_eq, kh]
 rw [this]
theorem s_nilCheck (x : Operand) : AStep P ⟨dst, .nilCheck x, ty, pos, aft, g⟩ K ⟨tm, hp, n⟩ = ANilCheck (ev tm x) hp (kp dst tm hp n K) := by simp only [AStep, ADo]; rw [fold_kp]
theorem s_bin (op : BinOp) (t u : TypeId) (x y : Operand) : AStep P ⟨dst, .binOp op t x y u, ty, pos, aft, g⟩ K ⟨tm, hp, n⟩ = if nilC P t y = true then ANil P op t (ev tm x) hp (kp dst tm hp n K) else ABin P op t (ev tm x) (ev tm y) (kp dst tm hp n K) := by simp only [AStep, ADo]; rw [fold_kp]
theorem nilC_tmp (t : TypeId) (i : Nat) : nilC P t (.tmp i) = false := rfl
theorem nilC_int (t : TypeId) (k : IntKind) (i : Int) : nilC P t (.const (.int k i)) = false := rfl
theorem nilC_bool (t : TypeId) (i : Bool) : nilC P t (.const (.bool i)) = false := rfl
theorem nilC_str (t : TypeId) (i : ByteArray) : nilC P t (.const (.string i)) = false := rfl
theorem nilC_agg (t : TypeId) (i : Array Value) : nilC P t (.const (.agg i)) = false := rfl
theorem nilC_slice (t : TypeId) : nilC P t (.const (.slice none 0 0)) = (tyNil P t == some .slice) := rfl
theorem nilC_ptr (t : TypeId) : nilC P t (.const (.pointer none)) = (tyNil P t == some .pointer) := rfl
theorem nilC_map (t : TypeId) : nilC P t (.const (.map none)) = (tyNil P t == some .map) := rfl
theorem nilC_func (t : TypeId) : nilC P t (.const .nilFunc) = (tyNil P t == some .func) := rfl
theorem nilC_iface (t : TypeId) : nilC P t (.const .nilIface) = (tyNil P t == some .iface) := rfl
theorem s_field (t : TypeId) (x : Operand) (j : Nat) : AStep P ⟨dst, .field t x j, ty, pos, aft, g⟩ K ⟨tm, hp, n⟩ = AField P t (ev tm x) j (kp dst tm hp n K) := by simp only [AStep, ADo]; rw [fold_kp]
theorem s_lookup (t : TypeId) (x i : Operand) (ok : Bool) : AStep P ⟨dst, .lookup t x i ok, ty, pos, aft, g⟩ K ⟨tm, hp, n⟩ = ALookup P t (ev tm x) (ev tm i) ok hp (kp dst tm hp n K) := by simp only [AStep, ADo]; rw [fold_kp]
theorem s_mapUpdate (t : TypeId) (m k x : Operand) : AStep P ⟨dst, .mapUpdate t m k x, ty, pos, aft, g⟩ K ⟨tm, hp, n⟩ = AMapUpd P t (ev tm m) (ev tm k) (ev tm x) hp (kh dst tm n K) := by
 simp only [AStep, ADo]
 have : (fun hp' => K (ASt.put ⟨tm, hp', n⟩ dst (.val (.tuple #[])))) = kh dst tm n K := by funext hp'; simp only [put_eq, kh]
 rw [this]
theorem s_makeMap (t : TypeId) : AStep P ⟨dst, .makeMap t none, ty, pos, aft, g⟩ K ⟨tm, hp, n⟩ = AMakeMap P t (siteD dst) hp (kq dst tm n K) := by simp only [AStep, ADo, site_eq, true_and]; rw [fold_kq]
theorem s_copy (x y : Operand) (ts : Array TypeId) : AStep P ⟨dst, .call ⟨.builtin .copy, #[x, y], ts⟩, ty, pos, aft, g⟩ K ⟨tm, hp, n⟩ = ACopy P ts (ev tm x) (ev tm y) hp (kq dst tm n K) := by
 simp only [AStep, ADo, ACallOp, ABuiltin, List.map_cons, List.map_nil, site_eq]; rw [fold_kq]
theorem s_clear (x : Operand) (ts : Array TypeId) : AStep P ⟨dst, .call ⟨.builtin .clear, #[x], ts⟩, ty, pos, aft, g⟩ K ⟨tm, hp, n⟩ = AClear P ts (ev tm x) hp (kq dst tm n K) := by
 simp only [AStep, ADo, ACallOp, ABuiltin, List.map_cons, List.map_nil, site_eq]; rw [fold_kq]
theorem s_cap (x : Operand) (ts : Array TypeId) : AStep P ⟨dst, .call ⟨.builtin .cap, #[x], ts⟩, ty, pos, aft, g⟩ K ⟨tm, hp, n⟩ = ACap P ts (ev tm x) hp (kq dst tm n K) := by
 simp only [AStep, ADo, ACallOp, ABuiltin, List.map_cons, List.map_nil, site_eq]; rw [fold_kq]
theorem s_un (op : UnOp) (t : TypeId) (x : Operand) : AStep P ⟨dst, .unOp op t x, ty, pos, aft, g⟩ K ⟨tm, hp, n⟩ = AUn op (ev tm x) (kp dst tm hp n K) := by simp only [AStep, ADo]; rw [fold_kp]
theorem s_conv (s t : TypeId) (x : Operand) : AStep P ⟨dst, .convert s t x, ty, pos, aft, g⟩ K ⟨tm, hp, n⟩ = AConvO P s t (ev tm x) hp (kp dst tm hp n K) := by simp only [AStep, ADo]; rw [fold_kp]
theorem s_iface (t : TypeId) (x : Operand) : AStep P ⟨dst, .makeInterface t x, ty, pos, aft, g⟩ K ⟨tm, hp, n⟩ = AIface P t (ev tm x) (kp dst tm hp n K) := by simp only [AStep, ADo]; rw [fold_kp]
theorem s_func (f : Fn) (fi ca : Array Operand) : AStep P ⟨dst, .makeFunc f fi ca, ty, pos, aft, g⟩ K ⟨tm, hp, n⟩ = AMakeFunc f fi (ca.toList.map (ev tm)) (kp dst tm hp n K) := by simp only [AStep, ADo]; rw [fold_kp]
theorem s_make (t : TypeId) (x y : Operand) : AStep P ⟨dst, .makeSlice t x y, ty, pos, aft, g⟩ K ⟨tm, hp, n⟩ = AMake P t (ev tm x) (ev tm y) (siteD dst) hp (kq dst tm n K) := by simp only [AStep, ADo, site_eq]; rw [fold_kq]
theorem s_slice (t : TypeId) (x : Operand) (lo hi : Option Operand) : AStep P ⟨dst, .slice t x lo hi none, ty, pos, aft, g⟩ K ⟨tm, hp, n⟩ = ASlice P t (ev tm x) (lo.map (ev tm)) (hi.map (ev tm)) hp (kp dst tm hp n K) := by
 simp only [AStep, ADo, true_and]; rw [fold_kp]
theorem s_fieldAddr (t : TypeId) (x : Operand) (j : Nat) : AStep P ⟨dst, .fieldAddr t x j, ty, pos, aft, g⟩ K ⟨tm, hp, n⟩ = AFieldAddr P t (ev tm x) j hp (kp dst tm hp n K) := by simp only [AStep, ADo]; rw [fold_kp]
theorem s_indexAddr (t : TypeId) (x i : Operand) : AStep P ⟨dst, .indexAddr t x i, ty, pos, aft, g⟩ K ⟨tm, hp, n⟩ = AIndexAddr P t (ev tm x) (ev tm i) hp (kp dst tm hp n K) := by simp only [AStep, ADo]; rw [fold_kp]
theorem s_index (t : TypeId) (x i : Operand) : AStep P ⟨dst, .index t x i, ty, pos, aft, g⟩ K ⟨tm, hp, n⟩ = AIndex P t (ev tm x) (ev tm i) (kp dst tm hp n K) := by simp only [AStep, ADo]; rw [fold_kp]
theorem s_extract (x : Operand) (i : Nat) : AStep P ⟨dst, .extract x i, ty, pos, aft, g⟩ K ⟨tm, hp, n⟩ = AExtract (ev tm x) i (kp dst tm hp n K) := by simp only [AStep, ADo]; rw [fold_kp]
/-- A call of a function value. -/
def ACallV (P : Program) (x : AV) (xs : List AV) (s : Site) (hp : Hp) (K : AV → Hp → Prop) : Prop :=
 match x with
 | .func f cap => AFn P f (xs ++ cap) s hp K
 | _ => False
theorem s_call (f : Operand) (xs : Array Operand) (ts : Array TypeId) : AStep P ⟨dst, .call ⟨.value f, xs, ts⟩, ty, pos, aft, g⟩ K ⟨tm, hp, n⟩ = ACallV P (ev tm f) (xs.toList.map (ev tm)) (siteD dst) hp (kq dst tm n K) := by
 simp only [AStep, ADo, ACallOp, ACallV, site_eq]
 cases ev tm f <;> first | rfl | (rw [fold_kq])
theorem c_func (f : FuncId) (cap xs : List AV) (s : Site) (K : AV → Hp → Prop) : ACallV P (.func f cap) xs s hp K = AFn P f (xs ++ cap) s hp K := rfl
theorem fn_eq (f : FuncId) (xs : List AV) (s : Site) (K : AV → Hp → Prop) : AFn P f xs s hp K = if callable P f = true then ACallY P f xs s hp K (passL hp xs) else AExt P f xs s hp K := rfl
theorem s_len (x : Operand) (t : TypeId) : AStep P ⟨dst, .call ⟨.builtin .len, #[x], #[t]⟩, ty, pos, aft, g⟩ K ⟨tm, hp, n⟩ = ALen P t (ev tm x) hp (kp dst tm hp n K) := by
 simp only [AStep, ADo, ACallOp, ABuiltin, List.map_cons, List.map_nil]; rw [fold_kp]
theorem s_append (x y : Operand) (ts : Array TypeId) : AStep P ⟨dst, .call ⟨.builtin .append, #[x, y], ts⟩, ty, pos, aft, g⟩ K ⟨tm, hp, n⟩ = AAppend P ts (ev tm x) (ev tm y) (siteD dst) hp (kq dst tm n K) := by
 simp only [AStep, ADo, ACallOp, ABuiltin, List.map_cons, List.map_nil, site_eq]; rw [fold_kq]
theorem s_max (x y : Operand) (ts : Array TypeId) : AStep P ⟨dst, .call ⟨.builtin .max, #[x, y], ts⟩, ty, pos, aft, g⟩ K ⟨tm, hp, n⟩ = AMax (ev tm x) (ev tm y) (kp dst tm hp n K) := by
 simp only [AStep, ADo, ACallOp, ABuiltin, List.map_cons, List.map_nil]; rw [fold_kp]
theorem s_min (x y : Operand) (ts : Array TypeId) : AStep P ⟨dst, .call ⟨.builtin .min, #[x, y], ts⟩, ty, pos, aft, g⟩ K ⟨tm, hp, n⟩ = AMin (ev tm x) (ev tm y) (kp dst tm hp n K) := by
 simp only [AStep, ADo, ACallOp, ABuiltin, List.map_cons, List.map_nil]; rw [fold_kp]
end

/-! ### Values -/
def kb (K : AV → Prop) (q : Bool) : Prop := K (.val (.bool q))
def kn (K : AV → Prop) (q : Bool) : Prop := K (.val (.bool (!q)))
section
variable {P : Program} {K : AV → Prop} {t : TypeId} {hp : Hp} {k kk : IntKind} {a b : Int}
theorem if_and (q : Bool) (X Y : Prop) : ((q = true → X) ∧ (q = false → Y)) = (if q = true then X else Y) := by cases q <;> simp
theorem pick_eq (q : Bool) (y z : AV) : APick (.val (.bool q)) y z K = (if q = true then K y else K z) := if_and q _ _
theorem b_shl : ABin P .shl t (.val (.int k a)) (.val (.int kk b)) K = (0 ≤ b ∧ K (.val (.int k (k.wrap (a * 2 ^ min b.toNat k.bits))))) := rfl
theorem b_shr : ABin P .shr t (.val (.int k a)) (.val (.int kk b)) K = (0 ≤ b ∧ K (.val (.int k (a.fdiv (2 ^ min b.toNat k.bits))))) := rfl
theorem b_add : ABin P .add t (.val (.int k a)) (.val (.int k b)) K = K (.val (.int k (k.wrap (a + b)))) := by simp only [ABin, AInt, true_and]
theorem b_sub : ABin P .sub t (.val (.int k a)) (.val (.int k b)) K = K (.val (.int k (k.wrap (a - b)))) := by simp only [ABin, AInt, true_and]
theorem b_mul : ABin P .mul t (.val (.int k a)) (.val (.int k b)) K = K (.val (.int k (k.wrap (a * b)))) := by simp only [ABin, AInt, true_and]
theorem b_quo : ABin P .quo t (.val (.int k a)) (.val (.int k b)) K = (b ≠ 0 ∧ K (.val (.int k (k.wrap (a.tdiv b))))) := by simp only [ABin, AInt, true_and]
theorem b_rem : ABin P .rem t (.val (.int k a)) (.val (.int k b)) K = (b ≠ 0 ∧ K (.val (.int k (a.tmod b)))) := by simp only [ABin, AInt, true_and]
theorem b_and : ABin P .and t (.val (.int k a)) (.val (.int k b)) K = K (.val (.int k (bits .and k a b))) := by simp only [ABin, AInt, true_and]
theorem b_or : ABin P .or t (.val (.int k a)) (.val (.int k b)) K = K (.val (.int k (bits .or k a b))) := by simp only [ABin, AInt, true_and]
theorem b_xor : ABin P .xor t (.val (.int k a)) (.val (.int k b)) K = K (.val (.int k (bits .xor k a b))) := by simp only [ABin, AInt, true_and]
theorem b_andNot : ABin P .andNot t (.val (.int k a)) (.val (.int k b)) K = K (.val (.int k (bits .andNot k a b))) := by simp only [ABin, AInt, true_and]
theorem b_eql : ABin P .eql t (.val (.int k a)) (.val (.int k b)) K = K (.val (.bool (a == b))) := by simp only [ABin, AInt, true_and]
theorem b_neq : ABin P .neq t (.val (.int k a)) (.val (.int k b)) K = K (.val (.bool (a != b))) := by simp only [ABin, AInt, true_and]
theorem b_lss : ABin P .lss t (.val (.int k a)) (.val (.int k b)) K = K (.val (.bool (decide (a < b)))) := by simp only [ABin, AInt, true_and]
theorem b_leq : ABin P .leq t (.val (.int k a)) (.val (.int k b)) K = K (.val (.bool (decide (a ≤ b)))) := by simp only [ABin, AInt, true_and]
theorem b_gtr : ABin P .gtr t (.val (.int k a)) (.val (.int k b)) K = K (.val (.bool (decide (a > b)))) := by simp only [ABin, AInt, true_and]
theorem b_geq : ABin P .geq t (.val (.int k a)) (.val (.int k b)) K = K (.val (.bool (decide (a ≥ b)))) := by simp only [ABin, AInt, true_and]
theorem b_str (op : BinOp) (x y : ByteArray) : ABin P op t (.val (.string x)) (.val (.string y)) K = AStr op x y K := rfl
theorem b_beql (x y : Bool) : ABin P .eql t (.val (.bool x)) (.val (.bool y)) K = (tyBool P t = true ∧ K (.val (.bool (x == y)))) := rfl
theorem b_bneq (x y : Bool) : ABin P .neq t (.val (.bool x)) (.val (.bool y)) K = (tyBool P t = true ∧ K (.val (.bool (x != y)))) := rfl
theorem b_aeql (xs ys : List AV) : ABin P .eql t (.agg xs) (.agg ys) K = AEqS (tyEq P t) xs ys (kb K) := rfl
theorem b_aneq (xs ys : List AV) : ABin P .neq t (.agg xs) (.agg ys) K = AEqS (tyEq P t) xs ys (kn K) := rfl
theorem aq_some (l : List EK) (xs ys : List AV) (K : Bool → Prop) : AEqS (some l) xs ys K = (xs.map ekA = l.map some ∧ ys.map ekA = l.map some ∧ K (eqA xs ys)) := rfl
theorem kb_eq (q : Bool) : kb K q = K (.val (.bool q)) := rfl
theorem kn_eq (q : Bool) : kn K q = K (.val (.bool (!q))) := rfl
theorem ek_i (n : Int) : ekA (.val (.int k n)) = some (.int k) := rfl
theorem ek_b (q : Bool) : ekA (.val (.bool q)) = some .bool := rfl
theorem ek_s (x : ByteArray) : ekA (.val (.string x)) = some .str := rfl
theorem eqA_i (x y : Int) (xs ys : List AV) : eqA (.val (.int k x) :: xs) (.val (.int kk y) :: ys) = (x == y && eqA xs ys) := rfl
theorem eqA_b (x y : Bool) (xs ys : List AV) : eqA (.val (.bool x) :: xs) (.val (.bool y) :: ys) = (x == y && eqA xs ys) := rfl
theorem eqA_s (x y : ByteArray) (xs ys : List AV) : eqA (.val (.string x) :: xs) (.val (.string y) :: ys) = (x.toList == y.toList && eqA xs ys) := rfl
theorem eqA_n : eqA [] [] = true := rfl
theorem t_add (x y : ByteArray) : AStr .add x y K = (x.size + y.size ≤ 9223372036854775807 ∧ K (.val (.string (x ++ y)))) := rfl
theorem t_eql (x y : ByteArray) : AStr .eql x y K = K (.val (.bool (x.toList == y.toList))) := rfl
theorem t_neq (x y : ByteArray) : AStr .neq x y K = K (.val (.bool (!(x.toList == y.toList)))) := rfl
theorem t_lss (x y : ByteArray) : AStr .lss x y K = K (.val (.bool (Op.bytesLess x.toList y.toList))) := rfl
theorem t_leq (x y : ByteArray) : AStr .leq x y K = K (.val (.bool (Op.bytesLess x.toList y.toList || x.toList == y.toList))) := rfl
theorem t_gtr (x y : ByteArray) : AStr .gtr x y K = K (.val (.bool (!(Op.bytesLess x.toList y.toList || x.toList == y.toList)))) := rfl
theorem t_geq (x y : ByteArray) : AStr .geq x y K = K (.val (.bool (!Op.bytesLess x.toList y.toList))) := rfl
theorem u_not (q : Bool) : AUn .not (.val (.bool q)) K = K (.val (.bool (!q))) := rfl
theorem u_neg : AUn .neg (.val (.int k a)) K = K (.val (.int k (k.wrap (0 - a)))) := rfl
theorem u_xor : AUn .xor (.val (.int k a)) K = K (.val (.int k (bits .xor k (if k.signed then -1 else k.max) a))) := rfl
def AConvI (K : AV → Prop) (n : Int) : Option IntKind → Prop
 | some k => K (.val (.int k (k.wrap n)))
 | none => False
theorem v_int (s d : TypeId) : AConvO P s d (.val (.int k a)) hp K = ((P.underlying s).isSome = true ∧ AConvI K a (tyInt P d)) := by
 unfold AConvO AConv AConvI
 cases tyInt P d <;> rfl
theorem v_int_some : AConvI K a (some k) = K (.val (.int k (k.wrap a))) := rfl
theorem v_own (s d : TypeId) (st : Site) (v k o l : Nat) : AConvO P s d (.own st v k o l) hp K = AConvB P s d v k o l (hp.get st) K := rfl
theorem v_row (s d t : TypeId) (v k o l n k' : Nat) (q : Option Nat) (rows : List (List AV)) : AConvB P s d v k o l (n, .row t k' q rows) K = (n = v ∧ k' = 1 ∧ k = 1 ∧ o = 0 ∧ (tyEl P s).bind (tyInt P) = some .u8 ∧ tyStr P d = true ∧ ∃ x : List UInt8, rows = (x.map fun b => [.val (.int .u8 b.toNat)]) ∧ l = x.length ∧ 0 < x.length ∧ K (.val (.string ⟨x.toArray⟩))) := rfl
theorem v_str (s d : TypeId) (x : ByteArray) : AConvO P s d (.val (.string x)) hp K = (tyStr P s = true ∧ if tyStr P d = true then K (.val (.string x)) else (tyEl P d).bind (tyInt P) = some .u8 ∧ K (.list 1 (x.data.toList.map fun b => [.val (.int .u8 b.toNat)]))) := rfl
theorem i_eq (x : AV) : AIface P t x K = (tyNoIf P t = true ∧ K (.iface t x)) := rfl
theorem f_eq (f : FuncId) (fi : Array Operand) (cap : List AV) : AMakeFunc (.func f) fi cap K = (fi.toList = [] ∧ K (.func f cap)) := rfl
theorem mx_eq : AMax (.val (.int k a)) (.val (.int kk b)) K = K (.val (.int k (if b > a then b else a))) := rfl
theorem mn_eq : AMin (.val (.int k a)) (.val (.int kk b)) K = K (.val (.int k (if b < a then b else a))) := rfl
theorem nc_rop (cs : List AV) : ANilCheck (.rop cs) hp K = K (.rop cs) := rfl
theorem nc_ptr (s : Site) (v o : Nat) : ANilCheck (.ptr s v o) hp K = ((hp.get s).1 = v ∧ K (.ptr s v o)) := rfl
theorem nc_ept (s : Site) (v k i o : Nat) : ANilCheck (.ept s v k i o) hp K = ((hp.get s).1 = v ∧ K (.ept s v k i o)) := rfl
theorem nc_func (f : FuncId) (cap : List AV) : ANilCheck (.func f cap) hp K = K (.func f cap) := rfl
theorem ln_str (s : ByteArray) : ALen P t (.val (.string s)) hp K = (tyStr P t = true ∧ K (.val (.int .i64 s.size))) := rfl
theorem ln_list (k : Nat) (rows : List (List AV)) : ALen P t (.list k rows) hp K = (tyEl P t ≠ none ∧ K (.val (.int .i64 rows.length))) := rfl
theorem ln_nil : ALen P t (.val (.slice none 0 0)) hp K = (tyEl P t ≠ none ∧ K (.val (.int .i64 0))) := rfl
theorem ln_own (s : Site) (ver k off len : Nat) : ALen P t (.own s ver k off len) hp K = (tyEl P t ≠ none ∧ (hp.get s).1 = ver ∧ K (.val (.int .i64 len))) := rfl

/-! Reads. -/
def AL1 (K : AV → Prop) : Option Bool → Option Nat → List AV → Prop
 | some true, some n, cs => n ≤ cs.length ∧ K (.agg (cs.take n))
 | some false, _, x :: _ => K x
 | _, _, _ => False
theorem l1_eq (cs : List AV) : ALoad1 P t cs K = AL1 K (tyAgg P t) (tySz P t) cs := by
 unfold ALoad1
 cases tyAgg P t with
 | none => rfl
 | some q => cases q <;> cases tySz P t <;> cases cs <;> rfl
theorem l1_agg (n : Nat) (cs : List AV) : AL1 K (some true) (some n) cs = (n ≤ cs.length ∧ K (.agg (cs.take n))) := rfl
theorem l1_one (o : Option Nat) (x : AV) (cs : List AV) : AL1 K (some false) o (x :: cs) = K x := rfl
def ALP (P : Program) (t : TypeId) (K : AV → Prop) (ver off : Nat) : Nat × Blk → Prop
 | (n, .cells _ cs) => n = ver ∧ ALoad1 P t (cs.drop off) K
 | (n, .icc _ cs) => n = ver ∧ ALoad1 P t (cs.drop off) K
 | (n, .rowx _ _ cs) => n = ver ∧ ALoad1 P t (cs.drop off) K
 | _ => False
def ALE (P : Program) (t : TypeId) (K : AV → Prop) (ver k i off : Nat) : Nat × Blk → Prop
 | (n, .row _ k' _ rows) => n = ver ∧ k' = k ∧ ∃ r, rows[i]? = some r ∧ ALoad1 P t (r.drop off) K
 | (n, .ice k' rows) => n = ver ∧ k' = k ∧ ∃ r, rows[i]? = some r ∧ ALoad1 P t (r.drop off) K
 | _ => False
theorem ld_rop (cs : List AV) : ALoad P t (.rop cs) hp K = ALoad1 P t cs K := rfl
theorem ld_ptr (s : Site) (ver off : Nat) : ALoad P t (.ptr s ver off) hp K = ALP P t K ver off (hp.get s) := by
 simp only [ALoad]
 generalize hp.get s = x
 obtain ⟨n, b⟩ := x
 cases b <;> rfl
theorem ld_ept (s : Site) (ver k i off : Nat) : ALoad P t (.ept s ver k i off) hp K = ALE P t K ver k i off (hp.get s) := by
 simp only [ALoad]
 generalize hp.get s = x
 obtain ⟨n, b⟩ := x
 cases b <;> rfl
theorem lp_cells (ver off n : Nat) (t' : TypeId) (cs : List AV) : ALP P t K ver off (n, .cells t' cs) = (n = ver ∧ ALoad1 P t (cs.drop off) K) := rfl
theorem lp_icc (ver off n : Nat) (t' : TypeId) (cs : List AV) : ALP P t K ver off (n, .icc t' cs) = (n = ver ∧ ALoad1 P t (cs.drop off) K) := rfl
theorem lp_rowx (ver off n : Nat) (t' : TypeId) (k' : Nat) (cs : List AV) : ALP P t K ver off (n, .rowx t' k' cs) = (n = ver ∧ ALoad1 P t (cs.drop off) K) := rfl
theorem le_ice (ver k i off n : Nat) (k' : Nat) (rows : List (List AV)) : ALE P t K ver k i off (n, .ice k' rows) = (n = ver ∧ k' = k ∧ ∃ r, rows[i]? = some r ∧ ALoad1 P t (r.drop off) K) := rfl
theorem le_row (ver k i off n : Nat) (t' : TypeId) (k' : Nat) (q : Option Nat) (rows : List (List AV)) : ALE P t K ver k i off (n, .row t' k' q rows) = (n = ver ∧ k' = k ∧ ∃ r, rows[i]? = some r ∧ ALoad1 P t (r.drop off) K) := rfl

/-! Addresses. -/
def AFA (hp : Hp) (K : AV → Prop) : Option Nat → AV → Prop
 | some off, .rop cs => K (.rop (cs.drop off))
 | some off, .ptr s v o => (hp.get s).1 = v ∧ K (.ptr s v (o + off))
 | some off, .ept s v k i o => (hp.get s).1 = v ∧ K (.ept s v k i (o + off))
 | _, _ => False
theorem fa_eq (x : AV) (j : Nat) : AFieldAddr P t x j hp K = AFA hp K (tyFA P t j) x := by
 unfold AFieldAddr
 cases tyFA P t j with
 | none => rfl
 | some off => cases x <;> rfl
theorem fa_rop (off : Nat) (cs : List AV) : AFA hp K (some off) (.rop cs) = K (.rop (cs.drop off)) := rfl
theorem fa_ptr (off : Nat) (s : Site) (v o : Nat) : AFA hp K (some off) (.ptr s v o) = ((hp.get s).1 = v ∧ K (.ptr s v (o + off))) := rfl
theorem fa_ept (off : Nat) (s : Site) (v k i o : Nat) : AFA hp K (some off) (.ept s v k i o) = ((hp.get s).1 = v ∧ K (.ept s v k i (o + off))) := rfl
def AIO (K : AV → Prop) (s : Site) (ver k i : Nat) : Nat × Blk → Prop
 | (m, .row _ k' _ _) => m = ver ∧ k' = k ∧ K (.ept s ver k i 0)
 | (m, .ice k' rows) => m = ver ∧ k' = k ∧ ∃ r, rows[i]? = some r ∧ K (.rop r)
 | (m, .cells _ _) => m = ver ∧ K (.ptr s ver (i * k))
 | (m, .rowx _ _ _) => m = ver ∧ K (.ptr s ver (i * k))
 | _ => False
theorem ia_list (k : Nat) (rows : List (List AV)) (i : Int) : AIndexAddr P t (.list k rows) (.val (.int kk i)) hp K = (tyEl P t ≠ none ∧ (tyEl P t).bind (tySz P) = some k ∧ 0 ≤ i ∧ ∃ r, rows[i.toNat]? = some r ∧ K (.rop r)) := rfl
theorem ia_own (s : Site) (ver k off len : Nat) (i : Int) : AIndexAddr P t (.own s ver k off len) (.val (.int kk i)) hp K = ((tyEl P t).bind (tySz P) = some k ∧ 0 ≤ i ∧ i < len ∧ AIO K s ver k (off + i.toNat) (hp.get s)) := by
 simp only [AIndexAddr]
 generalize hp.get s = x
 obtain ⟨n, b⟩ := x
 cases b <;> rfl
theorem io_cells (s : Site) (ver k i m : Nat) (t' : TypeId) (cs : List AV) : AIO K s ver k i (m, .cells t' cs) = (m = ver ∧ K (.ptr s ver (i * k))) := rfl
theorem io_rowx (s : Site) (ver k i m : Nat) (t' : TypeId) (k' : Nat) (cs : List AV) : AIO K s ver k i (m, .rowx t' k' cs) = (m = ver ∧ K (.ptr s ver (i * k))) := rfl
theorem io_row (s : Site) (ver k i m : Nat) (t' : TypeId) (k' : Nat) (q : Option Nat) (rows : List (List AV)) : AIO K s ver k i (m, .row t' k' q rows) = (m = ver ∧ k' = k ∧ K (.ept s ver k i 0)) := rfl
theorem io_ice (s : Site) (ver k i m : Nat) (k' : Nat) (rows : List (List AV)) : AIO K s ver k i (m, .ice k' rows) = (m = ver ∧ k' = k ∧ ∃ r, rows[i]? = some r ∧ K (.rop r)) := rfl
theorem ix_str (s : ByteArray) (i : Int) : AIndex P t (.val (.string s)) (.val (.int kk i)) K = (tyStr P t = true ∧ 0 ≤ i ∧ ∃ b, s.data.toList[i.toNat]? = some b ∧ K (.val (.int .u8 b.toNat))) := rfl
theorem ex_tup (vs : List AV) (i : Nat) : AExtract (.tup vs) i K = ∃ x, vs[i]? = some x ∧ K x := rfl

/-! Cuts. -/
def bnd : Option AV → Int → Option Int
 | none, d => some d
 | some (.val (.int _ n)), _ => some n
 | _, _ => none
def ASlS (K : AV → Prop) (s : ByteArray) : Option Int → Option Int → Prop
 | some l, some h => 0 ≤ l ∧ l ≤ h ∧ h ≤ s.size ∧ K (.val (.string (s.extract l.toNat h.toNat)))
 | _, _ => False
def ASlL (K : AV → Prop) (k : Nat) (rows : List (List AV)) : Option Int → Option Int → Prop
 | some l, some h => 0 ≤ l ∧ l ≤ h ∧ h ≤ rows.length ∧ K (.list k ((rows.take h.toNat).drop l.toNat))
 | _, _ => False
def ASlO (K : AV → Prop) (s : Site) (ver k off len rl : Nat) : Option Int → Option Int → Prop
 | some l, some h => 0 ≤ l ∧ l ≤ h ∧ (h ≤ len ∨ off + h.toNat ≤ rl) ∧ K (.own s ver k (off + l.toNat) (h.toNat - l.toNat))
 | _, _ => False
theorem bnd_eq (x : Option AV) (d : Int) (K : Int → Prop) : ABnd x d K = match bnd x d with | some n => K n | none => False := by
 cases x with
 | none => rfl
 | some x => cases x with
  | val v => cases v <;> rfl
  | _ => rfl
def nrmL (ks : List (Option Nat)) (l : List AV) : List AV := l.map (nrmV ks)
theorem nl_nil (ks : List (Option Nat)) : nrmL ks [] = [] := rfl
theorem nl_cons (ks : List (Option Nat)) (x : AV) (l : List AV) : nrmL ks (x :: l) = nrmV ks x :: nrmL ks l := rfl
theorem nv_agg (ks : List (Option Nat)) (cs : List AV) : nrmV ks (.agg cs) = .agg (nrmC ks cs) := rfl
theorem nc_nil (xs : List AV) : nrmC [] xs = xs := by cases xs <;> rfl
theorem nc_none (ks : List (Option Nat)) (x : AV) (xs : List AV) : nrmC (none :: ks) (x :: xs) = x :: nrmC ks xs := rfl
theorem nc_some (k : Nat) (ks : List (Option Nat)) (x : AV) (xs : List AV) : nrmC (some k :: ks) (x :: xs) = nrm1 (some k) x :: nrmC ks xs := rfl
theorem n1_nil (k : Nat) : nrm1 (some k) (.val (.slice none 0 0)) = .list k [] := rfl
theorem n1_list (k k' : Nat) (r : List (List AV)) : nrm1 (some k) (.list k' r) = .list k' r := rfl
theorem nv_val (v : Value) : nrmV [none] (.val v) = .val v := rfl
theorem nv_rop (ks : List (Option Nat)) (l : List AV) : nrmV ks (.rop l) = .rop l := by rcases ks with _ | ⟨q, _ | ⟨_, _⟩⟩ <;> first | rfl | (cases q <;> rfl)
theorem nv_list (ks : List (Option Nat)) (k : Nat) (l : List (List AV)) : nrmV ks (.list k l) = .list k l := by rcases ks with _ | ⟨q, _ | ⟨_, _⟩⟩ <;> first | rfl | (cases q <;> rfl)
theorem nv_nil (k : Nat) : nrmV [some k] (.val (.slice none 0 0)) = .list k [] := rfl
theorem nv_func (ks : List (Option Nat)) (f : FuncId) (l : List AV) : nrmV ks (.func f l) = .func f l := by rcases ks with _ | ⟨q, _ | ⟨_, _⟩⟩ <;> first | rfl | (cases q <;> rfl)
theorem bfz_some (m : Nat) (idx : List Nat) (s : Site) (KK : AV → Hp → Prop) (l : List AV) (hp1 : Hp) : ABuildF P t m idx s KK (some (l, hp1)) = ABuildSlice P t m (idx.zip (nrmL (tyKsE P t) l)) s hp1 KK := rfl
theorem sf_ptr (s : Site) (v o : Nat) (y : AV) (KK : Hp → Prop) : AStoreF P t (.ptr s v o) y hp KK = AStore P t (.ptr s v o) y hp KK := rfl
theorem sf_ept (s : Site) (v k i o : Nat) (y : AV) (KK : Hp → Prop) : AStoreF P t (.ept s v k i o) y hp KK = AStoreE P t (.ept s v k i o) KK (passA hp y) := rfl
theorem se_some (x y : AV) (KK : Hp → Prop) (hp1 : Hp) : AStoreE P t x KK (some (y, hp1)) = AStore P t x (nrmV (tyKsT P t) y) hp1 KK := rfl
theorem zip_cons (i : Nat) (is : List Nat) (x : AV) (xs : List AV) : (i :: is).zip (x :: xs) = (i, x) :: is.zip xs := rfl
theorem zip_nil (xs : List AV) : ([] : List Nat).zip xs = [] := rfl
theorem sl_str (s : ByteArray) (lo hi : Option AV) : ASlice P t (.val (.string s)) lo hi hp K = (tyStr P t = true ∧ ASlS K s (bnd lo 0) (bnd hi s.size)) := by
 simp only [ASlice, bnd_eq]
 cases bnd lo 0 <;> cases bnd hi s.size <;> rfl
theorem sl_list (k : Nat) (rows : List (List AV)) (lo hi : Option AV) : ASlice P t (.list k rows) lo hi hp K = ((tyEl P t).bind (tySz P) = some k ∧ ASlL K k rows (bnd lo 0) (bnd hi rows.length)) := by
 simp only [ASlice, bnd_eq]
 cases bnd lo 0 <;> cases bnd hi rows.length <;> rfl
theorem sl_own (s : Site) (ver k off len : Nat) (lo hi : Option AV) : ASlice P t (.own s ver k off len) lo hi hp K = ((hp.get s).1 = ver ∧ (tyEl P t).bind (tySz P) = some k ∧ ASlO K s ver k off len (rowLen (hp.get s).2) (bnd lo 0) (bnd hi len)) := by
 simp only [ASlice, bnd_eq]
 cases bnd lo 0 <;> cases bnd hi len <;> rfl
def ASlN (K : AV → Prop) : Option Int → Option Int → Prop
 | some l, some h => 0 ≤ l ∧ l ≤ h ∧ h ≤ 0 ∧ K (.val (.slice none 0 0))
 | _, _ => False
theorem sl_nl (lo hi : Option AV) : ASlice P t (.val (.slice none 0 0)) lo hi hp K = ((tyEl P t).bind (tySz P) ≠ none ∧ ASlN K (bnd lo 0) (bnd hi 0)) := by
 simp only [ASlice, bnd_eq]
 cases bnd lo 0 <;> cases bnd hi 0 <;> rfl
theorem sln (l h : Int) : ASlN K (some l) (some h) = (0 ≤ l ∧ l ≤ h ∧ h ≤ 0 ∧ K (.val (.slice none 0 0))) := rfl
theorem sls (s : ByteArray) (l h : Int) : ASlS K s (some l) (some h) = (0 ≤ l ∧ l ≤ h ∧ h ≤ s.size ∧ K (.val (.string (s.extract l.toNat h.toNat)))) := rfl
theorem sll (k : Nat) (rows : List (List AV)) (l h : Int) : ASlL K k rows (some l) (some h) = (0 ≤ l ∧ l ≤ h ∧ h ≤ rows.length ∧ K (.list k ((rows.take h.toNat).drop l.toNat))) := rfl
theorem rl_row (t' : TypeId) (k : Nat) (q : Option Nat) (rows : List (List AV)) : rowLen (.row t' k q rows) = rows.length := rfl
theorem rl_ice (k : Nat) (rows : List (List AV)) : rowLen (.ice k rows) = 0 := rfl
theorem slo (s : Site) (ver k off len rl : Nat) (l h : Int) : ASlO K s ver k off len rl (some l) (some h) = (0 ≤ l ∧ l ≤ h ∧ (h ≤ len ∨ off + h.toNat ≤ rl) ∧ K (.own s ver k (off + l.toNat) (h.toNat - l.toNat))) := rfl

/-! Structs. -/
def ABd (hp : Hp) (K : AV → Prop) (parts : List (Nat × AV)) : Option (List AV) → Option (List (Nat × Nat)) → Prop
 | some z, some pl => match fillA hp pl z parts with
  | some cs => K (.agg cs)
  | none => False
 | _, _ => False
def ABf (K : AV → Prop) : Option (List AV) → Prop
 | some cs => K (.agg cs)
 | none => False
theorem bd_eq (parts : List (Nat × AV)) : ABuild P t parts hp K = ABd hp K parts (tyZ P t) (tyF P t) := by
 unfold ABuild
 cases tyZ P t with
 | none => rfl
 | some z => cases tyF P t <;> rfl
theorem bd_some (parts : List (Nat × AV)) (z : List AV) (pl : List (Nat × Nat)) : ABd hp K parts (some z) (some pl) = ABf K (fillA hp pl z parts) := by
 simp only [ABd]
 cases fillA hp pl z parts <;> rfl
theorem bf_some (cs : List AV) : ABf K (some cs) = K (.agg cs) := rfl
def flS (hp : Hp) (pl : List (Nat × Nat)) (cells : List AV) (rest : List (Nat × AV)) : Option (Nat × Nat) → Option (List AV) → Option (List AV)
 | some (off, n), some l => if l.length = n ∧ off + n ≤ cells.length then fillA hp pl (cells.take off ++ l ++ cells.drop (off + n)) rest else none
 | _, _ => none
theorem fl_nil (pl : List (Nat × Nat)) (cells : List AV) : fillA hp pl cells [] = some cells := rfl
theorem fl_cons (pl : List (Nat × Nat)) (cells : List AV) (i : Nat) (x : AV) (rest : List (Nat × AV)) : fillA hp pl cells ((i, x) :: rest) = flS hp pl cells rest pl[i]? (x.cs hp) := by
 simp only [fillA]
 cases pl[i]? with
 | none => rfl
 | some y => obtain ⟨off, n⟩ := y; cases x.cs hp <;> rfl
theorem fl_some (pl : List (Nat × Nat)) (cells : List AV) (rest : List (Nat × AV)) (off n : Nat) (l : List AV) : flS hp pl cells rest (some (off, n)) (some l) = if l.length = n ∧ off + n ≤ cells.length then fillA hp pl (cells.take off ++ l ++ cells.drop (off + n)) rest else none := rfl
theorem cs_agg (cs : List AV) : AV.cs hp (.agg cs) = some cs := rfl
theorem cs_val (u : Value) : AV.cs hp (.val u) = if u.oneCell' = true then some [.val u] else none := rfl
theorem cs_list (k : Nat) (rows : List (List AV)) : AV.cs hp (.list k rows) = some [.list k rows] := rfl
theorem cs_rop (cs : List AV) : AV.cs hp (.rop cs) = some [.rop cs] := rfl
theorem cs_func (f : FuncId) (cap : List AV) : AV.cs hp (.func f cap) = some [.func f cap] := rfl
theorem cs_iface (t : TypeId) (x : AV) : AV.cs hp (.iface t x) = some [.iface t x] := rfl
theorem cs_own (s : Site) (ver k off len : Nat) : AV.cs hp (.own s ver k off len) = if ((hp.get s).1 == ver) = true then some [.own s ver k off len] else none := rfl
def isCells : Blk → Bool
 | .cells _ _ => true
 | .icc _ _ => true
 | _ => false
theorem lf_ptr (s : Site) (ver off : Nat) : AV.lf hp (.ptr s ver off) = ((hp.get s).1 == ver && isCells (hp.get s).2) := by
 simp only [AV.lf]
 generalize (hp.get s).2 = q
 cases q <;> rfl
theorem cs_ptr (s : Site) (ver off : Nat) : AV.cs hp (.ptr s ver off) = if ((hp.get s).1 == ver && isCells (hp.get s).2) = true then some [.ptr s ver off] else none := by
 rw [← lf_ptr (off := off)]
 rfl
def isRow : Blk → Bool
 | .row _ _ _ _ => true
 | .ice _ _ => true
 | _ => false
theorem lf_ept (s : Site) (ver k i off : Nat) : AV.lf hp (.ept s ver k i off) = ((hp.get s).1 == ver && isRow (hp.get s).2) := by
 simp only [AV.lf]
 generalize (hp.get s).2 = q
 cases q <;> rfl
theorem cs_ept (s : Site) (ver k i off : Nat) : AV.cs hp (.ept s ver k i off) = if ((hp.get s).1 == ver && isRow (hp.get s).2) = true then some [.ept s ver k i off] else none := by
 rw [← lf_ept (k := k) (i := i) (off := off)]
 rfl
theorem cs_map (s : Site) (ver : Nat) : AV.cs hp (.map s ver) = if ((hp.get s).1 == ver) = true then some [.map s ver] else none := rfl
theorem cs_junk : AV.cs hp .junk = some [.junk] := rfl
theorem one_nilI : Value.oneCell' .nilIface = true := rfl
theorem one_nilF : Value.oneCell' .nilFunc = true := rfl
theorem one_map (x : Option Nat) : Value.oneCell' (.map x) = true := rfl
theorem one_int : Value.oneCell' (.int k a) = true := rfl
theorem one_bool (q : Bool) : Value.oneCell' (.bool q) = true := rfl
theorem one_str (s : ByteArray) : Value.oneCell' (.string s) = true := rfl
theorem one_slice (x : Option Addr) (l c : Nat) : Value.oneCell' (.slice x l c) = true := rfl
theorem one_ptr (x : Option Addr) : Value.oneCell' (.pointer x) = true := rfl
end

/-! ### The local heap -/
section
variable {P : Program} {K : AV → Hp → Prop} {t : TypeId} {hp : Hp} {s : Site}
def AAl (t : TypeId) (s : Site) (hp : Hp) (K : AV → Hp → Prop) : Option (List AV) → Prop
 | some z => K (.ptr s ((hp.get s).1 + 1) 0) (hp.set s ((hp.get s).1 + 1) (.cells t z))
 | none => False
theorem al_eq : AAlloc P t s hp K = AAl t s hp K (tyZ P t) := by
 unfold AAlloc
 cases tyZ P t <;> rfl
theorem bx_eq (x : AV) : ABox t x s hp K = AAl t s hp K (x.cs hp) := by
 unfold ABox
 cases x.cs hp <;> rfl
theorem al_some (z : List AV) : AAl t s hp K (some z) = K (.ptr s ((hp.get s).1 + 1) 0) (hp.set s ((hp.get s).1 + 1) (.cells t z)) := rfl
def AStP (K : Hp → Prop) (hp : Hp) (s : Site) (ver off : Nat) (l : List AV) : Nat × Blk → Prop
 | (n, .cells t' cs) => n = ver ∧ off + l.length ≤ cs.length ∧ K (hp.set s n (.cells t' (cs.take off ++ l ++ cs.drop (off + l.length))))
 | (n, .rowx t' k' cs) => n = ver ∧ off + l.length ≤ cs.length ∧ K (hp.set s n (.rowx t' k' (cs.take off ++ l ++ cs.drop (off + l.length))))
 | _ => False
def AStE (K : Hp → Prop) (hp : Hp) (s : Site) (ver k i off : Nat) (l : List AV) : Nat × Blk → Prop
 | (n, .row t' k' q rows) => n = ver ∧ k' = k ∧ l.all AV.free = true ∧ ∃ r, rows[i]? = some r ∧ off + l.length ≤ k ∧ K (hp.set s n (.row t' k' q (rows.set i (r.take off ++ l ++ r.drop (off + l.length)))))
 | _ => False
def ASt1 (P : Program) (t : TypeId) (K : Hp → Prop) (hp : Hp) : AV → Option (List AV) → Prop
 | .ptr s ver off, some l => tySz P t = some l.length ∧ AStP K hp s ver off l (hp.get s)
 | .ept s ver k i off, some l => tySz P t = some l.length ∧ AStE K hp s ver k i off l (hp.get s)
 | _, _ => False
theorem st_eq (x v : AV) (K : Hp → Prop) : AStore P t x v hp K = ASt1 P t K hp x (v.cs hp) := by
 unfold AStore
 cases v.cs hp with
 | none => cases x <;> rfl
 | some l => cases x with
  | ptr s ver off =>
   simp only [ASt1]
   generalize hp.get s = y
   obtain ⟨n, b⟩ := y
   cases b <;> rfl
  | ept s ver k i off =>
   simp only [ASt1]
   generalize hp.get s = y
   obtain ⟨n, b⟩ := y
   cases b <;> rfl
  | _ => simp only [ASt1, and_false]
theorem st_ptr (K : Hp → Prop) (ver off : Nat) (l : List AV) : ASt1 P t K hp (.ptr s ver off) (some l) = (tySz P t = some l.length ∧ AStP K hp s ver off l (hp.get s)) := rfl
theorem st_ept (K : Hp → Prop) (ver k i off : Nat) (l : List AV) : ASt1 P t K hp (.ept s ver k i off) (some l) = (tySz P t = some l.length ∧ AStE K hp s ver k i off l (hp.get s)) := rfl
theorem sp_cells (K : Hp → Prop) (ver off n : Nat) (l cs : List AV) (t' : TypeId) : AStP K hp s ver off l (n, .cells t' cs) = (n = ver ∧ off + l.length ≤ cs.length ∧ K (hp.set s n (.cells t' (cs.take off ++ l ++ cs.drop (off + l.length))))) := rfl
theorem sp_rowx (K : Hp → Prop) (ver off n : Nat) (l cs : List AV) (t' : TypeId) (k' : Nat) : AStP K hp s ver off l (n, .rowx t' k' cs) = (n = ver ∧ off + l.length ≤ cs.length ∧ K (hp.set s n (.rowx t' k' (cs.take off ++ l ++ cs.drop (off + l.length))))) := rfl
theorem se_row (K : Hp → Prop) (ver k i off n : Nat) (l : List AV) (t' : TypeId) (k' : Nat) (q : Option Nat) (rows : List (List AV)) : AStE K hp s ver k i off l (n, .row t' k' q rows) = (n = ver ∧ k' = k ∧ l.all AV.free = true ∧ ∃ r, rows[i]? = some r ∧ off + l.length ≤ k ∧ K (hp.set s n (.row t' k' q (rows.set i (r.take off ++ l ++ r.drop (off + l.length)))))) := rfl

def ABs (n : Nat) (parts : List (Nat × AV)) (s : Site) (hp : Hp) (K : AV → Hp → Prop) : Option TypeId → Option Nat → Option (List AV) → Prop
 | some e, some k, some z => 0 < k ∧ z.length = k ∧ n * k ≤ 16777216 ∧ match fillR hp k (List.replicate n z) parts with
  | some rows => K (.own s ((hp.get s).1 + 1) k 0 n) (hp.set s ((hp.get s).1 + 1) (.row e k none rows))
  | none => False
 | _, _, _ => False
def ABr (e : TypeId) (k n : Nat) (s : Site) (hp : Hp) (K : AV → Hp → Prop) : Option (List (List AV)) → Prop
 | some rows => K (.own s ((hp.get s).1 + 1) k 0 n) (hp.set s ((hp.get s).1 + 1) (.row e k none rows))
 | none => False
theorem bs_eq (n : Nat) (parts : List (Nat × AV)) : ABuildSlice P t n parts s hp K = ABs n parts s hp K (tyEl P t) ((tyEl P t).bind (tySz P)) ((tyEl P t).bind (tyZ P)) := by
 unfold ABuildSlice
 cases tyEl P t with
 | none => rfl
 | some e =>
  simp only [Option.bind_some]
  cases tySz P e with
  | none => rfl
  | some k => cases tyZ P e <;> rfl
theorem bs_some (n e k : Nat) (z : List AV) (parts : List (Nat × AV)) : ABs n parts s hp K (some e) (some k) (some z) = (0 < k ∧ z.length = k ∧ n * k ≤ 16777216 ∧ ABr e k n s hp K (fillR hp k (List.replicate n z) parts)) := by
 simp only [ABs]
 cases fillR hp k (List.replicate n z) parts <;> rfl
theorem br_some (e k n : Nat) (rows : List (List AV)) : ABr e k n s hp K (some rows) = K (.own s ((hp.get s).1 + 1) k 0 n) (hp.set s ((hp.get s).1 + 1) (.row e k none rows)) := rfl
def frS (hp : Hp) (k : Nat) (rows : List (List AV)) (i : Nat) (rest : List (Nat × AV)) : Option (List AV) → Option (List (List AV))
 | some l => if l.length = k ∧ i < rows.length ∧ l.all AV.free = true then fillR hp k (rows.set i l) rest else none
 | none => none
theorem fr_nil (k : Nat) (rows : List (List AV)) : fillR hp k rows [] = some rows := rfl
theorem fr_cons (k : Nat) (rows : List (List AV)) (i : Nat) (x : AV) (rest : List (Nat × AV)) : fillR hp k rows ((i, x) :: rest) = frS hp k rows i rest (x.cs hp) := by
 simp only [fillR]
 cases x.cs hp <;> rfl
theorem fr_some (k : Nat) (rows : List (List AV)) (i : Nat) (rest : List (Nat × AV)) (l : List AV) : frS hp k rows i rest (some l) = if l.length = k ∧ i < rows.length ∧ l.all AV.free = true then fillR hp k (rows.set i l) rest else none := rfl
theorem free_val (u : Value) : AV.free (.val u) = true := rfl
theorem free_list (k : Nat) (rows : List (List AV)) : AV.free (.list k rows) = true := rfl
theorem free_rop (cs : List AV) : AV.free (.rop cs) = true := rfl
theorem free_junk : AV.free .junk = true := rfl
theorem free_own (s : Site) (v k o l : Nat) : AV.free (.own s v k o l) = false := rfl
theorem free_ptr (s : Site) (v o : Nat) : AV.free (.ptr s v o) = false := rfl

def AMk (n cp : Int) (s : Site) (hp : Hp) (K : AV → Hp → Prop) : Option TypeId → Option Nat → Option Nat → Option (List AV) → Prop
 | some e, some k, some by_, some z => 0 < k ∧ z.length = k ∧ 0 ≤ n ∧ n ≤ cp ∧ (by_ : Int) * cp ≤ 281474976710656 ∧ cp ≤ 9223372036854775807 ∧
   K (.own s ((hp.get s).1 + 1) k 0 n.toNat) (hp.set s ((hp.get s).1 + 1) (.row e k (some cp.toNat) (List.replicate n.toNat z)))
 | _, _, _, _ => False
theorem mk_eq (k1 k2 : IntKind) (n cp : Int) : AMake P t (.val (.int k1 n)) (.val (.int k2 cp)) s hp K = AMk n cp s hp K (tyEl P t) ((tyEl P t).bind (tySz P)) ((tyEl P t).bind (tyBy P)) ((tyEl P t).bind (tyZ P)) := by
 unfold AMake
 cases tyEl P t with
 | none => rfl
 | some e =>
  simp only [Option.bind_some]
  cases tySz P e <;> cases tyBy P e <;> cases tyZ P e <;> rfl
theorem mk_some (n cp : Int) (e k by_ : Nat) (z : List AV) : AMk n cp s hp K (some e) (some k) (some by_) (some z) = (0 < k ∧ z.length = k ∧ 0 ≤ n ∧ n ≤ cp ∧ (by_ : Int) * cp ≤ 281474976710656 ∧ cp ≤ 9223372036854775807 ∧
   K (.own s ((hp.get s).1 + 1) k 0 n.toNat) (hp.set s ((hp.get s).1 + 1) (.row e k (some cp.toNat) (List.replicate n.toNat z)))) := rfl

def AAq (s s1 : Site) (off len e k : Nat) (hp : Hp) (K : AV → Hp → Prop) (ys rows : List (List AV)) (n : Nat) : Option Nat → Prop
 | none => K (.own s1 (n + 1) k 0 (len + ys.length)) (hp.set s1 (n + 1) (.row e k none (rows.take len ++ ys)))
 | some cp => (len + ys.length ≤ cp → K (.own s1 n k 0 (len + ys.length)) (hp.set s1 n (.row e k (some cp) (rows.take len ++ ys ++ rows.drop (len + ys.length))))) ∧
   (cp < len + ys.length → K (.own s ((hp.get s).1 + 1) k 0 (len + ys.length)) (hp.set s ((hp.get s).1 + 1) (.row e k none (rows.take len ++ ys))))
def AAo (s s1 : Site) (ver off len e k by_ : Nat) (hp : Hp) (K : AV → Hp → Prop) (k1 : Nat) (ys : List (List AV)) : Nat × Blk → Prop
 | (n, .row e' k2 q rows) => n = ver ∧ k1 = k ∧ k2 = k ∧ e' = e ∧ off = 0 ∧ len ≤ rows.length ∧ (len + ys.length) * by_ ≤ 140737488355328 ∧ AAq s s1 off len e k hp K ys rows n q
 | _ => False
def AAp (s : Site) (hp : Hp) (K : AV → Hp → Prop) (e k by_ : Nat) : AV → Option (List (List AV)) → Prop
 | .val (.slice none 0 0), some ys => ys.length * by_ ≤ 140737488355328 ∧ (∀ r ∈ ys, r.length = k) ∧ K (.own s ((hp.get s).1 + 1) k 0 ys.length) (hp.set s ((hp.get s).1 + 1) (.row e k none ys))
 | .own s1 ver k1 off len, some ys => AAo s s1 ver off len e k by_ hp K k1 ys (hp.get s1)
 | _, _ => False
def AA2 (x y : AV) (s : Site) (hp : Hp) (K : AV → Hp → Prop) : Option TypeId → Option Nat → Option Nat → Option (List AV) → Prop
 | some e, some k, some by_, some z => 0 < k ∧ z.length = k ∧ 0 < by_ ∧ AAp s hp K e k by_ x (y.rowsOf hp k)
 | _, _, _, _ => False
theorem apc_eq (e k by_ : Nat) (x : AV) (ys : List (List AV)) : AApC e k by_ x s hp K ys = AAp s hp K e k by_ x (some ys) := by
 cases x with
 | own s1 ver k1 off len =>
  simp only [AAp, AApC]
  generalize hp.get s1 = q
  obtain ⟨n, b⟩ := q
  cases b with
  | row t' k2 q rows => cases q <;> rfl
  | _ => rfl
 | val v =>
  unfold AAp AApC
  split <;> split <;> first | rfl | simp_all
 | _ => rfl
theorem ap_eq (x y : AV) (t1 : TypeId) : AAppend P #[t1, t1] x y s hp K = AA2 x y s hp K (tyEl P t1) ((tyEl P t1).bind (tySz P)) ((tyEl P t1).bind (tyBy P)) ((tyEl P t1).bind (tyZ P)) := by
 simp only [AAppend, AYs, if_true]
 cases tyEl P t1 with
 | none => rfl
 | some e =>
  simp only [Option.bind_some]
  cases tySz P e with
  | none => rfl
  | some k => cases tyBy P e with
   | none => rfl
   | some by_ => cases tyZ P e with
    | none => rfl
    | some z =>
     simp only [AA2]
     cases y.rowsOf hp k with
     | none => cases x <;> simp only [AAp]
     | some ys => simp only [apc_eq]
def AA3 (b : Bool) (x : AV) (m : Int) (s : Site) (hp : Hp) (K : AV → Hp → Prop) : Option TypeId → Option Nat → Option Nat → Option (List AV) → Prop
 | some e, some k, some by_, some z => 0 < k ∧ z.length = k ∧ 0 < by_ ∧ b = true ∧ 0 ≤ m ∧ m ≤ 9223372036854775807 ∧ m * by_ ≤ 140737488355328 ∧ AAp s hp K e k by_ x (some (List.replicate m.toNat z))
 | _, _, _, _ => False
theorem ap_zero (x : AV) (kk : IntKind) (m : Int) (t1 t2 : TypeId) : AAppend P #[t1, t2] x (.val (.int kk m)) s hp K = if t1 = t2 then False else AA3 (tyInt P t2).isSome x m s hp K (tyEl P t1) ((tyEl P t1).bind (tySz P)) ((tyEl P t1).bind (tyBy P)) ((tyEl P t1).bind (tyZ P)) := by
 simp only [AAppend, AYs]
 by_cases h : t1 = t2
 ·simp only [h, if_true, AV.rowsOf]
  cases tyEl P t2 with
  | none => rfl
  | some e => dsimp only; cases tySz P e <;> cases tyBy P e <;> cases tyZ P e <;> first | rfl | simp
 ·simp only [h, if_false]
  cases tyEl P t1 with
  | none => rfl
  | some e =>
   simp only [Option.bind_some]
   cases tySz P e with
   | none => rfl
   | some k => cases tyBy P e with
    | none => rfl
    | some by_ => cases tyZ P e with
     | none => rfl
     | some z => simp only [AA3, apc_eq]
theorem a3_some (b : Bool) (x : AV) (m : Int) (e k by_ : Nat) (z : List AV) : AA3 b x m s hp K (some e) (some k) (some by_) (some z) = (0 < k ∧ z.length = k ∧ 0 < by_ ∧ b = true ∧ 0 ≤ m ∧ m ≤ 9223372036854775807 ∧ m * by_ ≤ 140737488355328 ∧ AAp s hp K e k by_ x (some (List.replicate m.toNat z))) := rfl
def AA4 (b : Bool) (x : AV) (m : ByteArray) (s : Site) (hp : Hp) (K : AV → Hp → Prop) : Option TypeId → Option Nat → Option Nat → Option (List AV) → Prop
 | some e, some k, some by_, some z => 0 < k ∧ z.length = k ∧ 0 < by_ ∧ b = true ∧ k = 1 ∧ AAp s hp K e k by_ x (some (m.data.toList.map fun b => [.val (.int .u8 b.toNat)]))
 | _, _, _, _ => False
theorem ap_str (x : AV) (m : ByteArray) (t1 t2 : TypeId) : AAppend P #[t1, t2] x (.val (.string m)) s hp K = if t1 = t2 then False else AA4 (tyStr P t2) x m s hp K (tyEl P t1) ((tyEl P t1).bind (tySz P)) ((tyEl P t1).bind (tyBy P)) ((tyEl P t1).bind (tyZ P)) := by
 simp only [AAppend, AYs]
 by_cases h : t1 = t2
 ·simp only [h, if_true, AV.rowsOf]
  cases tyEl P t2 with
  | none => rfl
  | some e => dsimp only; cases tySz P e <;> cases tyBy P e <;> cases tyZ P e <;> first | rfl | simp
 ·simp only [h, if_false]
  cases tyEl P t1 with
  | none => rfl
  | some e =>
   simp only [Option.bind_some]
   cases tySz P e with
   | none => rfl
   | some k => cases tyBy P e with
    | none => rfl
    | some by_ => cases tyZ P e with
     | none => rfl
     | some z => simp only [AA4, apc_eq]
theorem a4_some (b : Bool) (x : AV) (m : ByteArray) (e k by_ : Nat) (z : List AV) : AA4 b x m s hp K (some e) (some k) (some by_) (some z) = (0 < k ∧ z.length = k ∧ 0 < by_ ∧ b = true ∧ k = 1 ∧ AAp s hp K e k by_ x (some (m.data.toList.map fun b => [.val (.int .u8 b.toNat)]))) := rfl
theorem a2_some (x y : AV) (e k by_ : Nat) (z : List AV) : AA2 x y s hp K (some e) (some k) (some by_) (some z) = (0 < k ∧ z.length = k ∧ 0 < by_ ∧ AAp s hp K e k by_ x (y.rowsOf hp k)) := rfl
theorem ap_nil (e k by_ : Nat) (ys : List (List AV)) : AAp s hp K e k by_ (.val (.slice none 0 0)) (some ys) = (ys.length * by_ ≤ 140737488355328 ∧ (∀ r ∈ ys, r.length = k) ∧ K (.own s ((hp.get s).1 + 1) k 0 ys.length) (hp.set s ((hp.get s).1 + 1) (.row e k none ys))) := rfl
theorem ap_own (e k by_ : Nat) (s1 : Site) (ver k1 off len : Nat) (ys : List (List AV)) : AAp s hp K e k by_ (.own s1 ver k1 off len) (some ys) = AAo s s1 ver off len e k by_ hp K k1 ys (hp.get s1) := rfl
theorem ao_row (s1 : Site) (ver off len e k by_ : Nat) (k1 : Nat) (ys : List (List AV)) (n e' k2 : Nat) (q : Option Nat) (rows : List (List AV)) : AAo s s1 ver off len e k by_ hp K k1 ys (n, .row e' k2 q rows) = (n = ver ∧ k1 = k ∧ k2 = k ∧ e' = e ∧ off = 0 ∧ len ≤ rows.length ∧ (len + ys.length) * by_ ≤ 140737488355328 ∧ AAq s s1 off len e k hp K ys rows n q) := rfl
theorem aq_none (s1 : Site) (off len e k : Nat) (ys rows : List (List AV)) (n : Nat) : AAq s s1 off len e k hp K ys rows n none = K (.own s1 (n + 1) k 0 (len + ys.length)) (hp.set s1 (n + 1) (.row e k none (rows.take len ++ ys))) := rfl
theorem aq_cap (s1 : Site) (off len e k : Nat) (ys rows : List (List AV)) (n cp : Nat) : AAq s s1 off len e k hp K ys rows n (some cp) = ((len + ys.length ≤ cp → K (.own s1 n k 0 (len + ys.length)) (hp.set s1 n (.row e k (some cp) (rows.take len ++ ys ++ rows.drop (len + ys.length))))) ∧
   (cp < len + ys.length → K (.own s ((hp.get s).1 + 1) k 0 (len + ys.length)) (hp.set s ((hp.get s).1 + 1) (.row e k none (rows.take len ++ ys))))) := rfl
def ro (ver k' k off len : Nat) : Nat × Blk → Option (List (List AV))
 | (n, .row _ k2 _ rows) => if n = ver ∧ k' = k ∧ k2 = k ∧ off + len ≤ rows.length then some ((rows.drop off).take len) else none
 | (n, .ice k2 rows) => if n = ver ∧ k' = k ∧ k2 = k ∧ off + len ≤ rows.length then some ((rows.drop off).take len) else none
 | _ => none
theorem r_list (k k' : Nat) (rows : List (List AV)) : AV.rowsOf hp k (.list k' rows) = if k' = k then some rows else none := rfl
theorem r_nil (k : Nat) : AV.rowsOf hp k (.val (.slice none 0 0)) = some [] := rfl
theorem r_own (k : Nat) (s1 : Site) (ver k' off len : Nat) : AV.rowsOf hp k (.own s1 ver k' off len) = ro ver k' k off len (hp.get s1) := by
 simp only [AV.rowsOf]
 generalize hp.get s1 = q
 obtain ⟨n, b⟩ := q
 cases b <;> rfl
theorem ro_row (ver k' k off len n : Nat) (t' : TypeId) (k2 : Nat) (q : Option Nat) (rows : List (List AV)) : ro ver k' k off len (n, .row t' k2 q rows) = if n = ver ∧ k' = k ∧ k2 = k ∧ off + len ≤ rows.length then some ((rows.drop off).take len) else none := rfl
theorem ro_ice (ver k' k off len n : Nat) (k2 : Nat) (rows : List (List AV)) : ro ver k' k off len (n, .ice k2 rows) = if n = ver ∧ k' = k ∧ k2 = k ∧ off + len ≤ rows.length then some ((rows.drop off).take len) else none := rfl

/-! What is handed over. -/
def po (hp : Hp) (s : Site) (ver k off len : Nat) : Nat × Blk → Option (AV × Hp)
 | (n, .row _ k2 _ rows) => if n = ver ∧ k2 = k ∧ off + len ≤ rows.length then some (.list k ((rows.drop off).take len), hp.set s n (.ice k rows)) else none
 | (n, .ice k2 rows) => if n = ver ∧ k2 = k ∧ off + len ≤ rows.length then some (.list k ((rows.drop off).take len), hp) else none
 | _ => none
theorem p_own (s1 : Site) (ver k off len : Nat) : pass1 hp (.own s1 ver k off len) = po hp s1 ver k off len (hp.get s1) := by
 simp only [pass1]
 generalize hp.get s1 = q
 obtain ⟨n, b⟩ := q
 cases b <;> rfl
theorem po_row (s1 : Site) (ver k off len n : Nat) (t' : TypeId) (k2 : Nat) (q : Option Nat) (rows : List (List AV)) : po hp s1 ver k off len (n, .row t' k2 q rows) = if n = ver ∧ k2 = k ∧ off + len ≤ rows.length then some (.list k ((rows.drop off).take len), hp.set s1 n (.ice k rows)) else none := rfl
theorem po_ice (s1 : Site) (ver k off len n : Nat) (k2 : Nat) (rows : List (List AV)) : po hp s1 ver k off len (n, .ice k2 rows) = if n = ver ∧ k2 = k ∧ off + len ≤ rows.length then some (.list k ((rows.drop off).take len), hp) else none := rfl
def pp (hp : Hp) (s : Site) (ver off : Nat) : Nat × Blk → Option (AV × Hp)
 | (n, .cells t cs) => if n = ver ∧ cs.all AV.free = true then some (.rop (cs.drop off), hp.set s n (.icc t cs)) else none
 | (n, .icc _ cs) => if n = ver then some (.rop (cs.drop off), hp) else none
 | _ => none
theorem p_ptr (s1 : Site) (ver off : Nat) : pass1 hp (.ptr s1 ver off) = pp hp s1 ver off (hp.get s1) := by
 simp only [pass1]
 generalize hp.get s1 = q
 obtain ⟨n, b⟩ := q
 cases b <;> rfl
theorem pp_cells (s1 : Site) (ver off n : Nat) (t : TypeId) (cs : List AV) : pp hp s1 ver off (n, .cells t cs) = if n = ver ∧ cs.all AV.free = true then some (.rop (cs.drop off), hp.set s1 n (.icc t cs)) else none := rfl
theorem pp_icc (s1 : Site) (ver off n : Nat) (t : TypeId) (cs : List AV) : pp hp s1 ver off (n, .icc t cs) = if n = ver then some (.rop (cs.drop off), hp) else none := rfl
theorem p_junk : pass1 hp .junk = some (.junk, hp) := rfl
theorem p_ept (s1 : Site) (ver k i off : Nat) : pass1 hp (.ept s1 ver k i off) = none := rfl
theorem p_map (s1 : Site) (ver : Nat) : pass1 hp (.map s1 ver) = none := rfl
theorem p_val (u : Value) : pass1 hp (.val u) = some (.val u, hp) := rfl
theorem p_list (k : Nat) (rows : List (List AV)) : pass1 hp (.list k rows) = some (.list k rows, hp) := rfl
theorem p_rop (cs : List AV) : pass1 hp (.rop cs) = some (.rop cs, hp) := rfl
def pcB (y : AV) : Option (List AV × Hp) → Option (List AV × Hp)
 | some (ys, hp2) => some (y :: ys, hp2)
 | none => none
def pcA (xs : List AV) : Option (AV × Hp) → Option (List AV × Hp)
 | some (y, hp1) => pcB y (passC hp1 xs)
 | none => none
def plA (xs : List AV) : Option (AV × Hp) → Option (List AV × Hp)
 | some (y, hp1) => pcB y (passL hp1 xs)
 | none => none
theorem pc_nil : passC hp [] = some ([], hp) := rfl
theorem pc_cons (x : AV) (xs : List AV) : passC hp (x :: xs) = pcA xs (pass1 hp x) := by
 simp only [passC]
 cases pass1 hp x with
 | none => rfl
 | some y =>
  obtain ⟨y, hp1⟩ := y
  simp only [pcA]
  cases passC hp1 xs <;> rfl
theorem pcA_some (xs : List AV) (y : AV) (hp1 : Hp) : pcA xs (some (y, hp1)) = pcB y (passC hp1 xs) := rfl
theorem pcB_some (y : AV) (ys : List AV) (hp1 : Hp) : pcB y (some (ys, hp1)) = some (y :: ys, hp1) := rfl
theorem pl_nil : passL hp [] = some ([], hp) := rfl
theorem pl_cons (x : AV) (xs : List AV) : passL hp (x :: xs) = plA xs (passA hp x) := by
 simp only [passL]
 cases passA hp x with
 | none => rfl
 | some y =>
  obtain ⟨y, hp1⟩ := y
  simp only [plA]
  cases passL hp1 xs <;> rfl
theorem plA_some (xs : List AV) (y : AV) (hp1 : Hp) : plA xs (some (y, hp1)) = pcB y (passL hp1 xs) := rfl
def pgA : Option (List AV × Hp) → Option (AV × Hp)
 | some (l, h) => some (.agg l, h)
 | none => none
def pgF (f : FuncId) : Option (List AV × Hp) → Option (AV × Hp)
 | some (l, h) => some (.func f l, h)
 | none => none
theorem pa_agg (cs : List AV) : passA hp (.agg cs) = pgA (passC hp cs) := by
 simp only [passA]
 cases passC hp cs <;> rfl
theorem pa_func (f : FuncId) (cap : List AV) : passA hp (.func f cap) = pgF f (passC hp cap) := by
 simp only [passA]
 cases passC hp cap <;> rfl
theorem pgA_some (l : List AV) (h : Hp) : pgA (some (l, h)) = some (.agg l, h) := rfl
theorem pgF_some (f : FuncId) (l : List AV) (h : Hp) : pgF f (some (l, h)) = some (.func f l, h) := rfl
theorem pa_val (u : Value) : passA hp (.val u) = some (.val u, hp) := rfl
theorem pa_list (k : Nat) (rows : List (List AV)) : passA hp (.list k rows) = some (.list k rows, hp) := rfl
theorem pa_rop (cs : List AV) : passA hp (.rop cs) = some (.rop cs, hp) := rfl
theorem pa_ptr (s1 : Site) (ver off : Nat) : passA hp (.ptr s1 ver off) = pp hp s1 ver off (hp.get s1) := p_ptr s1 ver off
theorem pa_junk : passA hp .junk = some (.junk, hp) := rfl
theorem pa_ept (s1 : Site) (ver k i off : Nat) : passA hp (.ept s1 ver k i off) = none := rfl
theorem pa_map (s1 : Site) (ver : Nat) : passA hp (.map s1 ver) = none := rfl
theorem plA_none (xs : List AV) : plA xs none = none := rfl
theorem pcA_none (xs : List AV) : pcA xs none = none := rfl
theorem pcB_none (y : AV) : pcB y none = none := rfl
theorem pgA_none : pgA none = none := rfl
theorem pgF_none (f : FuncId) : pgF f none = none := rfl
theorem pa_own (s1 : Site) (ver k off len : Nat) : passA hp (.own s1 ver k off len) = po hp s1 ver k off len (hp.get s1) := p_own s1 ver k off len
end

/-! ### Code -/
section
variable {P : Program} {K : Ex → ASt → Prop} {st : ASt}
theorem w_skip : AWp P .skip K st = K .normal st := rfl
theorem w_region (id : Nat) (ops : Array Oper) : AWp P (.region id ops false) K st = AOps P (ops.toList.map (·.dst)) ops.toList (K .normal) st := rfl
theorem w_regionD (id : Nat) (ops : Array Oper) : AWp P (.region id ops true) K st = ADr P (ops.toList.map (·.dst)) (afts ops.toList) ops.toList 0 [] [] (K .normal) st := rfl
theorem w_seq (a b : Code) : AWp P (.seq a b) K st = AWp P a (Ex.then (AWp P b K) K) st := rfl
theorem w_cond (x : Operand) (a b : Code) (tm : List (Nat × AV)) (hp : Hp) (n : Nat) : AWp P (.cond x a b) K ⟨tm, hp, n⟩ = ACond (ev tm x) (AWp P a K ⟨tm, hp, n⟩) (AWp P b K ⟨tm, hp, n⟩) := rfl
theorem w_block (id : Nat) (a : Code) : AWp P (.block id a) K st = AWp P a (Ex.inB id K) st := rfl
theorem w_loop (a : Code) : AWp P (.loop a) K st = ALoop (AWp P a) K st := rfl
theorem ln_suc (W : (Ex → ASt → Prop) → ASt → Prop) (K : Ex → ASt → Prop) (m : Nat) (st : ASt) : ALoopN W K (m + 1) st = W (Ex.then (ALoopN W K m) K) st := rfl
theorem w_exit (id : Nat) : AWp P (.exit id) K st = K (.exit id) st := rfl
theorem w_ret : AWp P .ret K st = K .ret st := rfl
theorem x_then_n (X : ASt → Prop) : Ex.then X K .normal st = X st := rfl
theorem x_then_e (X : ASt → Prop) (id : Nat) : Ex.then X K (.exit id) st = K (.exit id) st := rfl
theorem x_then_r (X : ASt → Prop) : Ex.then X K .ret st = K .ret st := rfl
theorem x_in_n (id : Nat) : Ex.inB id K .normal st = K .normal st := rfl
theorem x_in_e (id i : Nat) : Ex.inB id K (.exit i) st = if i = id then K .normal st else K (.exit i) st := rfl
theorem x_in_r (id : Nat) : Ex.inB id K .ret st = K .ret st := rfl
theorem d_cond (q : Bool) (X Y : Prop) : ACond (.val (.bool q)) X Y = (if q = true then X else Y) := if_and q _ _
theorem e_end_n (rs : List ResultVar) (r : AV) : AEnd P rs r .normal st = AFin P rs r st := rfl
theorem e_end_r (rs : List ResultVar) (r : AV) : AEnd P rs r .ret st = AFin P rs r st := rfl
/-- The results. -/
def AFr (P : Program) (r : AV) : List ResultVar → List AV → ASt → Prop
 | [], acc, st => match passL st.hp acc.reverse with
  | some (l', _) => ARet l' r
  | none => False
 | .tmp t :: rs, acc, st => AFr P r rs (tget st.tm t :: acc) st
 | .cell a t :: rs, acc, st => ALoad P t (tget st.tm a) st.hp fun v => AFr P r rs (v :: acc) st
def kf (P : Program) (r : AV) (rs : List ResultVar) (acc : List AV) (st : ASt) (v : AV) : Prop := AFr P r rs (v :: acc) st
def AFp (r : AV) : Option (List AV × Hp) → Prop
 | some (l', _) => ARet l' r
 | none => False
theorem afr_of (r : AV) : ∀ (rs : List ResultVar) (acc : List AV) {Kk : List AV → Prop}, (∀ l, Kk l = AFr P r [] (l.reverse ++ acc) st) → ARes P st rs Kk = AFr P r rs acc st := by
 intro rs
 induction rs with
 | nil => intro acc Kk h; simp only [ARes, h, List.reverse_nil, List.nil_append]
 | cons x rs ih =>
  intro acc Kk h
  cases x with
  | tmp t =>
   simp only [ARes, AFr]
   exact ih _ fun l => by rw [h]; simp only [List.reverse_cons, List.append_assoc, List.cons_append, List.nil_append]
  | cell a t =>
   simp only [ARes, AFr]
   congr 1
   funext v
   exact ih _ fun l => by rw [h]; simp only [List.reverse_cons, List.append_assoc, List.cons_append, List.nil_append]
theorem fin_eq (rs : List ResultVar) (r : AV) : AFin P rs r st = AFr P r rs [] st := by
 unfold AFin
 refine afr_of r _ _ fun l => ?_
 simp only [AFr, List.append_nil, List.reverse_reverse]
 all_goals (cases passL st.hp l <;> rfl)
theorem fr_end (r : AV) (acc : List AV) (tm : List (Nat × AV)) (hp : Hp) (n : Nat) : AFr P r [] acc ⟨tm, hp, n⟩ = AFp r (passL hp acc.reverse) := by
 simp only [AFr]
 cases passL hp acc.reverse <;> rfl
theorem fr_tmp (r : AV) (t : Nat) (rs : List ResultVar) (acc : List AV) (tm : List (Nat × AV)) (hp : Hp) (n : Nat) : AFr P r (.tmp t :: rs) acc ⟨tm, hp, n⟩ = AFr P r rs (tget tm t :: acc) ⟨tm, hp, n⟩ := rfl
theorem fr_cell (r : AV) (a t : Nat) (rs : List ResultVar) (acc : List AV) (tm : List (Nat × AV)) (hp : Hp) (n : Nat) : AFr P r (.cell a t :: rs) acc ⟨tm, hp, n⟩ = ALoad P t (tget tm a) hp (kf P r rs acc ⟨tm, hp, n⟩) := rfl
theorem kf_eq (r : AV) (rs : List ResultVar) (acc : List AV) (v : AV) : kf P r rs acc st v = AFr P r rs (v :: acc) st := rfl
theorem fp_some (r : AV) (l : List AV) (hp : Hp) : AFp r (some (l, hp)) = ARet l r := rfl
theorem rt_one (x r : AV) : ARet [x] r = SubA x r := rfl
theorem rt_nil (rs : List AV) : ARet [] (.tup rs) = SubL [] rs := rfl
theorem rt_two (x y : AV) (l rs : List AV) : ARet (x :: y :: l) (.tup rs) = SubL (x :: y :: l) rs := rfl
end
end Go.Proofs.YtonolfpnidaflaaGreatDoor.E

/- The abstract machine of this claim, part Y: further operations as equations, for the walk. No conditions. -/
namespace Go.Proofs.YtonolfpnidaflaaGreatDoor.E
open Go
set_option linter.unusedSimpArgs false
set_option linter.unusedVariables false
set_option linter.unusedSectionVars false
set_option maxRecDepth 20000

section
variable {P : Program} {K : AV → Prop} {hp : Hp} {t : TypeId}
/-! Fields of values. -/
def AFv (K : AV → Prop) (cs : List AV) (off : Nat) : Option Bool → Option Nat → Prop
 | some true, some n => off + n ≤ cs.length ∧ K (.agg ((cs.drop off).take n))
 | some false, _ => ∃ y, cs[off]? = some y ∧ K y
 | _, _ => False
def AFt (P : Program) (K : AV → Prop) (cs : List AV) : Option (Nat × TypeId) → Prop
 | some (off, ft) => AFv K cs off (tyAgg P ft) (tySz P ft)
 | none => False
theorem fv_eq (cs : List AV) (j : Nat) : AField P t (.agg cs) j K = AFt P K cs (tyFT P t j) := by
 simp only [AField]
 cases tyFT P t j with
 | none => rfl
 | some x =>
  obtain ⟨off, ft⟩ := x
  simp only [AFt]
  cases tyAgg P ft with
  | none => cases tySz P ft <;> rfl
  | some q => cases q <;> cases tySz P ft <;> rfl
theorem ft_some (cs : List AV) (off : Nat) (ft : TypeId) : AFt P K cs (some (off, ft)) = AFv K cs off (tyAgg P ft) (tySz P ft) := rfl
theorem fv_agg (cs : List AV) (off n : Nat) : AFv K cs off (some true) (some n) = (off + n ≤ cs.length ∧ K (.agg ((cs.drop off).take n))) := rfl
theorem fv_one (cs : List AV) (off : Nat) (o : Option Nat) : AFv K cs off (some false) o = ∃ y, cs[off]? = some y ∧ K y := rfl

/-! Maps. -/
def ALk1 (K : AV → Prop) (kk : Value) (ok : Bool) (es : List (Value × Value)) : Option Value → Prop
 | some z => K (if ok = true then .tup [.val ((mget es kk).getD z), .val (.bool (mget es kk).isSome)] else .val ((mget es kk).getD z))
 | none => False
def ALk (P : Program) (K : AV → Prop) (kk : Value) (ok : Bool) (ver : Nat) : Option (MK × TypeId) → Nat × Blk → Prop
 | some (mk, el), (n, .map mk' es) => keyIs mk kk = true ∧ n = ver ∧ mk' = mk ∧ ALk1 K kk ok es (tyZ1 P el)
 | _, _ => False
theorem lk_eq (s : Site) (ver : Nat) (kk : Value) (ok : Bool) : ALookup P t (.map s ver) (.val kk) ok hp K = ALk P K kk ok ver (tyMap P t) (hp.get s) := by
 simp only [ALookup]
 cases tyMap P t with
 | none => rfl
 | some x =>
  obtain ⟨mk, el⟩ := x
  simp only
  generalize hp.get s = q
  obtain ⟨n, b⟩ := q
  cases b <;> simp only [ALk, and_false]
  cases tyZ1 P el <;> rfl
theorem lk_some (kk : Value) (ok : Bool) (ver n : Nat) (mk mk' : MK) (el : TypeId) (es : List (Value × Value)) : ALk P K kk ok ver (some (mk, el)) (n, .map mk' es) = (keyIs mk kk = true ∧ n = ver ∧ mk' = mk ∧ ALk1 K kk ok es (tyZ1 P el)) := rfl
theorem lk1_f (kk : Value) (es : List (Value × Value)) (z : Value) : ALk1 K kk false es (some z) = K (.val ((mget es kk).getD z)) := rfl
theorem lk1_t (kk : Value) (es : List (Value × Value)) (z : Value) : ALk1 K kk true es (some z) = K (.tup [.val ((mget es kk).getD z), .val (.bool (mget es kk).isSome)]) := rfl
theorem ki_i (k k' : IntKind) (i : Int) : keyIs (.i k) (.int k' i) = (k == k') := rfl
theorem ki_s (x : ByteArray) : keyIs .s (.string x) = true := rfl
def AMu (K : Hp → Prop) (hp : Hp) (s : Site) (ver : Nat) (kk vv : Value) : Option (MK × TypeId) → Nat × Blk → Prop
 | some (mk, _), (n, .map mk' es) => keyIs mk kk = true ∧ n = ver ∧ mk' = mk ∧ K (hp.set s n (.map mk (mput es kk vv)))
 | _, _ => False
theorem mu_eq (s : Site) (ver : Nat) (kk vv : Value) (K : Hp → Prop) : AMapUpd P t (.map s ver) (.val kk) (.val vv) hp K = AMu K hp s ver kk vv (tyMap P t) (hp.get s) := by
 simp only [AMapUpd]
 cases tyMap P t with
 | none => rfl
 | some x =>
  obtain ⟨mk, el⟩ := x
  simp only
  generalize hp.get s = q
  obtain ⟨n, b⟩ := q
  cases b <;> simp only [AMu, and_false]
theorem mu_some (s : Site) (ver n : Nat) (kk vv : Value) (mk mk' : MK) (el : TypeId) (es : List (Value × Value)) (K : Hp → Prop) : AMu K hp s ver kk vv (some (mk, el)) (n, .map mk' es) = (keyIs mk kk = true ∧ n = ver ∧ mk' = mk ∧ K (hp.set s n (.map mk (mput es kk vv)))) := rfl
def AMm (s : Site) (hp : Hp) (K : AV → Hp → Prop) : Option (MK × TypeId) → Prop
 | some (mk, _) => K (.map s ((hp.get s).1 + 1)) (hp.set s ((hp.get s).1 + 1) (.map mk []))
 | none => False
theorem mm_eq (s : Site) (K : AV → Hp → Prop) : AMakeMap P t s hp K = AMm s hp K (tyMap P t) := by
 simp only [AMakeMap]
 cases tyMap P t <;> rfl
theorem mm_some (s : Site) (K : AV → Hp → Prop) (mk : MK) (el : TypeId) : AMm s hp K (some (mk, el)) = K (.map s ((hp.get s).1 + 1)) (hp.set s ((hp.get s).1 + 1) (.map mk [])) := rfl

/-! Against nil. -/
def ANi (op : BinOp) (K : AV → Prop) : Option (Option Bool × Prop) → Prop
 | some (some b, _) => match op with | .eql => K (.val (.bool b)) | .neq => K (.val (.bool !b)) | _ => False
 | some (none, p) => match op with | .eql => (p → K (.val (.bool true))) ∧ K (.val (.bool false)) | .neq => (p → K (.val (.bool false))) ∧ K (.val (.bool true)) | _ => False
 | none => False
def ANk (op : BinOp) (K : AV → Prop) (hp : Hp) (x : AV) : Option NK → Prop
 | some k => ANi op K (isNil hp k x)
 | none => False
theorem nl_eql (x : AV) : ANil P .eql t x hp K = ANk .eql K hp x (tyNil P t) := by
 simp only [ANil]
 cases tyNil P t with
 | none => rfl
 | some k =>
  simp only [ANk]
  cases isNil hp k x with
  | none => rfl
  | some o => obtain ⟨o, p⟩ := o; cases o <;> rfl
theorem nl_neq (x : AV) : ANil P .neq t x hp K = ANk .neq K hp x (tyNil P t) := by
 simp only [ANil]
 cases tyNil P t with
 | none => rfl
 | some k =>
  simp only [ANk]
  cases isNil hp k x with
  | none => rfl
  | some o => obtain ⟨o, p⟩ := o; cases o <;> rfl
theorem nk_some (op : BinOp) (x : AV) (k : NK) : ANk op K hp x (some k) = ANi op K (isNil hp k x) := rfl
theorem ni_eb (b : Bool) (p : Prop) : ANi .eql K (some (some b, p)) = K (.val (.bool b)) := rfl
theorem ni_nb (b : Bool) (p : Prop) : ANi .neq K (some (some b, p)) = K (.val (.bool !b)) := rfl
theorem ni_ep (p : Prop) : ANi .eql K (some (none, p)) = ((p → K (.val (.bool true))) ∧ K (.val (.bool false))) := rfl
theorem ni_np (p : Prop) : ANi .neq K (some (none, p)) = ((p → K (.val (.bool false))) ∧ K (.val (.bool true))) := rfl
theorem nil_sl (k : Nat) (rows : List (List AV)) : isNil hp .slice (.list k rows) = some (none, rows = []) := rfl
theorem nil_so (s : Site) (ver k off len : Nat) : isNil hp .slice (.own s ver k off len) = if (hp.get s).1 = ver then some (none, len = 0) else none := rfl
theorem nil_sv (v : Value) : isNil hp .slice (.val v) = if nv .slice v = true then some (some true, True) else none := rfl
theorem nil_pp (s : Site) (ver off : Nat) : isNil hp .pointer (.ptr s ver off) = if (hp.get s).1 = ver then some (some false, True) else none := rfl
theorem nil_pe (s : Site) (ver k i off : Nat) : isNil hp .pointer (.ept s ver k i off) = if (hp.get s).1 = ver then some (some false, True) else none := rfl
theorem nil_pr (cs : List AV) : isNil hp .pointer (.rop cs) = some (some false, True) := rfl
theorem nil_pv (v : Value) : isNil hp .pointer (.val v) = if nv .pointer v = true then some (some true, True) else none := rfl
theorem nil_mm (s : Site) (ver : Nat) : isNil hp .map (.map s ver) = if (hp.get s).1 = ver then some (some false, True) else none := rfl
theorem nil_mv (v : Value) : isNil hp .map (.val v) = if nv .map v = true then some (some true, True) else none := rfl
theorem nil_ff (f : FuncId) (cap : List AV) : isNil hp .func (.func f cap) = some (some false, True) := rfl
theorem nil_fv (v : Value) : isNil hp .func (.val v) = if nv .func v = true then some (some true, True) else none := rfl
theorem nil_ii (t : TypeId) (x : AV) : isNil hp .iface (.iface t x) = some (some false, True) := rfl
theorem nil_iv (v : Value) : isNil hp .iface (.val v) = if nv .iface v = true then some (some true, True) else none := rfl
theorem nv_s : nv .slice (.slice none 0 0) = true := rfl
theorem nv_p : nv .pointer (.pointer none) = true := rfl
theorem nv_m : nv .map (.map none) = true := rfl
theorem nv_f : nv .func .nilFunc = true := rfl
theorem nv_i : nv .iface .nilIface = true := rfl
end

section
variable {P : Program} {K : AV → Hp → Prop} {hp : Hp}
/-! Copy, clear, cap. -/
def ACp (hp : Hp) (s : Site) (K : AV → Hp → Prop) (ver k off len : Nat) : Option Nat → Nat × Blk → Option (List (List AV)) → Prop
 | some k0, (n, .row t' k2 q rows), some ys => k0 = k ∧ n = ver ∧ k2 = k ∧ off + len ≤ rows.length ∧ K (.val (.int .i64 (min ys.length len : Nat))) (hp.set s n (.row t' k q (rows.take off ++ ys.take len ++ rows.drop (off + min ys.length len))))
 | _, _, _ => False
theorem cp_eq (t u : TypeId) (s : Site) (ver k off len : Nat) (y : AV) : ACopy P #[t, u] (.own s ver k off len) y hp K = ACp hp s K ver k off len ((tyEl P t).bind (tySz P)) (hp.get s) (y.rowsOf hp k) := by
 simp only [ACopy]
 cases (tyEl P t).bind (tySz P) with
 | none => rfl
 | some k0 =>
  simp only
  generalize hp.get s = q
  obtain ⟨n, b⟩ := q
  cases b with
  | row t' k2 q rows =>
   simp only
   cases y.rowsOf hp k <;> simp only [ACp, and_false]
  | _ => simp only [ACp, and_false]
theorem cp_some (s : Site) (ver k off len k0 n : Nat) (t' : TypeId) (k2 : Nat) (q : Option Nat) (rows ys : List (List AV)) : ACp hp s K ver k off len (some k0) (n, .row t' k2 q rows) (some ys) = (k0 = k ∧ n = ver ∧ k2 = k ∧ off + len ≤ rows.length ∧ K (.val (.int .i64 (min ys.length len : Nat))) (hp.set s n (.row t' k q (rows.take off ++ ys.take len ++ rows.drop (off + min ys.length len))))) := rfl
def ACl (hp : Hp) (s : Site) (K : AV → Hp → Prop) (ver k off len : Nat) : Option (List AV) → Nat × Blk → Prop
 | some z, (n, .row t' k2 q rows) => z.length = k ∧ n = ver ∧ k2 = k ∧ off + len ≤ rows.length ∧ K (.val (.tuple #[])) (hp.set s n (.row t' k q (rows.take off ++ List.replicate len z ++ rows.drop (off + len))))
 | _, _ => False
theorem cl_eq (t : TypeId) (s : Site) (ver k off len : Nat) : AClear P #[t] (.own s ver k off len) hp K = ACl hp s K ver k off len ((tyEl P t).bind (tyZ P)) (hp.get s) := by
 simp only [AClear]
 cases tyEl P t with
 | none => rfl
 | some e =>
  simp only [Option.bind_some]
  cases tyZ P e with
  | none => rfl
  | some z =>
   simp only
   generalize hp.get s = q
   obtain ⟨n, b⟩ := q
   cases b <;> simp only [ACl, and_false]
theorem cl_some (s : Site) (ver k off len n : Nat) (z : List AV) (t' : TypeId) (k2 : Nat) (q : Option Nat) (rows : List (List AV)) : ACl hp s K ver k off len (some z) (n, .row t' k2 q rows) = (z.length = k ∧ n = ver ∧ k2 = k ∧ off + len ≤ rows.length ∧ K (.val (.tuple #[])) (hp.set s n (.row t' k q (rows.take off ++ List.replicate len z ++ rows.drop (off + len))))) := rfl
def ACq (hp : Hp) (s : Site) (K : AV → Hp → Prop) (off len n : Nat) (t' : TypeId) (k2 : Nat) (rows : List (List AV)) : Option Nat → Prop
 | some cp => K (.val (.int .i64 (cp - off : Nat))) hp
 | none => ∀ cp : Nat, off + len ≤ cp → rows.length ≤ cp → cp ≤ maxLen → K (.val (.int .i64 (cp - off : Nat))) (hp.set s n (.row t' k2 (some cp) (rows ++ List.replicate (cp - rows.length) (List.replicate k2 .junk))))
def ACa (hp : Hp) (s : Site) (K : AV → Hp → Prop) (ver off len : Nat) : Nat × Blk → Prop
 | (n, .row t' k2 q rows) => n = ver ∧ ACq hp s K off len n t' k2 rows q
 | _ => False
theorem ca_own (t : TypeId) (s : Site) (ver k off len : Nat) : ACap P #[t] (.own s ver k off len) hp K = (tyEl P t ≠ none ∧ ACa hp s K ver off len (hp.get s)) := by
 simp only [ACap]
 generalize hp.get s = q
 obtain ⟨n, b⟩ := q
 cases b with
 | row t' k2 q rows => cases q <;> rfl
 | _ => rfl
theorem ca_nil (t : TypeId) : ACap P #[t] (.val (.slice none 0 0)) hp K = (tyEl P t ≠ none ∧ K (.val (.int .i64 0)) hp) := rfl
theorem ca_list (t : TypeId) (k : Nat) (rows : List (List AV)) : ACap P #[t] (.list k rows) hp K = (tyEl P t ≠ none ∧ ∀ cp : Nat, rows.length ≤ cp → K (.val (.int .i64 cp)) hp) := rfl
theorem ca_row (s : Site) (ver off len n : Nat) (t' : TypeId) (k2 : Nat) (q : Option Nat) (rows : List (List AV)) : ACa hp s K ver off len (n, .row t' k2 q rows) = (n = ver ∧ ACq hp s K off len n t' k2 rows q) := rfl
theorem ca_some (s : Site) (off len n : Nat) (t' : TypeId) (k2 cp : Nat) (rows : List (List AV)) : ACq hp s K off len n t' k2 rows (some cp) = K (.val (.int .i64 (cp - off : Nat))) hp := rfl
theorem ca_none (s : Site) (off len n : Nat) (t' : TypeId) (k2 : Nat) (rows : List (List AV)) : ACq hp s K off len n t' k2 rows none = ∀ cp : Nat, off + len ≤ cp → rows.length ≤ cp → cp ≤ maxLen → K (.val (.int .i64 (cp - off : Nat))) (hp.set s n (.row t' k2 (some cp) (rows ++ List.replicate (cp - rows.length) (List.replicate k2 .junk)))) := rfl
end

/-! ### Regions whose order is open -/
section
variable {P : Program} {gd : List (Option Nat)} {a : List (List Nat)} {rest : List Oper} {K : ASt → Prop} {tm : List (Nat × AV)} {hp : Hp} {n : Nat} {dst : Option Nat} {op : Op} {ty : TypeId} {pos : String} {aft : Array Edge} {g : Option (Nat × Bool)} {rd : List (Nat × Keys)} {wr : List (Nat × Keys × Keys)} {ev : Operand → AV} {s : Site}
theorem af_eq (l : List Oper) : afts l = l.map fun o => aftL o.after.toList := rfl
theorem af_nil : aftL [] = [] := rfl
theorem af_data (i : Nat) (r : List Edge) : aftL (⟨i, .data⟩ :: r) = i :: aftL r := rfl
theorem af_chain (i : Nat) (r : List Edge) : aftL (⟨i, .chain⟩ :: r) = i :: aftL r := rfl
theorem af_guard (i : Nat) (r : List Edge) : aftL (⟨i, .guard⟩ :: r) = i :: aftL r := rfl
theorem af_phase (i : Nat) (r : List Edge) : aftL (⟨i, .phase⟩ :: r) = i :: aftL r := rfl
theorem af_text (i : Nat) (d : Departure) (r : List Edge) : aftL (⟨i, .textOnly d⟩ :: r) = aftL r := rfl
theorem af_gc (i : Nat) (d : Departure) (r : List Edge) : aftL (⟨i, .gcOnly d⟩ :: r) = aftL r := rfl
/-- An operation of such a region. -/
def GoD (P : Program) (gd : List (Option Nat)) (a : List (List Nat)) (o : Oper) (rest : List Oper) (j : Nat) (rd : List (Nat × Keys)) (wr : List (Nat × Keys × Keys)) (K : ASt → Prop) (st : ASt) : Prop :=
 opDet P (E.ev st.tm) o st.hp ∧ ADk a j (opIn (E.ev st.tm) o (siteOf o) st.hp) rd wr (fun rd' wr' => AStep P o (ADr P gd a rest (j + 1) rd' wr' K) st) (opOut (E.ev st.tm) o (siteOf o) st.hp)
def kd (P : Program) (gd : List (Option Nat)) (a : List (List Nat)) (o : Oper) (rest : List Oper) (j : Nat) (K : ASt → Prop) (st : ASt) (rd : List (Nat × Keys)) (wr : List (Nat × Keys × Keys)) : Prop := AStep P o (ADr P gd a rest (j + 1) rd wr K) st
theorem kd_eq (o : Oper) (j : Nat) (st : ASt) : kd P gd a o rest j K st rd wr = AStep P o (ADr P gd a rest (j + 1) rd wr K) st := rfl
theorem gd_eq (op : Op) (j : Nat) : GoD P gd a ⟨dst, op, ty, pos, aft, g⟩ rest j rd wr K ⟨tm, hp, n⟩ = (opDet P (E.ev tm) ⟨dst, op, ty, pos, aft, g⟩ hp ∧ ADk a j (opIn (E.ev tm) ⟨dst, op, ty, pos, aft, g⟩ (siteD dst) hp) rd wr (kd P gd a ⟨dst, op, ty, pos, aft, g⟩ rest j K ⟨tm, hp, n⟩) (opOut (E.ev tm) ⟨dst, op, ty, pos, aft, g⟩ (siteD dst) hp)) := by
 unfold GoD kd
 rw [site_eq]
theorem dr_nil (j : Nat) (st : ASt) : ADr P gd a [] j rd wr K st = K st := rfl
theorem dr_plain (op : Op) (j : Nat) (st : ASt) : ADr P gd a (⟨dst, op, ty, pos, aft, none⟩ :: rest) j rd wr K st = GoD P gd a ⟨dst, op, ty, pos, aft, none⟩ rest j rd wr K st := rfl
def AGD (P : Program) (gd : List (Option Nat)) (a : List (List Nat)) (o : Oper) (rest : List Oper) (j : Nat) (rd : List (Nat × Keys)) (wr : List (Nat × Keys × Keys)) (K : ASt → Prop) (b : Bool) (tm : List (Nat × AV)) (hp : Hp) (n : Nat) : Option Nat → AV → Prop
 | some t, .val (.bool q) => (q = b → GoD P gd a o rest j rd wr K (puts tm hp n (some t) (.val (.bool b)))) ∧ (q = !b → ADr P gd a rest (j + 1) rd wr K (ASt.put (puts tm hp n (some t) (.val (.bool !b))) o.dst (.val (.tuple #[]))))
 | some _, .val (.tuple _) => ADr P gd a rest (j + 1) rd wr K (puts tm hp n o.dst (.val (.tuple #[])))
 | _, _ => False
theorem dr_guard (op : Op) (j i : Nat) (b : Bool) : ADr P gd a (⟨dst, op, ty, pos, aft, some (i, b)⟩ :: rest) j rd wr K ⟨tm, hp, n⟩ = AGD P gd a ⟨dst, op, ty, pos, aft, some (i, b)⟩ rest j rd wr K b tm hp n (dstAt gd i) (gget tm (dstAt gd i)) := by
 simp only [ADr]
 cases dstAt gd i with
 | none => rfl
 | some t =>
  simp only [gget]
  cases tget tm t with
  | val v => cases v <;> first | rfl | (simp only [AGuard, AGD, put_eq]; rfl) | simp only [AGuard, AGD, put_eq]
  | _ => rfl
theorem agd_t (o : Oper) (j t : Nat) (q : Bool) : AGD P gd a o rest j rd wr K true tm hp n (some t) (.val (.bool q)) =
  (if q = true then GoD P gd a o rest j rd wr K (puts tm hp n (some t) (.val (.bool true))) else ADr P gd a rest (j + 1) rd wr K (ASt.put (puts tm hp n (some t) (.val (.bool false))) o.dst (.val (.tuple #[])))) := by
 cases q <;> simp [AGD]
theorem agd_f (o : Oper) (j t : Nat) (q : Bool) : AGD P gd a o rest j rd wr K false tm hp n (some t) (.val (.bool q)) =
  (if q = true then ADr P gd a rest (j + 1) rd wr K (ASt.put (puts tm hp n (some t) (.val (.bool true))) o.dst (.val (.tuple #[]))) else GoD P gd a o rest j rd wr K (puts tm hp n (some t) (.val (.bool false)))) := by
 cases q <;> simp [AGD]
theorem agd_tup (o : Oper) (j t : Nat) (b : Bool) (l : Array Value) : AGD P gd a o rest j rd wr K b tm hp n (some t) (.val (.tuple l)) = ADr P gd a rest (j + 1) rd wr K (puts tm hp n o.dst (.val (.tuple #[]))) := rfl
theorem dk_nil (j : Nat) (D : Keys) (X : List (Nat × Keys) → List (Nat × Keys × Keys) → Prop) : ADk a j D rd wr X [] = (chkQ a j D wr ∧ X ((j, D) :: rd) wr) := rfl
theorem dk_cons (j : Nat) (D : Keys) (X : List (Nat × Keys) → List (Nat × Keys × Keys) → Prop) (w : Bool × Nat) (W : Keys) : ADk a j D rd wr X (w :: W) = ((chkW a j (w :: W) rd ∧ chkV a j D (w :: W) wr) ∧ X rd ((j, D, w :: W) :: wr)) := rfl
theorem q_nil (j : Nat) (D : Keys) : chkQ a j D [] = True := rfl
theorem q_cons (j i : Nat) (D Di Wi : Keys) (r : List (Nat × Keys × Keys)) : chkQ a j D ((i, Di, Wi) :: r) = ((dis Wi D = true ∨ ordB a a.length i j = true) ∧ chkQ a j D r) := rfl
theorem cw_nil (j : Nat) (W : Keys) : chkW a j W [] = True := rfl
theorem cw_cons (j i : Nat) (W Di : Keys) (r : List (Nat × Keys)) : chkW a j W ((i, Di) :: r) = ((dis W Di = true ∨ ordB a a.length i j = true) ∧ chkW a j W r) := rfl
theorem cv_nil (j : Nat) (D W : Keys) : chkV a j D W [] = True := rfl
theorem cv_cons (j i : Nat) (D W Di Wi : Keys) (r : List (Nat × Keys × Keys)) : chkV a j D W ((i, Di, Wi) :: r) = (((dis Wi D = true ∧ dis W Di = true) ∨ ordB a a.length i j = true) ∧ chkV a j D W r) := rfl
/-! What an operation looks at. -/
def ik (s : Site) (l : List AV) : Keys := (stsL l).map Site.key ++ [s.key]
theorem ik_eq (l : List AV) : ik s l = (stsL l).map Site.key ++ [s.key] := rfl
theorem oi_move (x : Operand) : opIn ev ⟨dst, .move x, ty, pos, aft, g⟩ s hp = [] := rfl
theorem oi_assign (x : Operand) : opIn ev ⟨dst, .assign x, ty, pos, aft, g⟩ s hp = [] := rfl
theorem oi_pick (x y z : Operand) : opIn ev ⟨dst, .pick x y z, ty, pos, aft, g⟩ s hp = ik s [ev x, ev y, ev z] := rfl
theorem oi_alloc (t : TypeId) : opIn ev ⟨dst, .alloc t, ty, pos, aft, g⟩ s hp = ik s [] := rfl
theorem oi_box (t : TypeId) (x : Operand) : opIn ev ⟨dst, .box t x, ty, pos, aft, g⟩ s hp = ik s [ev x] := rfl
theorem oi_build (t : TypeId) (ps : Array (Nat × Operand)) : opIn ev ⟨dst, .build t ps, ty, pos, aft, g⟩ s hp = ik s (ps.toList.map fun p => ev p.2) := by
 simp only [opIn, Op.operands, List.map_map, ik]; rfl
theorem oi_buildSlice (t : TypeId) (m : Nat) (ps : Array (Nat × Operand)) : opIn ev ⟨dst, .buildSlice t m ps, ty, pos, aft, g⟩ s hp = ik s (ps.toList.map fun p => ev p.2) := by
 simp only [opIn, Op.operands, List.map_map, ik]; rfl
theorem oi_load (t : TypeId) (x : Operand) : opIn ev ⟨dst, .load t x, ty, pos, aft, g⟩ s hp = ik s [ev x] := rfl
theorem oi_store (t : TypeId) (x y : Operand) : opIn ev ⟨dst, .store t x y, ty, pos, aft, g⟩ s hp = ik s [ev x, ev y] := rfl
theorem oi_nilCheck (x : Operand) : opIn ev ⟨dst, .nilCheck x, ty, pos, aft, g⟩ s hp = ik s [ev x] := rfl
theorem oi_bin (o : BinOp) (t u : TypeId) (x y : Operand) : opIn ev ⟨dst, .binOp o t x y u, ty, pos, aft, g⟩ s hp = ik s [ev x, ev y] := rfl
theorem oi_un (o : UnOp) (t : TypeId) (x : Operand) : opIn ev ⟨dst, .unOp o t x, ty, pos, aft, g⟩ s hp = ik s [ev x] := rfl
theorem oi_conv (t u : TypeId) (x : Operand) : opIn ev ⟨dst, .convert t u x, ty, pos, aft, g⟩ s hp = ik s [ev x] := rfl
theorem oi_iface (t : TypeId) (x : Operand) : opIn ev ⟨dst, .makeInterface t x, ty, pos, aft, g⟩ s hp = ik s [ev x] := rfl
theorem oi_func (f : Fn) (ca : Array Operand) : opIn ev ⟨dst, .makeFunc f #[] ca, ty, pos, aft, g⟩ s hp = ik s (ca.toList.map ev) := by
 simp [opIn, Op.operands, ik]
theorem oi_make (t : TypeId) (x y : Operand) : opIn ev ⟨dst, .makeSlice t x y, ty, pos, aft, g⟩ s hp = ik s [ev x, ev y] := rfl
theorem oi_makeMap (t : TypeId) : opIn ev ⟨dst, .makeMap t none, ty, pos, aft, g⟩ s hp = ik s [] := rfl
theorem oi_slice00 (t : TypeId) (x : Operand) : opIn ev ⟨dst, .slice t x none none none, ty, pos, aft, g⟩ s hp = ik s [ev x] := rfl
theorem oi_slice10 (t : TypeId) (x l : Operand) : opIn ev ⟨dst, .slice t x (some l) none none, ty, pos, aft, g⟩ s hp = ik s [ev x, ev l] := rfl
theorem oi_slice01 (t : TypeId) (x h : Operand) : opIn ev ⟨dst, .slice t x none (some h) none, ty, pos, aft, g⟩ s hp = ik s [ev x, ev h] := rfl
theorem oi_slice11 (t : TypeId) (x l h : Operand) : opIn ev ⟨dst, .slice t x (some l) (some h) none, ty, pos, aft, g⟩ s hp = ik s [ev x, ev l, ev h] := rfl
theorem oi_fieldAddr (t : TypeId) (x : Operand) (j : Nat) : opIn ev ⟨dst, .fieldAddr t x j, ty, pos, aft, g⟩ s hp = ik s [ev x] := rfl
theorem oi_field (t : TypeId) (x : Operand) (j : Nat) : opIn ev ⟨dst, .field t x j, ty, pos, aft, g⟩ s hp = ik s [ev x] := rfl
theorem oi_indexAddr (t : TypeId) (x i : Operand) : opIn ev ⟨dst, .indexAddr t x i, ty, pos, aft, g⟩ s hp = ik s [ev x, ev i] := rfl
theorem oi_index (t : TypeId) (x i : Operand) : opIn ev ⟨dst, .index t x i, ty, pos, aft, g⟩ s hp = ik s [ev x, ev i] := rfl
theorem oi_lookup (t : TypeId) (x i : Operand) (q : Bool) : opIn ev ⟨dst, .lookup t x i q, ty, pos, aft, g⟩ s hp = ik s [ev x, ev i] := rfl
theorem oi_mapUpdate (t : TypeId) (m k x : Operand) : opIn ev ⟨dst, .mapUpdate t m k x, ty, pos, aft, g⟩ s hp = ik s [ev m, ev k, ev x] := rfl
theorem oi_extract (x : Operand) (i : Nat) : opIn ev ⟨dst, .extract x i, ty, pos, aft, g⟩ s hp = ik s [ev x] := rfl
theorem oi_blt (b : Builtin) (xs : Array Operand) (ts : Array TypeId) : opIn ev ⟨dst, .call ⟨.builtin b, xs, ts⟩, ty, pos, aft, g⟩ s hp = ik s (xs.toList.map ev) := rfl
def callK (hp : Hp) (xs : List AV) (s : Site) : AV → Keys
 | .func _ cap => callD hp (xs ++ cap) s
 | _ => []
theorem oi_call (f : Operand) (xs : Array Operand) (ts : Array TypeId) : opIn ev ⟨dst, .call ⟨.value f, xs, ts⟩, ty, pos, aft, g⟩ s hp = callK hp (xs.toList.map ev) s (ev f) := by
 simp only [opIn]
 cases ev f <;> rfl
theorem ck_func (xs cap : List AV) (f : FuncId) : callK hp xs s (.func f cap) = callD hp (xs ++ cap) s := rfl
theorem cd_eq (xs : List AV) : callD hp xs s = (rch hp 4 (stsL xs)).map Site.key ++ [s.key, (false, 1000000)] := rfl
theorem rch_suc (m : Nat) (l : List Site) : rch hp (m + 1) l = l ++ rch hp m (l.flatMap fun s => stsB (hp.get s).2) := rfl
theorem rch_zero (l : List Site) : rch hp 0 l = l := rfl
theorem oo_move (x : Operand) : opOut ev ⟨dst, .move x, ty, pos, aft, g⟩ s hp = [] := rfl
theorem oo_assign (x : Operand) : opOut ev ⟨dst, .assign x, ty, pos, aft, g⟩ s hp = [] := rfl
theorem oo_pick (x y z : Operand) : opOut ev ⟨dst, .pick x y z, ty, pos, aft, g⟩ s hp = [] := rfl
theorem oo_alloc (t : TypeId) : opOut ev ⟨dst, .alloc t, ty, pos, aft, g⟩ s hp = [s.key] := rfl
theorem oo_box (t : TypeId) (x : Operand) : opOut ev ⟨dst, .box t x, ty, pos, aft, g⟩ s hp = [s.key] := rfl
theorem oo_build (t : TypeId) (ps : Array (Nat × Operand)) : opOut ev ⟨dst, .build t ps, ty, pos, aft, g⟩ s hp = [] := rfl
theorem oo_buildSlice (t : TypeId) (m : Nat) (ps : Array (Nat × Operand)) : opOut ev ⟨dst, .buildSlice t m ps, ty, pos, aft, g⟩ s hp = (stsL (ps.toList.map fun p => ev p.2)).map Site.key ++ [s.key] := rfl
theorem oo_load (t : TypeId) (x : Operand) : opOut ev ⟨dst, .load t x, ty, pos, aft, g⟩ s hp = [] := rfl
def stK (x y : AV) : Keys := (match x with | .ept _ _ _ _ _ => sts x ++ sts y | _ => sts x).map Site.key
theorem stK_ept (s : Site) (v k i o : Nat) (y : AV) : stK (.ept s v k i o) y = ([s] ++ sts y).map Site.key := rfl
theorem stK_ptr (s : Site) (v o : Nat) (y : AV) : stK (.ptr s v o) y = [s.key] := rfl
theorem oo_store (t : TypeId) (x y : Operand) : opOut ev ⟨dst, .store t x y, ty, pos, aft, g⟩ s hp = stK (ev x) (ev y) := rfl
theorem oo_nilCheck (x : Operand) : opOut ev ⟨dst, .nilCheck x, ty, pos, aft, g⟩ s hp = [] := rfl
theorem oo_bin (o : BinOp) (t u : TypeId) (x y : Operand) : opOut ev ⟨dst, .binOp o t x y u, ty, pos, aft, g⟩ s hp = [] := rfl
theorem oo_un (o : UnOp) (t : TypeId) (x : Operand) : opOut ev ⟨dst, .unOp o t x, ty, pos, aft, g⟩ s hp = [] := rfl
theorem oo_conv (t u : TypeId) (x : Operand) : opOut ev ⟨dst, .convert t u x, ty, pos, aft, g⟩ s hp = [] := rfl
theorem oo_iface (t : TypeId) (x : Operand) : opOut ev ⟨dst, .makeInterface t x, ty, pos, aft, g⟩ s hp = [] := rfl
theorem oo_func (f : Fn) (fi ca : Array Operand) : opOut ev ⟨dst, .makeFunc f fi ca, ty, pos, aft, g⟩ s hp = [] := rfl
theorem oo_make (t : TypeId) (x y : Operand) : opOut ev ⟨dst, .makeSlice t x y, ty, pos, aft, g⟩ s hp = [s.key] := rfl
theorem oo_makeMap (t : TypeId) (r : Option Operand) : opOut ev ⟨dst, .makeMap t r, ty, pos, aft, g⟩ s hp = [s.key] := rfl
theorem oo_slice (t : TypeId) (x : Operand) (l h m : Option Operand) : opOut ev ⟨dst, .slice t x l h m, ty, pos, aft, g⟩ s hp = [] := rfl
theorem oo_fieldAddr (t : TypeId) (x : Operand) (j : Nat) : opOut ev ⟨dst, .fieldAddr t x j, ty, pos, aft, g⟩ s hp = [] := rfl
theorem oo_field (t : TypeId) (x : Operand) (j : Nat) : opOut ev ⟨dst, .field t x j, ty, pos, aft, g⟩ s hp = [] := rfl
theorem oo_indexAddr (t : TypeId) (x i : Operand) : opOut ev ⟨dst, .indexAddr t x i, ty, pos, aft, g⟩ s hp = [] := rfl
theorem oo_index (t : TypeId) (x i : Operand) : opOut ev ⟨dst, .index t x i, ty, pos, aft, g⟩ s hp = [] := rfl
theorem oo_lookup (t : TypeId) (x i : Operand) (q : Bool) : opOut ev ⟨dst, .lookup t x i q, ty, pos, aft, g⟩ s hp = [] := rfl
theorem oo_mapUpdate (t : TypeId) (m k x : Operand) : opOut ev ⟨dst, .mapUpdate t m k x, ty, pos, aft, g⟩ s hp = (sts (ev m)).map Site.key := rfl
theorem oo_extract (x : Operand) (i : Nat) : opOut ev ⟨dst, .extract x i, ty, pos, aft, g⟩ s hp = [] := rfl
theorem oo_len (xs : Array Operand) (ts : Array TypeId) : opOut ev ⟨dst, .call ⟨.builtin .len, xs, ts⟩, ty, pos, aft, g⟩ s hp = [] := rfl
theorem oo_cap (xs : Array Operand) (ts : Array TypeId) : opOut ev ⟨dst, .call ⟨.builtin .cap, xs, ts⟩, ty, pos, aft, g⟩ s hp = [] := rfl
theorem oo_max (xs : Array Operand) (ts : Array TypeId) : opOut ev ⟨dst, .call ⟨.builtin .max, xs, ts⟩, ty, pos, aft, g⟩ s hp = [] := rfl
theorem oo_min (xs : Array Operand) (ts : Array TypeId) : opOut ev ⟨dst, .call ⟨.builtin .min, xs, ts⟩, ty, pos, aft, g⟩ s hp = [] := rfl
theorem oo_append (x y : Operand) (ts : Array TypeId) : opOut ev ⟨dst, .call ⟨.builtin .append, #[x, y], ts⟩, ty, pos, aft, g⟩ s hp = (sts (ev x)).map Site.key ++ [s.key] := rfl
theorem oo_copy (x y : Operand) (ts : Array TypeId) : opOut ev ⟨dst, .call ⟨.builtin .copy, #[x, y], ts⟩, ty, pos, aft, g⟩ s hp = (sts (ev x)).map Site.key ++ [s.key] := rfl
theorem oo_clear (x : Operand) (ts : Array TypeId) : opOut ev ⟨dst, .call ⟨.builtin .clear, #[x], ts⟩, ty, pos, aft, g⟩ s hp = (sts (ev x)).map Site.key ++ [s.key] := rfl
theorem oo_call (f : Operand) (xs : Array Operand) (ts : Array TypeId) : opOut ev ⟨dst, .call ⟨.value f, xs, ts⟩, ty, pos, aft, g⟩ s hp = callK hp (xs.toList.map ev) s (ev f) := by
 simp only [opOut]
 cases ev f <;> rfl
theorem ot_move (x : Operand) : opDet P ev ⟨dst, .move x, ty, pos, aft, g⟩ hp = True := rfl
theorem ot_assign (x : Operand) : opDet P ev ⟨dst, .assign x, ty, pos, aft, g⟩ hp = True := rfl
theorem ot_pick (x y z : Operand) : opDet P ev ⟨dst, .pick x y z, ty, pos, aft, g⟩ hp = True := rfl
theorem ot_alloc (t : TypeId) : opDet P ev ⟨dst, .alloc t, ty, pos, aft, g⟩ hp = True := rfl
theorem ot_box (t : TypeId) (x : Operand) : opDet P ev ⟨dst, .box t x, ty, pos, aft, g⟩ hp = True := rfl
theorem ot_build (t : TypeId) (ps : Array (Nat × Operand)) : opDet P ev ⟨dst, .build t ps, ty, pos, aft, g⟩ hp = True := rfl
theorem ot_buildSlice (t : TypeId) (m : Nat) (ps : Array (Nat × Operand)) : opDet P ev ⟨dst, .buildSlice t m ps, ty, pos, aft, g⟩ hp = True := rfl
theorem ot_load (t : TypeId) (x : Operand) : opDet P ev ⟨dst, .load t x, ty, pos, aft, g⟩ hp = True := rfl
theorem ot_store (t : TypeId) (x y : Operand) : opDet P ev ⟨dst, .store t x y, ty, pos, aft, g⟩ hp = True := rfl
theorem ot_nilCheck (x : Operand) : opDet P ev ⟨dst, .nilCheck x, ty, pos, aft, g⟩ hp = True := rfl
theorem ot_bin (o : BinOp) (t u : TypeId) (x y : Operand) : opDet P ev ⟨dst, .binOp o t x y u, ty, pos, aft, g⟩ hp = if nilC P t y = true then nilDet P t (ev x) hp else True := by
 simp only [opDet]
 by_cases h : nilC P t y = true <;> simp [h]
theorem ot_un (o : UnOp) (t : TypeId) (x : Operand) : opDet P ev ⟨dst, .unOp o t x, ty, pos, aft, g⟩ hp = True := rfl
theorem ot_conv (t u : TypeId) (x : Operand) : opDet P ev ⟨dst, .convert t u x, ty, pos, aft, g⟩ hp = True := rfl
theorem ot_iface (t : TypeId) (x : Operand) : opDet P ev ⟨dst, .makeInterface t x, ty, pos, aft, g⟩ hp = True := rfl
theorem ot_func (f : Fn) (fi ca : Array Operand) : opDet P ev ⟨dst, .makeFunc f fi ca, ty, pos, aft, g⟩ hp = True := rfl
theorem ot_make (t : TypeId) (x y : Operand) : opDet P ev ⟨dst, .makeSlice t x y, ty, pos, aft, g⟩ hp = True := rfl
theorem ot_makeMap (t : TypeId) (r : Option Operand) : opDet P ev ⟨dst, .makeMap t r, ty, pos, aft, g⟩ hp = True := rfl
theorem ot_slice (t : TypeId) (x : Operand) (l h m : Option Operand) : opDet P ev ⟨dst, .slice t x l h m, ty, pos, aft, g⟩ hp = True := rfl
theorem ot_fieldAddr (t : TypeId) (x : Operand) (j : Nat) : opDet P ev ⟨dst, .fieldAddr t x j, ty, pos, aft, g⟩ hp = True := rfl
theorem ot_field (t : TypeId) (x : Operand) (j : Nat) : opDet P ev ⟨dst, .field t x j, ty, pos, aft, g⟩ hp = True := rfl
theorem ot_indexAddr (t : TypeId) (x i : Operand) : opDet P ev ⟨dst, .indexAddr t x i, ty, pos, aft, g⟩ hp = True := rfl
theorem ot_index (t : TypeId) (x i : Operand) : opDet P ev ⟨dst, .index t x i, ty, pos, aft, g⟩ hp = True := rfl
theorem ot_lookup (t : TypeId) (x i : Operand) (q : Bool) : opDet P ev ⟨dst, .lookup t x i q, ty, pos, aft, g⟩ hp = True := rfl
theorem ot_mapUpdate (t : TypeId) (m k x : Operand) : opDet P ev ⟨dst, .mapUpdate t m k x, ty, pos, aft, g⟩ hp = True := rfl
theorem ot_extract (x : Operand) (i : Nat) : opDet P ev ⟨dst, .extract x i, ty, pos, aft, g⟩ hp = True := rfl
theorem ot_len (xs : Array Operand) (ts : Array TypeId) : opDet P ev ⟨dst, .call ⟨.builtin .len, xs, ts⟩, ty, pos, aft, g⟩ hp = True := rfl
theorem ot_append (xs : Array Operand) (ts : Array TypeId) : opDet P ev ⟨dst, .call ⟨.builtin .append, xs, ts⟩, ty, pos, aft, g⟩ hp = True := rfl
theorem ot_copy (xs : Array Operand) (ts : Array TypeId) : opDet P ev ⟨dst, .call ⟨.builtin .copy, xs, ts⟩, ty, pos, aft, g⟩ hp = True := rfl
theorem ot_clear (xs : Array Operand) (ts : Array TypeId) : opDet P ev ⟨dst, .call ⟨.builtin .clear, xs, ts⟩, ty, pos, aft, g⟩ hp = True := rfl
theorem ot_max (xs : Array Operand) (ts : Array TypeId) : opDet P ev ⟨dst, .call ⟨.builtin .max, xs, ts⟩, ty, pos, aft, g⟩ hp = True := rfl
theorem ot_min (xs : Array Operand) (ts : Array TypeId) : opDet P ev ⟨dst, .call ⟨.builtin .min, xs, ts⟩, ty, pos, aft, g⟩ hp = True := rfl
theorem ot_call (f : Operand) (xs : Array Operand) (ts : Array TypeId) : opDet P ev ⟨dst, .call ⟨.value f, xs, ts⟩, ty, pos, aft, g⟩ hp = True := rfl
def ndO : Option (Option Bool × Prop) → Prop
 | some (some _, _) => True
 | _ => False
def ndK (hp : Hp) (x : AV) : Option NK → Prop
 | some k => ndO (isNil hp k x)
 | none => False
theorem nd_eq (t : TypeId) (x : AV) : nilDet P t x hp = ndK hp x (tyNil P t) := by
 unfold nilDet
 cases tyNil P t with
 | none => rfl
 | some k =>
  simp only [ndK]
  cases isNil hp k x with
  | none => rfl
  | some o => obtain ⟨o, p⟩ := o; cases o <;> rfl
theorem nd_some (x : AV) (k : NK) : ndK hp x (some k) = ndO (isNil hp k x) := rfl
theorem nd_yes (b : Bool) (p : Prop) : ndO (some (some b, p)) = True := rfl
theorem st_ptr' (s : Site) (v o : Nat) : sts (.ptr s v o) = [s] := rfl
theorem st_ept' (s : Site) (v k i o : Nat) : sts (.ept s v k i o) = [s] := rfl
theorem st_own (s : Site) (v k o l : Nat) : sts (.own s v k o l) = [s] := rfl
theorem st_map (s : Site) (v : Nat) : sts (.map s v) = [s] := rfl
theorem st_agg (cs : List AV) : sts (.agg cs) = stsL cs := rfl
theorem st_tup (cs : List AV) : sts (.tup cs) = stsL cs := rfl
theorem st_func (f : FuncId) (cs : List AV) : sts (.func f cs) = stsL cs := rfl
theorem st_iface (t : TypeId) (x : AV) : sts (.iface t x) = sts x := rfl
theorem st_val (v : Value) : sts (.val v) = [] := rfl
theorem st_list (k : Nat) (rows : List (List AV)) : sts (.list k rows) = [] := rfl
theorem st_rop (cs : List AV) : sts (.rop cs) = [] := rfl
theorem st_junk : sts .junk = [] := rfl
theorem st_dead : sts .dead = [] := rfl
theorem sl_nil : stsL [] = [] := rfl
theorem sl_cons (x : AV) (xs : List AV) : stsL (x :: xs) = sts x ++ stsL xs := rfl
theorem sb_cells (t : TypeId) (cs : List AV) : stsB (.cells t cs) = stsL cs := rfl
theorem sb_rowx (t : TypeId) (k : Nat) (cs : List AV) : stsB (.rowx t k cs) = stsL cs := rfl
theorem sb_sem (R : Option (Nat × Nat) → (Nat → Prop) → World → Prop) : stsB (.sem R) = [] := rfl
theorem sb_icc (t : TypeId) (cs : List AV) : stsB (.icc t cs) = [] := rfl
theorem sb_row (t : TypeId) (k : Nat) (q : Option Nat) (rows : List (List AV)) : stsB (.row t k q rows) = [] := rfl
theorem sb_ice (k : Nat) (rows : List (List AV)) : stsB (.ice k rows) = [] := rfl
theorem sb_map (t : MK) (es : List (Value × Value)) : stsB (.map t es) = [] := rfl
theorem sb_gone : stsB .gone = [] := rfl
theorem key_e (i : Nat) : Site.key (.e i) = (false, i) := rfl
theorem key_l (i : Nat) : Site.key (.l i) = (true, i) := rfl
theorem key_m (t i : Nat) : Site.key (.m t i) = (true, t) := rfl
end

/-! ### Calls that turn what is handed in -/
section
variable {P : Program} {hp : Hp} {ss : List Site} {g : Site → Nat → Option (Site × Nat)}
theorem callH {f : FuncId} {xs args : List AV} {hs : List Blk} {r : AV} {hs' : List (Nat × Blk)} {s : Site} {K : AV → Hp → Prop} {o : Option (List AV × Hp)} (h : OkH P f args hs r hs') (ss : List Site)
  (hc : ss.Nodup ∧ hs'.length ≤ ss.length ∧ MB hp ss ss hs ∧ SubL (rnL (dnG hp ss) xs) args ∧ (ss.all fun s' => (callD hp xs s).contains s'.key) = true ∧ K (rn (upG hp ss) r) (hpU hp ss ss hs' hp)) : ACallY P f xs s hp K o :=
 .inr (.inl ⟨ss, args, hs, r, hs', h, hc.1, hc.2.1, hc.2.2.1, hc.2.2.2.1, hc.2.2.2.2.1, hc.2.2.2.2.2⟩)
/-- What is handed in is written no more; what is new stands at these places. -/
theorem callHF {f : FuncId} {xs l args : List AV} {hs : List Blk} {r : AV} {hs' : List (Nat × Blk)} {s : Site} {K : AV → Hp → Prop} {hp1 : Hp} (h : OkH P f args hs r hs') (ss : List Site)
  (hc : ss.Nodup ∧ hs'.length ≤ ss.length ∧ MB hp1 ss ss hs ∧ SubL (rnL (dnG hp1 ss) l) args ∧ (ss.all fun s' => (callD hp1 l s).contains s'.key) = true ∧ K (rn (upG hp1 ss) r) (hpU hp1 ss ss hs' hp1)) : ACallY P f xs s hp K (some (l, hp1)) :=
 .inr (.inr ⟨ss, args, hs, r, hs', h, hc.1, hc.2.1, hc.2.2.1, hc.2.2.2.1, hc.2.2.2.2.1, hc.2.2.2.2.2⟩)
theorem nodup_nil : ([] : List Site).Nodup = True := eq_true List.nodup_nil
theorem nodup_cons (x : Site) (l : List Site) : (x :: l).Nodup = (l.contains x = false ∧ l.Nodup) := by
 rw [List.nodup_cons]
 simp
theorem mb_nil (l : List Site) : MB hp ss l [] = True := by cases l <;> rfl
theorem mb_cons (s : Site) (l : List Site) (b : Blk) (hs : List Blk) : MB hp ss (s :: l) (b :: hs) = ((b = .gone ∨ SubB (rnB (dnG hp ss) (hp.get s).2) b) ∧ MB hp ss l hs) := rfl
theorem rb_cells (t : TypeId) (cs : List AV) : rnB g (.cells t cs) = .cells t (rnL g cs) := rfl
theorem rb_rowx (t : TypeId) (k : Nat) (cs : List AV) : rnB g (.rowx t k cs) = .rowx t k (rnL g cs) := rfl
theorem rb_sem (R : Option (Nat × Nat) → (Nat → Prop) → World → Prop) : rnB g (.sem R) = .sem R := rfl
theorem rb_icc (t : TypeId) (cs : List AV) : rnB g (.icc t cs) = .icc t cs := rfl
theorem rb_row (t : TypeId) (k : Nat) (q : Option Nat) (rows : List (List AV)) : rnB g (.row t k q rows) = .row t k q rows := rfl
theorem rb_ice (k : Nat) (rows : List (List AV)) : rnB g (.ice k rows) = .ice k rows := rfl
theorem rb_map (t : MK) (es : List (Value × Value)) : rnB g (.map t es) = .map t es := rfl
theorem rb_gone : rnB g .gone = .gone := rfl
theorem ub_cells (t t' : TypeId) (cs ds : List AV) : SubB (.cells t cs) (.cells t' ds) = (t = t' ∧ SubC cs ds) := rfl
theorem ub_row (t t' : TypeId) (k k' : Nat) (q q' : Option Nat) (rows rows' : List (List AV)) : SubB (.row t k q rows) (.row t' k' q' rows') = (t = t' ∧ k = k' ∧ q = q' ∧ rows = rows') := by
 simp only [SubB, Blk.row.injEq]
theorem ub_ice (k k' : Nat) (rows rows' : List (List AV)) : SubB (.ice k rows) (.ice k' rows') = (k = k' ∧ rows = rows') := by simp only [SubB, Blk.ice.injEq]
theorem ub_sem (R R' : Option (Nat × Nat) → (Nat → Prop) → World → Prop) : SubB (.sem R) (.sem R') = (∀ x y w, R x y w → R' x y w) := rfl
theorem ub_xr (t t' : TypeId) (k k' : Nat) (q : Option Nat) (cs : List AV) (rows : List (List AV)) : SubB (.rowx t k cs) (.row t' k' q rows) = (t = t' ∧ k = k' ∧ q = none ∧ cs = rows.flatten ∧ (∀ r ∈ rows, r.length = k) ∧ cs.all AV.free = true) := rfl
theorem ub_rowx (t t' : TypeId) (k k' : Nat) (cs ds : List AV) : SubB (.rowx t k cs) (.rowx t' k' ds) = (t = t' ∧ k = k' ∧ SubC cs ds) := rfl
theorem ub_rx (t t' : TypeId) (k k' : Nat) (q : Option Nat) (rows : List (List AV)) (ds : List AV) : SubB (.row t k q rows) (.rowx t' k' ds) = (t = t' ∧ k = k' ∧ SubC rows.flatten ds) := rfl
theorem ub_icc (t t' : TypeId) (cs ds : List AV) : SubB (.icc t cs) (.icc t' ds) = (t = t' ∧ cs = ds) := by simp only [SubB, Blk.icc.injEq]
theorem ub_map (t t' : MK) (es es' : List (Value × Value)) : SubB (.map t es) (.map t' es') = (t = t' ∧ es = es') := by simp only [SubB, Blk.map.injEq]
def mkPtr (off : Nat) : Option (Site × Nat) → AV
 | some (s, v) => .ptr s v off
 | none => .dead
def mkEpt (k i off : Nat) : Option (Site × Nat) → AV
 | some (s, v) => .ept s v k i off
 | none => .dead
def mkOwn (k off len : Nat) : Option (Site × Nat) → AV
 | some (s, v) => .own s v k off len
 | none => .dead
def mkMap : Option (Site × Nat) → AV
 | some (s, v) => .map s v
 | none => .dead
theorem n_ptr (s : Site) (v o : Nat) : rn g (.ptr s v o) = mkPtr o (g s v) := by
 simp only [rn]
 cases g s v with
 | none => rfl
 | some x => rfl
theorem n_ept (s : Site) (v k i o : Nat) : rn g (.ept s v k i o) = mkEpt k i o (g s v) := by
 simp only [rn]
 cases g s v with
 | none => rfl
 | some x => rfl
theorem n_own (s : Site) (v k o l : Nat) : rn g (.own s v k o l) = mkOwn k o l (g s v) := by
 simp only [rn]
 cases g s v with
 | none => rfl
 | some x => rfl
theorem n_map (s : Site) (v : Nat) : rn g (.map s v) = mkMap (g s v) := by
 simp only [rn]
 cases g s v with
 | none => rfl
 | some x => rfl
theorem mk_ptr (s : Site) (v o : Nat) : mkPtr o (some (s, v)) = .ptr s v o := rfl
theorem mk_ept (s : Site) (v k i o : Nat) : mkEpt k i o (some (s, v)) = .ept s v k i o := rfl
theorem mk_own (s : Site) (v k o l : Nat) : mkOwn k o l (some (s, v)) = .own s v k o l := rfl
theorem mk_map (s : Site) (v : Nat) : mkMap (some (s, v)) = .map s v := rfl
theorem mk_ptr0 (o : Nat) : mkPtr o none = .dead := rfl
theorem mk_ept0 (k i o : Nat) : mkEpt k i o none = .dead := rfl
theorem mk_own0 (k o l : Nat) : mkOwn k o l none = .dead := rfl
theorem mk_map0 : mkMap none = .dead := rfl
theorem n_agg (cs : List AV) : rn g (.agg cs) = .agg (rnL g cs) := rfl
theorem n_tup (cs : List AV) : rn g (.tup cs) = .tup (rnL g cs) := rfl
theorem n_func (f : FuncId) (cs : List AV) : rn g (.func f cs) = .func f (rnL g cs) := rfl
theorem n_iface (t : TypeId) (x : AV) : rn g (.iface t x) = .iface t (rn g x) := rfl
theorem n_val (v : Value) : rn g (.val v) = .val v := rfl
theorem n_list (k : Nat) (rows : List (List AV)) : rn g (.list k rows) = .list k rows := rfl
theorem n_rop (cs : List AV) : rn g (.rop cs) = .rop cs := rfl
theorem n_junk : rn g .junk = .junk := rfl
theorem n_dead : rn g .dead = .dead := rfl
theorem nL_nil : rnL g [] = [] := rfl
theorem nL_cons (x : AV) (xs : List AV) : rnL g (x :: xs) = rn g x :: rnL g xs := rfl
def dnI (n ver : Nat) : Option Nat → Option (Site × Nat)
 | some i => if n = ver then some (.e i, 0) else none
 | none => none
theorem dn_eq (s : Site) (ver : Nat) : dnG hp ss s ver = dnI (hp.get s).1 ver (idx ss s) := by
 unfold dnG
 cases idx ss s <;> rfl
theorem dn_some (n ver i : Nat) : dnI n ver (some i) = if n = ver then some (.e i, 0) else none := rfl
theorem dn_none (n ver : Nat) : dnI n ver none = none := rfl
theorem idx_nil (s : Site) : idx [] s = none := rfl
theorem idx_cons (x s : Site) (r : List Site) : idx (x :: r) s = if x = s then some 0 else (idx r s).map (· + 1) := rfl
def upI (hp : Hp) (ver : Nat) : Option Site → Option (Site × Nat)
 | some s' => some (s', (hp.get s').1 + ver)
 | none => none
theorem up_e (i ver : Nat) : upG hp ss (.e i) ver = upI hp ver ss[i]? := by
 simp only [upG]
 cases ss[i]? <;> rfl
theorem up_some (s : Site) (ver : Nat) : upI hp ver (some s) = some (s, (hp.get s).1 + ver) := rfl
theorem up_l (i ver : Nat) : upG hp ss (.l i) ver = none := rfl
theorem up_m (i j ver : Nat) : upG hp ss (.m i j) ver = none := rfl
theorem hu_nil (hs : List (Nat × Blk)) (acc : Hp) : hpU hp ss [] hs acc = acc := by cases hs <;> rfl
theorem hu_gone (s : Site) (l : List Site) (acc : Hp) : hpU hp ss (s :: l) [] acc = hpU hp ss l [] (acc.set s (hp.get s).1 .gone) := rfl
theorem hu_cons (s : Site) (l : List Site) (v : Nat) (b : Blk) (r : List (Nat × Blk)) (acc : Hp) : hpU hp ss (s :: l) ((v, b) :: r) acc = hpU hp ss l r (acc.set s ((hp.get s).1 + v) (rnB (upG hp ss) b)) := rfl

/-! ### The end of such a function -/
def FinAll (hp : Hp) (m : Nat) (mv : List (Option Site)) (r : AV) (hs' : List (Nat × Blk)) (l : List AV) : Prop :=
 mvOk mv = true ∧ RetH (nbO m mv) (fzL hp (outG hp m mv hs') l) r ∧ FinE (nbO m mv) hp (outG hp m mv hs') 0 m hs' ∧ FinM (nbO m mv) hp (outG hp m mv hs') mv (hs'.drop m)
def AFh (P : Program) (r : AV) (hs' : List (Nat × Blk)) (m : Nat) (mv : List (Option Site)) : List ResultVar → List AV → ASt → Prop
 | [], acc, st => FinAll st.hp m mv r hs' acc.reverse
 | .tmp t :: rs, acc, st => AFh P r hs' m mv rs (tget st.tm t :: acc) st
 | .cell a t :: rs, acc, st => ALoad P t (tget st.tm a) st.hp fun v => AFh P r hs' m mv rs (v :: acc) st
def kfh (P : Program) (r : AV) (hs' : List (Nat × Blk)) (m : Nat) (mv : List (Option Site)) (rs : List ResultVar) (acc : List AV) (st : ASt) (v : AV) : Prop := AFh P r hs' m mv rs (v :: acc) st
theorem afh_of {r : AV} {hs' : List (Nat × Blk)} {m : Nat} {mv : List (Option Site)} {st : ASt} : ∀ (rs : List ResultVar) (acc : List AV) {Kk : List AV → Prop}, (∀ l, Kk l = AFh P r hs' m mv [] (l.reverse ++ acc) st) → ARes P st rs Kk = AFh P r hs' m mv rs acc st := by
 intro rs
 induction rs with
 | nil => intro acc Kk h; simp only [ARes, h, List.reverse_nil, List.nil_append]
 | cons x rs ih =>
  intro acc Kk h
  cases x with
  | tmp t =>
   simp only [ARes, AFh]
   exact ih _ fun l => by rw [h]; simp only [List.reverse_cons, List.append_assoc, List.cons_append, List.nil_append]
  | cell a t =>
   simp only [ARes, AFh]
   congr 1
   funext v
   exact ih _ fun l => by rw [h]; simp only [List.reverse_cons, List.append_assoc, List.cons_append, List.nil_append]
theorem eh_n (rs : List ResultVar) (r : AV) (hs' : List (Nat × Blk)) (m : Nat) (mv : List (Option Site)) (st : ASt) : AEndH P rs r hs' m mv .normal st = AFh P r hs' m mv rs [] st := by
 show AFinH P rs r hs' m mv st = _
 unfold AFinH
 refine afh_of _ _ fun l => ?_
 simp only [AFh, List.append_nil, List.reverse_reverse]
 rfl
theorem eh_r (rs : List ResultVar) (r : AV) (hs' : List (Nat × Blk)) (m : Nat) (mv : List (Option Site)) (st : ASt) : AEndH P rs r hs' m mv .ret st = AFh P r hs' m mv rs [] st := eh_n rs r hs' m mv st
section
variable {r : AV} {hs' : List (Nat × Blk)} {m : Nat} {mv : List (Option Site)} {acc : List AV} {rs : List ResultVar} {tm : List (Nat × AV)} {n : Nat}
theorem fh_end : AFh P r hs' m mv [] acc ⟨tm, hp, n⟩ = FinAll hp m mv r hs' acc.reverse := rfl
theorem fh_tmp (t : Nat) : AFh P r hs' m mv (.tmp t :: rs) acc ⟨tm, hp, n⟩ = AFh P r hs' m mv rs (tget tm t :: acc) ⟨tm, hp, n⟩ := rfl
theorem fh_cell (a t : Nat) : AFh P r hs' m mv (.cell a t :: rs) acc ⟨tm, hp, n⟩ = ALoad P t (tget tm a) hp (kfh P r hs' m mv rs acc ⟨tm, hp, n⟩) := rfl
theorem kfh_eq (v : AV) (st : ASt) : kfh P r hs' m mv rs acc st v = AFh P r hs' m mv rs (v :: acc) st := rfl
theorem fa_all (l : List AV) : FinAll hp m mv r hs' l = (mvOk mv = true ∧ RetH (nbO m mv) (fzL hp (outG hp m mv hs') l) r ∧ FinE (nbO m mv) hp (outG hp m mv hs') 0 m hs' ∧ FinM (nbO m mv) hp (outG hp m mv hs') mv (hs'.drop m)) := rfl
end
theorem mo_nil : mvOk [] = true := rfl
theorem mo_some (s : Site) (r : List (Option Site)) : mvOk (some s :: r) = (!isE s && !r.contains (some s) && mvOk r) := rfl
theorem mo_none (r : List (Option Site)) : mvOk (none :: r) = mvOk r := rfl
theorem ie_e (i : Nat) : isE (.e i) = true := rfl
theorem ie_l (i : Nat) : isE (.l i) = false := rfl
theorem ie_m (i j : Nat) : isE (.m i j) = false := rfl
section
variable {nb : Nat → Prop}
theorem rh_one (x r : AV) : RetH nb [x] r = CvA nb x r := rfl
theorem rh_nil (rs : List AV) : RetH nb [] (.tup rs) = CvL nb [] rs := rfl
theorem rh_two (x y : AV) (l rs : List AV) : RetH nb (x :: y :: l) (.tup rs) = CvL nb (x :: y :: l) rs := rfl
theorem fe_zero (i : Nat) (r : List (Nat × Blk)) : FinE nb hp g i 0 r = True := by cases r <;> rfl
theorem fe_suc (i m : Nat) (v : Nat) (b : Blk) (r : List (Nat × Blk)) : FinE nb hp g i (m + 1) ((v, b) :: r) = ((if isGone b = true then v = 0 else (hp.get (.e i)).1 = v ∧ CvB nb (fzB hp g (hp.get (.e i)).2) b) ∧ FinE nb hp g (i + 1) m r) := rfl
theorem fm_nil (r : List (Nat × Blk)) : FinM nb hp g [] r = (r = []) := by cases r <;> rfl
theorem fm_some (s : Site) (mv : List (Option Site)) (v : Nat) (b : Blk) (r : List (Nat × Blk)) : FinM nb hp g (some s :: mv) ((v, b) :: r) = ((v = 1 ∧ isGone b = false ∧ CvB nb (fzB hp g (hp.get s).2) b) ∧ FinM nb hp g mv r) := rfl
theorem fm_none (mv : List (Option Site)) (v : Nat) (t : TypeId) (k : Nat) (q : Option Nat) (rows : List (List AV)) (r : List (Nat × Blk)) : FinM nb hp g (none :: mv) ((v, .row t k q rows) :: r) = ((v = 1 ∧ 0 < k ∧ rows = [] ∧ (q = none ∨ q = some 0)) ∧ FinM nb hp g mv r) := rfl
theorem gone_g : isGone .gone = true := rfl
theorem gone_c (t : TypeId) (cs : List AV) : isGone (.cells t cs) = false := rfl
theorem gone_x (t : TypeId) (k : Nat) (cs : List AV) : isGone (.rowx t k cs) = false := rfl
theorem gone_sem (R : Option (Nat × Nat) → (Nat → Prop) → World → Prop) : isGone (.sem R) = false := rfl
theorem gone_i (t : TypeId) (cs : List AV) : isGone (.icc t cs) = false := rfl
theorem gone_r (t : TypeId) (k : Nat) (q : Option Nat) (rows : List (List AV)) : isGone (.row t k q rows) = false := rfl
theorem gone_e (k : Nat) (rows : List (List AV)) : isGone (.ice k rows) = false := rfl
theorem gone_m (t : MK) (es : List (Value × Value)) : isGone (.map t es) = false := rfl
theorem cb_cells (t t' : TypeId) (cs ds : List AV) : CvB nb (.cells t cs) (.cells t' ds) = (t = t' ∧ CvC nb cs ds) := rfl
theorem cb_row (t t' : TypeId) (k k' : Nat) (q q' : Option Nat) (rows rows' : List (List AV)) : CvB nb (.row t k q rows) (.row t' k' q' rows') = (t = t' ∧ k = k' ∧ (q' = none ∨ q' = q) ∧ rows' <+: rows) := rfl
theorem cb_rc (t t' : TypeId) (k : Nat) (q : Option Nat) (rows : List (List AV)) (cs : List AV) : CvB nb (.row t k q rows) (.cells t' cs) = (t = t' ∧ q = some rows.length ∧ rows ≠ [] ∧ CvC nb rows.flatten cs) := rfl
theorem cb_map (t t' : MK) (es es' : List (Value × Value)) : CvB nb (.map t es) (.map t' es') = (t = t' ∧ es = es') := by simp only [CvB, Blk.map.injEq]
theorem cb_ice (k k' : Nat) (rows rows' : List (List AV)) : CvB nb (.ice k rows) (.ice k' rows') = (k = k' ∧ rows = rows') := by simp only [CvB, Blk.ice.injEq]
theorem cb_sem (R R' : Option (Nat × Nat) → (Nat → Prop) → World → Prop) : CvB nb (.sem R) (.sem R') = (R = R') := by simp only [CvB, Blk.sem.injEq]
theorem cb_rowx (t t' : TypeId) (k k' : Nat) (cs ds : List AV) : CvB nb (.rowx t k cs) (.rowx t' k' ds) = (t = t' ∧ k = k' ∧ CvC nb cs ds) := rfl
theorem cb_rx (t t' : TypeId) (k k' : Nat) (q : Option Nat) (rows : List (List AV)) (ds : List AV) : CvB nb (.row t k q rows) (.rowx t' k' ds) = (t = t' ∧ k = k' ∧ CvC nb rows.flatten ds) := rfl
theorem cb_icc (t t' : TypeId) (cs ds : List AV) : CvB nb (.icc t cs) (.icc t' ds) = (t = t' ∧ cs = ds) := by simp only [CvB, Blk.icc.injEq]
theorem cl_nil : CvL nb [] [] = True := rfl
theorem cl_cons (x y : AV) (xs ys : List AV) : CvL nb (x :: xs) (y :: ys) = (CvA nb x y ∧ CvL nb xs ys) := rfl
theorem cc_nil : CvC nb [] [] = True := rfl
theorem cc_cons (x y : AV) (xs ys : List AV) : CvC nb (x :: xs) (y :: ys) = (Cv nb x y ∧ CvC nb xs ys) := rfl
theorem nb_eq (m : Nat) (mv : List (Option Site)) (i : Nat) : nbO m mv i = (m ≤ i ∧ mv[i - m]? = some none) := rfl
theorem cn_own (i v k off len : Nat) : Cv nb (.val (.slice none 0 0)) (.own (.e i) v k off len) = (nb i ∧ v = 1 ∧ off = 0 ∧ len = 0) := rfl
end
def fzO (hp : Hp) (g : Site → Nat → Option (Site × Nat)) (x : AV) : Option (Site × Nat) → AV
 | some _ => rn g x
 | none => fz1 hp x
theorem z_ptr (s : Site) (v o : Nat) : fz hp g (.ptr s v o) = fzO hp g (.ptr s v o) (g s v) := by
 simp only [fz, fzS]
 cases g s v <;> rfl
theorem z_ept (s : Site) (v k i o : Nat) : fz hp g (.ept s v k i o) = fzO hp g (.ept s v k i o) (g s v) := by
 simp only [fz, fzS]
 cases g s v <;> rfl
theorem z_own (s : Site) (v k o l : Nat) : fz hp g (.own s v k o l) = fzO hp g (.own s v k o l) (g s v) := by
 simp only [fz, fzS]
 cases g s v <;> rfl
theorem z_map (s : Site) (v : Nat) : fz hp g (.map s v) = fzO hp g (.map s v) (g s v) := by
 simp only [fz, fzS]
 cases g s v <;> rfl
theorem zo_some (x : AV) (q : Site × Nat) : fzO hp g x (some q) = rn g x := rfl
theorem zo_none (x : AV) : fzO hp g x none = fz1 hp x := rfl
def fzQ : Option (AV × Hp) → AV
 | some (y, _) => y
 | none => .dead
theorem z1_eq (x : AV) : fz1 hp x = fzQ (pass1 hp x) := by
 unfold fz1
 cases pass1 hp x <;> rfl
theorem zq_some (y : AV) (h : Hp) : fzQ (some (y, h)) = y := rfl
theorem zq_none : fzQ none = .dead := rfl
theorem z_agg (cs : List AV) : fz hp g (.agg cs) = .agg (fzL hp g cs) := rfl
theorem z_tup (cs : List AV) : fz hp g (.tup cs) = .tup (fzL hp g cs) := rfl
theorem z_func (f : FuncId) (cs : List AV) : fz hp g (.func f cs) = .func f (fzL hp g cs) := rfl
theorem z_iface (t : TypeId) (x : AV) : fz hp g (.iface t x) = .iface t (fz hp g x) := rfl
theorem z_val (v : Value) : fz hp g (.val v) = .val v := rfl
theorem z_list (k : Nat) (rows : List (List AV)) : fz hp g (.list k rows) = .list k rows := rfl
theorem z_rop (cs : List AV) : fz hp g (.rop cs) = .rop cs := rfl
theorem z_junk : fz hp g .junk = .junk := rfl
theorem z_dead : fz hp g .dead = .dead := rfl
theorem zl_nil : fzL hp g [] = [] := rfl
theorem zl_cons (x : AV) (xs : List AV) : fzL hp g (x :: xs) = fz hp g x :: fzL hp g xs := rfl
theorem zb_cells (t : TypeId) (cs : List AV) : fzB hp g (.cells t cs) = .cells t (fzL hp g cs) := rfl
theorem zb_rowx (t : TypeId) (k : Nat) (cs : List AV) : fzB hp g (.rowx t k cs) = .rowx t k (fzL hp g cs) := rfl
theorem zb_sem (R : Option (Nat × Nat) → (Nat → Prop) → World → Prop) : fzB hp g (.sem R) = .sem R := rfl
theorem zb_icc (t : TypeId) (cs : List AV) : fzB hp g (.icc t cs) = .icc t cs := rfl
theorem zb_row (t : TypeId) (k : Nat) (q : Option Nat) (rows : List (List AV)) : fzB hp g (.row t k q rows) = .row t k q rows := rfl
theorem zb_ice (k : Nat) (rows : List (List AV)) : fzB hp g (.ice k rows) = .ice k rows := rfl
theorem zb_map (t : MK) (es : List (Value × Value)) : fzB hp g (.map t es) = .map t es := rfl
theorem zb_gone : fzB hp g .gone = .gone := rfl
def outI (m n ver : Nat) : Option Nat → Option (Site × Nat)
 | some j => if ver = n then some (.e (m + j), 1) else none
 | none => none
theorem og_e (m : Nat) (mv : List (Option Site)) (hs' : List (Nat × Blk)) (i ver : Nat) : outG hp m mv hs' (.e i) ver = if i < m ∧ isGone ((hs'[i]?).getD (0, .gone)).2 = false then some (.e i, ver) else none := rfl
theorem og_l (m : Nat) (mv : List (Option Site)) (hs' : List (Nat × Blk)) (i ver : Nat) : outG hp m mv hs' (.l i) ver = outI m (hp.get (.l i)).1 ver (idxO mv (.l i)) := by
 simp only [outG]
 cases idxO mv (.l i) <;> rfl
theorem og_m (m : Nat) (mv : List (Option Site)) (hs' : List (Nat × Blk)) (i j ver : Nat) : outG hp m mv hs' (.m i j) ver = outI m (hp.get (.m i j)).1 ver (idxO mv (.m i j)) := by
 simp only [outG]
 cases idxO mv (.m i j) <;> rfl
theorem oj_some (m n ver j : Nat) : outI m n ver (some j) = if ver = n then some (.e (m + j), 1) else none := rfl
theorem oj_none (m n ver : Nat) : outI m n ver none = none := rfl
theorem io_nil (s : Site) : idxO [] s = none := rfl
theorem io_some (x s : Site) (r : List (Option Site)) : idxO (some x :: r) s = if x = s then some 0 else (idxO r s).map (· + 1) := rfl
theorem io_none (s : Site) (r : List (Option Site)) : idxO (none :: r) s = (idxO r s).map (· + 1) := rfl
theorem he_nil (i : Nat) : hpE i [] = [] := rfl
theorem he_cons (i : Nat) (x : Nat × Blk) (r : List (Nat × Blk)) : hpE i (x :: r) = (.e i, x) :: hpE (i + 1) r := rfl
end
end Go.Proofs.YtonolfpnidaflaaGreatDoor.E

/- The abstract machine of this claim, part N: the set of equations by which a walk is evaluated. No conditions. -/
namespace Go.Proofs.YtonolfpnidaflaaGreatDoor.E
open Go
set_option linter.unusedSimpArgs false
set_option linter.unusedVariables false
set_option linter.unusedSectionVars false
set_option maxRecDepth 20000
theorem wr_i64 {n : Int} (h : -9223372036854775808 ≤ n) (h2 : n ≤ 9223372036854775807) : IntKind.i64.wrap n = n := by
 unfold IntKind.wrap
 simp only [IntKind.bits, IntKind.signed]
 simp
 omega
theorem keep_nil (tm : List (Nat × AV)) : keep [] tm = [] := rfl
theorem keep_cons (i : Nat) (l : List Nat) (tm : List (Nat × AV)) : keep (i :: l) tm = (i, tget tm i) :: keep l tm := rfl
theorem zipT_cons (i : Nat) (l : List Nat) (x : AV) (xs : List AV) : zipT (i :: l) (x :: xs) = (i, x) :: zipT l xs := rfl
theorem zipT_nil (xs : List AV) : zipT [] xs = [] := rfl
/-- The state at the head of a round. -/
def atHead (ids : List Nat) (xs : List AV) (hp : Hp) (n : Nat) : ASt := ⟨zipT ids xs, hp, n⟩
theorem atHead_eq (ids : List Nat) (xs : List AV) (hp : Hp) (n : Nat) : atHead ids xs hp n = ⟨zipT ids xs, hp, n⟩ := rfl
/-- The next round's head. -/
def Nxt {σ : Type} (ids : List Nat) (vals : σ → List AV) (hps : σ → Hp) (inv : σ → Prop) (meas : σ → Nat) (n M : Nat) (st : ASt) : Prop :=
 ∃ m s2, Less st s2 ∧ (∃ s, inv s ∧ m = meas s ∧ s2 = atHead ids (vals s) (hps s) n) ∧ m < M
theorem Nxt.mk {σ : Type} {ids : List Nat} {vals : σ → List AV} {hps : σ → Hp} {inv : σ → Prop} {meas : σ → Nat} {n M : Nat} {tm : List (Nat × AV)} {hp : Hp} (ad : List Site) (s : σ)
  (h : toK ad hp (hps s) tm ids (vals s)) (hh : toH ad hp (hps s)) (hi : inv s) (hm : meas s < M) : Nxt ids vals hps inv meas n M ⟨tm, hp, n⟩ :=
 ⟨_, _, Less.to h hh, ⟨s, hi, rfl, rfl⟩, hm⟩
/-- A loop whose state is told by `s`: what stands in the temporaries `ids`, and the heap. -/
theorem ALoop.st {σ : Type} {W : (Ex → ASt → Prop) → ASt → Prop} {K : Ex → ASt → Prop} {tm : List (Nat × AV)} {hp : Hp} {n : Nat} (ids : List Nat) (vals : σ → List AV) (hps : σ → Hp) (inv : σ → Prop) (meas : σ → Nat) (ad : List Site) (s0 : σ)
  (h : toK ad hp (hps s0) tm ids (vals s0)) (hh : toH ad hp (hps s0)) (hi : inv s0)
  (hr : ∀ s, inv s → W (Ex.then (Nxt ids vals hps inv meas n (meas s)) K) (atHead ids (vals s) (hps s) n)) : ALoop W K ⟨tm, hp, n⟩ := by
 refine ALoop.inv (fun m st => ∃ s, inv s ∧ m = meas s ∧ st = atHead ids (vals s) (hps s) n) (meas s0) (atHead ids (vals s0) (hps s0) n) (Less.to h hh) ⟨s0, hi, rfl, rfl⟩ ?_
 rintro m st ⟨s, hs, rfl, rfl⟩
 exact hr s hs
/-- A loop of some rounds, what comes behind it apart. -/
theorem ALoop.cut {W : (Ex → ASt → Prop) → ASt → Prop} {X : ASt → Prop} {K : Ex → ASt → Prop} {id : Nat} {tm : List (Nat × AV)} {hp : Hp} {m : Nat} (l : List Nat) (n : Nat) (st : ASt)
  (h : ∀ R : ASt → Prop, R st → ALoopN W (Ex.inB id (Ex.then R K)) n ⟨keep l tm, hp, m⟩) (h2 : X st) : ALoop W (Ex.inB id (Ex.then X K)) ⟨tm, hp, m⟩ := ALoop.unrollK l n (h X h2)
section
variable {ad : List Site} {hp G : Hp}
theorem to_dead (x : AV) : toV ad hp G x .dead = True := by cases x <;> simp only [toV]
theorem to_val (u v : Value) : toV ad hp G (.val u) (.val v) = (u = v) := by simp only [toV]
theorem to_int (k k' : IntKind) (a b : Int) : (Value.int k a = Value.int k' b) = (k = k' ∧ a = b) := by simp only [Value.int.injEq]
theorem to_bool (a b : Bool) : (Value.bool a = Value.bool b) = (a = b) := by simp only [Value.bool.injEq]
theorem to_nilown (s : Site) (v k : Nat) : toV ad hp G (.val (.slice none 0 0)) (.own s v k 0 0) = (s ∈ ad ∧ v = (G.get s).1) := by simp only [toV, true_and]
theorem to_nillist (k : Nat) (r : List (List AV)) : toV ad hp G (.val (.slice none 0 0)) (.list k r) = (r = []) := by simp only [toV, and_true]
theorem to_list (k k' : Nat) (r r' : List (List AV)) : toV ad hp G (.list k r) (.list k' r') = (k = k' ∧ r = r') := by simp only [toV]
theorem to_rop (a b : List AV) : toV ad hp G (.rop a) (.rop b) = (a = b) := by simp only [toV]
theorem to_agg (a b : List AV) : toV ad hp G (.agg a) (.agg b) = toL ad hp G a b := by simp only [toV]
theorem to_tup (a b : List AV) : toV ad hp G (.tup a) (.tup b) = toL ad hp G a b := by simp only [toV]
theorem to_func (f g : FuncId) (a b : List AV) : toV ad hp G (.func f a) (.func g b) = (f = g ∧ toL ad hp G a b) := by simp only [toV]
theorem to_iface (t u : TypeId) (a b : AV) : toV ad hp G (.iface t a) (.iface u b) = (t = u ∧ toV ad hp G a b) := by simp only [toV]
theorem to_ptr (s s' : Site) (v v' o o' : Nat) : toV ad hp G (.ptr s v o) (.ptr s' v' o') = (s = s' ∧ toN ad hp G s v v' ∧ o = o') := by simp only [toV]
theorem to_ept (s s' : Site) (v v' k k' i i' o o' : Nat) : toV ad hp G (.ept s v k i o) (.ept s' v' k' i' o') = (s = s' ∧ toN ad hp G s v v' ∧ k = k' ∧ i = i' ∧ o = o') := by simp only [toV]
theorem to_own (s s' : Site) (v v' k k' o o' l l' : Nat) : toV ad hp G (.own s v k o l) (.own s' v' k' o' l') = (s = s' ∧ toN ad hp G s v v' ∧ k = k' ∧ o = o' ∧ l = l') := by simp only [toV]
theorem to_map (s s' : Site) (v v' : Nat) : toV ad hp G (.map s v) (.map s' v') = (s = s' ∧ toN ad hp G s v v') := by simp only [toV]
theorem to_junk : toV ad hp G .junk .junk = True := by simp only [toV]
theorem toL_nil : toL ad hp G [] [] = True := by simp only [toL]
theorem toL_cons (x y : AV) (xs ys : List AV) : toL ad hp G (x :: xs) (y :: ys) = (toV ad hp G x y ∧ toL ad hp G xs ys) := by simp only [toL]
theorem toN_eq (s : Site) (v v' : Nat) : toN ad hp G s v v' = (s ∉ ad ∧ ((v' = v ∧ (G.get s).1 = (hp.get s).1) ∨ (v = (hp.get s).1 ∧ v' = (G.get s).1))) := rfl
theorem tb_gone (x : Blk) : toB ad hp G x .gone = True := by cases x <;> simp only [toB]
theorem tb_cells (t u : TypeId) (a b : List AV) : toB ad hp G (.cells t a) (.cells u b) = (t = u ∧ toL ad hp G a b) := by simp only [toB]
theorem tb_row (t u : TypeId) (k k' : Nat) (q q' : Option Nat) (r r' : List (List AV)) : toB ad hp G (.row t k q r) (.row u k' q' r') = (t = u ∧ k = k' ∧ q = q' ∧ r = r') := by simp only [toB, Blk.row.injEq]
theorem tb_ice (k k' : Nat) (r r' : List (List AV)) : toB ad hp G (.ice k r) (.ice k' r') = (k = k' ∧ r = r') := by simp only [toB, Blk.ice.injEq]
theorem tb_sem (R R' : Option (Nat × Nat) → (Nat → Prop) → World → Prop) : toB ad hp G (.sem R) (.sem R') = (R = R') := by simp only [toB, Blk.sem.injEq]
theorem tb_rowx (t u : TypeId) (k k' : Nat) (a b : List AV) : toB ad hp G (.rowx t k a) (.rowx u k' b) = (t = u ∧ k = k' ∧ toL ad hp G a b) := by simp only [toB]
theorem tb_rx (t u : TypeId) (k k' : Nat) (q : Option Nat) (rows : List (List AV)) (b : List AV) : toB ad hp G (.row t k q rows) (.rowx u k' b) = (t = u ∧ k = k' ∧ toL ad hp G rows.flatten b) := by simp only [toB]
theorem tb_icc (t u : TypeId) (a b : List AV) : toB ad hp G (.icc t a) (.icc u b) = (t = u ∧ a = b) := by simp only [toB, Blk.icc.injEq]
theorem tb_map (t u : MK) (a b : List (Value × Value)) : toB ad hp G (.map t a) (.map u b) = (t = u ∧ a = b) := by simp only [toB, Blk.map.injEq]
def emptyRow : Blk → Prop
 | .row _ k q rows => rows = [] ∧ 0 < k ∧ (q = none ∨ q = some 0)
 | .rowx _ k cs => cs = [] ∧ 0 < k
 | _ => False
theorem er_row (t : TypeId) (k : Nat) (q : Option Nat) (rows : List (List AV)) : emptyRow (.row t k q rows) = (rows = [] ∧ 0 < k ∧ (q = none ∨ q = some 0)) := rfl
theorem er_rowx (t : TypeId) (k : Nat) (cs : List AV) : emptyRow (.rowx t k cs) = (cs = [] ∧ 0 < k) := rfl
theorem ts_l (i : Nat) : toS ad hp G (.l i) = if (.l i) ∈ ad then emptyRow (G.get (.l i)).2 else toB ad hp G (hp.get (.l i)).2 (G.get (.l i)).2 := by
 simp only [toS]
 split
 ·unfold emptyRow; rfl
 ·rfl
theorem ts_m (i j : Nat) : toS ad hp G (.m i j) = if (.m i j) ∈ ad then emptyRow (G.get (.m i j)).2 else toB ad hp G (hp.get (.m i j)).2 (G.get (.m i j)).2 := by
 simp only [toS]
 split
 ·unfold emptyRow; rfl
 ·rfl
theorem ts_e (i : Nat) : toS ad hp G (.e i) = ((G.get (.e i)).1 = (hp.get (.e i)).1 ∧ (.e i) ∉ ad ∧ toB ad hp G (hp.get (.e i)).2 (G.get (.e i)).2) := rfl
theorem toH_eq : toH ad hp G = allS (toS ad hp G) (hp.map (·.1) ++ (G.map (·.1) ++ ad)) := rfl
theorem allS_cons (P : Site → Prop) (s : Site) (l : List Site) : allS P (s :: l) = (P s ∧ allS P l) := rfl
theorem allS_nil (P : Site → Prop) : allS P [] = True := rfl
theorem toK_cons (tm : List (Nat × AV)) (i : Nat) (ids : List Nat) (x : AV) (xs : List AV) : toK ad hp G tm (i :: ids) (x :: xs) = (toV ad hp G (tget tm i) x ∧ toK ad hp G tm ids xs) := rfl
theorem toK_nil (tm : List (Nat × AV)) : toK ad hp G tm [] [] = True := rfl
end
theorem evs : (((((((((type_of% @kp_eq) ∧ (type_of% @kq_eq)) ∧ ((type_of% @kh_eq) ∧ ((type_of% @o_nil) ∧ (type_of% @o_plain)))) ∧ (((type_of% @o_guard) ∧ ((type_of% @s_move) ∧ (type_of% @s_assign))) ∧ ((type_of% @s_pick) ∧ ((type_of% @s_alloc) ∧ (type_of% @s_box))))) ∧ ((((type_of% @s_build) ∧ ((type_of% @s_buildSlice) ∧ (type_of% @s_load))) ∧ ((type_of% @s_store) ∧ ((type_of% @s_nilCheck) ∧ (type_of% @s_bin)))) ∧ (((type_of% @s_un) ∧ ((type_of% @s_conv) ∧ (type_of% @s_iface))) ∧ ((type_of% @s_func) ∧ ((type_of% @s_make) ∧ (type_of% @s_slice)))))) ∧ (((((type_of% @s_fieldAddr) ∧ (type_of% @s_indexAddr)) ∧ ((type_of% @s_index) ∧ ((type_of% @s_extract) ∧ (type_of% @s_call)))) ∧ (((type_of% @c_func) ∧ ((type_of% @fn_eq) ∧ (type_of% @s_len))) ∧ ((type_of% @s_append) ∧ ((type_of% @s_max) ∧ (type_of% @s_min))))) ∧ ((((type_of% @pick_eq) ∧ ((type_of% @b_shl) ∧ (type_of% @b_shr))) ∧ ((type_of% @b_add) ∧ ((type_of% @b_sub) ∧ (type_of% @b_mul)))) ∧ (((type_of% @b_quo) ∧ ((type_of% @b_rem) ∧ (type_of% @b_and))) ∧ ((type_of% @b_or) ∧ ((type_of% @b_xor) ∧ (type_of% @b_andNot))))))) ∧ ((((((type_of% @b_eql) ∧ (type_of% @b_neq)) ∧ ((type_of% @b_lss) ∧ ((type_of% @b_leq) ∧ (type_of% @b_gtr)))) ∧ (((type_of% @b_geq) ∧ ((type_of% @b_str) ∧ (type_of% @b_beql))) ∧ ((type_of% @b_bneq) ∧ ((type_of% @t_add) ∧ (type_of% @t_eql))))) ∧ ((((type_of% @t_neq) ∧ ((type_of% @t_lss) ∧ (type_of% @t_leq))) ∧ ((type_of% @t_gtr) ∧ ((type_of% @t_geq) ∧ (type_of% @u_not)))) ∧ (((type_of% @u_neg) ∧ ((type_of% @u_xor) ∧ (type_of% @v_int))) ∧ ((type_of% @v_int_some) ∧ ((type_of% @v_str) ∧ (type_of% @v_own)))))) ∧ (((((type_of% @v_row) ∧ (type_of% @i_eq)) ∧ ((type_of% @f_eq) ∧ ((type_of% @mx_eq) ∧ (type_of% @mn_eq)))) ∧ (((type_of% @nc_rop) ∧ ((type_of% @nc_ptr) ∧ (type_of% @nc_ept))) ∧ ((type_of% @nc_func) ∧ ((type_of% @ln_str) ∧ (type_of% @ln_list))))) ∧ ((((type_of% @ln_nil) ∧ ((type_of% @ln_own) ∧ (type_of% @l1_eq))) ∧ ((type_of% @l1_agg) ∧ ((type_of% @l1_one) ∧ (type_of% @ld_rop)))) ∧ (((type_of% @ld_ptr) ∧ ((type_of% @ld_ept) ∧ (type_of% @lp_cells))) ∧ ((type_of% @le_row) ∧ ((type_of% @fa_eq) ∧ (type_of% @fa_rop)))))))) ∧ (((((((type_of% @fa_ptr) ∧ (type_of% @fa_ept)) ∧ ((type_of% @ia_list) ∧ ((type_of% @ia_own) ∧ (type_of% @io_row)))) ∧ (((type_of% @io_ice) ∧ ((type_of% @ix_str) ∧ (type_of% @ex_tup))) ∧ ((type_of% @sl_nl) ∧ ((type_of% @sln) ∧ (type_of% @nl_nil))))) ∧ ((((type_of% @nl_cons) ∧ ((type_of% @nv_agg) ∧ (type_of% @nc_nil))) ∧ ((type_of% @nc_none) ∧ ((type_of% @nc_some) ∧ (type_of% @n1_nil)))) ∧ (((type_of% @n1_list) ∧ ((type_of% @nv_val) ∧ (type_of% @nv_rop))) ∧ ((type_of% @nv_list) ∧ ((type_of% @nv_nil) ∧ (type_of% @nv_func)))))) ∧ (((((type_of% @bfz_some) ∧ (type_of% @sf_ptr)) ∧ ((type_of% @sf_ept) ∧ ((type_of% @se_some) ∧ (type_of% @zip_cons)))) ∧ (((type_of% @zip_nil) ∧ ((type_of% @stK_ept) ∧ (type_of% @stK_ptr))) ∧ ((type_of% @sl_str) ∧ ((type_of% @sl_list) ∧ (type_of% @sl_own))))) ∧ ((((type_of% @sls) ∧ ((type_of% @sll) ∧ (type_of% @slo))) ∧ ((type_of% @bd_eq) ∧ ((type_of% @bd_some) ∧ (type_of% @bf_some)))) ∧ (((type_of% @fl_nil) ∧ ((type_of% @fl_cons) ∧ (type_of% @fl_some))) ∧ ((type_of% @cs_agg) ∧ ((type_of% @cs_val) ∧ (type_of% @cs_list))))))) ∧ ((((((type_of% @cs_rop) ∧ (type_of% @cs_func)) ∧ ((type_of% @cs_iface) ∧ ((type_of% @cs_own) ∧ (type_of% @cs_ptr)))) ∧ (((type_of% @one_int) ∧ ((type_of% @one_bool) ∧ (type_of% @one_str))) ∧ ((type_of% @one_slice) ∧ ((type_of% @one_ptr) ∧ (type_of% @al_eq))))) ∧ ((((type_of% @bx_eq) ∧ ((type_of% @al_some) ∧ (type_of% @st_eq))) ∧ ((type_of% @st_ptr) ∧ ((type_of% @st_ept) ∧ (type_of% @sp_cells)))) ∧ (((type_of% @se_row) ∧ ((type_of% @bs_eq) ∧ (type_of% @bs_some))) ∧ ((type_of% @br_some) ∧ ((type_of% @fr_nil) ∧ (type_of% @fr_cons)))))) ∧ (((((type_of% @fr_some) ∧ ((type_of% @free_val) ∧ (type_of% @free_list))) ∧ ((type_of% @mk_eq) ∧ ((type_of% @mk_some) ∧ (type_of% @ap_zero)))) ∧ (((type_of% @a3_some) ∧ ((type_of% @ap_str) ∧ (type_of% @a4_some))) ∧ ((type_of% @ap_eq) ∧ ((type_of% @a2_some) ∧ (type_of% @ap_nil))))) ∧ ((((type_of% @ap_own) ∧ ((type_of% @ao_row) ∧ (type_of% @r_list))) ∧ ((type_of% @r_nil) ∧ ((type_of% @r_own) ∧ (type_of% @ro_row)))) ∧ (((type_of% @ro_ice) ∧ ((type_of% @p_own) ∧ (type_of% @po_row))) ∧ ((type_of% @po_ice) ∧ ((type_of% @p_val) ∧ (type_of% @p_list))))))))) ∧ ((((((((type_of% @p_rop) ∧ (type_of% @pc_nil)) ∧ ((type_of% @pc_cons) ∧ ((type_of% @pcA_some) ∧ (type_of% @pcB_some)))) ∧ (((type_of% @pl_nil) ∧ ((type_of% @pl_cons) ∧ (type_of% @plA_some))) ∧ ((type_of% @pa_agg) ∧ ((type_of% @pa_func) ∧ (type_of% @pgA_some))))) ∧ ((((type_of% @pgF_some) ∧ ((type_of% @pa_val) ∧ (type_of% @pa_list))) ∧ ((type_of% @pa_rop) ∧ ((type_of% @pa_own) ∧ (type_of% @w_skip)))) ∧ (((type_of% @w_region) ∧ ((type_of% @w_seq) ∧ (type_of% @w_cond))) ∧ ((type_of% @w_block) ∧ ((type_of% @w_loop) ∧ (type_of% @w_exit)))))) ∧ (((((type_of% @w_ret) ∧ (type_of% @x_then_n)) ∧ ((type_of% @x_then_e) ∧ ((type_of% @x_then_r) ∧ (type_of% @x_in_n)))) ∧ (((type_of% @x_in_e) ∧ ((type_of% @x_in_r) ∧ (type_of% @d_cond))) ∧ ((type_of% @e_end_n) ∧ ((type_of% @e_end_r) ∧ (type_of% @fin_eq))))) ∧ ((((type_of% @fr_end) ∧ ((type_of% @fr_tmp) ∧ (type_of% @fr_cell))) ∧ ((type_of% @kf_eq) ∧ ((type_of% @fp_some) ∧ (type_of% @rt_one)))) ∧ (((type_of% @rt_two) ∧ ((type_of% @put_eq) ∧ (type_of% @b_aeql))) ∧ ((type_of% @b_aneq) ∧ ((type_of% @aq_some) ∧ (type_of% @kb_eq))))))) ∧ ((((((type_of% @kn_eq) ∧ (type_of% @ek_i)) ∧ ((type_of% @ek_b) ∧ ((type_of% @ek_s) ∧ (type_of% @eqA_i)))) ∧ (((type_of% @eqA_b) ∧ ((type_of% @eqA_s) ∧ (type_of% @eqA_n))) ∧ ((type_of% @ln_suc) ∧ ((type_of% @wr_i64) ∧ (type_of% @ag_t))))) ∧ ((((type_of% @ag_f) ∧ ((type_of% @ag_tup) ∧ (type_of% @keep_nil))) ∧ ((type_of% @zipT_cons) ∧ ((type_of% @zipT_nil) ∧ (type_of% @atHead_eq)))) ∧ (((type_of% @keep_cons) ∧ ((type_of% @nilC_tmp) ∧ (type_of% @nilC_int))) ∧ ((type_of% @nilC_bool) ∧ ((type_of% @nilC_str) ∧ (type_of% @nilC_agg)))))) ∧ (((((type_of% @nilC_slice) ∧ ((type_of% @nilC_ptr) ∧ (type_of% @nilC_map))) ∧ ((type_of% @nilC_func) ∧ ((type_of% @nilC_iface) ∧ (type_of% @s_field)))) ∧ (((type_of% @s_lookup) ∧ ((type_of% @s_mapUpdate) ∧ (type_of% @s_makeMap))) ∧ ((type_of% @s_copy) ∧ ((type_of% @s_clear) ∧ (type_of% @s_cap))))) ∧ ((((type_of% @lp_icc) ∧ ((type_of% @le_ice) ∧ (type_of% @rl_row))) ∧ ((type_of% @rl_ice) ∧ ((type_of% @cs_ept) ∧ (type_of% @cs_map)))) ∧ (((type_of% @cs_junk) ∧ ((type_of% @one_nilI) ∧ (type_of% @one_nilF))) ∧ ((type_of% @one_map) ∧ ((type_of% @aq_none) ∧ (type_of% @aq_cap)))))))) ∧ (((((((type_of% @p_ptr) ∧ (type_of% @pp_cells)) ∧ ((type_of% @pp_icc) ∧ ((type_of% @p_junk) ∧ (type_of% @p_ept)))) ∧ (((type_of% @p_map) ∧ ((type_of% @pa_ptr) ∧ (type_of% @pa_junk))) ∧ ((type_of% @pa_ept) ∧ ((type_of% @pa_map) ∧ (type_of% @plA_none))))) ∧ ((((type_of% @pcA_none) ∧ ((type_of% @pcB_none) ∧ (type_of% @pgA_none))) ∧ ((type_of% @pgF_none) ∧ ((type_of% @w_regionD) ∧ (type_of% @rt_nil)))) ∧ (((type_of% @fv_eq) ∧ ((type_of% @ft_some) ∧ (type_of% @fv_agg))) ∧ ((type_of% @fv_one) ∧ ((type_of% @lk_eq) ∧ (type_of% @lk_some)))))) ∧ (((((type_of% @lk1_f) ∧ (type_of% @lk1_t)) ∧ ((type_of% @ki_i) ∧ ((type_of% @ki_s) ∧ (type_of% @mu_eq)))) ∧ (((type_of% @mu_some) ∧ ((type_of% @mm_eq) ∧ (type_of% @mm_some))) ∧ ((type_of% @nl_eql) ∧ ((type_of% @nl_neq) ∧ (type_of% @nk_some))))) ∧ ((((type_of% @ni_eb) ∧ ((type_of% @ni_nb) ∧ (type_of% @ni_ep))) ∧ ((type_of% @ni_np) ∧ ((type_of% @nil_sl) ∧ (type_of% @nil_so)))) ∧ (((type_of% @nil_sv) ∧ ((type_of% @nil_pp) ∧ (type_of% @nil_pe))) ∧ ((type_of% @nil_pr) ∧ ((type_of% @nil_pv) ∧ (type_of% @nil_mm))))))) ∧ ((((((type_of% @nil_mv) ∧ (type_of% @nil_ff)) ∧ ((type_of% @nil_fv) ∧ ((type_of% @nil_ii) ∧ (type_of% @nil_iv)))) ∧ (((type_of% @nv_s) ∧ ((type_of% @nv_p) ∧ (type_of% @nv_m))) ∧ ((type_of% @nv_f) ∧ ((type_of% @nv_i) ∧ (type_of% @cp_eq))))) ∧ ((((type_of% @cp_some) ∧ ((type_of% @cl_eq) ∧ (type_of% @cl_some))) ∧ ((type_of% @ca_own) ∧ ((type_of% @ca_nil) ∧ (type_of% @ca_list)))) ∧ (((type_of% @ca_row) ∧ ((type_of% @ca_some) ∧ (type_of% @ca_none))) ∧ ((type_of% @af_eq) ∧ ((type_of% @af_nil) ∧ (type_of% @af_data)))))) ∧ (((((type_of% @af_chain) ∧ ((type_of% @af_guard) ∧ (type_of% @af_phase))) ∧ ((type_of% @af_text) ∧ ((type_of% @af_gc) ∧ (type_of% @kd_eq)))) ∧ (((type_of% @gd_eq) ∧ ((type_of% @dr_nil) ∧ (type_of% @dr_plain))) ∧ ((type_of% @dr_guard) ∧ ((type_of% @agd_t) ∧ (type_of% @agd_f))))) ∧ ((((type_of% @agd_tup) ∧ ((type_of% @dk_nil) ∧ (type_of% @dk_cons))) ∧ ((type_of% @q_nil) ∧ ((type_of% @q_cons) ∧ (type_of% @cw_nil)))) ∧ (((type_of% @cw_cons) ∧ ((type_of% @cv_nil) ∧ (type_of% @cv_cons))) ∧ ((type_of% @ik_eq) ∧ ((type_of% @oi_move) ∧ (type_of% @oi_assign)))))))))) ∧ (((((((((type_of% @oi_pick) ∧ (type_of% @oi_alloc)) ∧ ((type_of% @oi_box) ∧ ((type_of% @oi_build) ∧ (type_of% @oi_buildSlice)))) ∧ (((type_of% @oi_load) ∧ ((type_of% @oi_store) ∧ (type_of% @oi_nilCheck))) ∧ ((type_of% @oi_bin) ∧ ((type_of% @oi_un) ∧ (type_of% @oi_conv))))) ∧ ((((type_of% @oi_iface) ∧ ((type_of% @oi_func) ∧ (type_of% @oi_make))) ∧ ((type_of% @oi_makeMap) ∧ ((type_of% @oi_slice00) ∧ (type_of% @oi_slice10)))) ∧ (((type_of% @oi_slice01) ∧ ((type_of% @oi_slice11) ∧ (type_of% @oi_fieldAddr))) ∧ ((type_of% @oi_field) ∧ ((type_of% @oi_indexAddr) ∧ (type_of% @oi_index)))))) ∧ (((((type_of% @oi_lookup) ∧ (type_of% @oi_mapUpdate)) ∧ ((type_of% @oi_extract) ∧ ((type_of% @oi_blt) ∧ (type_of% @oi_call)))) ∧ (((type_of% @ck_func) ∧ ((type_of% @cd_eq) ∧ (type_of% @rch_suc))) ∧ ((type_of% @rch_zero) ∧ ((type_of% @oo_move) ∧ (type_of% @oo_assign))))) ∧ ((((type_of% @oo_pick) ∧ ((type_of% @oo_alloc) ∧ (type_of% @oo_box))) ∧ ((type_of% @oo_build) ∧ ((type_of% @oo_buildSlice) ∧ (type_of% @oo_load)))) ∧ (((type_of% @oo_store) ∧ ((type_of% @oo_nilCheck) ∧ (type_of% @oo_bin))) ∧ ((type_of% @oo_un) ∧ ((type_of% @oo_conv) ∧ (type_of% @oo_iface))))))) ∧ ((((((type_of% @oo_func) ∧ (type_of% @oo_make)) ∧ ((type_of% @oo_makeMap) ∧ ((type_of% @oo_slice) ∧ (type_of% @oo_fieldAddr)))) ∧ (((type_of% @oo_field) ∧ ((type_of% @oo_indexAddr) ∧ (type_of% @oo_index))) ∧ ((type_of% @oo_lookup) ∧ ((type_of% @oo_mapUpdate) ∧ (type_of% @oo_extract))))) ∧ ((((type_of% @oo_len) ∧ ((type_of% @oo_cap) ∧ (type_of% @oo_max))) ∧ ((type_of% @oo_min) ∧ ((type_of% @oo_append) ∧ (type_of% @oo_copy)))) ∧ (((type_of% @oo_clear) ∧ ((type_of% @oo_call) ∧ (type_of% @ot_move))) ∧ ((type_of% @ot_assign) ∧ ((type_of% @ot_pick) ∧ (type_of% @ot_alloc)))))) ∧ (((((type_of% @ot_box) ∧ (type_of% @ot_build)) ∧ ((type_of% @ot_buildSlice) ∧ ((type_of% @ot_load) ∧ (type_of% @ot_store)))) ∧ (((type_of% @ot_nilCheck) ∧ ((type_of% @ot_bin) ∧ (type_of% @ot_un))) ∧ ((type_of% @ot_conv) ∧ ((type_of% @ot_iface) ∧ (type_of% @ot_func))))) ∧ ((((type_of% @ot_make) ∧ ((type_of% @ot_makeMap) ∧ (type_of% @ot_slice))) ∧ ((type_of% @ot_fieldAddr) ∧ ((type_of% @ot_field) ∧ (type_of% @ot_indexAddr)))) ∧ (((type_of% @ot_index) ∧ ((type_of% @ot_lookup) ∧ (type_of% @ot_mapUpdate))) ∧ ((type_of% @ot_extract) ∧ ((type_of% @ot_len) ∧ (type_of% @ot_append)))))))) ∧ (((((((type_of% @ot_copy) ∧ (type_of% @ot_clear)) ∧ ((type_of% @ot_max) ∧ ((type_of% @ot_min) ∧ (type_of% @ot_call)))) ∧ (((type_of% @nd_eq) ∧ ((type_of% @nd_some) ∧ (type_of% @nd_yes))) ∧ ((type_of% @st_ptr') ∧ ((type_of% @st_ept') ∧ (type_of% @st_own))))) ∧ ((((type_of% @st_map) ∧ ((type_of% @st_agg) ∧ (type_of% @st_tup))) ∧ ((type_of% @st_func) ∧ ((type_of% @st_iface) ∧ (type_of% @st_val)))) ∧ (((type_of% @st_list) ∧ ((type_of% @st_rop) ∧ (type_of% @st_junk))) ∧ ((type_of% @st_dead) ∧ ((type_of% @sl_nil) ∧ (type_of% @sl_cons)))))) ∧ (((((type_of% @sb_cells) ∧ (type_of% @sb_icc)) ∧ ((type_of% @sb_row) ∧ ((type_of% @sb_ice) ∧ (type_of% @sb_map)))) ∧ (((type_of% @sb_gone) ∧ ((type_of% @key_e) ∧ (type_of% @key_l))) ∧ ((type_of% @key_m) ∧ ((type_of% @nodup_nil) ∧ (type_of% @nodup_cons))))) ∧ ((((type_of% @mb_nil) ∧ ((type_of% @mb_cons) ∧ (type_of% @rb_cells))) ∧ ((type_of% @rb_icc) ∧ ((type_of% @rb_row) ∧ (type_of% @rb_ice)))) ∧ (((type_of% @rb_map) ∧ ((type_of% @rb_gone) ∧ (type_of% @ub_cells))) ∧ ((type_of% @ub_row) ∧ ((type_of% @ub_ice) ∧ (type_of% @ub_icc))))))) ∧ ((((((type_of% @ub_map) ∧ (type_of% @n_ptr)) ∧ ((type_of% @n_ept) ∧ ((type_of% @n_own) ∧ (type_of% @n_map)))) ∧ (((type_of% @mk_ptr) ∧ ((type_of% @mk_ept) ∧ (type_of% @mk_own))) ∧ ((type_of% @mk_map) ∧ ((type_of% @mk_ptr0) ∧ (type_of% @mk_ept0))))) ∧ ((((type_of% @mk_own0) ∧ ((type_of% @mk_map0) ∧ (type_of% @n_agg))) ∧ ((type_of% @n_tup) ∧ ((type_of% @n_func) ∧ (type_of% @n_iface)))) ∧ (((type_of% @n_val) ∧ ((type_of% @n_list) ∧ (type_of% @n_rop))) ∧ ((type_of% @n_junk) ∧ ((type_of% @n_dead) ∧ (type_of% @nL_nil)))))) ∧ (((((type_of% @nL_cons) ∧ ((type_of% @dn_eq) ∧ (type_of% @dn_some))) ∧ ((type_of% @dn_none) ∧ ((type_of% @idx_nil) ∧ (type_of% @idx_cons)))) ∧ (((type_of% @up_e) ∧ ((type_of% @up_some) ∧ (type_of% @up_l))) ∧ ((type_of% @up_m) ∧ ((type_of% @hu_nil) ∧ (type_of% @hu_gone))))) ∧ ((((type_of% @hu_cons) ∧ ((type_of% @eh_n) ∧ (type_of% @eh_r))) ∧ ((type_of% @fh_end) ∧ ((type_of% @fh_tmp) ∧ (type_of% @fh_cell)))) ∧ (((type_of% @kfh_eq) ∧ ((type_of% @fa_all) ∧ (type_of% @mo_nil))) ∧ ((type_of% @mo_some) ∧ ((type_of% @mo_none) ∧ (type_of% @ie_e))))))))) ∧ ((((((((type_of% @ie_l) ∧ (type_of% @ie_m)) ∧ ((type_of% @rh_one) ∧ ((type_of% @rh_nil) ∧ (type_of% @rh_two)))) ∧ (((type_of% @fe_zero) ∧ ((type_of% @fe_suc) ∧ (type_of% @fm_nil))) ∧ ((type_of% @fm_some) ∧ ((type_of% @fm_none) ∧ (type_of% @gone_g))))) ∧ ((((type_of% @gone_c) ∧ ((type_of% @gone_i) ∧ (type_of% @gone_r))) ∧ ((type_of% @gone_e) ∧ ((type_of% @gone_m) ∧ (type_of% @cb_cells)))) ∧ (((type_of% @cb_row) ∧ ((type_of% @cb_map) ∧ (type_of% @cb_ice))) ∧ ((type_of% @cb_icc) ∧ ((type_of% @cl_nil) ∧ (type_of% @cl_cons)))))) ∧ (((((type_of% @cc_nil) ∧ (type_of% @cc_cons)) ∧ ((type_of% @nb_eq) ∧ ((type_of% @cn_own) ∧ (type_of% @z_ptr)))) ∧ (((type_of% @z_ept) ∧ ((type_of% @z_own) ∧ (type_of% @z_map))) ∧ ((type_of% @zo_some) ∧ ((type_of% @zo_none) ∧ (type_of% @z1_eq))))) ∧ ((((type_of% @zq_some) ∧ ((type_of% @zq_none) ∧ (type_of% @z_agg))) ∧ ((type_of% @z_tup) ∧ ((type_of% @z_func) ∧ (type_of% @z_iface)))) ∧ (((type_of% @z_val) ∧ ((type_of% @z_list) ∧ (type_of% @z_rop))) ∧ ((type_of% @z_junk) ∧ ((type_of% @z_dead) ∧ (type_of% @zl_nil))))))) ∧ ((((((type_of% @zl_cons) ∧ (type_of% @zb_cells)) ∧ ((type_of% @zb_icc) ∧ ((type_of% @zb_row) ∧ (type_of% @zb_ice)))) ∧ (((type_of% @zb_map) ∧ ((type_of% @zb_gone) ∧ (type_of% @og_e))) ∧ ((type_of% @og_l) ∧ ((type_of% @og_m) ∧ (type_of% @oj_some))))) ∧ ((((type_of% @oj_none) ∧ ((type_of% @io_nil) ∧ (type_of% @io_some))) ∧ ((type_of% @io_none) ∧ ((type_of% @he_nil) ∧ (type_of% @he_cons)))) ∧ (((type_of% @free_rop) ∧ ((type_of% @free_junk) ∧ (type_of% @free_own))) ∧ ((type_of% @free_ptr) ∧ ((type_of% @to_dead) ∧ (type_of% @to_val)))))) ∧ (((((type_of% @to_int) ∧ ((type_of% @to_bool) ∧ (type_of% @to_nilown))) ∧ ((type_of% @to_nillist) ∧ ((type_of% @to_list) ∧ (type_of% @to_rop)))) ∧ (((type_of% @to_agg) ∧ ((type_of% @to_tup) ∧ (type_of% @to_func))) ∧ ((type_of% @to_iface) ∧ ((type_of% @to_ptr) ∧ (type_of% @to_ept))))) ∧ ((((type_of% @to_own) ∧ ((type_of% @to_map) ∧ (type_of% @to_junk))) ∧ ((type_of% @toL_nil) ∧ ((type_of% @toL_cons) ∧ (type_of% @toN_eq)))) ∧ (((type_of% @tb_gone) ∧ ((type_of% @tb_cells) ∧ (type_of% @tb_row))) ∧ ((type_of% @tb_ice) ∧ ((type_of% @tb_icc) ∧ (type_of% @tb_map)))))))) ∧ (((((((type_of% @er_row) ∧ (type_of% @ts_l)) ∧ ((type_of% @ts_m) ∧ ((type_of% @ts_e) ∧ (type_of% @toH_eq)))) ∧ (((type_of% @allS_cons) ∧ ((type_of% @allS_nil) ∧ (type_of% @toK_cons))) ∧ ((type_of% @toK_nil) ∧ ((type_of% @io_cells) ∧ (type_of% @cb_rc))))) ∧ ((((type_of% @lp_rowx) ∧ ((type_of% @io_rowx) ∧ (type_of% @sp_rowx))) ∧ ((type_of% @sb_rowx) ∧ ((type_of% @rb_rowx) ∧ (type_of% @ub_rowx)))) ∧ (((type_of% @gone_x) ∧ ((type_of% @cb_rowx) ∧ (type_of% @zb_rowx))) ∧ ((type_of% @tb_rowx) ∧ ((type_of% @ub_rx) ∧ (type_of% @cb_rx)))))) ∧ (((((type_of% @tb_rx) ∧ (type_of% @er_rowx)) ∧ ((type_of% @sb_sem) ∧ ((type_of% @rb_sem) ∧ (type_of% @ub_sem)))) ∧ (((type_of% @ub_xr) ∧ ((type_of% @gone_sem) ∧ (type_of% @cb_sem))) ∧ ((type_of% @zb_sem) ∧ ((type_of% @tb_sem) ∧ (type_of% @Nat.le_refl))))) ∧ ((((type_of% @Int.toNat_natCast) ∧ ((type_of% @Int.natCast_nonneg) ∧ (type_of% @and_true))) ∧ ((type_of% @true_and) ∧ ((type_of% @and_self) ∧ (type_of% @true_implies)))) ∧ (((type_of% @false_implies) ∧ ((type_of% @Nat.zero_add) ∧ (type_of% @Nat.add_zero))) ∧ ((type_of% @decide_eq_true_eq) ∧ ((type_of% @decide_eq_false_iff_not) ∧ (type_of% @Bool.and_self))))))) ∧ ((((((type_of% @Bool.and_true) ∧ (type_of% @Bool.true_and)) ∧ ((type_of% @not_false_eq_true) ∧ ((type_of% @Bool.not_true) ∧ (type_of% @Bool.not_false)))) ∧ (((type_of% @not_true_eq_false) ∧ ((type_of% @false_and) ∧ (type_of% @and_false))) ∧ ((type_of% @or_false) ∧ ((type_of% @false_or) ∧ (type_of% @List.toList_toArray.{0}))))) ∧ ((((type_of% @List.take_succ_cons.{0}) ∧ ((type_of% @List.take_zero.{0}) ∧ (type_of% @List.drop_succ_cons.{0}))) ∧ ((type_of% @List.drop_zero.{0}) ∧ ((type_of% @List.take_nil.{0}) ∧ (type_of% @List.drop_nil.{0})))) ∧ (((type_of% @List.nil_append.{0}) ∧ ((type_of% @List.cons_append.{0}) ∧ (type_of% @List.append_nil.{0}))) ∧ ((type_of% @List.length_cons.{0}) ∧ ((type_of% @List.length_nil.{0}) ∧ (type_of% @List.length_append.{0})))))) ∧ (((((type_of% @List.prefix_rfl.{0}) ∧ ((type_of% @List.getElem?_cons_succ.{0}) ∧ (type_of% @List.getElem?_cons_zero.{0}))) ∧ ((type_of% @List.getElem?_nil.{0}) ∧ ((type_of% @List.set_cons_zero.{0}) ∧ (type_of% @List.set_cons_succ.{0})))) ∧ (((type_of% @List.replicate_succ.{0}) ∧ ((type_of% @List.replicate_zero.{0}) ∧ (type_of% @List.all_cons.{0}))) ∧ ((type_of% @List.all_nil.{0}) ∧ ((type_of% @List.reverse_cons.{0}) ∧ (type_of% @List.reverse_nil.{0}))))) ∧ ((((type_of% @Option.some.injEq.{0}) ∧ ((type_of% @Option.isSome_some.{0}) ∧ (type_of% @List.flatMap_nil.{0, 0}))) ∧ ((type_of% @List.flatMap_cons.{0, 0}) ∧ ((type_of% @List.getElem?_map.{0, 0}) ∧ (type_of% @List.map_cons.{0, 0})))) ∧ (((type_of% @List.map_nil.{0, 0}) ∧ ((type_of% @List.length_map.{0, 0}) ∧ (type_of% @Option.map_some.{0, 0}))) ∧ ((type_of% @Option.map_none.{0, 0}) ∧ ((type_of% @Option.bind_some.{0, 0}) ∧ (type_of% @Option.bind_none.{0, 0})))))))))) := ⟨⟨⟨⟨⟨⟨⟨⟨⟨@kp_eq, @kq_eq⟩, ⟨@kh_eq, ⟨@o_nil, @o_plain⟩⟩⟩, ⟨⟨@o_guard, ⟨@s_move, @s_assign⟩⟩, ⟨@s_pick, ⟨@s_alloc, @s_box⟩⟩⟩⟩, ⟨⟨⟨@s_build, ⟨@s_buildSlice, @s_load⟩⟩, ⟨@s_store, ⟨@s_nilCheck, @s_bin⟩⟩⟩, ⟨⟨@s_un, ⟨@s_conv, @s_iface⟩⟩, ⟨@s_func, ⟨@s_make, @s_slice⟩⟩⟩⟩⟩, ⟨⟨⟨⟨@s_fieldAddr, @s_indexAddr⟩, ⟨@s_index, ⟨@s_extract, @s_call⟩⟩⟩, ⟨⟨@c_func, ⟨@fn_eq, @s_len⟩⟩, ⟨@s_append, ⟨@s_max, @s_min⟩⟩⟩⟩, ⟨⟨⟨@pick_eq, ⟨@b_shl, @b_shr⟩⟩, ⟨@b_add, ⟨@b_sub, @b_mul⟩⟩⟩, ⟨⟨@b_quo, ⟨@b_rem, @b_and⟩⟩, ⟨@b_or, ⟨@b_xor, @b_andNot⟩⟩⟩⟩⟩⟩, ⟨⟨⟨⟨⟨@b_eql, @b_neq⟩, ⟨@b_lss, ⟨@b_leq, @b_gtr⟩⟩⟩, ⟨⟨@b_geq, ⟨@b_str, @b_beql⟩⟩, ⟨@b_bneq, ⟨@t_add, @t_eql⟩⟩⟩⟩, ⟨⟨⟨@t_neq, ⟨@t_lss, @t_leq⟩⟩, ⟨@t_gtr, ⟨@t_geq, @u_not⟩⟩⟩, ⟨⟨@u_neg, ⟨@u_xor, @v_int⟩⟩, ⟨@v_int_some, ⟨@v_str, @v_own⟩⟩⟩⟩⟩, ⟨⟨⟨⟨@v_row, @i_eq⟩, ⟨@f_eq, ⟨@mx_eq, @mn_eq⟩⟩⟩, ⟨⟨@nc_rop, ⟨@nc_ptr, @nc_ept⟩⟩, ⟨@nc_func, ⟨@ln_str, @ln_list⟩⟩⟩⟩, ⟨⟨⟨@ln_nil, ⟨@ln_own, @l1_eq⟩⟩, ⟨@l1_agg, ⟨@l1_one, @ld_rop⟩⟩⟩, ⟨⟨@ld_ptr, ⟨@ld_ept, @lp_cells⟩⟩, ⟨@le_row, ⟨@fa_eq, @fa_rop⟩⟩⟩⟩⟩⟩⟩, ⟨⟨⟨⟨⟨⟨@fa_ptr, @fa_ept⟩, ⟨@ia_list, ⟨@ia_own, @io_row⟩⟩⟩, ⟨⟨@io_ice, ⟨@ix_str, @ex_tup⟩⟩, ⟨@sl_nl, ⟨@sln, @nl_nil⟩⟩⟩⟩, ⟨⟨⟨@nl_cons, ⟨@nv_agg, @nc_nil⟩⟩, ⟨@nc_none, ⟨@nc_some, @n1_nil⟩⟩⟩, ⟨⟨@n1_list, ⟨@nv_val, @nv_rop⟩⟩, ⟨@nv_list, ⟨@nv_nil, @nv_func⟩⟩⟩⟩⟩, ⟨⟨⟨⟨@bfz_some, @sf_ptr⟩, ⟨@sf_ept, ⟨@se_some, @zip_cons⟩⟩⟩, ⟨⟨@zip_nil, ⟨@stK_ept, @stK_ptr⟩⟩, ⟨@sl_str, ⟨@sl_list, @sl_own⟩⟩⟩⟩, ⟨⟨⟨@sls, ⟨@sll, @slo⟩⟩, ⟨@bd_eq, ⟨@bd_some, @bf_some⟩⟩⟩, ⟨⟨@fl_nil, ⟨@fl_cons, @fl_some⟩⟩, ⟨@cs_agg, ⟨@cs_val, @cs_list⟩⟩⟩⟩⟩⟩, ⟨⟨⟨⟨⟨@cs_rop, @cs_func⟩, ⟨@cs_iface, ⟨@cs_own, @cs_ptr⟩⟩⟩, ⟨⟨@one_int, ⟨@one_bool, @one_str⟩⟩, ⟨@one_slice, ⟨@one_ptr, @al_eq⟩⟩⟩⟩, ⟨⟨⟨@bx_eq, ⟨@al_some, @st_eq⟩⟩, ⟨@st_ptr, ⟨@st_ept, @sp_cells⟩⟩⟩, ⟨⟨@se_row, ⟨@bs_eq, @bs_some⟩⟩, ⟨@br_some, ⟨@fr_nil, @fr_cons⟩⟩⟩⟩⟩, ⟨⟨⟨⟨@fr_some, ⟨@free_val, @free_list⟩⟩, ⟨@mk_eq, ⟨@mk_some, @ap_zero⟩⟩⟩, ⟨⟨@a3_some, ⟨@ap_str, @a4_some⟩⟩, ⟨@ap_eq, ⟨@a2_some, @ap_nil⟩⟩⟩⟩, ⟨⟨⟨@ap_own, ⟨@ao_row, @r_list⟩⟩, ⟨@r_nil, ⟨@r_own, @ro_row⟩⟩⟩, ⟨⟨@ro_ice, ⟨@p_own, @po_row⟩⟩, ⟨@po_ice, ⟨@p_val, @p_list⟩⟩⟩⟩⟩⟩⟩⟩, ⟨⟨⟨⟨⟨⟨⟨@p_rop, @pc_nil⟩, ⟨@pc_cons, ⟨@pcA_some, @pcB_some⟩⟩⟩, ⟨⟨@pl_nil, ⟨@pl_cons, @plA_some⟩⟩, ⟨@pa_agg, ⟨@pa_func, @pgA_some⟩⟩⟩⟩, ⟨⟨⟨@pgF_some, ⟨@pa_val, @pa_list⟩⟩, ⟨@pa_rop, ⟨@pa_own, @w_skip⟩⟩⟩, ⟨⟨@w_region, ⟨@w_seq, @w_cond⟩⟩, ⟨@w_block, ⟨@w_loop, @w_exit⟩⟩⟩⟩⟩, ⟨⟨⟨⟨@w_ret, @x_then_n⟩, ⟨@x_then_e, ⟨@x_then_r, @x_in_n⟩⟩⟩, ⟨⟨@x_in_e, ⟨@x_in_r, @d_cond⟩⟩, ⟨@e_end_n, ⟨@e_end_r, @fin_eq⟩⟩⟩⟩, ⟨⟨⟨@fr_end, ⟨@fr_tmp, @fr_cell⟩⟩, ⟨@kf_eq, ⟨@fp_some, @rt_one⟩⟩⟩, ⟨⟨@rt_two, ⟨@put_eq, @b_aeql⟩⟩, ⟨@b_aneq, ⟨@aq_some, @kb_eq⟩⟩⟩⟩⟩⟩, ⟨⟨⟨⟨⟨@kn_eq, @ek_i⟩, ⟨@ek_b, ⟨@ek_s, @eqA_i⟩⟩⟩, ⟨⟨@eqA_b, ⟨@eqA_s, @eqA_n⟩⟩, ⟨@ln_suc, ⟨@wr_i64, @ag_t⟩⟩⟩⟩, ⟨⟨⟨@ag_f, ⟨@ag_tup, @keep_nil⟩⟩, ⟨@zipT_cons, ⟨@zipT_nil, @atHead_eq⟩⟩⟩, ⟨⟨@keep_cons, ⟨@nilC_tmp, @nilC_int⟩⟩, ⟨@nilC_bool, ⟨@nilC_str, @nilC_agg⟩⟩⟩⟩⟩, ⟨⟨⟨⟨@nilC_slice, ⟨@nilC_ptr, @nilC_map⟩⟩, ⟨@nilC_func, ⟨@nilC_iface, @s_field⟩⟩⟩, ⟨⟨@s_lookup, ⟨@s_mapUpdate, @s_makeMap⟩⟩, ⟨@s_copy, ⟨@s_clear, @s_cap⟩⟩⟩⟩, ⟨⟨⟨@lp_icc, ⟨@le_ice, @rl_row⟩⟩, ⟨@rl_ice, ⟨@cs_ept, @cs_map⟩⟩⟩, ⟨⟨@cs_junk, ⟨@one_nilI, @one_nilF⟩⟩, ⟨@one_map, ⟨@aq_none, @aq_cap⟩⟩⟩⟩⟩⟩⟩, ⟨⟨⟨⟨⟨⟨@p_ptr, @pp_cells⟩, ⟨@pp_icc, ⟨@p_junk, @p_ept⟩⟩⟩, ⟨⟨@p_map, ⟨@pa_ptr, @pa_junk⟩⟩, ⟨@pa_ept, ⟨@pa_map, @plA_none⟩⟩⟩⟩, ⟨⟨⟨@pcA_none, ⟨@pcB_none, @pgA_none⟩⟩, ⟨@pgF_none, ⟨@w_regionD, @rt_nil⟩⟩⟩, ⟨⟨@fv_eq, ⟨@ft_some, @fv_agg⟩⟩, ⟨@fv_one, ⟨@lk_eq, @lk_some⟩⟩⟩⟩⟩, ⟨⟨⟨⟨@lk1_f, @lk1_t⟩, ⟨@ki_i, ⟨@ki_s, @mu_eq⟩⟩⟩, ⟨⟨@mu_some, ⟨@mm_eq, @mm_some⟩⟩, ⟨@nl_eql, ⟨@nl_neq, @nk_some⟩⟩⟩⟩, ⟨⟨⟨@ni_eb, ⟨@ni_nb, @ni_ep⟩⟩, ⟨@ni_np, ⟨@nil_sl, @nil_so⟩⟩⟩, ⟨⟨@nil_sv, ⟨@nil_pp, @nil_pe⟩⟩, ⟨@nil_pr, ⟨@nil_pv, @nil_mm⟩⟩⟩⟩⟩⟩, ⟨⟨⟨⟨⟨@nil_mv, @nil_ff⟩, ⟨@nil_fv, ⟨@nil_ii, @nil_iv⟩⟩⟩, ⟨⟨@nv_s, ⟨@nv_p, @nv_m⟩⟩, ⟨@nv_f, ⟨@nv_i, @cp_eq⟩⟩⟩⟩, ⟨⟨⟨@cp_some, ⟨@cl_eq, @cl_some⟩⟩, ⟨@ca_own, ⟨@ca_nil, @ca_list⟩⟩⟩, ⟨⟨@ca_row, ⟨@ca_some, @ca_none⟩⟩, ⟨@af_eq, ⟨@af_nil, @af_data⟩⟩⟩⟩⟩, ⟨⟨⟨⟨@af_chain, ⟨@af_guard, @af_phase⟩⟩, ⟨@af_text, ⟨@af_gc, @kd_eq⟩⟩⟩, ⟨⟨@gd_eq, ⟨@dr_nil, @dr_plain⟩⟩, ⟨@dr_guard, ⟨@agd_t, @agd_f⟩⟩⟩⟩, ⟨⟨⟨@agd_tup, ⟨@dk_nil, @dk_cons⟩⟩, ⟨@q_nil, ⟨@q_cons, @cw_nil⟩⟩⟩, ⟨⟨@cw_cons, ⟨@cv_nil, @cv_cons⟩⟩, ⟨@ik_eq, ⟨@oi_move, @oi_assign⟩⟩⟩⟩⟩⟩⟩⟩⟩, ⟨⟨⟨⟨⟨⟨⟨⟨@oi_pick, @oi_alloc⟩, ⟨@oi_box, ⟨@oi_build, @oi_buildSlice⟩⟩⟩, ⟨⟨@oi_load, ⟨@oi_store, @oi_nilCheck⟩⟩, ⟨@oi_bin, ⟨@oi_un, @oi_conv⟩⟩⟩⟩, ⟨⟨⟨@oi_iface, ⟨@oi_func, @oi_make⟩⟩, ⟨@oi_makeMap, ⟨@oi_slice00, @oi_slice10⟩⟩⟩, ⟨⟨@oi_slice01, ⟨@oi_slice11, @oi_fieldAddr⟩⟩, ⟨@oi_field, ⟨@oi_indexAddr, @oi_index⟩⟩⟩⟩⟩, ⟨⟨⟨⟨@oi_lookup, @oi_mapUpdate⟩, ⟨@oi_extract, ⟨@oi_blt, @oi_call⟩⟩⟩, ⟨⟨@ck_func, ⟨@cd_eq, @rch_suc⟩⟩, ⟨@rch_zero, ⟨@oo_move, @oo_assign⟩⟩⟩⟩, ⟨⟨⟨@oo_pick, ⟨@oo_alloc, @oo_box⟩⟩, ⟨@oo_build, ⟨@oo_buildSlice, @oo_load⟩⟩⟩, ⟨⟨@oo_store, ⟨@oo_nilCheck, @oo_bin⟩⟩, ⟨@oo_un, ⟨@oo_conv, @oo_iface⟩⟩⟩⟩⟩⟩, ⟨⟨⟨⟨⟨@oo_func, @oo_make⟩, ⟨@oo_makeMap, ⟨@oo_slice, @oo_fieldAddr⟩⟩⟩, ⟨⟨@oo_field, ⟨@oo_indexAddr, @oo_index⟩⟩, ⟨@oo_lookup, ⟨@oo_mapUpdate, @oo_extract⟩⟩⟩⟩, ⟨⟨⟨@oo_len, ⟨@oo_cap, @oo_max⟩⟩, ⟨@oo_min, ⟨@oo_append, @oo_copy⟩⟩⟩, ⟨⟨@oo_clear, ⟨@oo_call, @ot_move⟩⟩, ⟨@ot_assign, ⟨@ot_pick, @ot_alloc⟩⟩⟩⟩⟩, ⟨⟨⟨⟨@ot_box, @ot_build⟩, ⟨@ot_buildSlice, ⟨@ot_load, @ot_store⟩⟩⟩, ⟨⟨@ot_nilCheck, ⟨@ot_bin, @ot_un⟩⟩, ⟨@ot_conv, ⟨@ot_iface, @ot_func⟩⟩⟩⟩, ⟨⟨⟨@ot_make, ⟨@ot_makeMap, @ot_slice⟩⟩, ⟨@ot_fieldAddr, ⟨@ot_field, @ot_indexAddr⟩⟩⟩, ⟨⟨@ot_index, ⟨@ot_lookup, @ot_mapUpdate⟩⟩, ⟨@ot_extract, ⟨@ot_len, @ot_append⟩⟩⟩⟩⟩⟩⟩, ⟨⟨⟨⟨⟨⟨@ot_copy, @ot_clear⟩, ⟨@ot_max, ⟨@ot_min, @ot_call⟩⟩⟩, ⟨⟨@nd_eq, ⟨@nd_some, @nd_yes⟩⟩, ⟨@st_ptr', ⟨@st_ept', @st_own⟩⟩⟩⟩, ⟨⟨⟨@st_map, ⟨@st_agg, @st_tup⟩⟩, ⟨@st_func, ⟨@st_iface, @st_val⟩⟩⟩, ⟨⟨@st_list, ⟨@st_rop, @st_junk⟩⟩, ⟨@st_dead, ⟨@sl_nil, @sl_cons⟩⟩⟩⟩⟩, ⟨⟨⟨⟨@sb_cells, @sb_icc⟩, ⟨@sb_row, ⟨@sb_ice, @sb_map⟩⟩⟩, ⟨⟨@sb_gone, ⟨@key_e, @key_l⟩⟩, ⟨@key_m, ⟨@nodup_nil, @nodup_cons⟩⟩⟩⟩, ⟨⟨⟨@mb_nil, ⟨@mb_cons, @rb_cells⟩⟩, ⟨@rb_icc, ⟨@rb_row, @rb_ice⟩⟩⟩, ⟨⟨@rb_map, ⟨@rb_gone, @ub_cells⟩⟩, ⟨@ub_row, ⟨@ub_ice, @ub_icc⟩⟩⟩⟩⟩⟩, ⟨⟨⟨⟨⟨@ub_map, @n_ptr⟩, ⟨@n_ept, ⟨@n_own, @n_map⟩⟩⟩, ⟨⟨@mk_ptr, ⟨@mk_ept, @mk_own⟩⟩, ⟨@mk_map, ⟨@mk_ptr0, @mk_ept0⟩⟩⟩⟩, ⟨⟨⟨@mk_own0, ⟨@mk_map0, @n_agg⟩⟩, ⟨@n_tup, ⟨@n_func, @n_iface⟩⟩⟩, ⟨⟨@n_val, ⟨@n_list, @n_rop⟩⟩, ⟨@n_junk, ⟨@n_dead, @nL_nil⟩⟩⟩⟩⟩, ⟨⟨⟨⟨@nL_cons, ⟨@dn_eq, @dn_some⟩⟩, ⟨@dn_none, ⟨@idx_nil, @idx_cons⟩⟩⟩, ⟨⟨@up_e, ⟨@up_some, @up_l⟩⟩, ⟨@up_m, ⟨@hu_nil, @hu_gone⟩⟩⟩⟩, ⟨⟨⟨@hu_cons, ⟨@eh_n, @eh_r⟩⟩, ⟨@fh_end, ⟨@fh_tmp, @fh_cell⟩⟩⟩, ⟨⟨@kfh_eq, ⟨@fa_all, @mo_nil⟩⟩, ⟨@mo_some, ⟨@mo_none, @ie_e⟩⟩⟩⟩⟩⟩⟩⟩, ⟨⟨⟨⟨⟨⟨⟨@ie_l, @ie_m⟩, ⟨@rh_one, ⟨@rh_nil, @rh_two⟩⟩⟩, ⟨⟨@fe_zero, ⟨@fe_suc, @fm_nil⟩⟩, ⟨@fm_some, ⟨@fm_none, @gone_g⟩⟩⟩⟩, ⟨⟨⟨@gone_c, ⟨@gone_i, @gone_r⟩⟩, ⟨@gone_e, ⟨@gone_m, @cb_cells⟩⟩⟩, ⟨⟨@cb_row, ⟨@cb_map, @cb_ice⟩⟩, ⟨@cb_icc, ⟨@cl_nil, @cl_cons⟩⟩⟩⟩⟩, ⟨⟨⟨⟨@cc_nil, @cc_cons⟩, ⟨@nb_eq, ⟨@cn_own, @z_ptr⟩⟩⟩, ⟨⟨@z_ept, ⟨@z_own, @z_map⟩⟩, ⟨@zo_some, ⟨@zo_none, @z1_eq⟩⟩⟩⟩, ⟨⟨⟨@zq_some, ⟨@zq_none, @z_agg⟩⟩, ⟨@z_tup, ⟨@z_func, @z_iface⟩⟩⟩, ⟨⟨@z_val, ⟨@z_list, @z_rop⟩⟩, ⟨@z_junk, ⟨@z_dead, @zl_nil⟩⟩⟩⟩⟩⟩, ⟨⟨⟨⟨⟨@zl_cons, @zb_cells⟩, ⟨@zb_icc, ⟨@zb_row, @zb_ice⟩⟩⟩, ⟨⟨@zb_map, ⟨@zb_gone, @og_e⟩⟩, ⟨@og_l, ⟨@og_m, @oj_some⟩⟩⟩⟩, ⟨⟨⟨@oj_none, ⟨@io_nil, @io_some⟩⟩, ⟨@io_none, ⟨@he_nil, @he_cons⟩⟩⟩, ⟨⟨@free_rop, ⟨@free_junk, @free_own⟩⟩, ⟨@free_ptr, ⟨@to_dead, @to_val⟩⟩⟩⟩⟩, ⟨⟨⟨⟨@to_int, ⟨@to_bool, @to_nilown⟩⟩, ⟨@to_nillist, ⟨@to_list, @to_rop⟩⟩⟩, ⟨⟨@to_agg, ⟨@to_tup, @to_func⟩⟩, ⟨@to_iface, ⟨@to_ptr, @to_ept⟩⟩⟩⟩, ⟨⟨⟨@to_own, ⟨@to_map, @to_junk⟩⟩, ⟨@toL_nil, ⟨@toL_cons, @toN_eq⟩⟩⟩, ⟨⟨@tb_gone, ⟨@tb_cells, @tb_row⟩⟩, ⟨@tb_ice, ⟨@tb_icc, @tb_map⟩⟩⟩⟩⟩⟩⟩, ⟨⟨⟨⟨⟨⟨@er_row, @ts_l⟩, ⟨@ts_m, ⟨@ts_e, @toH_eq⟩⟩⟩, ⟨⟨@allS_cons, ⟨@allS_nil, @toK_cons⟩⟩, ⟨@toK_nil, ⟨@io_cells, @cb_rc⟩⟩⟩⟩, ⟨⟨⟨@lp_rowx, ⟨@io_rowx, @sp_rowx⟩⟩, ⟨@sb_rowx, ⟨@rb_rowx, @ub_rowx⟩⟩⟩, ⟨⟨@gone_x, ⟨@cb_rowx, @zb_rowx⟩⟩, ⟨@tb_rowx, ⟨@ub_rx, @cb_rx⟩⟩⟩⟩⟩, ⟨⟨⟨⟨@tb_rx, @er_rowx⟩, ⟨@sb_sem, ⟨@rb_sem, @ub_sem⟩⟩⟩, ⟨⟨@ub_xr, ⟨@gone_sem, @cb_sem⟩⟩, ⟨@zb_sem, ⟨@tb_sem, @Nat.le_refl⟩⟩⟩⟩, ⟨⟨⟨@Int.toNat_natCast, ⟨@Int.natCast_nonneg, @and_true⟩⟩, ⟨@true_and, ⟨@and_self, @true_implies⟩⟩⟩, ⟨⟨@false_implies, ⟨@Nat.zero_add, @Nat.add_zero⟩⟩, ⟨@decide_eq_true_eq, ⟨@decide_eq_false_iff_not, @Bool.and_self⟩⟩⟩⟩⟩⟩, ⟨⟨⟨⟨⟨@Bool.and_true, @Bool.true_and⟩, ⟨@not_false_eq_true, ⟨@Bool.not_true, @Bool.not_false⟩⟩⟩, ⟨⟨@not_true_eq_false, ⟨@false_and, @and_false⟩⟩, ⟨@or_false, ⟨@false_or, @List.toList_toArray.{0}⟩⟩⟩⟩, ⟨⟨⟨@List.take_succ_cons.{0}, ⟨@List.take_zero.{0}, @List.drop_succ_cons.{0}⟩⟩, ⟨@List.drop_zero.{0}, ⟨@List.take_nil.{0}, @List.drop_nil.{0}⟩⟩⟩, ⟨⟨@List.nil_append.{0}, ⟨@List.cons_append.{0}, @List.append_nil.{0}⟩⟩, ⟨@List.length_cons.{0}, ⟨@List.length_nil.{0}, @List.length_append.{0}⟩⟩⟩⟩⟩, ⟨⟨⟨⟨@List.prefix_rfl.{0}, ⟨@List.getElem?_cons_succ.{0}, @List.getElem?_cons_zero.{0}⟩⟩, ⟨@List.getElem?_nil.{0}, ⟨@List.set_cons_zero.{0}, @List.set_cons_succ.{0}⟩⟩⟩, ⟨⟨@List.replicate_succ.{0}, ⟨@List.replicate_zero.{0}, @List.all_cons.{0}⟩⟩, ⟨@List.all_nil.{0}, ⟨@List.reverse_cons.{0}, @List.reverse_nil.{0}⟩⟩⟩⟩, ⟨⟨⟨@Option.some.injEq.{0}, ⟨@Option.isSome_some.{0}, @List.flatMap_nil.{0, 0}⟩⟩, ⟨@List.flatMap_cons.{0, 0}, ⟨@List.getElem?_map.{0, 0}, @List.map_cons.{0, 0}⟩⟩⟩, ⟨⟨@List.map_nil.{0, 0}, ⟨@List.length_map.{0, 0}, @Option.map_some.{0, 0}⟩⟩, ⟨@Option.map_none.{0, 0}, ⟨@Option.bind_some.{0, 0}, @Option.bind_none.{0, 0}⟩⟩⟩⟩⟩⟩⟩⟩⟩⟩
theorem Sub.refl (x : AV) : Sub x x := by unfold Sub; split <;> simp_all
theorem SubC.refl (l : List AV) : SubC l l := by
 induction l with
 | nil => trivial
 | cons x l ih => exact ⟨Sub.refl x, ih⟩
theorem SubA.refl (x : AV) : SubA x x := by
 unfold SubA
 split
 ·simp_all [SubC.refl]
 ·simp_all
theorem SubL.refl (l : List AV) : SubL l l := by
 induction l with
 | nil => trivial
 | cons x l ih => exact ⟨SubA.refl x, ih⟩
theorem call_ok {P : Program} {f : FuncId} {xs l l' : List AV} {s : Site} {hp hp' : Hp} {r : AV} {K : AV → Hp → Prop} (h : Ok P f l' r) (hs : SubL l l') (hK : K r hp') : ACallY P f xs s hp K (some (l, hp')) := .inl ⟨l', r, hs, h, .inl hK⟩
theorem call_eq {P : Program} {f : FuncId} {xs l : List AV} {s : Site} {hp hp' : Hp} {r : AV} {K : AV → Hp → Prop} (h : Ok P f l r) (hK : K r hp') : ACallY P f xs s hp K (some (l, hp')) := call_ok h (SubL.refl _) hK
end Go.Proofs.YtonolfpnidaflaaGreatDoor.E

