/- Plain law: what is shipped, as steps. No conditions. -/
import Derived.Test.YtonolfpnidaflaaGreatDoorGrpL
namespace Go.Proofs.YtonolfpnidaflaaGreatDoor.E
open Go
set_option linter.unusedSimpArgs false
set_option linter.unusedVariables false
set_option linter.unusedSectionVars false
set_option maxRecDepth 20000
structure Snt where
 i : Nat
 fr : Nat
 l : List ByteArray
structure Sh2 where
 g : Gr
 news : List ByteArray
 way : List Snt
/-- A number below a hundred, in digits. -/
def dig (n : Nat) : ByteArray := (⟨#[48, 49, 50, 51, 52, 53, 54, 55, 56, 57]⟩ : ByteArray).extract n (n + 1)
def dec2 (n : Nat) : ByteArray := if n < 10 then dig n else dig (n / 10) ++ dig (n % 10)
def shStep (st : Sh2) (c : List Int) : Sh2 :=
 match c with
 | a :: b :: d :: _ =>
  let k := wN a 6
  let i := wN b st.g.n
  let n := (gLog st.g i).length
  if k < 2 then ⟨gAdd st.g (dec2 (wN d 50)), st.news ++ [dec2 (wN d 50)], st.way⟩
  else if k = 2 then (match i with
   | 0 => st
   | j + 1 => ⟨gTake st.g j (wN d (n + 1)) (st.g.log.drop (wN d (n + 1))), st.news, st.way ++ [⟨j, wN d (n + 1), st.g.log.drop (wN d (n + 1))⟩]⟩)
  else if k = 3 then (match st.way[wN d st.way.length]? with
   | some w => ⟨gTake st.g w.i w.fr w.l, st.news, st.way⟩
   | none => st)
  else if k = 4 then (match i with
   | 0 => st
   | j + 1 => ⟨gAck st.g j (wN d (n + 1)), st.news, st.way⟩)
  else (match i with
   | 0 => st
   | j + 1 => ⟨gLose st.g j (wN d (n + 1)), st.news, st.way⟩)
 | _ => st
def shRun (st : Sh2) (l : List (List Int)) : Sh2 := l.foldl shStep st
theorem shRun_snoc {st : Sh2} {l : List (List Int)} {i : Nat} {c : List Int} (h : l[i]? = some c) : shRun st (l.take (i + 1)) = shStep (shRun st (l.take i)) c := by
 unfold shRun
 rw [take_get h, List.foldl_append]
 rfl
/-- What is so of a group all along: each follower's list begins the leader's, and holds what was told. -/
structure gInv (g : Gr) : Prop where
 ok : grOk g
 pre : ∀ j, j < g.fol.length → gHas g j <+: g.log
 lead : g.ack[0]? = some (g.log.length : Int)
 told : ∀ j, j < g.fol.length → 0 ≤ (g.ack[j + 1]?).getD 0 ∧ (g.ack[j + 1]?).getD 0 ≤ ((gHas g j).length : Int)
/-- What was sent is a piece of the leader's list. -/
def sntOk (g : Gr) (w : Snt) : Prop := w.i < g.fol.length ∧ w.fr ≤ g.log.length ∧ w.l <+: g.log.drop w.fr
structure shInv (st : Sh2) : Prop where
 g : gInv st.g
 way : ∀ w ∈ st.way, sntOk st.g w
theorem wN_lt (k : Int) {n : Nat} (h : 0 < n) : wN k n < n := (wN_eq k h).2
theorem gNew_inv {n : Nat} (hn : n < 5) : gInv (gFull n []) := by
 refine ⟨gFull_ok hn (by simp), fun j hj => ?_, rfl, fun j hj => ?_⟩
 ·have : gHas (gFull n []) j = [] := by
   unfold gHas gFull
   simp only [List.getElem?_replicate]
   split <;> rfl
  rw [this]
  exact List.nil_prefix
 ·have : ((gFull n []).ack[j + 1]?).getD 0 = 0 := by
   unfold gFull
   simp only [List.getElem?_cons_succ, List.getElem?_replicate]
   split <;> rfl
  rw [this]
  omega
theorem gHas_add (g : Gr) (s : ByteArray) (j : Nat) : gHas (gAdd g s) j = gHas g j := rfl
theorem gAdd_inv {g : Gr} (h : gInv g) (hl : g.log.length < 60) (s : ByteArray) : gInv (gAdd g s) := by
 refine ⟨gAdd_ok h.ok hl s, fun j hj => ?_, ?_, fun j hj => ?_⟩
 ·rw [gHas_add]
  exact (h.pre j hj).trans (List.prefix_append _ _)
 ·have h1 := h.ok.1
  have h4 := h.ok.2.2.2.1
  unfold gAdd
  simp only [List.length_append, List.length_singleton]
  rw [List.getElem?_set_self (by omega)]
 ·have e : ((gAdd g s).ack[j + 1]?).getD 0 = (g.ack[j + 1]?).getD 0 := by
   unfold gAdd
   simp only [List.getElem?_set_ne (show (0 : Nat) ≠ j + 1 by omega)]
  rw [e, gHas_add]
  exact h.told j hj
theorem sntOk_add {g : Gr} {w : Snt} (h : sntOk g w) (s : ByteArray) : sntOk (gAdd g s) w := by
 obtain ⟨h1, h2, h3⟩ := h
 have e : (gAdd g s).log = g.log ++ [s] := rfl
 refine ⟨h1, by rw [e, List.length_append]; omega, ?_⟩
 rw [e, List.drop_append_of_le_length h2]
 exact h3.trans (List.prefix_append _ _)
/-- A follower's list becomes another one that begins the leader's, and holds what was told. -/
theorem gPut_inv {g : Gr} (h : gInv g) {j : Nat} (hj : j < g.fol.length) {x : List ByteArray} (hx : x <+: g.log) (ht : (g.ack[j + 1]?).getD 0 ≤ (x.length : Int)) : gInv (gPut g j x) := by
 have hxl := hx.length_le
 have h5 := h.ok.2.2.2.2.1
 have el : (gPut g j x).fol.length = g.fol.length := by simp [gPut]
 refine ⟨gPut_ok h.ok j (by omega), fun i hi => ?_, h.lead, fun i hi => ?_⟩
 ·rw [gHas_put g hj]
  by_cases e : i = j
  ·rw [if_pos e]; exact hx
  ·rw [if_neg e]; exact h.pre i (by omega)
 ·rw [gHas_put g hj]
  have := h.told i (by omega)
  by_cases e : i = j
  ·subst e
   rw [if_pos rfl]
   exact ⟨this.1, ht⟩
  ·rw [if_neg e]; exact this
theorem sntOk_put {g : Gr} {w : Snt} (h : sntOk g w) (j : Nat) (x : List ByteArray) : sntOk (gPut g j x) w := by
 obtain ⟨h1, h2, h3⟩ := h
 exact ⟨by simpa [gPut] using h1, h2, h3⟩
/-- Two lists that both begin a third one. -/
theorem pre_two {a b c : List ByteArray} (h : a <+: c) (k : b <+: c) : a ++ b.drop a.length <+: c ∧ agr a b = true := by
 rcases List.prefix_or_prefix_of_prefix h k with ⟨x, rfl⟩ | ⟨x, rfl⟩
 ·exact ⟨by rw [List.drop_left]; exact k, agr_of_prefix ⟨x, .inl rfl⟩⟩
 ·rw [List.drop_eq_nil_of_le (by simp), List.append_nil]
  exact ⟨h, agr_of_prefix ⟨x, .inr rfl⟩⟩
theorem take_inv {g : Gr} (h : gInv g) {w : Snt} (hw : sntOk g w) : gInv (gTake g w.i w.fr w.l) ∧ (∀ v, sntOk g v → sntOk (gTake g w.i w.fr w.l) v) ∧ (gTake g w.i w.fr w.l).log = g.log ∧ (gTake g w.i w.fr w.l).ack = g.ack ∧ (gTake g w.i w.fr w.l).n = g.n := by
 obtain ⟨h1, h2, h3⟩ := hw
 unfold gTake
 by_cases e : tkE g w.i w.fr w.l = 0
 ·rw [if_pos e]
  obtain ⟨e1, _, _⟩ := tkE_zero e
  have hp := h.pre w.i h1
  have ha : gHas g w.i = g.log.take w.fr ++ (gHas g w.i).drop w.fr := by
   have : (gHas g w.i).take w.fr = g.log.take w.fr := by
    obtain ⟨c, hc⟩ := hp
    rw [← hc, List.take_append_of_le_length e1]
   rw [← this, List.take_append_drop]
  have hd : (gHas g w.i).drop w.fr <+: g.log.drop w.fr := by
   obtain ⟨c, hc⟩ := hp
   rw [← hc, List.drop_append_of_le_length e1]
   exact List.prefix_append _ _
  have hx : tkL g w.i w.fr w.l <+: g.log := by
   have := (pre_two hd h3).1
   have e2 : tkL g w.i w.fr w.l = g.log.take w.fr ++ ((gHas g w.i).drop w.fr ++ w.l.drop ((gHas g w.i).drop w.fr).length) := by
    unfold tkL
    rw [List.length_drop, ← List.append_assoc, ← ha]
   rw [e2]
   have e3 : g.log = g.log.take w.fr ++ g.log.drop w.fr := (List.take_append_drop _ _).symm
   obtain ⟨c, hc⟩ := this
   exact ⟨c, by rw [List.append_assoc, hc, ← e3]⟩
  refine ⟨gPut_inv h h1 hx ?_, fun v hv => sntOk_put hv _ _, rfl, rfl, rfl⟩
  have := (h.told w.i h1).2
  rw [tkL_len e1]
  omega
 ·rw [if_neg e]
  exact ⟨h, fun v hv => hv, rfl, rfl, rfl⟩
theorem gAck_inv {g : Gr} (h : gInv g) {j m : Nat} (hj : j < g.fol.length) (hm : m ≤ (gHas g j).length) : gInv (gAck g j m) := by
 have e0 : ∀ i, gHas (gAck g j m) i = gHas g i := fun i => rfl
 have h3 := h.ok.2.2.1
 have h4 := h.ok.2.2.2.1
 refine ⟨gAck_ok h.ok j m, fun i hi => h.pre i hi, ?_, fun i hi => ?_⟩
 ·unfold gAck
  simp only [List.getElem?_set_ne (show j + 1 ≠ 0 by omega)]
  exact h.lead
 ·rw [e0]
  have hi : i < g.fol.length := hi
  have ti := h.told i hi
  by_cases e : j = i
  ·subst e
   have : ((gAck g j m).ack[j + 1]?).getD 0 = max ((g.ack[j + 1]?).getD 0) m := by
    unfold gAck
    simp only [List.getElem?_set_self (show j + 1 < g.ack.length by omega), Option.getD_some]
   rw [this]
   omega
  ·have : ((gAck g j m).ack[i + 1]?).getD 0 = (g.ack[i + 1]?).getD 0 := by
    unfold gAck
    simp only [List.getElem?_set_ne (show j + 1 ≠ i + 1 by omega)]
   rw [this]
   exact ti
theorem gLose_inv {g : Gr} (h : gInv g) {j m : Nat} (hj : j < g.fol.length) : gInv (gLose g j m) ∧ (∀ v, sntOk g v → sntOk (gLose g j m) v) ∧ (gLose g j m).log = g.log ∧ (gLose g j m).ack = g.ack ∧ (gLose g j m).n = g.n := by
 unfold gLose
 by_cases e : (g.ack[j + 1]?).getD 0 ≤ (m : Int) ∧ m ≤ (gHas g j).length
 ·rw [if_pos e]
  refine ⟨gPut_inv h hj ((List.take_prefix _ _).trans (h.pre j hj)) ?_, fun v hv => sntOk_put hv _ _, rfl, rfl, rfl⟩
  rw [List.length_take]
  omega
 ·rw [if_neg e]
  exact ⟨h, fun v hv => hv, rfl, rfl, rfl⟩
/-- The acks of the one are no less than those of the other. -/
def ackLe (a b : List Int) : Prop := a.length = b.length ∧ ∀ i : Nat, (a[i]?).getD 0 ≤ (b[i]?).getD 0
theorem ackLe_refl (a : List Int) : ackLe a a := ⟨rfl, fun _ => Int.le_refl _⟩
theorem ackLe_trans {a b c : List Int} (h : ackLe a b) (k : ackLe b c) : ackLe a c := ⟨h.1.trans k.1, fun i => Int.le_trans (h.2 i) (k.2 i)⟩
theorem ackLe_set {a : List Int} (j : Nat) {v : Int} (h : (a[j]?).getD 0 ≤ v) : ackLe a (a.set j v) := by
 refine ⟨by simp, fun i => ?_⟩
 rw [List.getElem?_set]
 by_cases e : j = i
 ·subst e
  rw [if_pos rfl]
  split
  ·exact h
  ·rename_i hj
   rw [List.getElem?_eq_none (by omega)]
   exact Int.le_refl _
 ·rw [if_neg e]; exact Int.le_refl _
theorem gAdd_ack {g : Gr} (h : gInv g) (s : ByteArray) : ackLe g.ack (gAdd g s).ack := by
 refine ackLe_set 0 ?_
 rw [h.lead, Option.getD_some]
 omega
theorem gAck_ack (g : Gr) (j m : Nat) : ackLe g.ack (gAck g j m).ack := ackLe_set (j + 1) (by omega)
theorem cnt_mono {a b : List Int} (v : Int) : ∀ (_ : ackLe a b), b.countP (fun y => decide (y < v)) ≤ a.countP (fun y => decide (y < v)) := by
 induction a generalizing b with
 | nil =>
  intro h
  have := h.1
  simp only [List.length_nil] at this
  obtain rfl := List.eq_nil_of_length_eq_zero this.symm
  exact Nat.le_refl _
 | cons x a ih =>
  intro h
  cases b with
  | nil => have := h.1; simp at this
  | cons y b =>
   have h0 := h.2 0
   simp only [List.getElem?_cons_zero, Option.getD_some] at h0
   have := ih (b := b) ⟨by simpa using h.1, fun i => by simpa using h.2 (i + 1)⟩
   rw [List.countP_cons, List.countP_cons]
   by_cases e : y < v
   ·rw [if_pos (decide_eq_true e)]
    by_cases e2 : x < v
    ·rw [if_pos (decide_eq_true e2)]; omega
    ·rw [if_neg (by rw [decide_eq_true_iff]; exact e2)]; omega
   ·rw [if_neg (by rw [decide_eq_true_iff]; exact e)]
    omega
/-- What is sure becomes no less. -/
theorem sure_mono {g g' : Gr} (h : grOk g) (h' : grOk g') (hn : g'.n = g.n) (ha : ackLe g.ack g'.ack) : gSure g ≤ gSure g' := by
 have e := gSure_at h
 have e' := gSure_at h'
 refine ostat_le e' (Nat.le_trans (cnt_mono _ ha) ?_)
 rw [hn]
 exact cnt_lt e
theorem shStep_inv {st : Sh2} (h : shInv st) (hl : st.g.log.length < 60) (c : List Int) : shInv (shStep st c) ∧ ackLe st.g.ack (shStep st c).g.ack ∧ (shStep st c).g.n = st.g.n ∧ (shStep st c).g.log.length ≤ st.g.log.length + 1 ∧ (∀ b, st.g.log = b ++ st.news → (shStep st c).g.log = b ++ (shStep st c).news) := by
 have same : shInv st ∧ ackLe st.g.ack st.g.ack ∧ st.g.n = st.g.n ∧ st.g.log.length ≤ st.g.log.length + 1 ∧ (∀ b, st.g.log = b ++ st.news → st.g.log = b ++ st.news) := ⟨h, ackLe_refl _, rfl, by omega, fun _ e => e⟩
 match c with
 | [] => exact same
 | [_] => exact same
 | [_, _] => exact same
 | a :: b :: d :: r =>
  have hn1 := h.g.ok.1
  have hfl := h.g.ok.2.2.1
  have hib := wN_lt b (n := st.g.n) (by omega)
  simp only [shStep]
  generalize wN b st.g.n = i at hib
  by_cases k1 : wN a 6 < 2
  ·rw [if_pos k1]
   refine ⟨⟨gAdd_inv h.g hl _, fun w hw => sntOk_add (h.way w hw) _⟩, gAdd_ack h.g _, rfl, by simp [gAdd], fun b e => ?_⟩
   show st.g.log ++ [_] = _
   rw [e, List.append_assoc]
  rw [if_neg k1]
  by_cases k2 : wN a 6 = 2
  ·rw [if_pos k2]
   match i, hib with
   | 0, _ => exact same
   | j + 1, hj =>
    have hm := wN_lt d (n := (gLog st.g (j + 1)).length + 1) (by omega)
    have hpl := (h.g.pre j (by omega)).length_le
    have hgl : gLog st.g (j + 1) = gHas st.g j := rfl
    rw [hgl] at hm ⊢
    simp only
    have hw : sntOk st.g ⟨j, wN d ((gHas st.g j).length + 1), st.g.log.drop (wN d ((gHas st.g j).length + 1))⟩ := ⟨by simp only; omega, by simp only; omega, List.prefix_rfl⟩
    obtain ⟨t1, t2, t3, t4, t5⟩ := take_inv h.g hw
    simp only at t1 t2 t3 t4 t5
    refine ⟨⟨t1, fun w hw' => ?_⟩, by rw [t4]; exact ackLe_refl _, t5, by rw [t3]; omega, fun b e => by rw [t3]; exact e⟩
    rcases List.mem_append.1 hw' with hw' | hw'
    ·exact t2 w (h.way w hw')
    ·rw [List.mem_singleton] at hw'
     subst hw'
     exact t2 _ hw
  rw [if_neg k2]
  by_cases k3 : wN a 6 = 3
  ·rw [if_pos k3]
   cases e : st.way[wN d st.way.length]? with
   | none => exact same
   | some w =>
    have hw := h.way w (List.mem_of_getElem? e)
    obtain ⟨t1, t2, t3, t4, t5⟩ := take_inv h.g hw
    exact ⟨⟨t1, fun v hv => t2 v (h.way v hv)⟩, by rw [t4]; exact ackLe_refl _, t5, by rw [t3]; omega, fun b e => by rw [t3]; exact e⟩
  rw [if_neg k3]
  by_cases k4 : wN a 6 = 4
  ·rw [if_pos k4]
   match i, hib with
   | 0, _ => exact same
   | j + 1, hj =>
    have hm := wN_lt d (n := (gLog st.g (j + 1)).length + 1) (by omega)
    have hgl : gLog st.g (j + 1) = gHas st.g j := rfl
    rw [hgl] at hm ⊢
    refine ⟨⟨gAck_inv h.g (by omega) (by omega), fun v hv => h.way v hv⟩, gAck_ack _ _ _, rfl, by simp [gAck], fun b e => e⟩
  rw [if_neg k4]
  match i, hib with
  | 0, _ => exact same
  | j + 1, hj =>
   obtain ⟨t1, t2, t3, t4, t5⟩ := gLose_inv h.g (j := j) (m := wN d ((gLog st.g (j + 1)).length + 1)) (by omega)
   exact ⟨⟨t1, fun v hv => t2 v (h.way v hv)⟩, by simp only [t4]; exact ackLe_refl _, t5, by simp only [t3]; omega, fun b e => by simp only [t3]; exact e⟩
/-- All along. -/
theorem shRun_inv {st : Sh2} (h : shInv st) (l : List (List Int)) (hl : st.g.log.length + l.length ≤ 60) : shInv (shRun st l) ∧ ackLe st.g.ack (shRun st l).g.ack ∧ (shRun st l).g.n = st.g.n ∧ (shRun st l).g.log.length ≤ st.g.log.length + l.length ∧ (∀ b, st.g.log = b ++ st.news → (shRun st l).g.log = b ++ (shRun st l).news) := by
 induction l generalizing st with
 | nil => exact ⟨h, ackLe_refl _, rfl, by simp [shRun], fun _ e => e⟩
 | cons c l ih =>
  rw [List.length_cons] at hl ⊢
  obtain ⟨s1, s2, s3, s4, s5⟩ := shStep_inv h (by omega) c
  obtain ⟨t1, t2, t3, t4, t5⟩ := ih s1 (by omega)
  have e : shRun st (c :: l) = shRun (shStep st c) l := rfl
  rw [e]
  exact ⟨t1, ackLe_trans s2 t2, t3.trans s3, by omega, fun b hb => t5 b (s5 b hb)⟩
theorem shStep_way (st : Sh2) (c : List Int) : (shStep st c).way.length ≤ st.way.length + 1 := by
 match c with
 | [] => exact Nat.le_succ _
 | [_] => exact Nat.le_succ _
 | [_, _] => exact Nat.le_succ _
 | a :: b :: d :: r =>
  simp only [shStep]
  repeat' split
  all_goals simp
theorem shRun_way (st : Sh2) (l : List (List Int)) : (shRun st l).way.length ≤ st.way.length + l.length := by
 induction l generalizing st with
 | nil => exact Nat.le_refl _
 | cons c l ih =>
  have h1 := ih (shStep st c)
  have h2 := shStep_way st c
  have e : shRun st (c :: l) = shRun (shStep st c) l := rfl
  rw [e, List.length_cons]
  omega
end Go.Proofs.YtonolfpnidaflaaGreatDoor.E
