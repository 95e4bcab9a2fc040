/- Plain law: what is hidden makes no difference to who may not see it; what is done to two names, in either order. No conditions. -/
import Derived.Test.YtfglieambpfbfaaSrvQ
import Derived.Test.YtfglieambpfbfaaPartB
namespace Go.Proofs.Ytfglieambpfbfaa.E
open Go
set_option linter.unusedSimpArgs false
set_option linter.unusedVariables false
set_option linter.unusedSectionVars false
set_option maxRecDepth 20000
theorem part_in {m p : Nat} {l : List Vn} (h : chkSt l = 0) (hm : m < 256) (hp : p < 256) (hb : bnot (m : Int) (p : Int) = 0) : partL (m : Nat) (partL (p : Nat) l) = partL (m : Nat) l :=
  partL_part h hp hm hm fun i => ⟨fun x => ⟨(bnot_sub (by omega) (by omega)).1 hb i x, x⟩, fun x => x.2⟩
theorem putE_part {p : Nat} {l : List Vn} {r : Rc} (h : chkSt l = 0) (hb : bnot r.cats (p : Nat) = 0) : putE (partL (p : Nat) l) r = putE l r := by
  rw [putE, putE, if_pos (chkSt_part h), if_pos h, cnt_part _ _ _ hb]
theorem cutE_part {p : Nat} {l : List Vn} {id : ByteArray} {c : Int} (h : chkSt l = 0) (hb : bnot c (p : Nat) = 0) : cutE (partL (p : Nat) l) id c = cutE l id c := by
  rw [cutE, cutE, if_pos (chkSt_part h), if_pos h, cnt_part _ _ _ hb, lives_part _ _ _ _ hb]
theorem putS_yes {s : Sv} {o : OpS} (k : o.kind = 2) (h : (doS s o).2.code = 0) : (doS s o).1 = { s with l := s.l ++ [⟨o.rcd, false⟩] } := by
  have e : doS s o = doPut s o := by unfold doS; rw [if_neg (by omega), if_pos k]
  rw [e] at h ⊢
  unfold doPut tdE at h ⊢
  by_cases g1 : chkRec o.rcd = 0
  · rw [if_pos g1] at h ⊢
    by_cases g2 : sMay s o.who o.rcd.cats = 0
    · rw [if_pos g2] at h ⊢
      by_cases g3 : putE s.l o.rcd = 0
      · rw [if_pos g3]
      · rw [if_neg g3] at h; exact absurd h g3
    · rw [if_neg g2] at h; exact absurd h g2
  · rw [if_neg g1] at h; exact absurd h g1
theorem cutS_yes {s : Sv} {o : OpS} (k : o.kind = 3) (h : (doS s o).2.code = 0) : (doS s o).1 = { s with l := s.l ++ [⟨⟨o.id, o.rcd.cats, [], []⟩, true⟩] } := by
  have e : doS s o = doCut s o := by unfold doS; rw [if_neg (by omega), if_neg (by omega), if_pos k]
  rw [e] at h ⊢
  unfold doCut tdE at h ⊢
  by_cases g2 : sMay s o.who o.rcd.cats = 0
  · rw [if_pos g2] at h ⊢
    by_cases g3 : cutE s.l o.id o.rcd.cats = 0
    · rw [if_pos g3]
    · rw [if_neg g3] at h; exact absurd h g3
  · rw [if_neg g2] at h; exact absurd h g2
theorem doS_rs {s : Sv} {o : OpS} (h : o.kind ≠ 1) : (doS s o).1.rs = s.rs := by
  unfold doS doPut doCut doNeed
  rw [if_neg h]
  repeat' split
  all_goals rfl
/-- What one server has of the other one's store. -/
structure HidR (p : Nat) (a b : Sv) : Prop where
  oka : svOk a
  okb : svOk b
  ua : a.up = [0, 1, 2]
  ub : b.up = [0, 1, 2]
  rs : b.rs = a.rs
  l : b.l = partL (p : Nat) a.l
def skipH (p : Nat) (o : OpS) : Prop := ((o.kind = 2 ∨ o.kind = 3) ∧ bnot o.rcd.cats (p : Nat) ≠ 0) ∨ o.kind = 7 ∨ o.kind = 8
instance (p : Nat) (o : OpS) : Decidable (skipH p o) := by unfold skipH; infer_instance
theorem HidR.err {p : Nat} {a b : Sv} (h : HidR p a b) (w : Wh) : sErr b w = sErr a w := by unfold sErr; rw [h.ub, h.ua, h.rs]
theorem HidR.sees {p : Nat} {a b : Sv} (h : HidR p a b) (w : Wh) : sSees b w = sSees a w := by unfold sSees; rw [h.ub, h.ua, h.rs]
theorem HidR.may {p : Nat} {a b : Sv} (h : HidR p a b) (w : Wh) (c : Int) : sMay b w c = sMay a w c := by unfold sMay; rw [h.err, h.sees]
theorem hid_not {p : Nat} {v : Vn} (h : bnot v.r.cats (p : Nat) ≠ 0) : hid (p : Nat) v = true := by unfold hid; simp [h]
theorem hid_yes {p : Nat} {v : Vn} (h : bnot v.r.cats (p : Nat) = 0) : hid (p : Nat) v = false := by unfold hid; simp [h]
theorem hides_skip {p : Nat} {a b : Sv} {o : OpS} (h : HidR p a b) (hs : skipH p o) : HidR p (doS a o).1 b := by
  have k1 : o.kind ≠ 1 := by unfold skipH at hs; omega
  refine ⟨doS_ok h.oka, h.okb, (doS_up a o).trans h.ua, h.ub, by rw [doS_rs k1]; exact h.rs, ?_⟩
  rw [h.l]
  by_cases hc : (doS a o).2.code = 0
  · rcases hs with ⟨k | k, hb⟩ | hs
    · rw [putS_yes k hc]
      show partL (p : Nat) a.l = partL (p : Nat) (a.l ++ [⟨o.rcd, false⟩])
      rw [partL_add, hid_not (v := ⟨o.rcd, false⟩) hb, if_pos rfl]
    · rw [cutS_yes k hc]
      show partL (p : Nat) a.l = partL (p : Nat) (a.l ++ [⟨⟨o.id, o.rcd.cats, [], []⟩, true⟩])
      rw [partL_add, hid_not (v := ⟨⟨o.id, o.rcd.cats, [], []⟩, true⟩) hb, if_pos rfl]
    · rw [writes_not (.inl (by omega))]
  · rw [writes_not (.inr hc)]
theorem hides_both {p : Nat} (hp : p < 256) {a b : Sv} {o : OpS} (h : HidR p a b) (hs : ¬ skipH p o) : HidR p (doS a o).1 (doS b o).1 ∧ ((o.kind = 1 ∨ o.kind = 2 ∨ o.kind = 3 ∨ bnot (sSees a o.who : Nat) (p : Nat) = 0) → (doS a o).2 = (doS b o).2) := by
  have oka := doS_ok (o := o) h.oka
  have okb := doS_ok (o := o) h.okb
  have ua := (doS_up a o).trans h.ua
  have ub := (doS_up b o).trans h.ub
  unfold skipH at hs
  rcases doS_cases a o with ⟨k, e⟩ | ⟨k, e⟩ | ⟨k, e⟩ | ⟨k, e⟩ | ⟨k, e⟩ | ⟨k, e⟩ | ⟨k, e⟩ <;> rcases doS_cases b o with ⟨k', f⟩ | ⟨k', f⟩ | ⟨k', f⟩ | ⟨k', f⟩ | ⟨k', f⟩ | ⟨k', f⟩ | ⟨k', f⟩ <;> (try (exfalso; omega))
  · rw [e] at oka ⊢
    rw [f] at okb ⊢
    by_cases g : chkRs o.rs = 0
    · rw [if_pos g] at oka okb ⊢
      rw [if_pos g]
      exact ⟨⟨oka, okb, h.ua, h.ub, rfl, h.l⟩, fun _ => rfl⟩
    · rw [if_neg g, if_neg g]
      exact ⟨h, fun _ => rfl⟩
  · have hb : bnot o.rcd.cats (p : Nat) = 0 := Classical.byContradiction fun hb => hs (.inl ⟨.inl k, hb⟩)
    rw [e] at oka ⊢
    rw [f] at okb ⊢
    have e1 := h.may o.who o.rcd.cats
    have e2 : putE b.l o.rcd = putE a.l o.rcd := by rw [h.l]; exact putE_part h.oka.2.2.1 hb
    unfold doPut at oka okb ⊢
    rw [e1, e2] at okb ⊢
    by_cases g1 : chkRec o.rcd = 0
    · rw [if_pos g1] at oka okb ⊢
      rw [if_pos g1]
      by_cases g2 : sMay a o.who o.rcd.cats = 0
      · rw [if_pos g2] at oka okb ⊢
        rw [if_pos g2]
        by_cases g3 : putE a.l o.rcd = 0
        · rw [if_pos g3] at oka okb ⊢
          rw [if_pos g3]
          refine ⟨⟨oka, okb, h.ua, h.ub, h.rs, ?_⟩, fun _ => rfl⟩
          show b.l ++ [_] = partL (p : Nat) (a.l ++ [⟨o.rcd, false⟩])
          rw [partL_add, hid_yes (v := ⟨o.rcd, false⟩) hb, h.l]
          rfl
        · rw [if_neg g3, if_neg g3]
          exact ⟨h, fun _ => rfl⟩
      · rw [if_neg g2, if_neg g2]
        exact ⟨h, fun _ => rfl⟩
    · rw [if_neg g1, if_neg g1]
      exact ⟨h, fun _ => rfl⟩
  · have hb : bnot o.rcd.cats (p : Nat) = 0 := Classical.byContradiction fun hb => hs (.inl ⟨.inr k, hb⟩)
    rw [e] at oka ⊢
    rw [f] at okb ⊢
    have e1 := h.may o.who o.rcd.cats
    have e2 : cutE b.l o.id o.rcd.cats = cutE a.l o.id o.rcd.cats := by rw [h.l]; exact cutE_part h.oka.2.2.1 hb
    unfold doCut at oka okb ⊢
    rw [e1, e2] at okb ⊢
    by_cases g2 : sMay a o.who o.rcd.cats = 0
    · rw [if_pos g2] at oka okb ⊢
      rw [if_pos g2]
      by_cases g3 : cutE a.l o.id o.rcd.cats = 0
      · rw [if_pos g3] at oka okb ⊢
        rw [if_pos g3]
        refine ⟨⟨oka, okb, h.ua, h.ub, h.rs, ?_⟩, fun _ => rfl⟩
        show b.l ++ [_] = partL (p : Nat) (a.l ++ [⟨⟨o.id, o.rcd.cats, [], []⟩, true⟩])
        rw [partL_add, hid_yes (v := ⟨⟨o.id, o.rcd.cats, [], []⟩, true⟩) hb, h.l]
        rfl
      · rw [if_neg g3, if_neg g3]
        exact ⟨h, fun _ => rfl⟩
    · rw [if_neg g2, if_neg g2]
      exact ⟨h, fun _ => rfl⟩
  · rw [e, f]
    refine ⟨h, fun hc => ?_⟩
    have hb : bnot (sSees a o.who : Nat) (p : Nat) = 0 := by rcases hc with hc | hc | hc | hc <;> first | omega | exact hc
    show doAsk a o = doAsk b o
    unfold doAsk
    rw [h.err, h.sees, h.l, part_in h.oka.2.2.1 (sSees_lt h.oka o.who) hp hb]
  · rw [e, f]
    exact ⟨h, fun _ => rfl⟩
def hidStep (p : Nat) (ab : Sv × Sv) (o : OpS) : Sv × Sv := if skipH p o then ((doS ab.1 o).1, ab.2) else ((doS ab.1 o).1, (doS ab.2 o).1)
def hidRun (p : Nat) (q : List OpS) : Sv × Sv := q.foldl (hidStep p) (sv0, sv0)
theorem hidRun_ok {p : Nat} (hp : p < 256) (q : List OpS) : HidR p (hidRun p q).1 (hidRun p q).2 := by
  induction q using snoc_ind with
  | h0 => exact ⟨sv0_ok, sv0_ok, rfl, rfl, rfl, rfl⟩
  | h1 q o ih =>
    have e : hidRun p (q ++ [o]) = hidStep p (hidRun p q) o := by simp [hidRun]
    rw [e]
    unfold hidStep
    split
    · rename_i hs; exact hides_skip ih hs
    · rename_i hs; exact (hides_both hp ih hs).1
theorem hidRun_snoc {p : Nat} {q : List OpS} {i : Nat} {o : OpS} (h : q[i]? = some o) : hidRun p (q.take (i + 1)) = hidStep p (hidRun p (q.take i)) o := by
  rw [take_get h]; simp [hidRun]
/-! ### Two names, in either order -/
theorem getN_histL (id : ByteArray) (l : List Vn) : getN (histL id l) id = getN l id := by
  have key : ∀ (m : List Vn) (g : Int → Bool), getRev id (histL id m) g = getRev id m g := by
    intro m
    induction m with
    | nil => intro g; rfl
    | cons v m ih =>
      intro g
      cases e : hidI id v with
      | true =>
        have hc : ¬ v.r.id = id := by unfold hidI at e; simpa using e
        have e2 : histL id (v :: m) = histL id m := by unfold histL; rw [List.filter_cons, e]; rfl
        rw [e2, getRev_cons, if_neg hc, ih]
      | false =>
        have hc : v.r.id = id := by unfold hidI at e; simpa using e
        have e2 : histL id (v :: m) = v :: histL id m := by unfold histL; rw [List.filter_cons, e]; rfl
        rw [e2, getRev_cons, getRev_cons, if_pos hc, if_pos hc, ih]
  have h := key l.reverse fun _ => false
  have e : histL id l.reverse = (histL id l).reverse := List.filter_reverse ..
  rw [e] at h
  exact h
theorem hist_swap (id : ByteArray) (l : List Vn) (v w : Vn) (h : v.r.id ≠ w.r.id) : histL id (l ++ [v] ++ [w]) = histL id (l ++ [w] ++ [v]) := by
  rw [histL_add, histL_add, histL_add, histL_add]
  by_cases hv : v.r.id = id
  · have hw : ¬ w.r.id = id := fun e => h (hv.trans e.symm)
    have e1 : hidI id v = false := by unfold hidI; simp [hv]
    have e2 : hidI id w = true := by unfold hidI; simp [hw]
    simp [e1, e2]
  · have e1 : hidI id v = true := by unfold hidI; simp [hv]
    simp [e1]
/-- Stores of which all names' versions are the same, to whoever sees whatever. -/
def SameH (a b : List Vn) : Prop := ∀ (m : Nat) (id : ByteArray), histL id (partL (m : Nat) a) = histL id (partL (m : Nat) b)
theorem SameH.get {a b : List Vn} (h : SameH a b) (m : Nat) (id : ByteArray) : getN (partL (m : Nat) a) id = getN (partL (m : Nat) b) id := by
  rw [← getN_histL, h, getN_histL]
theorem sameH_swap (l : List Vn) (v w : Vn) (h : v.r.id ≠ w.r.id) : SameH (l ++ [v] ++ [w]) (l ++ [w] ++ [v]) := by
  intro m id
  rw [hist_part, hist_part, hist_swap id l v w h]
theorem asks_alike {s t : Sv} {o : OpS} (hu : s.up = t.up) (hr : s.rs = t.rs) (hl : SameH s.l t.l) (k : o.kind = 4 ∨ o.kind = 6) : (doS s o).2 = (doS t o).2 := by
  have e : ∀ s, doS s o = (s, doAsk s o) := fun s => by
    unfold doS
    rw [if_neg (by omega), if_neg (by omega), if_neg (by omega), if_neg (by omega), if_neg (by omega), if_pos (by omega)]
  rw [e, e]
  show doAsk s o = doAsk t o
  have e1 : sErr s o.who = sErr t o.who := by unfold sErr; rw [hu, hr]
  have e2 : sSees s o.who = sSees t o.who := by unfold sSees; rw [hu, hr]
  unfold doAsk
  rw [e1, e2]
  rcases k with k | k
  · rw [if_pos k, if_pos k]
    unfold oneG
    rw [hl.get]
  · rw [if_neg (show ¬ o.kind = 4 by omega), if_neg (show ¬ o.kind = 4 by omega), if_pos k, if_pos k, hl]
theorem put_code {s : Sv} {o : OpS} (k : o.kind = 2) : (doS s o).2.code = if chkRec o.rcd = 0 then (if sMay s o.who o.rcd.cats = 0 then putE s.l o.rcd else sMay s o.who o.rcd.cats) else chkRec o.rcd := by
  have e : doS s o = doPut s o := by unfold doS; rw [if_neg (by omega), if_pos k]
  rw [e]
  unfold doPut tdE
  by_cases g1 : chkRec o.rcd = 0
  · rw [if_pos g1, if_pos g1]
    by_cases g2 : sMay s o.who o.rcd.cats = 0
    · rw [if_pos g2, if_pos g2]
      by_cases g3 : putE s.l o.rcd = 0
      · rw [if_pos g3, g3]
      · rw [if_neg g3]
    · rw [if_neg g2, if_neg g2]
  · rw [if_neg g1, if_neg g1]
theorem put_other {s : Sv} (hs : svOk s) {x y : OpS} (kx : x.kind = 2) (ky : y.kind = 2) (hc : x.rcd.cats ≠ y.rcd.cats) : (doS (doS s x).1 y).2.code = (doS s y).2.code := by
  by_cases h : (doS s x).2.code = 0
  · have e := putS_yes kx h
    have hs1 := doS_ok (o := x) hs
    rw [e] at hs1 ⊢
    rw [put_code ky, put_code ky]
    have e1 : sMay { s with l := s.l ++ [⟨x.rcd, false⟩] } y.who y.rcd.cats = sMay s y.who y.rcd.cats := rfl
    have e2 : putE (s.l ++ [⟨x.rcd, false⟩]) y.rcd = putE s.l y.rcd := by
      rw [putE, putE, if_pos hs1.2.2.1, if_pos hs.2.2.1, cnt_add, if_neg hc, Nat.add_zero]
    rw [e1]
    show (if chkRec y.rcd = 0 then (if sMay s y.who y.rcd.cats = 0 then putE (s.l ++ [⟨x.rcd, false⟩]) y.rcd else sMay s y.who y.rcd.cats) else chkRec y.rcd) = _
    rw [e2]
  · rw [(wrong_all h).1]
theorem apart_all {s : Sv} (hs : svOk s) {x y : OpS} (kx : x.kind = 2) (ky : y.kind = 2) (hi : x.rcd.id ≠ y.rcd.id) (hc : x.rcd.cats ≠ y.rcd.cats) :
    (doS (doS s x).1 y).1.up = (doS (doS s y).1 x).1.up ∧ (doS (doS s x).1 y).1.rs = (doS (doS s y).1 x).1.rs ∧ SameH (doS (doS s x).1 y).1.l (doS (doS s y).1 x).1.l := by
  have c1 := put_other hs kx ky hc
  have c2 := put_other hs ky kx (fun e => hc e.symm)
  refine ⟨by simp only [doS_up], by rw [doS_rs (by omega), doS_rs (by omega), doS_rs (by omega), doS_rs (by omega)], ?_⟩
  by_cases hx : (doS s x).2.code = 0
  · have ex := putS_yes kx hx
    rw [hx] at c2
    by_cases hy : (doS s y).2.code = 0
    · have ey := putS_yes ky hy
      rw [hy] at c1
      rw [putS_yes ky c1, putS_yes kx c2, ex, ey]
      exact sameH_swap s.l ⟨x.rcd, false⟩ ⟨y.rcd, false⟩ hi
    · have c1' : (doS (doS s x).1 y).2.code ≠ 0 := by rw [c1]; exact hy
      rw [(wrong_all c1').1, (wrong_all hy).1]
      exact fun _ _ => rfl
  · rw [(wrong_all hx).1]
    have c2' : (doS (doS s y).1 x).2.code ≠ 0 := by rw [c2]; exact hx
    rw [(wrong_all c2').1]
    exact fun _ _ => rfl
end Go.Proofs.Ytfglieambpfbfaa.E
