/- An index that is only read, and one that is new. No conditions. -/
import Derived.Test.YtpdenloeacaadaaNestD
namespace Go.Proofs.Ytpdenloeacaadaa.E
open Go
set_option linter.unusedSimpArgs false
set_option linter.unusedVariables false
set_option linter.unusedSectionVars false
set_option maxRecDepth 20000
set_option maxHeartbeats 1000000
abbrev rowE (e : Fd × List ByteArray) : List AV := [S e.1.key, S e.1.val, strs e.2]
abbrev rowsE (es : Es) : List (List AV) := es.map rowE
/-- An index that is only read. -/
abbrev ixV (es : Es) : AV := .rop [.list 3 (rowsE es)]
theorem rv_names {ex Q : Nat → Prop} {w : World} {p : PE} (h : nmOk ex w p) (hQ : ∀ b, ex b → Q b) : RV w Q (strs p.2) (.slice p.1.a p.1.n p.1.c) := by
 unfold nmOk at h
 simp only [RV, List.length_map]
 rw [h.1]
 cases ha : p.1.a with
 | none =>
  rw [ha] at h
  refine ⟨none, p.1.c, rfl, by omega, fun _ => h.2.2, .inl ?_⟩
  have : p.2 = [] := List.eq_nil_of_length_eq_zero (by omega)
  rw [this]; rfl
 | some ad =>
  rw [ha] at h
  obtain ⟨h1, h2, h3, h4, h5, h6, rest, h7, h8, h9⟩ := h
  refine ⟨some ad, p.1.c, rfl, by omega, (fun e => by cases e), .inr ⟨ad.block, 0, by cases ad; simp only at h2 h3; rw [h2, h3], hQ _ h4, ?_⟩⟩
  refine RVRows.of_flat (ssC_len _) (RVAt.of_vals (vs := p.2.map Value.string) (by rw [flat_ssC]; exact str_rvl _) (str_one _) fun i v hv => ?_)
  rw [Nat.zero_add, cell_block h7, List.getElem?_append_left (lt_of_get hv)]
  exact hv
theorem rowsE_rvl {ex Q : Nat → Prop} {w : World} (hQ : ∀ b, ex b → Q b) : ∀ {l : List PE}, (∀ p ∈ l, nmOk ex w p) → RVL w Q (rowsE (esOf l)).flatten (valsN l)
 | [], _ => by simp [rowsE, esOf, valsN, RVL]
 | p :: l, h => by
  have e1 : (rowsE (esOf (p :: l))).flatten = [S p.1.fd.key, S p.1.fd.val, strs p.2] ++ (rowsE (esOf l)).flatten := rfl
  rw [e1, valsN_cons]
  simp only [entV, List.cons_append, List.nil_append]
  have h3 := rv_names (h p (by simp)) hQ
  have ih := rowsE_rvl hQ (l := l) fun q hq => h q (List.mem_cons_of_mem _ hq)
  unfold RVL
  refine ⟨_, _, rfl, by simp only [RV]; exact ⟨by trivial, rfl⟩, ?_⟩
  unfold RVL
  refine ⟨_, _, rfl, by simp only [RV]; exact ⟨by trivial, rfl⟩, ?_⟩
  unfold RVL
  exact ⟨_, _, rfl, h3, ih⟩
theorem rowsE_len (es : Es) : ∀ r ∈ rowsE es, r.length = 3 := fun r hr => by obtain ⟨x, _, rfl⟩ := List.mem_map.1 hr; rfl
theorem rv_ix {es : Es} {loc : Option (Nat × Nat)} {ex Q : Nat → Prop} {w : World} (h : IXR es loc ex w) (hQ : ∀ b, ((∃ cp, loc = some (b, cp)) ∨ ex b) → Q b) : ∃ b0 cp0, loc = some (b0, cp0) ∧ RV w Q (ixV es) (.pointer (some ⟨b0, 0, none⟩)) := by
 obtain ⟨l, b0, cp0, a, cp, h1, h2, h3, h4, h5, h6⟩ := h
 refine ⟨b0, cp0, h2, ?_⟩
 simp only [RV]
 refine ⟨b0, 0, rfl, .inr (hQ b0 (.inl ⟨cp0, h2⟩)), ?_⟩
 simp only [RVAt, and_true]
 refine ⟨.slice a l.length cp, ?_, rfl, ?_⟩
 ·have := cell_block (w := w) (b := b0) (vs := [.slice a l.length cp]) h4 0
  rw [this]; rfl
 ·have hlen : (rowsE es).length = l.length := by rw [← h1]; simp [rowsE, esOf]
  simp only [RV]
  refine ⟨a, cp, by rw [hlen], ?_, ?_, ?_⟩
  ·rw [hlen]
   cases a with
   | none => rw [h6.1, h6.2]; exact Nat.le_refl _
   | some ad => exact h6.2.2.2.1
  ·intro e; subst e; exact h6.2
  ·cases a with
   | none => left; rw [← h1, h6.1]; rfl
   | some ad =>
    obtain ⟨g1, g2, g3, g4, g5, rest, g6, g7, g8⟩ := h6
    refine .inr ⟨ad.block, 0, by cases ad; simp only at g1 g2; rw [g1, g2], hQ _ (.inr g3), ?_⟩
    refine RVRows.of_flat (rowsE_len _) (RVAt.of_vals (vs := valsN l) (by rw [← h1]; exact rowsE_rvl (fun b hb => hQ b (.inr hb.1)) h5.2.1) (valsN_one l) fun i v hv => ?_)
    rw [Nat.zero_add, cell_block g6, List.getElem?_append_left (lt_of_get hv)]
    exact hv
def AV.calm (x : AV) : Bool := x.free || x.leaf
theorem calm_rv {w : World} {c : Cx} {x : AV} (hx : x.calm = true) {v : Value} (h : RelV w c x v) : RV w (E.still w c) x v := by
 unfold AV.calm at hx
 rw [Bool.or_eq_true] at hx
 rcases hx with hx | hx
 ·exact h.rv hx
 ·cases x <;> simp only [AV.leaf, Bool.false_eq_true] at hx
  case val u => simpa only [RelV, RV] using h
  case agg cs =>
   simp only [RelV, RV] at h ⊢
   obtain ⟨ws, rfl, ho, hw⟩ := h
   refine ⟨ws, rfl, ho, ?_⟩
   clear ho
   induction cs generalizing ws with
   | nil => simpa only [RelL, RVL] using hw
   | cons y cs ih =>
    simp only [List.all_cons, Bool.and_eq_true] at hx
    simp only [RelL, RVL] at hw ⊢
    obtain ⟨u2, us2, rfl, k1, k2⟩ := hw
    refine ⟨u2, us2, rfl, ?_, ih hx.2 us2 k2⟩
    cases y <;> simp only [Bool.false_eq_true, false_and] at hx
    simpa only [RelV, RV] using k1
theorem calm_rvl {w : World} {c : Cx} {xs : List AV} {vs : List Value} (h : RelL w c xs vs) (hf : xs.all AV.calm = true) : RVL w (E.still w c) xs vs := by
 induction xs generalizing vs with
 | nil => simpa only [RelL, RVL] using h
 | cons x xs ih =>
  simp only [List.all_cons, Bool.and_eq_true] at hf
  simp only [RelL, RVL] at h ⊢
  obtain ⟨u, us, rfl, h1, h2⟩ := h
  exact ⟨u, us, rfl, calm_rv hf.1 h1, ih h2 hf.2⟩
/-- A function that only reads an index, and answers what leads nowhere. -/
theorem OkH.thaw {P : Program} {f : FuncId} {es : Es} {xs : List AV} {r : AV} (hr : r.flat = true) (hx : xs.all AV.calm = true) (h : Ok P f (ixV es :: xs) r) : OkH P f (.ptr (.e 0) 0 0 :: xs) [.sem (IXR es)] r [(0, .sem (IXR es))] := by
 intro w c vs hi hv
 have hg : (hpE 0 ([Blk.sem (IXR es)].map fun b => (0, b))).get (.e 0) = (0, .sem (IXR es)) := rfl
 obtain ⟨hc, hlv, hix⟩ := hi.sem hg
 let T : Nat → Prop := fun b => E.still w c b ∨ c.own (.e 0) b
 have hT : ∀ b, T b → b < w.heap.size := fun b hb => by
  rcases hb with hb | hb
  ·exact hb.1
  ·exact hi.lt b ⟨.e 0, hlv, hb⟩
 simp only [RelL, RelV] at hv
 obtain ⟨u, v2, rfl, hu, g2⟩ := hv
 obtain ⟨b, cp, hl, rfl⟩ := hu.2 hc.symm
 obtain ⟨b0, cp0, hl0, hrv⟩ := rv_ix (Q := T) hix fun b hb => .inr hb
 rw [hl] at hl0
 cases hl0
 refine (h w T _ hT (hi.glob.mono fun b hb => ⟨.inl hb, rfl⟩) ?_).mono ?_
 ·unfold RVL
  exact ⟨_, _, rfl, hrv, RVL.mono (fun b hb => ⟨.inl hb, rfl⟩) _ _ (calm_rvl g2 hx)⟩
 ·rintro e w' ⟨v, rfl, hb, hrv⟩
  obtain ⟨hE, hI⟩ := below_ext hi hb
  exact ⟨v, c, rfl, hE, hI, flat_rel hr hrv⟩
/-- The callee's place as the caller's second. -/
def g1 : Site → Nat → Option (Site × Nat)
 | .e j, v => some (.e (j + 1), v)
 | _, _ => none
theorem OkH.thawL {P : Program} {f : FuncId} {es : Es} {xs : List AV} {r : AV} {ns : List ByteArray} {n : Nat} (hr : r = .own (.e 0) 1 1 0 n ∨ ∃ e : Int, r = .tup [.own (.e 0) 1 1 0 n, I e]) (hx : xs.all AV.calm = true) (h : OkH P f (ixV es :: xs) [] r [(1, .row 9 1 none (ns.map ssC))]) :
  OkH P f (.ptr (.e 0) 0 0 :: xs) [.sem (IXR es)] (rn g1 r) [(0, .sem (IXR es)), (1, .row 9 1 none (ns.map ssC))] := by
 intro w c vs hi hv
 have hg : (hpE 0 ([Blk.sem (IXR es)].map fun b => (0, b))).get (.e 0) = (0, .sem (IXR es)) := rfl
 obtain ⟨hc, hlv, hix⟩ := hi.sem hg
 have hcz : ∀ s, c.cur s = 0 := fun s => by
  rw [hi.cur s]
  show (hpE 0 [(0, Blk.sem (IXR es))] |>.get s).1 = 0
  rw [hpE_at]
  cases s with
  | e j => cases j <;> rfl
  | l _ => rfl
  | m _ _ => rfl
 obtain ⟨c0, hc0⟩ : ∃ c0 : Cx, c0 = { cur := fun _ => 0, loc := c.loc, lv := fun _ => false, ex := fun _ _ => False, far := c.far } := ⟨_, rfl⟩
 have lv0 : ∀ s, c0.lv s = false := fun s => by rw [hc0]
 have nl0 : ∀ b, ¬ c0.live b := by rintro b ⟨s, l, _⟩; rw [lv0] at l; cases l
 have hst0 : ∀ b, E.still w c b → E.still w c0 b := fun b hb => ⟨hb.1, nl0 b, by rw [hc0]; exact hb.2.2⟩
 have hi0 : Inv w c0 (hpE 0 ([].map fun b => (0, b))) := by
  refine ⟨hi.glob.mono fun b hb => ⟨hst0 b hb, rfl⟩, fun s => by rw [hc0]; rfl, fun s => ?_, (fun s s' b l => by rw [lv0] at l; cases l), fun b hl => absurd hl (nl0 b), fun b hl => absurd hl (nl0 b), fun b hb => hi.farlt b (by rw [hc0] at hb; exact hb)⟩
  show BlkOk w c0 s .gone
  exact lv0 s
 simp only [RelL, RelV] at hv
 obtain ⟨u, v2, rfl, hu, g2⟩ := hv
 obtain ⟨b, cp, hl, rfl⟩ := hu.2 hc.symm
 obtain ⟨b0, cp0, hl0, hrv⟩ := rv_ix (Q := E.still w c0) hix fun b hb => ⟨hi.lt b ⟨.e 0, hlv, hb⟩, nl0 b, by rw [hc0]; exact hi.far b ⟨.e 0, hlv, hb⟩⟩
 rw [hl] at hl0
 cases hl0
 refine (h w c0 _ hi0 ?_).mono ?_
 ·unfold RelL
  exact ⟨_, _, rfl, RelV.of_RV _ _ hrv, RelL.of_RVL _ _ (RVL.mono (fun b hb => ⟨hst0 b hb, rfl⟩) _ _ (calm_rvl g2 hx))⟩
 ·rintro e w' ⟨v, c2, rfl, hE, hI, hrv2⟩
  have hold : ∀ b, b < w.heap.size → w'.heap[b]? = w.heap[b]? ∧ ¬ c2.live b := fun b hb => hE.block b hb (nl0 b)
  have hr2 : (hpE 0 [(1, Blk.row 9 1 none (ns.map ssC))]).get (.e 0) = (1, .row 9 1 none (ns.map ssC)) := rfl
  obtain ⟨k1, k2, k3, k4, k5⟩ := hI.row hr2
  obtain ⟨c3, hc3⟩ : ∃ c3 : Cx, c3 = { cur := fun s => if s = .e 1 then 1 else 0, loc := fun s => if s = .e 1 then c2.loc (.e 0) else c.loc s, lv := fun s => if s = .e 1 then true else if s = .e 0 then true else false, ex := fun s => if s = .e 1 then c2.ex (.e 0) else if s = .e 0 then c.ex (.e 0) else fun _ => False, far := c2.far } := ⟨_, rfl⟩
  have a0 : c3.loc (.e 0) = c.loc (.e 0) ∧ c3.lv (.e 0) = true ∧ c3.ex (.e 0) = c.ex (.e 0) := by rw [hc3]; simp
  have a1 : c3.loc (.e 1) = c2.loc (.e 0) ∧ c3.lv (.e 1) = true ∧ c3.ex (.e 1) = c2.ex (.e 0) := by rw [hc3]; simp
  have aO : ∀ s, s ≠ .e 0 → s ≠ .e 1 → c3.lv s = false := fun s h h' => by rw [hc3]; simp [h, h']
  have aL : ∀ s, s ≠ .e 1 → c3.loc s = c.loc s := fun s h => by rw [hc3]; simp [h]
  have acur : ∀ s, c3.cur s = if s = .e 1 then 1 else 0 := fun s => by rw [hc3]
  have hfar : c3.far = c.far := by rw [hc3]; show c2.far = _; rw [hE.far, hc0]
  have w0 : ∀ b, c3.own (.e 0) b ↔ c.own (.e 0) b := fun b => Cx.own_eq a0.1 a0.2.2 b
  have w1 : ∀ b, c3.own (.e 1) b ↔ c2.own (.e 0) b := fun b => Cx.own_eq a1.1 a1.2.2 b
  have key : ∀ s b, c3.lv s = true → c3.own s b → (s = .e 0 ∧ c.own (.e 0) b) ∨ (s = .e 1 ∧ c2.own (.e 0) b) := fun s b l o => by
   by_cases e1 : s = .e 1
   ·subst e1; exact .inr ⟨rfl, (w1 b).1 o⟩
   ·by_cases e0 : s = .e 0
    ·subst e0; exact .inl ⟨rfl, (w0 b).1 o⟩
    ·rw [aO s e0 e1] at l; cases l
  have hE3 : Ext w c w' c3 := by
   refine ⟨hE.os, hE.tape, hE.output, hE.size, fun b hb hn => ⟨(hold b hb).1, ?_⟩, hfar, fun s => ?_⟩
   ·rintro ⟨s, l, o⟩
    rcases key s b l o with ⟨rfl, o3⟩ | ⟨rfl, o3⟩
    ·exact hn ⟨.e 0, hlv, o3⟩
    ·exact (hold b hb).2 ⟨.e 0, k2, o3⟩
   ·rw [acur, hcz]
    by_cases e1 : s = .e 1
    ·rw [if_pos e1]; exact .inl (by omega)
    ·rw [if_neg e1]
     refine .inr ⟨rfl, aL s e1, fun l => ?_⟩
     by_cases e0 : s = .e 0
     ·subst e0; exact hlv
     ·rw [aO s e0 e1] at l; cases l
  have gt : ∀ s, (hpE 0 [(0, Blk.sem (IXR es)), (1, .row 9 1 none (ns.map ssC))]).get s = if s = .e 0 then (0, .sem (IXR es)) else if s = .e 1 then (1, .row 9 1 none (ns.map ssC)) else (0, .gone) := fun s => by
   rw [hpE_at]
   cases s with
   | e j => match j with
    | 0 => rfl
    | 1 => rfl
    | j + 2 => simp [atE]
   | l _ => simp [atE]
   | m _ _ => simp [atE]
  refine ⟨v, c3, rfl, hE3, ⟨hi.glob.mono fun b hb => hE3.still b hb, fun s => ?_, fun s => ?_, fun s s' b l1 l2 o1 o2 => ?_, ?_, ?_, fun b hb => Nat.lt_of_lt_of_le (hi.farlt b (by rw [hfar] at hb; exact hb)) hE.size⟩, ?_⟩
  ·rw [acur, gt]
   by_cases e0 : s = .e 0
   ·subst e0; simp
   ·by_cases e1 : s = .e 1
    ·subst e1; simp
    ·simp [e0, e1]
  ·rw [gt]
   by_cases e0 : s = .e 0
   ·subst e0
    rw [if_pos rfl]
    simp only [BlkOk]
    refine ⟨a0.2.1, fun w2 h2 => ?_⟩
    rw [a0.1, a0.2.2]
    refine hix.loc fun b hb => ?_
    rw [h2 b ((w0 b).2 hb)]
    exact (hold b (hi.lt b ⟨.e 0, hlv, hb⟩)).1
   ·rw [if_neg e0]
    by_cases e1 : s = .e 1
    ·subst e1
     rw [if_pos rfl]
     simp only [BlkOk]
     refine ⟨a1.2.1, k3, k4, ?_⟩
     rw [a1.1]
     rcases k5 with ⟨x1, x2, x3⟩ | ⟨b, cp, xs', rest, x1, x2, x3, x4, x5, x6, x7⟩
     ·rw [x1]; exact ⟨x2, .inl trivial⟩
     ·rw [x1]
      refine ⟨.inl trivial, x3, xs', rest, x4, x5, x6, ?_⟩
      rw [flat_ssC] at x7 ⊢
      rw [rvl_str x7]
      exact str_rvl _
    ·rw [if_neg e1]; exact aO s e0 e1
  ·rcases key s b l1 o1 with ⟨rfl, x⟩ | ⟨rfl, x⟩ <;> rcases key s' b l2 o2 with ⟨rfl, y⟩ | ⟨rfl, y⟩
   ·rfl
   ·exact absurd ⟨.e 0, k2, y⟩ (hold b (hi.lt b ⟨.e 0, hlv, x⟩)).2
   ·exact absurd ⟨.e 0, k2, x⟩ (hold b (hi.lt b ⟨.e 0, hlv, y⟩)).2
   ·rfl
  ·rintro b ⟨s, l, o⟩
   rcases key s b l o with ⟨rfl, o3⟩ | ⟨rfl, o3⟩
   ·rw [hfar]; exact hi.far b ⟨.e 0, hlv, o3⟩
   ·rw [hc3]; exact hI.far b ⟨.e 0, k2, o3⟩
  ·rintro b ⟨s, l, o⟩
   rcases key s b l o with ⟨rfl, o3⟩ | ⟨rfl, o3⟩
   ·exact Nat.lt_of_lt_of_le (hi.lt b ⟨.e 0, hlv, o3⟩) hE.size
   ·exact hI.lt b ⟨.e 0, k2, o3⟩
  ·have own : ∀ u, RelV w' c2 (.own (.e 0) 1 1 0 n) u → RelV w' c3 (.own (.e 1) 1 1 0 n) u := fun u h => by
    simp only [RelV] at h ⊢
    rw [acur, if_pos rfl, a1.1]
    exact ⟨Nat.le_refl _, fun _ => h.2 (by rw [k1])⟩
   rcases hr with rfl | ⟨e, rfl⟩
   ·exact own _ hrv2
   ·simp only [RelV] at hrv2
    obtain ⟨us, rfl, h2⟩ := hrv2
    simp only [rn, rnL, g1, RelV]
    refine ⟨us, rfl, ?_⟩
    unfold RelL at h2 ⊢
    obtain ⟨u1, us1, rfl, h3, h4⟩ := h2
    refine ⟨u1, us1, rfl, own u1 h3, ?_⟩
    simp only [RelL, RelV] at h4 ⊢
    exact h4
/-- A new index, as one that is only read. -/
theorem Ok.frozen {P : Program} {f : FuncId} {es : Es} {xs : List AV} {e : Int} (h : OkH P f xs [] (.tup [.ptr (.e 0) 1 0, I e]) [(1, .sem (IXR es))]) : Ok P f xs (.tup [ixV es, I e]) := by
 intro w T vs hT hG hv
 let c : Cx := { cur := fun _ => 0, loc := fun _ => none, lv := fun _ => false, ex := fun _ _ => False, far := fun b => b < w.heap.size ∧ ¬ T b }
 have hlv : ∀ b, ¬ c.live b := by rintro b ⟨s, l, _⟩; exact absurd l (by simp [c])
 have hst : ∀ b, T b → E.still w c b := fun b hb => ⟨hT b hb, hlv b, fun hf => hf.2 hb⟩
 have hinv : Inv w c (hpE 0 ([].map fun b => (0, b))) := ⟨hG.mono fun b hb => ⟨hst b hb, rfl⟩, fun _ => rfl, fun s => by show BlkOk w c s .gone; simp only [BlkOk, c], fun s s' b l => absurd l (by simp [c]), fun b hl => absurd hl (hlv b), fun b hl => absurd hl (hlv b), fun b hf => hf.1⟩
 refine (h w c vs hinv (RelL.of_RVL _ _ (RVL.mono (fun b hb => ⟨hst b hb, rfl⟩) _ _ hv))).mono ?_
 rintro e' w' ⟨v, c', rfl, hE, hI, hr⟩
 have hg : (hpE 0 [(1, Blk.sem (IXR es))]).get (.e 0) = (1, .sem (IXR es)) := rfl
 obtain ⟨k1, k2, hix⟩ := hI.sem hg
 refine ⟨v, rfl, ⟨hE.os, hE.tape, hE.output, hE.size, fun b hb => (hE.block b hb (hlv b)).1⟩, ?_⟩
 simp only [RelV] at hr
 obtain ⟨us, rfl, h2⟩ := hr
 simp only [RelL, RelV] at h2
 obtain ⟨u, _, rfl, hu, _, _, rfl, he, rfl⟩ := h2
 obtain ⟨b, cp, hl, rfl⟩ := hu.2 k1.symm
 obtain ⟨b0, cp0, hl0, hrv⟩ := rv_ix (Q := grownS T w w') hix fun b hb => by
  refine .inr ⟨?_, hI.lt b ⟨.e 0, k2, hb⟩⟩
  rcases Nat.lt_or_ge b w.heap.size with h1 | h1
  ·exact absurd ⟨.e 0, k2, hb⟩ (hE.block b h1 (hlv b)).2
  ·exact h1
 rw [hl] at hl0
 cases hl0
 unfold RV
 refine ⟨_, rfl, ?_⟩
 unfold RVL
 refine ⟨_, _, rfl, hrv, ?_⟩
 simp only [RVL, RV]
 exact ⟨_, _, rfl, he, rfl⟩
/-- A new index is one that says nothing. -/
theorem toSem {tm : List (Nat × AV)} {hp : Hp} {n : Nat} {s : Site} {v : Nat} (hs : hp.get s = (v, .cells 99 [.val (.slice none 0 0)])) : Less ⟨tm, hp, n⟩ ⟨tm, hp.set s v (.sem (IXR [])), n⟩ := by
 intro w c a h
 obtain ⟨k1, k2, b0, cp0, vs, k3, k4, _, k5⟩ := h.inv.cells hs
 simp only [RelL, RelV] at k5
 obtain ⟨_, _, rfl, ⟨rfl, _⟩, rfl⟩ := k5
 obtain ⟨c', hc'⟩ : ∃ c' : Cx, c' = { c with ex := fun s' => if s' = s then (fun _ => False) else c.ex s' } := ⟨_, rfl⟩
 have e1 : c'.cur = c.cur := by rw [hc']
 have e2 : c'.loc = c.loc := by rw [hc']
 have e3 : c'.lv = c.lv := by rw [hc']
 have e4 : c'.far = c.far := by rw [hc']
 have e5 : c'.ex s = fun _ => False := by rw [hc']; simp
 have e6 : ∀ s', s' ≠ s → c'.ex s' = c.ex s' := fun s' h => by rw [hc']; simp [h]
 have hown : ∀ s' b, c'.own s' b → c.own s' b := fun s' b o => by
  by_cases e : s' = s
  ·subst e
   rcases o with ⟨cp, o⟩ | o
   ·exact .inl ⟨cp, by rw [← e2]; exact o⟩
   ·rw [e5] at o; exact o.elim
  ·exact (Cx.own_eq (by rw [e2]) (e6 s' e) b).1 o
 have hsub : ∀ b, c'.live b → c.live b := by rintro b ⟨s', l, o⟩; exact ⟨s', by rw [← e3]; exact l, hown s' b o⟩
 have he : Ext w c w c' := ⟨rfl, rfl, rfl, Nat.le_refl _, fun b _ hn => ⟨rfl, fun hl => hn (hsub b hl)⟩, e4, fun s' => .inr ⟨by rw [e1], by rw [e2], by rw [e3]; exact id⟩⟩
 refine ⟨c', he.toW, ⟨h.size, fun i => RelV.ext he _ _ (h.tm i), ?_, h.df⟩⟩
 refine h.inv.upd he s v _ (fun s' hs' => ⟨by rw [e1], by rw [e2], by rw [e3], e6 s' hs'⟩) (fun _ _ _ _ _ => rfl) (by rw [e1]; exact k1) ?_ fun b l o => ?_
 ·simp only [BlkOk]
  refine ⟨by rw [e3]; exact k2, fun w2 h2 => ?_⟩
  rw [e2, e5, k3]
  refine ⟨[], b0, cp0, none, 0, rfl, rfl, id, ?_, ⟨rfl, (fun p hp => by cases hp), List.Pairwise.nil⟩, rfl, rfl⟩
  rw [h2 b0 (.inl ⟨cp0, by rw [e2]; exact k3⟩)]
  exact k4
 ·have o' := hown s b o
  rw [e3] at l
  exact ⟨h.inv.lt b ⟨s, l, o'⟩, h.inv.far b ⟨s, l, o'⟩, fun s' hs' l' o2 => hs' (h.inv.inj s' s b l' l o2 o')⟩
end Go.Proofs.Ytpdenloeacaadaa.E
