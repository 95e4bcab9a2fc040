/- The abstract machine of this claim, part X: functions that turn what is handed in. No conditions. -/
import Derived.Test.YtanbgeelphfggaaDoorEngU
namespace Go.Proofs.YtanbgeelphfggaaDoor.E
open Go
set_option linter.unusedSimpArgs false
set_option linter.unusedVariables false
set_option linter.unusedSectionVars false
set_option maxRecDepth 20000

/-! ### What is given back -/
def idxO : List (Option Site) → Site → Option Nat
  | [], _ => none
  | some x :: r, s => if x = s then some 0 else (idxO r s).map (· + 1)
  | none :: r, s => (idxO r s).map (· + 1)
theorem idxO_some {l : List (Option Site)} {s : Site} {i : Nat} (h : idxO l s = some i) : l[i]? = some (some s) := by
  induction l generalizing i with
  | nil => simp [idxO] at h
  | cons x r ih =>
    cases x with
    | none =>
      simp only [idxO] at h
      obtain ⟨j, hj, rfl⟩ := Option.map_eq_some_iff.1 h
      simpa using ih hj
    | some x =>
      simp only [idxO] at h
      split at h
      · rename_i e; cases h; subst e; rfl
      · obtain ⟨j, hj, rfl⟩ := Option.map_eq_some_iff.1 h
        simpa using ih hj
def isE : Site → Bool
  | .e _ => true
  | _ => false
/-- The places that stay in the caller's hands, and under which names: the first m as they were, then the new ones. -/
def outG (hp : Hp) (m : Nat) (mv : List (Option Site)) (hs' : List (Nat × Blk)) : Site → Nat → Option (Site × Nat)
  | .e i, ver => if i < m ∧ isGone ((hs'[i]?).getD (0, .gone)).2 = false then some (.e i, ver) else none
  | s, ver => match idxO mv s with
    | some j => if ver = (hp.get s).1 then some (.e (m + j), 1) else none
    | none => none
section
variable (hp : Hp) (g : Site → Nat → Option (Site × Nat))
def fz1 (x : AV) : AV := match pass1 hp x with
  | some (y, _) => y
  | none => .dead
/-- What stays keeps its place; what does not is written no more. -/
def fzS (s : Site) (ver : Nat) (x : AV) : AV := match g s ver with
  | some _ => rn g x
  | none => fz1 hp x
mutual
def fz : AV → AV
  | .ptr s ver off => fzS hp g s ver (.ptr s ver off)
  | .ept s ver k i off => fzS hp g s ver (.ept s ver k i off)
  | .own s ver k off len => fzS hp g s ver (.own s ver k off len)
  | .map s ver => fzS hp g s ver (.map s ver)
  | .agg cs => .agg (fzL cs)
  | .tup cs => .tup (fzL cs)
  | .func f cap => .func f (fzL cap)
  | .iface t x => .iface t (fz x)
  | .val v => .val v
  | .list k rows => .list k rows
  | .rop cs => .rop cs
  | .junk => .junk
  | .dead => .dead
def fzL : List AV → List AV
  | [] => []
  | x :: xs => fz x :: fzL xs
end
end
def fzB (hp : Hp) (g : Site → Nat → Option (Site × Nat)) : Blk → Blk
  | .cells t cs => .cells t (fzL hp g cs)
  | b => b
/-- The frozen places are none of those that stay. -/
theorem pass1_cx {w : World} {c : Cx} {hp hp' : Hp} (hi : Inv w c hp) {x y : AV} {v : Value} (hx : RelV w c x v) (h : pass1 hp x = some (y, hp')) : ∃ c1 : Cx, c1.far = c.far ∧ (∀ s', c1.lv s' = c.lv s' ∨ s' ∈ sts x) ∧ c1.loc = c.loc ∧ RV w (still w c1) y v := by
  cases x <;> simp only [pass1, reduceCtorEq] at h
  case val u => cases h; exact ⟨c, rfl, fun _ => .inl rfl, rfl, by simpa only [RelV, RV] using hx⟩
  case list k rows => cases h; exact ⟨c, rfl, fun _ => .inl rfl, rfl, by simpa only [RelV] using hx⟩
  case rop cs => cases h; exact ⟨c, rfl, fun _ => .inl rfl, rfl, by simpa only [RelV] using hx⟩
  case junk => cases h; exact ⟨c, rfl, fun _ => .inl rfl, rfl, by simpa only [RelV, RV] using hx⟩
  case own s ver k off len =>
    have fr : ∀ s', (c.freeze s).lv s' = c.lv s' ∨ s' ∈ sts (.own s ver k off len) := fun s' => by
      by_cases e : s' = s
      · exact .inr (by simp [sts, e])
      · exact .inl (by simp [Cx.freeze, e])
    split at h
    · rename_i n t k2 q rows e
      split at h
      · rename_i hc
        obtain ⟨rfl, rfl, hlen⟩ := hc
        cases h
        obtain ⟨h1, h2⟩ := freeze_sound hi e
        exact ⟨c.freeze s, rfl, fr, rfl, rows_rv h2 (RelV.ext h1 _ _ hx) (by rw [Hp.get_set, if_pos rfl]) rfl hlen⟩
      · cases h
    · rename_i n k2 rows e
      split at h
      · rename_i hc
        obtain ⟨rfl, rfl, hlen⟩ := hc
        cases h
        exact ⟨c, rfl, fun _ => .inl rfl, rfl, rows_rv hi hx e rfl hlen⟩
      · cases h
    · cases h
  case ptr s ver off =>
    have fr : ∀ s', (c.freeze s).lv s' = c.lv s' ∨ s' ∈ sts (.ptr s ver off) := fun s' => by
      by_cases e : s' = s
      · exact .inr (by simp [sts, e])
      · exact .inl (by simp [Cx.freeze, e])
    split at h
    · rename_i n t cs e
      split at h
      · rename_i hc
        obtain ⟨rfl, hf⟩ := hc
        cases h
        obtain ⟨h1, h2⟩ := freezeC_sound hi e hf
        exact ⟨c.freeze s, rfl, fr, rfl, rop_rv h2 (RelV.ext h1 _ _ hx) (t := t) (by rw [Hp.get_set, if_pos rfl]) rfl⟩
      · cases h
    · rename_i n t cs e
      split at h
      · rename_i hc
        subst hc
        cases h
        exact ⟨c, rfl, fun _ => .inl rfl, rfl, rop_rv hi hx e rfl⟩
      · cases h
    · cases h
section
variable {w : World} {c c' : Cx} {hp : Hp} {g : Site → Nat → Option (Site × Nat)}
/-- A place that does not stay is nobody's. -/
def Drops (c c' : Cx) (hp : Hp) (g : Site → Nat → Option (Site × Nat)) : Prop :=
  ∀ s ver, g s ver = none → ver = c.cur s → ∀ b, c'.live b → ∃ s' cp, s' ≠ s ∧ c.lv s' = true ∧ c.loc s' = some (b, cp)
theorem fz1_rel (hi : Inv w c hp) (hfar : c'.far = c.far) (hsub : ∀ b, c'.live b → c.live b) {x : AV} {v : Value} (hx : RelV w c x v) (hone : ∀ s ∈ sts x, ∀ b, c'.live b → ∃ s' cp, s' ≠ s ∧ c.lv s' = true ∧ c.loc s' = some (b, cp)) (h1 : sts x = [] ∨ ∃ s, sts x = [s]) : RelV w c' (fz1 hp x) v := by
  unfold fz1
  cases h : pass1 hp x with
  | none => simp only [RelV]
  | some q =>
    obtain ⟨y, hp'⟩ := q
    simp only
    obtain ⟨c1, g1, g2, g3, g4⟩ := pass1_cx hi hx h
    refine RelV.of_RV _ _ (RV.mono (fun b hb => ⟨⟨hb.1, fun hl => ?_, by rw [hfar, ← g1]; exact hb.2.2⟩, rfl⟩) _ _ g4)
    refine hb.2.1 ?_
    rcases h1 with h1 | ⟨s, h1⟩
    · obtain ⟨s', cp, l, o⟩ := hsub b hl
      refine ⟨s', cp, ?_, by rw [g3]; exact o⟩
      rcases g2 s' with e | e
      · rw [e]; exact l
      · rw [h1] at e; cases e
    · obtain ⟨s', cp, hne, l, o⟩ := hone s (by simp [h1]) b hl
      refine ⟨s', cp, ?_, by rw [g3]; exact o⟩
      rcases g2 s' with e | e
      · rw [e]; exact l
      · rw [h1] at e; exact absurd (by simpa using e) hne
theorem fzS_rel (hi : Inv w c hp) (hfar : c'.far = c.far) (hsub : ∀ b, c'.live b → c.live b) (hg : Fits c c' g) (hst : ∀ b, still w c b → still w c' b) (hdr : Drops c c' hp g) {s : Site} {ver : Nat} {x : AV} {v : Value} (hx : RelV w c x v) (hs : sts x = [s])
    (hcur : ver ≠ c.cur s → fz1 hp x = .dead) : RelV w c' (fzS hp g s ver x) v := by
  unfold fzS
  cases e : g s ver with
  | some q => exact RelV.rn hg hst x v hx
  | none =>
    by_cases hv : ver = c.cur s
    · exact fz1_rel hi hfar hsub hx (fun s' hs' => by rw [hs] at hs'; simp only [List.mem_singleton] at hs'; subst hs'; exact hdr s' ver e hv) (.inr ⟨s, hs⟩)
    · simp only [hcur hv, RelV]
mutual
theorem RelV.fz (hi : Inv w c hp) (hfar : c'.far = c.far) (hsub : ∀ b, c'.live b → c.live b) (hg : Fits c c' g) (hst : ∀ b, still w c b → still w c' b) (hdr : Drops c c' hp g) : ∀ (x : AV) (v : Value), RelV w c x v → RelV w c' (E.fz hp g x) v
  | .ptr s ver off, v, h => by
    simp only [E.fz]
    refine fzS_rel hi hfar hsub hg hst hdr h rfl fun hne => ?_
    rw [hi.cur] at hne
    unfold fz1
    simp only [pass1]
    cases e : hp.get s with
    | mk n b =>
      rw [e] at hne
      cases b <;> simp only
      case cells t cs => rw [if_neg (fun q => hne q.1.symm)]
      case icc t cs => rw [if_neg (fun q => hne q.symm)]
  | .ept s ver k i off, v, h => by
    simp only [E.fz]
    exact fzS_rel hi hfar hsub hg hst hdr h rfl fun hne => rfl
  | .own s ver k off len, v, h => by
    simp only [E.fz]
    refine fzS_rel hi hfar hsub hg hst hdr h rfl fun hne => ?_
    rw [hi.cur] at hne
    unfold fz1
    simp only [pass1]
    cases e : hp.get s with
    | mk n b =>
      rw [e] at hne
      cases b <;> simp only
      case row t k2 q rows => rw [if_neg (fun q => hne q.1.symm)]
      case ice k2 rows => rw [if_neg (fun q => hne q.1.symm)]
  | .map s ver, v, h => by
    simp only [E.fz]
    exact fzS_rel hi hfar hsub hg hst hdr h rfl fun hne => rfl
  | .agg cs, v, h => by
    simp only [E.fz, RelV] at h ⊢
    obtain ⟨vs, e, ho, hr⟩ := h
    exact ⟨vs, e, ho, RelL.fz hi hfar hsub hg hst hdr cs vs hr⟩
  | .tup cs, v, h => by
    simp only [E.fz, RelV] at h ⊢
    obtain ⟨vs, e, hr⟩ := h
    exact ⟨vs, e, RelL.fz hi hfar hsub hg hst hdr cs vs hr⟩
  | .func f cap, v, h => by
    simp only [E.fz, RelV] at h ⊢
    obtain ⟨vs, e, hr⟩ := h
    exact ⟨vs, e, RelL.fz hi hfar hsub hg hst hdr cap vs hr⟩
  | .iface t x, v, h => by
    simp only [E.fz, RelV] at h ⊢
    obtain ⟨u, e, hr⟩ := h
    exact ⟨u, e, RelV.fz hi hfar hsub hg hst hdr x u hr⟩
  | .val u, v, h => by simpa only [E.fz, RelV] using h
  | .list k rows, v, h => by
    simp only [E.fz, RelV] at h ⊢
    exact rv_still hst _ _ h
  | .rop cs, v, h => by
    simp only [E.fz, RelV] at h ⊢
    exact rv_still hst _ _ h
  | .junk, v, h => by simpa only [E.fz, RelV] using h
  | .dead, v, h => by simp only [E.fz, RelV]
theorem RelL.fz (hi : Inv w c hp) (hfar : c'.far = c.far) (hsub : ∀ b, c'.live b → c.live b) (hg : Fits c c' g) (hst : ∀ b, still w c b → still w c' b) (hdr : Drops c c' hp g) : ∀ (x : List AV) (v : List Value), RelL w c x v → RelL w c' (E.fzL hp g x) v
  | [], v, h => by simpa only [E.fzL, RelL] using h
  | x :: xs, v, h => by
    simp only [E.fzL, RelL] at h ⊢
    obtain ⟨u, us, e, h1, h2⟩ := h
    exact ⟨u, us, e, RelV.fz hi hfar hsub hg hst hdr x u h1, RelL.fz hi hfar hsub hg hst hdr xs us h2⟩
end
end

/-! ### What may be told as something else, at the end -/
def Cv (nb : Nat → Prop) : AV → AV → Prop
  | .val (.slice none 0 0), .list _ rows => rows = []
  | .val (.slice none 0 0), .own (.e i) v _ off len => nb i ∧ v = 1 ∧ off = 0 ∧ len = 0
  | x, y => x = y
def CvC (nb : Nat → Prop) : List AV → List AV → Prop
  | [], [] => True
  | x :: xs, y :: ys => Cv nb x y ∧ CvC nb xs ys
  | _, _ => False
def CvA (nb : Nat → Prop) : AV → AV → Prop
  | .agg cs, .agg ds => CvC nb cs ds
  | x, y => Cv nb x y
def CvL (nb : Nat → Prop) : List AV → List AV → Prop
  | [], [] => True
  | x :: xs, y :: ys => CvA nb x y ∧ CvL nb xs ys
  | _, _ => False
def CvB (nb : Nat → Prop) : Blk → Blk → Prop
  | .cells t cs, .cells t' ds => t = t' ∧ CvC nb cs ds
  | .row t k q rows, .row t' k' q' rows' => t = t' ∧ k = k' ∧ (q' = none ∨ q' = q) ∧ rows' <+: rows
  | x, y => x = y
section
variable {w : World} {c : Cx} {nb : Nat → Prop}
/-- Places that began as nil. -/
def Nb (c : Cx) (nb : Nat → Prop) : Prop := ∀ i, nb i → c.cur (.e i) = 1 ∧ c.loc (.e i) = none
theorem Cv.rel (hn : Nb c nb) {x y : AV} (h : Cv nb x y) {v : Value} (hx : RelV w c x v) : RelV w c y v := by
  unfold Cv at h
  split at h
  · subst h
    simp only [RelV, RV] at hx ⊢
    obtain ⟨rfl, _⟩ := hx
    exact ⟨none, 0, rfl, Nat.le_refl _, fun _ => rfl, .inl trivial⟩
  · obtain ⟨h1, rfl, rfl, rfl⟩ := h
    obtain ⟨h2, h3⟩ := hn _ h1
    simp only [RelV] at hx ⊢
    obtain ⟨rfl, _⟩ := hx
    rw [h2, h3]
    exact ⟨Nat.le_refl _, fun _ => ⟨trivial, trivial, rfl⟩⟩
  · exact h ▸ hx
theorem CvC.rel (hn : Nb c nb) {xs ys : List AV} (h : CvC nb xs ys) {vs : List Value} (hx : RelL w c xs vs) : RelL w c ys vs := by
  induction xs generalizing ys vs with
  | nil => cases ys with
    | nil => exact hx
    | cons y ys => simp only [CvC] at h
  | cons x xs ih => cases ys with
    | nil => simp only [CvC] at h
    | cons y ys =>
      simp only [CvC] at h
      simp only [RelL] at hx ⊢
      obtain ⟨u, us, rfl, h1, h2⟩ := hx
      exact ⟨u, us, rfl, h.1.rel hn h1, ih h.2 h2⟩
theorem CvA.rel (hn : Nb c nb) {x y : AV} (h : CvA nb x y) {v : Value} (hx : RelV w c x v) : RelV w c y v := by
  unfold CvA at h
  split at h
  · simp only [RelV] at hx ⊢
    obtain ⟨vs, rfl, ho, hx⟩ := hx
    exact ⟨vs, rfl, ho, h.rel hn hx⟩
  · exact h.rel hn hx
theorem CvL.rel (hn : Nb c nb) {xs ys : List AV} (h : CvL nb xs ys) {vs : List Value} (hx : RelL w c xs vs) : RelL w c ys vs := by
  induction xs generalizing ys vs with
  | nil => cases ys with
    | nil => exact hx
    | cons y ys => simp only [CvL] at h
  | cons x xs ih => cases ys with
    | nil => simp only [CvL] at h
    | cons y ys =>
      simp only [CvL] at h
      simp only [RelL] at hx ⊢
      obtain ⟨u, us, rfl, h1, h2⟩ := hx
      exact ⟨u, us, rfl, h.1.rel hn h1, ih h.2 h2⟩
theorem CvB.ok (hn : Nb c nb) {s : Site} {x y : Blk} (h : CvB nb x y) (hx : BlkOk w c s x) : BlkOk w c s y := by
  unfold CvB at h
  split at h
  · obtain ⟨rfl, h⟩ := h
    simp only [BlkOk] at hx ⊢
    obtain ⟨h1, b, cp, vs, h2, h3, ho, h4⟩ := hx
    exact ⟨h1, b, cp, vs, h2, h3, ho, h.rel hn h4⟩
  · rename_i t k q rows t' k' q' rows'
    obtain ⟨rfl, rfl, hq, hpre⟩ := h
    simp only [BlkOk] at hx ⊢
    obtain ⟨h1, h0, h2, h3⟩ := hx
    refine ⟨h1, h0, fun r hr => h2 r (hpre.subset hr), ?_⟩
    obtain ⟨n, hn'⟩ : ∃ n, rows' = rows.take n := ⟨rows'.length, (List.prefix_iff_eq_take.1 hpre)⟩
    cases hl : c.loc s with
    | none =>
      rw [hl] at h3
      obtain ⟨rfl, h4⟩ := h3
      refine ⟨by rw [hn']; simp, ?_⟩
      rcases hq with rfl | rfl
      · exact .inl rfl
      · exact h4
    | some x =>
      obtain ⟨b, cp⟩ := x
      rw [hl] at h3
      obtain ⟨hcq, hcp, vs, rest, h5, h6, ho, h7⟩ := h3
      refine ⟨?_, hcp, vs.take (n * k), vs.drop (n * k) ++ rest, ?_, ?_, ?_, ?_⟩
      · rcases hq with rfl | rfl
        · exact .inl rfl
        · exact hcq
      · rw [← List.append_assoc, List.take_append_drop]; exact h5
      · rw [← List.append_assoc, List.take_append_drop]; exact h6
      · rw [← List.append_assoc, List.take_append_drop]; exact ho
      · rw [hn', flatten_take h2]
        exact h7.take _
  · exact h ▸ hx
end

/-! ### The end -/
def nbO (m : Nat) (mv : List (Option Site)) (i : Nat) : Prop := m ≤ i ∧ mv[i - m]? = some none
/-- The old places, at the end. -/
def FinE (nb : Nat → Prop) (hp : Hp) (g : Site → Nat → Option (Site × Nat)) : Nat → Nat → List (Nat × Blk) → Prop
  | _, 0, _ => True
  | _, _ + 1, [] => False
  | i, m + 1, (v, b) :: r => (if isGone b = true then v = 0 else (hp.get (.e i)).1 = v ∧ CvB nb (fzB hp g (hp.get (.e i)).2) b) ∧ FinE nb hp g (i + 1) m r
/-- The new places, at the end. -/
def FinM (nb : Nat → Prop) (hp : Hp) (g : Site → Nat → Option (Site × Nat)) : List (Option Site) → List (Nat × Blk) → Prop
  | [], r => r = []
  | _ :: _, [] => False
  | some s :: mv, (v, b) :: r => (v = 1 ∧ isGone b = false ∧ CvB nb (fzB hp g (hp.get s).2) b) ∧ FinM nb hp g mv r
  | none :: mv, (v, b) :: r => (v = 1 ∧ match b with | .row _ k q rows => 0 < k ∧ rows = [] ∧ (q = none ∨ q = some 0) | _ => False) ∧ FinM nb hp g mv r
def mvOk : List (Option Site) → Bool
  | [] => true
  | some s :: r => !isE s && !r.contains (some s) && mvOk r
  | none :: r => mvOk r
def RetH (nb : Nat → Prop) : List AV → AV → Prop
  | [x], r => CvA nb x r
  | l, .tup rs => CvL nb l rs
  | _, _ => False
def AFinH (P : Program) (rs : List ResultVar) (r : AV) (hs' : List (Nat × Blk)) (m : Nat) (mv : List (Option Site)) (st : ASt) : Prop :=
  ARes P st rs fun l => mvOk mv = true ∧ RetH (nbO m mv) (fzL st.hp (outG st.hp m mv hs') l) r ∧ FinE (nbO m mv) st.hp (outG st.hp m mv hs') 0 m hs' ∧ FinM (nbO m mv) st.hp (outG st.hp m mv hs') mv (hs'.drop m)
def AEndH (P : Program) (rs : List ResultVar) (r : AV) (hs' : List (Nat × Blk)) (m : Nat) (mv : List (Option Site)) : Ex → ASt → Prop
  | .exit _, _ => False
  | _, st => AFinH P rs r hs' m mv st
theorem mvOk_spec {mv : List (Option Site)} (h : mvOk mv = true) : ∀ (i j : Nat) s, mv[i]? = some (some s) → mv[j]? = some (some s) → i = j ∧ isE s = false := by
  induction mv with
  | nil => intro i j s h; simp at h
  | cons x r ih =>
    intro i j s h1 h2
    have hr : mvOk r = true := by
      cases x with
      | none => exact h
      | some y => simp only [mvOk, Bool.and_eq_true] at h; exact h.2
    cases i with
    | zero =>
      simp only [List.getElem?_cons_zero, Option.some.injEq] at h1
      subst h1
      simp only [mvOk, Bool.and_eq_true, Bool.not_eq_true'] at h
      cases j with
      | zero => exact ⟨rfl, h.1.1⟩
      | succ j =>
        simp only [List.getElem?_cons_succ] at h2
        have := List.mem_of_getElem? h2
        have h3 := h.1.2
        simp at h3
        exact absurd this h3
    | succ i =>
      simp only [List.getElem?_cons_succ] at h1
      cases j with
      | zero =>
        simp only [List.getElem?_cons_zero, Option.some.injEq] at h2
        subst h2
        simp only [mvOk, Bool.and_eq_true, Bool.not_eq_true'] at h
        have := List.mem_of_getElem? h1
        have h3 := h.1.2
        simp at h3
        exact absurd this h3
      | succ j =>
        simp only [List.getElem?_cons_succ] at h2
        obtain ⟨h3, h4⟩ := ih hr i j s h1 h2
        exact ⟨by rw [h3], h4⟩
theorem idxO_get {mv : List (Option Site)} (h : mvOk mv = true) {j : Nat} {s : Site} (hj : mv[j]? = some (some s)) : idxO mv s = some j := by
  cases e : idxO mv s with
  | some i => rw [(mvOk_spec h i j s (idxO_some e) hj).1]
  | none =>
    exfalso
    clear h
    induction mv generalizing j with
    | nil => simp at hj
    | cons x r ih =>
      cases x with
      | none =>
        simp only [idxO] at e
        cases j with
        | zero => simp at hj
        | succ j => exact ih (by simpa using hj) (by simpa using e)
      | some y =>
        simp only [idxO] at e
        split at e
        · cases e
        · rename_i hne
          cases j with
          | zero => simp only [List.getElem?_cons_zero, Option.some.injEq] at hj; exact hne hj
          | succ j => exact ih (by simpa using hj) (by simpa using e)
theorem FinE.get {nb : Nat → Prop} {hp : Hp} {g : Site → Nat → Option (Site × Nat)} {l : List (Nat × Blk)} : ∀ {i m : Nat}, FinE nb hp g i m l → ∀ k, k < m → ∃ v b, l[k]? = some (v, b) ∧ if isGone b = true then v = 0 else (hp.get (.e (i + k))).1 = v ∧ CvB nb (fzB hp g (hp.get (.e (i + k))).2) b := by
  induction l with
  | nil => intro i m h k hk; cases m with
    | zero => omega
    | succ m => simp only [FinE] at h
  | cons x r ih =>
    obtain ⟨v, b⟩ := x
    intro i m h k hk
    cases m with
    | zero => omega
    | succ m =>
      simp only [FinE] at h
      cases k with
      | zero => exact ⟨v, b, rfl, h.1⟩
      | succ k =>
        obtain ⟨v', b', h1, h2⟩ := ih h.2 k (by omega)
        rw [show i + 1 + k = i + (k + 1) by omega] at h2
        exact ⟨v', b', by simpa using h1, h2⟩
theorem FinM.get {nb : Nat → Prop} {hp : Hp} {g : Site → Nat → Option (Site × Nat)} {mv : List (Option Site)} {l : List (Nat × Blk)} (h : FinM nb hp g mv l) : l.length = mv.length ∧ ∀ k : Nat, (∀ s, mv[k]? = some (some s) → ∃ b, l[k]? = some (1, b) ∧ isGone b = false ∧ CvB nb (fzB hp g (hp.get s).2) b) ∧
    (mv[k]? = some none → ∃ t k' q, l[k]? = some (1, Blk.row t k' q []) ∧ 0 < k' ∧ (q = none ∨ q = some 0)) := by
  induction mv generalizing l with
  | nil => simp only [FinM] at h; subst h; exact ⟨rfl, fun k => ⟨fun s h => by simp at h, fun h => by simp at h⟩⟩
  | cons x mv ih =>
    cases l with
    | nil => cases x <;> simp only [FinM] at h
    | cons y l =>
      obtain ⟨v, b⟩ := y
      have hr : FinM nb hp g mv l := by cases x <;> (simp only [FinM] at h; exact h.2)
      obtain ⟨h1, h2⟩ := ih hr
      refine ⟨by simp [h1], fun k => ?_⟩
      cases k with
      | succ k => simpa using h2 k
      | zero =>
        cases x with
        | some s =>
          simp only [FinM] at h
          obtain ⟨⟨rfl, h3, h4⟩, _⟩ := h
          refine ⟨fun s' hs => ?_, fun h => by simp at h⟩
          simp only [List.getElem?_cons_zero, Option.some.injEq] at hs
          subst hs
          exact ⟨b, rfl, h3, h4⟩
        | none =>
          simp only [FinM] at h
          obtain ⟨⟨rfl, h3⟩, _⟩ := h
          refine ⟨fun s' hs => by simp at hs, fun _ => ?_⟩
          cases b <;> simp only at h3
          obtain ⟨h3, rfl, h4⟩ := h3
          exact ⟨_, _, _, rfl, h3, h4⟩

/-- The caller's view, at the end. -/
def endLoc (c c' : Cx) (m : Nat) (mv : List (Option Site)) (hs' : List (Nat × Blk)) : Site → Option (Nat × Nat)
  | .e i => if i < m then (if isGone ((hs'[i]?).getD (0, .gone)).2 = true then c.loc (.e i) else c'.loc (.e i)) else match mv[i - m]? with
    | some (some s) => c'.loc s
    | some none => none
    | none => c.loc (.e i)
  | s => c.loc s
def endLv (c' : Cx) (m : Nat) (mv : List (Option Site)) (hs' : List (Nat × Blk)) : Site → Bool
  | .e i => if i < m then (if isGone ((hs'[i]?).getD (0, .gone)).2 = true then false else c'.lv (.e i)) else match mv[i - m]? with
    | some (some s) => c'.lv s
    | some none => true
    | none => false
  | _ => false
def Cx.fin (c c' : Cx) (m : Nat) (mv : List (Option Site)) (hs' : List (Nat × Blk)) : Cx where
  cur := fun s => (atE hs' s).1
  loc := endLoc c c' m mv hs'
  lv := endLv c' m mv hs'
  far := c'.far
theorem fin_from {c c' : Cx} {m : Nat} {mv : List (Option Site)} {hs' : List (Nat × Blk)} {s : Site} {b cp : Nat} (l : (c.fin c' m mv hs').lv s = true) (o : (c.fin c' m mv hs').loc s = some (b, cp)) :
    ∃ i, s = .e i ∧ ((i < m ∧ isGone ((hs'[i]?).getD (0, .gone)).2 = false ∧ c'.lv (.e i) = true ∧ c'.loc (.e i) = some (b, cp)) ∨ (m ≤ i ∧ ∃ s', mv[i - m]? = some (some s') ∧ c'.lv s' = true ∧ c'.loc s' = some (b, cp))) := by
  cases s with
  | e i =>
    refine ⟨i, rfl, ?_⟩
    simp only [Cx.fin, endLoc, endLv] at l o
    by_cases hi : i < m
    · rw [if_pos hi] at l o
      cases hg : isGone ((hs'[i]?).getD (0, .gone)).2 with
      | true => rw [hg] at l; simp at l
      | false =>
        rw [hg] at l o
        simp only [Bool.false_eq_true, if_false] at l o
        exact .inl ⟨hi, rfl, l, o⟩
    · rw [if_neg hi] at l o
      refine .inr ⟨by omega, ?_⟩
      cases hm : mv[i - m]? with
      | none => rw [hm] at l; simp at l
      | some x =>
        rw [hm] at l o
        cases x with
        | none => simp at o
        | some s' => exact ⟨s', rfl, l, o⟩
  | l t => simp [Cx.fin, endLv] at l
  | m t i => simp [Cx.fin, endLv] at l

theorem fin_sound {w w' : World} {c c' : Cx} {hs : List Blk} {hp : Hp} {mv : List (Option Site)} {hs' : List (Nat × Blk)} (h0 : Inv w c (hpE 0 (hs.map fun b => (0, b)))) (he : ExtW w c w' c') (hi : Inv w' c' hp) (hmv : mvOk mv = true)
    (hE : FinE (nbO hs.length mv) hp (outG hp hs.length mv hs') 0 hs.length hs') (hM : FinM (nbO hs.length mv) hp (outG hp hs.length mv hs') mv (hs'.drop hs.length)) :
    Ext w c w' (c.fin c' hs.length mv hs') ∧ Inv w' (c.fin c' hs.length mv hs') (hpE 0 hs') ∧ Nb (c.fin c' hs.length mv hs') (nbO hs.length mv) ∧ ∀ xs vs, RelL w' c' xs vs → RelL w' (c.fin c' hs.length mv hs') (fzL hp (outG hp hs.length mv hs') xs) vs := by
  generalize hmm : hs.length = m at *
  have hc0 : ∀ s, c.cur s = 0 := fun s => by
    have := h0.cur s
    rw [hpE_at] at this
    rw [this]
    cases s with
    | e j => simp only [atE, List.getElem?_map]; cases hs[j]? <;> rfl
    | _ => rfl
  have hEg := hE.get
  obtain ⟨hMl, hMg⟩ := hM.get
  have hlen : m ≤ hs'.length := by
    rcases Nat.eq_zero_or_pos m with h | h
    · omega
    · obtain ⟨v, b, h1, _⟩ := hEg (m - 1) (by omega)
      have := lt_of_get h1
      omega
  have hget : ∀ k, (hs'.drop m)[k]? = hs'[m + k]? := fun k => by rw [List.getElem?_drop]
  have hsub : ∀ b, (c.fin c' m mv hs').live b → c'.live b := by
    rintro b ⟨s, cp, l, o⟩
    obtain ⟨i, rfl, h⟩ := fin_from l o
    rcases h with ⟨_, _, h1, h2⟩ | ⟨_, s', _, h1, h2⟩
    · exact ⟨_, cp, h1, h2⟩
    · exact ⟨s', cp, h1, h2⟩
  have hst : ∀ b, still w' c' b → still w' (c.fin c' m mv hs') b := fun b hb => ⟨hb.1, fun hl => hb.2.1 (hsub b hl), hb.2.2⟩
  have hfit : Fits c' (c.fin c' m mv hs') (outG hp m mv hs') := by
    intro s ver s2 ver2 h hle
    have hnew : ∀ (s : Site), isE s = false → (match idxO mv s with | some j => if ver = (hp.get s).1 then some (Site.e (m + j), 1) else none | none => none) = some (s2, ver2) → ver2 ≤ (c.fin c' m mv hs').cur s2 ∧ (ver2 = (c.fin c' m mv hs').cur s2 → ver = c'.cur s ∧ (c.fin c' m mv hs').loc s2 = c'.loc s) := by
      intro s _ h
      split at h
      · rename_i j e
        split at h
        · rename_i hv
          cases h
          have hj := idxO_some e
          obtain ⟨b, h1, _, _⟩ := (hMg j).1 s hj
          rw [hget] at h1
          have hcur : (c.fin c' m mv hs').cur (.e (m + j)) = 1 := by simp only [Cx.fin, atE, h1, Option.getD_some]
          rw [hcur]
          refine ⟨Nat.le_refl _, fun _ => ⟨by rw [hv, hi.cur], ?_⟩⟩
          simp only [Cx.fin, endLoc]
          rw [if_neg (by omega), show m + j - m = j by omega, hj]
        · cases h
      · cases h
    cases s with
    | e i =>
      simp only [outG] at h
      split at h
      · rename_i hc
        cases h
        obtain ⟨v, b, h1, h2⟩ := hEg i hc.1
        have hg : isGone b = false := by have := hc.2; rw [h1] at this; exact this
        rw [if_neg (by rw [hg]; simp), Nat.zero_add] at h2
        have hcur : (c.fin c' m mv hs').cur (.e i) = c'.cur (.e i) := by
          simp only [Cx.fin, atE, h1, Option.getD_some]
          rw [← h2.1, hi.cur]
        rw [hcur]
        refine ⟨hle, fun h => ⟨h, ?_⟩⟩
        simp only [Cx.fin, endLoc]
        rw [if_pos hc.1, if_neg (by rw [hc.2]; simp)]
      · cases h
    | l t => exact hnew (.l t) rfl h
    | m t i => exact hnew (.m t i) rfl h
  have hdr : Drops c' (c.fin c' m mv hs') hp (outG hp m mv hs') := by
    intro s ver h hv b hl
    obtain ⟨s2, cp, l, o⟩ := hl
    obtain ⟨i, rfl, h1⟩ := fin_from l o
    rcases h1 with ⟨h1, h2, h3, h4⟩ | ⟨h1, s', h2, h3, h4⟩
    · refine ⟨.e i, cp, ?_, h3, h4⟩
      rintro rfl
      simp only [outG] at h
      rw [if_pos ⟨h1, h2⟩] at h
      cases h
    · refine ⟨s', cp, ?_, h3, h4⟩
      rintro rfl
      have hj := idxO_get hmv h2
      have hne := (mvOk_spec hmv _ _ _ h2 h2).2
      cases s' with
      | e k => simp [isE] at hne
      | l t => simp only [outG, hj] at h; rw [if_pos (by rw [hv, hi.cur])] at h; cases h
      | m t k => simp only [outG, hj] at h; rw [if_pos (by rw [hv, hi.cur])] at h; cases h
  have hnb : Nb (c.fin c' m mv hs') (nbO m mv) := by
    rintro i ⟨h1, h2⟩
    obtain ⟨t, k', q, h3, _⟩ := (hMg (i - m)).2 h2
    rw [hget, show m + (i - m) = i by omega] at h3
    refine ⟨by simp only [Cx.fin, atE, h3, Option.getD_some], ?_⟩
    simp only [Cx.fin, endLoc]
    rw [if_neg (by omega), h2]
  have hrel : ∀ xs vs, RelL w' c' xs vs → RelL w' (c.fin c' m mv hs') (fzL hp (outG hp m mv hs') xs) vs := fun xs vs h => RelL.fz (c' := c.fin c' m mv hs') hi rfl hsub hfit hst hdr xs vs h
  refine ⟨⟨he.os, he.tape, he.output, he.size, fun b hb hn => ⟨(he.block b hb hn).1, fun hl => (he.block b hb hn).2 (hsub b hl)⟩, he.far, fun s => ?_⟩, ⟨fun s => ?_, fun s => ?_, fun s s' b cp cp' l1 l2 o1 o2 => ?_, fun b hl => hi.far b (hsub b hl), fun b hl => hi.lt b (hsub b hl), fun b hb => hi.farlt b hb⟩, hnb, hrel⟩
  · -- numbers
    rw [hc0 s]
    cases s with
    | e i =>
      by_cases him : i < m
      · obtain ⟨v, b, h1, h2⟩ := hEg i him
        cases hg : isGone b with
        | true =>
          rw [hg] at h2
          simp only [if_true] at h2
          subst h2
          refine .inr ⟨by simp only [Cx.fin, atE, h1, Option.getD_some], ?_, ?_⟩
          · simp only [Cx.fin, endLoc]
            rw [if_pos him, h1]
            simp [hg]
          · simp only [Cx.fin, endLv]
            rw [if_pos him, h1]
            simp [hg]
        | false =>
          rw [hg] at h2
          simp only [Bool.false_eq_true, if_false, Nat.zero_add] at h2
          have hcur : (c.fin c' m mv hs').cur (.e i) = c'.cur (.e i) := by
            simp only [Cx.fin, atE, h1, Option.getD_some]
            rw [← h2.1, hi.cur]
          have hloc : (c.fin c' m mv hs').loc (.e i) = c'.loc (.e i) := by
            simp only [Cx.fin, endLoc]
            rw [if_pos him, h1]
            simp [hg]
          have hlv : (c.fin c' m mv hs').lv (.e i) = c'.lv (.e i) := by
            simp only [Cx.fin, endLv]
            rw [if_pos him, h1]
            simp [hg]
          rw [hcur, hloc, hlv]
          have := he.cur i
          rwa [hc0] at this
      · cases hq : mv[i - m]? with
        | some x =>
          refine .inl ?_
          have : ∃ b, hs'[i]? = some (1, b) := by
            cases x with
            | some s' =>
              obtain ⟨b, h3, _⟩ := (hMg (i - m)).1 s' hq
              rw [hget, show m + (i - m) = i by omega] at h3
              exact ⟨b, h3⟩
            | none =>
              obtain ⟨t, k', q, h3, _⟩ := (hMg (i - m)).2 hq
              rw [hget, show m + (i - m) = i by omega] at h3
              exact ⟨_, h3⟩
          obtain ⟨b, h3⟩ := this
          simp only [Cx.fin, atE, h3, Option.getD_some]
          omega
        | none =>
          have hnone : hs'[i]? = none := by
            rw [List.getElem?_eq_none_iff] at hq ⊢
            have : hs'.length = m + mv.length := by rw [← hMl, List.length_drop]; omega
            omega
          refine .inr ⟨by simp only [Cx.fin, atE, hnone, Option.getD_none], ?_, ?_⟩
          · simp only [Cx.fin, endLoc]; rw [if_neg him, hq]
          · simp only [Cx.fin, endLv]; rw [if_neg him, hq]; simp
    | l t => exact .inr ⟨rfl, rfl, fun h => by simp [Cx.fin, endLv] at h⟩
    | m t i => exact .inr ⟨rfl, rfl, fun h => by simp [Cx.fin, endLv] at h⟩
  · rw [hpE_at]; rfl
  · rw [hpE_at]
    have cells : ∀ {t : TypeId} {cs : List AV} {s0 s1 : Site}, BlkOk w' c' s0 (.cells t cs) → (c.fin c' m mv hs').loc s1 = c'.loc s0 → (c.fin c' m mv hs').lv s1 = c'.lv s0 → BlkOk w' (c.fin c' m mv hs') s1 (.cells t (fzL hp (outG hp m mv hs') cs)) := by
      intro t cs s0 s1 h hl hv
      simp only [BlkOk] at h ⊢
      obtain ⟨h1, b, cp, vs, h2, h3, ho, h4⟩ := h
      exact ⟨by rw [hv]; exact h1, b, cp, vs, by rw [hl]; exact h2, h3, ho, hrel _ _ h4⟩
    have blk : ∀ {b : Blk} {s0 s1 : Site}, BlkOk w' c' s0 b → (c.fin c' m mv hs').loc s1 = c'.loc s0 → (c.fin c' m mv hs').lv s1 = c'.lv s0 → BlkOk w' (c.fin c' m mv hs') s1 (fzB hp (outG hp m mv hs') b) := by
      intro b s0 s1 h hl hv
      cases b with
      | cells t cs => exact cells h hl hv
      | _ =>
        have hempty : Fits c' (c.fin c' m mv hs') (fun _ _ => none) := fun _ _ _ _ h => by cases h
        exact BlkOk.rn hempty hst h hl hv
    cases s with
    | e i =>
      by_cases him : i < m
      · obtain ⟨v, b, h1, h2⟩ := hEg i him
        simp only [atE, h1, Option.getD_some]
        cases hg : isGone b with
        | true =>
          cases b <;> simp only [isGone, Bool.false_eq_true] at hg
          simp only [BlkOk, Cx.fin, endLv]
          rw [if_pos him, h1]
          rfl
        | false =>
          rw [hg] at h2
          simp only [Bool.false_eq_true, if_false, Nat.zero_add] at h2
          refine h2.2.ok hnb (blk (hi.ok (.e i)) ?_ ?_)
          · simp only [Cx.fin, endLoc]
            rw [if_pos him, h1]
            simp [hg]
          · simp only [Cx.fin, endLv]
            rw [if_pos him, h1]
            simp [hg]
      · cases hq : mv[i - m]? with
        | some x =>
          cases x with
          | some s' =>
            obtain ⟨b, h3, h4, h5⟩ := (hMg (i - m)).1 s' hq
            rw [hget, show m + (i - m) = i by omega] at h3
            simp only [atE, h3, Option.getD_some]
            refine h5.ok hnb (blk (hi.ok s') ?_ ?_)
            · simp only [Cx.fin, endLoc]; rw [if_neg him, hq]
            · simp only [Cx.fin, endLv]; rw [if_neg him, hq]
          | none =>
            obtain ⟨t, k', q, h3, h4, h5⟩ := (hMg (i - m)).2 hq
            rw [hget, show m + (i - m) = i by omega] at h3
            simp only [atE, h3, Option.getD_some, BlkOk]
            have hl : (c.fin c' m mv hs').loc (.e i) = none := by simp only [Cx.fin, endLoc]; rw [if_neg him, hq]
            rw [hl]
            refine ⟨?_, h4, fun r hr => by simp at hr, trivial, h5⟩
            simp only [Cx.fin, endLv]; rw [if_neg him, hq]
        | none =>
          have hnone : hs'[i]? = none := by
            rw [List.getElem?_eq_none_iff] at hq ⊢
            have : hs'.length = m + mv.length := by rw [← hMl, List.length_drop]; omega
            omega
          simp only [atE, hnone, Option.getD_none, BlkOk, Cx.fin, endLv]
          rw [if_neg him, hq]
    | l t => simp [atE, BlkOk, Cx.fin, endLv]
    | m t i => simp [atE, BlkOk, Cx.fin, endLv]
  · obtain ⟨i, rfl, h1⟩ := fin_from l1 o1
    obtain ⟨j, rfl, h2⟩ := fin_from l2 o2
    rcases h1 with ⟨a1, a2, a3, a4⟩ | ⟨a1, s1, a2, a3, a4⟩ <;> rcases h2 with ⟨b1, b2, b3, b4⟩ | ⟨b1, s2, b2, b3, b4⟩
    · exact hi.inj _ _ b cp cp' a3 b3 a4 b4
    · have := hi.inj _ _ b cp cp' a3 b3 a4 b4
      have hne := (mvOk_spec hmv _ _ _ b2 b2).2
      rw [← this] at hne
      simp [isE] at hne
    · have := hi.inj _ _ b cp cp' a3 b3 a4 b4
      have hne := (mvOk_spec hmv _ _ _ a2 a2).2
      rw [this] at hne
      simp [isE] at hne
    · have := hi.inj _ _ b cp cp' a3 b3 a4 b4
      subst this
      have := (mvOk_spec hmv _ _ _ a2 b2).1
      congr 1
      omega

theorem RetH.sound {w : World} {c : Cx} {nb : Nat → Prop} (hn : Nb c nb) {l : List AV} {r : AV} (h : RetH nb l r) {vs : List Value} (hv : RelL w c l vs) : ∃ v, (if h : vs.toArray.size = 1 then vs.toArray[0] else .tuple vs.toArray) = v ∧ RelV w c r v := by
  have hlen := hv.length
  refine ⟨_, rfl, ?_⟩
  unfold RetH at h
  split at h
  · rename_i x r
    simp only [RelL] at hv
    obtain ⟨u, us, rfl, h1, rfl⟩ := hv
    exact h.rel hn h1
  · rename_i l rs hne
    rw [dif_neg (by
      intro he
      simp only [List.size_toArray] at he
      rw [hlen] at he
      obtain ⟨x, hx⟩ := List.length_eq_one_iff.1 he
      exact hne x hx)]
    simp only [RelV]
    exact ⟨vs, rfl, h.rel hn hv⟩
  · exact h.elim

theorem OkH.of_wpK {P : Program} {f : FuncId} {fn : Func} {code : Code} {rs : List ResultVar} {n : Nat} {args : List AV} {hs : List Blk} {r : AV} {hs' : List (Nat × Blk)} (Kf : Ex → ASt → Prop) (hK : ∀ e st, Kf e st → ∃ mv, AEndH P rs r hs' hs.length mv e st) (hf : P.funcs[f]? = some fn) (hb : fn.body = some code) (hrs : fn.results = rs.toArray) (hnt : fn.ntmps = n)
    (hn : args.length ≤ n) (hm : P.follows .mixedOrders = true) (hd : dOk code = true) (h : AWp P code Kf ⟨initT 0 args, hpE 0 (hs.map fun b => (0, b)), n⟩) : OkH P f args hs r hs' := by
  subst hnt
  intro w c vs hinv hrel
  have hlen := hrel.length
  have hsim : Sim w c ⟨initT 0 args, hpE 0 (hs.map fun b => (0, b)), fn.ntmps⟩ { tmps := vs.toArray ++ Array.replicate (fn.ntmps - vs.toArray.size) undef, defers := [] } := by
    refine ⟨by simp; omega, fun i => ?_, hinv, rfl⟩
    rw [tget_initT]
    simp only [Nat.zero_le, if_true, Nat.sub_zero]
    cases hi : args[i]? with
    | none => simp only [Option.getD_none, RelV]
    | some x =>
      simp only [Option.getD_some]
      obtain ⟨u, hu, hr⟩ := hrel.get i x hi
      have hlt := lt_of_get hu
      have e : (vs.toArray ++ Array.replicate (fn.ntmps - vs.toArray.size) undef).getD i undef = u := by
        obtain ⟨h1, h2⟩ := List.getElem?_eq_some_iff.1 hu
        simp [Array.getElem?_append, hlt, h2]
      rw [e]
      exact hr
  refine calls_of_wp hf hb (AWp_sound hm code hd h hsim fun e st w' c' a' k he s => ?_)
  obtain ⟨mv, k⟩ := hK _ _ k
  have fin : AFinH P rs r hs' hs.length mv st → a'.defers = [] ∧ ∃ v, (results fn a'.tmps).run P w' = .ok v w' ∧ ∃ v' c'', Ending.returned v = .returned v' ∧ Ext w c w' c'' ∧ Inv w' c'' (hpE 0 hs') ∧ RelV w' c'' r v' := by
    intro k
    refine ⟨s.df, ?_⟩
    unfold AFinH at k
    obtain ⟨us, xs, e1, h1, hmv, hret, hE, hM⟩ := results_run s hrs k
    obtain ⟨g1, g2, g3, g4⟩ := fin_sound hinv he s.inv hmv hE hM
    obtain ⟨v, e2, h3⟩ := hret.sound g3 (g4 _ _ h1)
    exact ⟨v, by rw [e1, e2], v, _, rfl, g1, g2, h3⟩
  cases e with
  | normal => exact fin k
  | ret => exact fin k
  | exit id => exact k.elim
theorem OkH.of_wp {P : Program} {f : FuncId} {fn : Func} {code : Code} {rs : List ResultVar} {n : Nat} {args : List AV} {hs : List Blk} {r : AV} {hs' : List (Nat × Blk)} (mv : List (Option Site)) (hf : P.funcs[f]? = some fn) (hb : fn.body = some code) (hrs : fn.results = rs.toArray) (hnt : fn.ntmps = n)
    (hn : args.length ≤ n) (hm : P.follows .mixedOrders = true) (hd : dOk code = true) (h : AWp P code (AEndH P rs r hs' hs.length mv) ⟨initT 0 args, hpE 0 (hs.map fun b => (0, b)), n⟩) : OkH P f args hs r hs' :=
  OkH.of_wpK _ (fun _ _ k => ⟨mv, k⟩) hf hb hrs hnt hn hm hd h
/-- The end, where which places are new is told at each return apart. -/
def AEndX (P : Program) (rs : List ResultVar) (r : AV) (hs' : List (Nat × Blk)) (m : Nat) (e : Ex) (st : ASt) : Prop := ∃ mv, AEndH P rs r hs' m mv e st
theorem OkH.of_wpX {P : Program} {f : FuncId} {fn : Func} {code : Code} {rs : List ResultVar} {n : Nat} {args : List AV} {hs : List Blk} {r : AV} {hs' : List (Nat × Blk)} (hf : P.funcs[f]? = some fn) (hb : fn.body = some code) (hrs : fn.results = rs.toArray) (hnt : fn.ntmps = n)
    (hn : args.length ≤ n) (hm : P.follows .mixedOrders = true) (hd : dOk code = true) (h : AWp P code (AEndX P rs r hs' hs.length) ⟨initT 0 args, hpE 0 (hs.map fun b => (0, b)), n⟩) : OkH P f args hs r hs' :=
  OkH.of_wpK _ (fun _ _ k => k) hf hb hrs hnt hn hm hd h
end Go.Proofs.YtanbgeelphfggaaDoor.E
