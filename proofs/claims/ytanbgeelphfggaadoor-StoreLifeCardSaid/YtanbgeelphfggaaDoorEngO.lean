/- The abstract machine of this claim, part O: contracts of functions that turn what is handed in. No conditions. -/
import Derived.Test.YtanbgeelphfggaaDoorEngJ
namespace Go.Proofs.YtanbgeelphfggaaDoor.E
open Go
set_option linter.unusedSimpArgs false
set_option linter.unusedVariables false
set_option linter.unusedSectionVars false
set_option maxRecDepth 20000

/-! ### Places under other names -/
section
variable (g : Site → Nat → Option (Site × Nat))
mutual
def rn : AV → AV
  | .ptr s ver off => match g s ver with | some (s', v') => .ptr s' v' off | none => .dead
  | .ept s ver k i off => match g s ver with | some (s', v') => .ept s' v' k i off | none => .dead
  | .own s ver k off len => match g s ver with | some (s', v') => .own s' v' k off len | none => .dead
  | .map s ver => match g s ver with | some (s', v') => .map s' v' | none => .dead
  | .agg cs => .agg (rnL cs)
  | .tup cs => .tup (rnL cs)
  | .func f cap => .func f (rnL cap)
  | .iface t x => .iface t (rn x)
  | .val v => .val v
  | .list k rows => .list k rows
  | .rop cs => .rop cs
  | .junk => .junk
  | .dead => .dead
def rnL : List AV → List AV
  | [] => []
  | x :: xs => rn x :: rnL xs
end
def rnB : Blk → Blk
  | .cells t cs => .cells t (rnL g cs)
  | b => b
end
theorem rv_still {w : World} {c c' : Cx} (hst : ∀ b, still w c b → still w c' b) (x : AV) (v : Value) (h : RV w (still w c) x v) : RV w (still w c') x v := RV.mono (fun b hb => ⟨hst b hb, rfl⟩) x v h
section
variable {w : World} {c c' : Cx} {g : Site → Nat → Option (Site × Nat)}
/-- The names fit. -/
def Fits (c c' : Cx) (g : Site → Nat → Option (Site × Nat)) : Prop :=
  ∀ s ver s' ver', g s ver = some (s', ver') → ver ≤ c.cur s → ver' ≤ c'.cur s' ∧ (ver' = c'.cur s' → ver = c.cur s ∧ c'.loc s' = c.loc s)
mutual
theorem RelV.rn (hg : Fits c c' g) (hst : ∀ b, still w c b → still w c' b) : ∀ (x : AV) (v : Value), RelV w c x v → RelV w c' (E.rn g x) v
  | .ptr s ver off, v, h => by
    simp only [RelV] at h
    simp only [E.rn]
    split
    · rename_i s' v' e
      obtain ⟨h1, h2⟩ := hg _ _ _ _ e h.1
      simp only [RelV]
      refine ⟨h1, fun e' => ?_⟩
      obtain ⟨h3, h4⟩ := h2 e'
      rw [h4]
      exact h.2 h3
    · simp only [RelV]
  | .ept s ver k i off, v, h => by
    simp only [RelV] at h
    simp only [E.rn]
    split
    · rename_i s' v' e
      obtain ⟨h1, h2⟩ := hg _ _ _ _ e h.1
      simp only [RelV]
      refine ⟨h1, fun e' => ?_⟩
      obtain ⟨h3, h4⟩ := h2 e'
      rw [h4]
      exact h.2 h3
    · simp only [RelV]
  | .own s ver k off len, v, h => by
    simp only [RelV] at h
    simp only [E.rn]
    split
    · rename_i s' v' e
      obtain ⟨h1, h2⟩ := hg _ _ _ _ e h.1
      simp only [RelV]
      refine ⟨h1, fun e' => ?_⟩
      obtain ⟨h3, h4⟩ := h2 e'
      rw [h4]
      exact h.2 h3
    · simp only [RelV]
  | .map s ver, v, h => by
    simp only [RelV] at h
    simp only [E.rn]
    split
    · rename_i s' v' e
      obtain ⟨h1, h2⟩ := hg _ _ _ _ e h.1
      simp only [RelV]
      refine ⟨h1, fun e' => ?_⟩
      obtain ⟨h3, h4⟩ := h2 e'
      rw [h4]
      exact h.2 h3
    · simp only [RelV]
  | .agg cs, v, h => by
    simp only [E.rn, RelV] at h ⊢
    obtain ⟨vs, e, ho, hr⟩ := h
    exact ⟨vs, e, ho, RelL.rn hg hst cs vs hr⟩
  | .tup cs, v, h => by
    simp only [E.rn, RelV] at h ⊢
    obtain ⟨vs, e, hr⟩ := h
    exact ⟨vs, e, RelL.rn hg hst cs vs hr⟩
  | .func f cap, v, h => by
    simp only [E.rn, RelV] at h ⊢
    obtain ⟨vs, e, hr⟩ := h
    exact ⟨vs, e, RelL.rn hg hst cap vs hr⟩
  | .iface t x, v, h => by
    simp only [E.rn, RelV] at h ⊢
    obtain ⟨u, e, hr⟩ := h
    exact ⟨u, e, RelV.rn hg hst x u hr⟩
  | .val u, v, h => by simpa only [E.rn, RelV] using h
  | .list k rows, v, h => by
    simp only [E.rn, RelV] at h ⊢
    exact rv_still hst _ _ h
  | .rop cs, v, h => by
    simp only [E.rn, RelV] at h ⊢
    exact rv_still hst _ _ h
  | .junk, v, h => by simpa only [E.rn, RelV] using h
  | .dead, v, h => by simp only [E.rn, RelV]
theorem RelL.rn (hg : Fits c c' g) (hst : ∀ b, still w c b → still w c' b) : ∀ (x : List AV) (v : List Value), RelL w c x v → RelL w c' (E.rnL g x) v
  | [], v, h => by simpa only [E.rnL, RelL] using h
  | x :: xs, v, h => by
    simp only [E.rnL, RelL] at h ⊢
    obtain ⟨u, us, e, h1, h2⟩ := h
    exact ⟨u, us, e, RelV.rn hg hst x u h1, RelL.rn hg hst xs us h2⟩
end
theorem BlkOk.rn (hg : Fits c c' g) (hst : ∀ b, still w c b → still w c' b) {s s' : Site} {b : Blk} (h : BlkOk w c s b) (hl : c'.loc s' = c.loc s) (hv : c'.lv s' = c.lv s) : BlkOk w c' s' (rnB g b) := by
  cases b with
  | gone => simp only [rnB, BlkOk] at h ⊢; rw [hv]; exact h
  | cells t cs =>
    simp only [rnB, BlkOk] at h ⊢
    obtain ⟨h1, b, cp, vs, h2, h3, ho, h4⟩ := h
    exact ⟨by rw [hv]; exact h1, b, cp, vs, by rw [hl]; exact h2, h3, ho, RelL.rn hg hst cs vs h4⟩
  | icc t cs =>
    simp only [rnB, BlkOk] at h ⊢
    obtain ⟨h1, b, cp, h2, h3, h4⟩ := h
    exact ⟨by rw [hv]; exact h1, b, cp, by rw [hl]; exact h2, hst b h3, RVAt.mono (fun b hb => ⟨hst b hb, rfl⟩) cs b 0 h3 h4⟩
  | row t k q rows =>
    simp only [rnB, BlkOk] at h ⊢
    obtain ⟨h1, h0, h2, h3⟩ := h
    refine ⟨by rw [hv]; exact h1, h0, h2, ?_⟩
    rw [hl]
    cases hq : c.loc s with
    | none => rw [hq] at h3; exact h3
    | some x =>
      obtain ⟨b, cp⟩ := x
      rw [hq] at h3
      obtain ⟨hcq, h3, vs, rest, h4, h5, ho, h6⟩ := h3
      exact ⟨hcq, h3, vs, rest, h4, h5, ho, RVL.mono (fun b hb => ⟨hst b hb, rfl⟩) _ vs h6⟩
  | ice k rows =>
    simp only [rnB, BlkOk] at h ⊢
    obtain ⟨h1, h3⟩ := h
    refine ⟨by rw [hv]; exact h1, ?_⟩
    rw [hl]
    cases hq : c.loc s with
    | none => rw [hq] at h3; exact h3
    | some x =>
      obtain ⟨b, cp⟩ := x
      rw [hq] at h3
      refine ⟨h3.1, ?_⟩
      rcases h3.2 with h4 | ⟨h4, h5⟩
      · exact .inl h4
      · exact .inr ⟨hst b h4, RVRows.mono k (fun b hb => ⟨hst b hb, rfl⟩) rows b 0 h4 h5⟩
  | map t es =>
    simp only [rnB, BlkOk] at h ⊢
    obtain ⟨h1, h0, b, cp, ents, clock, h2, h3, h4⟩ := h
    exact ⟨by rw [hv]; exact h1, h0, b, cp, ents, clock, by rw [hl]; exact h2, h3, h4⟩
end

/-! ### What may be told as something else -/
section
variable {w : World} {c : Cx}
theorem Sub.rel {x y : AV} (h : Sub x y) {v : Value} (hx : RelV w c x v) : RelV w c y v := by
  unfold Sub at h
  split at h
  · subst h
    simp only [RelV, RV] at hx ⊢
    obtain ⟨rfl, _⟩ := hx
    exact ⟨none, 0, rfl, Nat.le_refl _, fun _ => rfl, .inl trivial⟩
  · exact h ▸ hx
theorem SubC.rel {xs ys : List AV} (h : SubC xs ys) {vs : List Value} (hx : RelL w c xs vs) : RelL w c ys vs := by
  induction xs generalizing ys vs with
  | nil => cases ys with
    | nil => exact hx
    | cons y ys => simp only [SubC] at h
  | cons x xs ih => cases ys with
    | nil => simp only [SubC] at h
    | cons y ys =>
      simp only [SubC] at h
      simp only [RelL] at hx ⊢
      obtain ⟨u, us, rfl, h1, h2⟩ := hx
      exact ⟨u, us, rfl, h.1.rel h1, ih h.2 h2⟩
theorem SubA.rel {x y : AV} (h : SubA x y) {v : Value} (hx : RelV w c x v) : RelV w c y v := by
  unfold SubA at h
  split at h
  · simp only [RelV] at hx ⊢
    obtain ⟨vs, rfl, ho, hx⟩ := hx
    exact ⟨vs, rfl, ho, h.rel hx⟩
  · subst h
    simp only [RelV, RV] at hx ⊢
    obtain ⟨rfl, _⟩ := hx
    exact ⟨none, 0, rfl, Nat.le_refl _, fun _ => rfl, .inl trivial⟩
  · exact h ▸ hx
theorem SubL.rel {xs ys : List AV} (h : SubL xs ys) {vs : List Value} (hx : RelL w c xs vs) : RelL w c ys vs := by
  induction xs generalizing ys vs with
  | nil => cases ys with
    | nil => exact hx
    | cons y ys => simp only [SubL] at h
  | cons x xs ih => cases ys with
    | nil => simp only [SubL] at h
    | cons y ys =>
      simp only [SubL] at h
      simp only [RelL] at hx ⊢
      obtain ⟨u, us, rfl, h1, h2⟩ := hx
      exact ⟨u, us, rfl, h.1.rel h1, ih h.2 h2⟩
end
def SubB : Blk → Blk → Prop
  | .cells t cs, .cells t' ds => t = t' ∧ SubC cs ds
  | x, y => x = y
theorem SubB.ok {w : World} {c : Cx} {s : Site} {x y : Blk} (h : SubB x y) (hx : BlkOk w c s x) : BlkOk w c s y := by
  unfold SubB at h
  split at h
  · obtain ⟨rfl, h⟩ := h
    simp only [BlkOk] at hx ⊢
    obtain ⟨h1, b, cp, vs, h2, h3, ho, h4⟩ := hx
    exact ⟨h1, b, cp, vs, h2, h3, ho, h.rel h4⟩
  · exact h ▸ hx

/-! ### The handed-in part of a local heap -/
def hpE : Nat → List (Nat × Blk) → Hp
  | _, [] => []
  | i, x :: r => (.e i, x) :: hpE (i + 1) r
def atE (l : List (Nat × Blk)) : Site → Nat × Blk
  | .e j => (l[j]?).getD (0, .gone)
  | _ => (0, .gone)
theorem hpE_get (l : List (Nat × Blk)) (i : Nat) (s : Site) : (hpE i l).get s = match s with | .e j => if i ≤ j then (l[j - i]?).getD (0, .gone) else (0, .gone) | _ => (0, .gone) := by
  induction l generalizing i with
  | nil => simp only [hpE, Hp.get]; split <;> simp
  | cons x r ih =>
    simp only [hpE, Hp.get, ih]
    cases s with
    | e j =>
      simp only [Site.e.injEq]
      by_cases e : i = j
      · subst e; simp
      · simp only [e, if_false]
        by_cases h : i ≤ j
        · rw [if_pos (by omega), if_pos h, show j - i = (j - (i + 1)) + 1 by omega, List.getElem?_cons_succ]
        · rw [if_neg (by omega), if_neg h]
    | l t => simp
    | m t i => simp
theorem hpE_at (l : List (Nat × Blk)) (s : Site) : (hpE 0 l).get s = atE l s := by
  rw [hpE_get]
  cases s <;> simp [atE]

/-- A contract: what is handed in, the places of it, what is answered, what becomes of the places. -/
def OkH (P : Program) (f : FuncId) (args : List AV) (hs : List Blk) (r : AV) (hs' : List (Nat × Blk)) : Prop :=
  ∀ (w : World) (c : Cx) (vs : List Value), Inv w c (hpE 0 (hs.map fun b => (0, b))) → RelL w c args vs →
    Calls P f vs.toArray w fun e w' => ∃ v c', e = .returned v ∧ Ext w c w' c' ∧ Inv w' c' (hpE 0 hs') ∧ RelV w' c' r v

/-! ### Such a call -/
def idx : List Site → Site → Option Nat
  | [], _ => none
  | x :: r, s => if x = s then some 0 else (idx r s).map (· + 1)
theorem idx_some {l : List Site} {s : Site} {i : Nat} (h : idx l s = some i) : l[i]? = some s := by
  induction l generalizing i with
  | nil => simp [idx] at h
  | cons x r ih =>
    simp only [idx] at h
    split at h
    · rename_i e; cases h; subst e; rfl
    · obtain ⟨j, hj, rfl⟩ := Option.map_eq_some_iff.1 h
      simpa using ih hj
theorem idx_none {l : List Site} {s : Site} (h : idx l s = none) : s ∉ l := by
  induction l with
  | nil => simp
  | cons x r ih =>
    simp only [idx] at h
    split at h
    · cases h
    · rename_i e
      have := ih (by simpa using h)
      simp only [List.mem_cons, not_or]
      exact ⟨fun q => e q.symm, this⟩
theorem idx_get {l : List Site} (hn : l.Nodup) {i : Nat} {s : Site} (h : l[i]? = some s) : idx l s = some i := by
  induction l generalizing i with
  | nil => simp at h
  | cons x r ih =>
    rw [List.nodup_cons] at hn
    simp only [idx]
    cases i with
    | zero => simp at h; rw [if_pos h]
    | succ i =>
      simp only [List.getElem?_cons_succ] at h
      have hx : x ≠ s := fun e => hn.1 (e ▸ List.mem_of_getElem? h)
      rw [if_neg hx, ih hn.2 h]
      rfl
/-- Down: the caller's names as the callee's. -/
def dnG (hp : Hp) (ss : List Site) (s : Site) (ver : Nat) : Option (Site × Nat) :=
  match idx ss s with
  | some i => if (hp.get s).1 = ver then some (.e i, 0) else none
  | none => none
/-- Up: the callee's names as the caller's. -/
def upG (hp : Hp) (ss : List Site) (s : Site) (ver : Nat) : Option (Site × Nat) :=
  match s with
  | .e i => match ss[i]? with
    | some s' => some (s', (hp.get s').1 + ver)
    | none => none
  | _ => none
def hpU (hp : Hp) (ss0 : List Site) : List Site → List (Nat × Blk) → Hp → Hp
  | [], _, acc => acc
  | s :: ss, [], acc => hpU hp ss0 ss [] (acc.set s (hp.get s).1 .gone)
  | s :: ss, (v, b) :: r, acc => hpU hp ss0 ss r (acc.set s ((hp.get s).1 + v) (rnB (upG hp ss0) b))
theorem hpU_get (hp : Hp) (ss0 ss : List Site) (hn : ss.Nodup) (hs : List (Nat × Blk)) (acc : Hp) (s : Site) :
    (hpU hp ss0 ss hs acc).get s = match idx ss s with
      | some i => ((hp.get s).1 + ((hs[i]?).getD (0, .gone)).1, rnB (upG hp ss0) ((hs[i]?).getD (0, .gone)).2)
      | none => acc.get s := by
  induction ss generalizing hs acc with
  | nil => cases hs <;> simp [hpU, idx]
  | cons x r ih =>
    rw [List.nodup_cons] at hn
    cases hs with
    | nil =>
      simp only [hpU, ih hn.2, idx]
      by_cases e : x = s
      · subst e
        have : idx r x = none := by
          cases h : idx r x with
          | none => rfl
          | some i => exact absurd (List.mem_of_getElem? (idx_some h)) hn.1
        rw [this]
        simp [Hp.get_set, rnB]
      · rw [if_neg e]
        cases h : idx r s with
        | none => simp [Hp.get_set, e]
        | some i => simp
    | cons y ys =>
      obtain ⟨v, b⟩ := y
      simp only [hpU, ih hn.2, idx]
      by_cases e : x = s
      · subst e
        have : idx r x = none := by
          cases h : idx r x with
          | none => rfl
          | some i => exact absurd (List.mem_of_getElem? (idx_some h)) hn.1
        rw [this]
        simp [Hp.get_set]
      · rw [if_neg e]
        cases h : idx r s with
        | none => simp [Hp.get_set, e]
        | some i => simp
/-- The places that are handed over hold what the contract asks. -/
def MB (hp : Hp) (ss0 : List Site) : List Site → List Blk → Prop
  | _, [] => True
  | [], _ :: _ => False
  | s :: ss, b :: hs => (b = .gone ∨ SubB (rnB (dnG hp ss0) (hp.get s).2) b) ∧ MB hp ss0 ss hs
theorem MB.get {hp : Hp} {ss0 ss : List Site} {hs : List Blk} (h : MB hp ss0 ss hs) (i : Nat) (b : Blk) (hb : hs[i]? = some b) : ∃ s, ss[i]? = some s ∧ (b = .gone ∨ SubB (rnB (dnG hp ss0) (hp.get s).2) b) := by
  induction hs generalizing ss i with
  | nil => simp at hb
  | cons x xs ih => cases ss with
    | nil => simp only [MB] at h
    | cons s ss =>
      simp only [MB] at h
      cases i with
      | zero => simp at hb; subst hb; exact ⟨s, rfl, h.1⟩
      | succ i => simpa using ih h.2 i (by simpa using hb)

def isGone : Blk → Bool
  | .gone => true
  | _ => false
theorem isGone_false {b : Blk} (h : b ≠ .gone) : isGone b = false := by cases b <;> first | exact absurd rfl h | rfl
def dnLoc (c : Cx) (ss : List Site) : Site → Option (Nat × Nat)
  | .e i => (match ss[i]? with | some s' => c.loc s' | none => none)
  | .l _ => none
  | .m _ _ => none
def dnLv (c : Cx) (ss : List Site) (hs : List Blk) : Site → Bool
  | .e i => (match hs[i]?, ss[i]? with | some b, some s' => if isGone b = true then false else c.lv s' | _, _ => false)
  | .l _ => false
  | .m _ _ => false
/-- The callee's view of the caller's local heap. -/
def Cx.dn (c : Cx) (ss : List Site) (hs : List Blk) : Cx where
  cur := fun _ => 0
  loc := dnLoc c ss
  lv := dnLv c ss hs
  far := fun b => c.far b ∨ (c.live b ∧ ¬ ∃ (i : Nat) (s' : Site) (cp : Nat) (b' : Blk), hs[i]? = some b' ∧ b' ≠ Blk.gone ∧ ss[i]? = some s' ∧ c.lv s' = true ∧ c.loc s' = some (b, cp))
theorem dnLv_gone {c : Cx} {ss : List Site} {hs : List Blk} {i : Nat} (h : hs[i]? = some Blk.gone) : dnLv c ss hs (.e i) = false := by
  simp only [dnLv, h]
  cases ss[i]? <;> rfl
theorem dn_live {c : Cx} {ss : List Site} {hs : List Blk} {b : Nat} : (c.dn ss hs).live b ↔ ∃ (i : Nat) (s' : Site) (cp : Nat) (b' : Blk), hs[i]? = some b' ∧ b' ≠ Blk.gone ∧ ss[i]? = some s' ∧ c.lv s' = true ∧ c.loc s' = some (b, cp) := by
  constructor
  · rintro ⟨s, cp, l, o⟩
    cases s with
    | e i =>
      simp only [Cx.dn, dnLoc, dnLv] at l o
      cases h1 : hs[i]? with
      | none => rw [h1] at l; simp at l
      | some b' =>
        cases h2 : ss[i]? with
        | none => rw [h2] at o; simp at o
        | some s' =>
          rw [h1, h2] at l
          rw [h2] at o
          have hb : b' ≠ .gone := by rintro rfl; simp [isGone] at l
          simp only [isGone_false hb, Bool.false_eq_true, if_false] at l
          exact ⟨i, s', cp, b', h1, hb, h2, l, o⟩
    | l t => simp [Cx.dn, dnLv] at l
    | m t i => simp [Cx.dn, dnLv] at l
  · rintro ⟨i, s', cp, b', h1, hb, h2, h3, h4⟩
    refine ⟨.e i, cp, ?_, ?_⟩
    · simp only [Cx.dn, dnLv, h1, h2, isGone_false hb, Bool.false_eq_true, if_false]
      exact h3
    · simp only [Cx.dn, dnLoc, h2]; exact h4
theorem dn_live' {c : Cx} {ss : List Site} {hs : List Blk} {b : Nat} (h : (c.dn ss hs).live b) : c.live b := by
  obtain ⟨i, s', cp, b', _, _, _, h3, h4⟩ := dn_live.1 h
  exact ⟨s', cp, h3, h4⟩
theorem dn_still {w : World} {c : Cx} {ss : List Site} {hs : List Blk} {b : Nat} : still w (c.dn ss hs) b ↔ still w c b := by
  unfold still
  constructor
  · rintro ⟨h1, h2, h3⟩
    have h3' : ¬ (c.far b ∨ (c.live b ∧ ¬ (c.dn ss hs).live b)) := by rw [dn_live]; exact h3
    exact ⟨h1, fun h => h3' (.inr ⟨h, h2⟩), fun h => h3' (.inl h)⟩
  · rintro ⟨h1, h2, h3⟩
    refine ⟨h1, fun h => h2 (dn_live' h), fun h => ?_⟩
    rcases h with h | h
    · exact h3 h
    · exact h2 h.1
theorem dn_fits {c : Cx} {hp : Hp} {w : World} (hi : Inv w c hp) {ss : List Site} {hs : List Blk} : Fits c (c.dn ss hs) (dnG hp ss) := by
  intro s ver s' ver' h hle
  unfold dnG at h
  split at h
  · rename_i i e
    split at h
    · rename_i hv
      cases h
      refine ⟨Nat.le_refl _, fun _ => ⟨by rw [hi.cur s, hv], ?_⟩⟩
      simp only [Cx.dn, dnLoc, idx_some e]
    · cases h
  · cases h
theorem dn_inv {w : World} {c : Cx} {hp : Hp} (hi : Inv w c hp) {ss : List Site} {hs : List Blk} (hn : ss.Nodup) (hm : MB hp ss ss hs) : Inv w (c.dn ss hs) (hpE 0 (hs.map fun b => (0, b))) where
  cur s := by
    rw [hpE_at]
    cases s with
    | e j => simp only [atE, List.getElem?_map]; cases hs[j]? <;> rfl
    | l t => rfl
    | m t i => rfl
  ok s := by
    rw [hpE_at]
    cases s with
    | e j =>
      simp only [atE, List.getElem?_map]
      cases hb : hs[j]? with
      | none => simp [BlkOk, Cx.dn, dnLv, hb]
      | some b =>
        simp only [Option.map_some, Option.getD_some]
        obtain ⟨s', hs', h⟩ := hm.get j b hb
        rcases h with rfl | h
        · exact dnLv_gone hb
        · have key : ∀ (b : Blk), b ≠ .gone → hs[j]? = some b → (c.dn ss hs).lv (.e j) = c.lv s' := by
            intro b hbg hb
            simp only [Cx.dn, dnLv, hb, hs', isGone_false hbg, Bool.false_eq_true, if_false]
          by_cases hbg : b = .gone
          · subst hbg; exact dnLv_gone hb
          · exact h.ok ((hi.ok s').rn (dn_fits hi) (fun b hb => dn_still.2 hb) (by simp only [Cx.dn, dnLoc, hs']) (key b hbg hb))
    | l t => simp [atE, BlkOk, Cx.dn, dnLv]
    | m t i => simp [atE, BlkOk, Cx.dn, dnLv]
  inj s s' b cp cp' l1 l2 o1 o2 := by
    have key : ∀ s cp, (c.dn ss hs).lv s = true → (c.dn ss hs).loc s = some (b, cp) → ∃ i s', s = .e i ∧ ss[i]? = some s' ∧ c.lv s' = true ∧ c.loc s' = some (b, cp) := by
      intro s cp l o
      cases s with
      | e i =>
        simp only [Cx.dn, dnLoc, dnLv] at l o
        cases h2 : ss[i]? with
        | none => rw [h2] at o; simp at o
        | some s' =>
          rw [h2] at o l
          refine ⟨i, s', rfl, h2, ?_, o⟩
          split at l
          · rename_i e
            cases e
            split at l
            · cases l
            · exact l
          · cases l
      | l t => simp [Cx.dn, dnLv] at l
      | m t i => simp [Cx.dn, dnLv] at l
    obtain ⟨i, a, rfl, h1, h2, h3⟩ := key s cp l1 o1
    obtain ⟨j, a', rfl, k1, k2, k3⟩ := key s' cp' l2 o2
    have := hi.inj a a' b cp cp' h2 k2 h3 k3
    subst this
    have e1 := idx_get hn h1
    have e2 := idx_get hn k1
    rw [e1] at e2
    cases e2
    rfl
  far b hl := by
    rintro (h | ⟨_, h⟩)
    · exact hi.far b (dn_live' hl) h
    · exact h (dn_live.1 hl)
  lt b hl := hi.lt b (dn_live' hl)
  farlt b := by
    rintro (h | ⟨h, _⟩)
    · exact hi.farlt b h
    · exact hi.lt b h

/-- The caller's local heap behind such a call. -/
def Cx.up (c c2 : Cx) (ss : List Site) : Cx where
  cur := fun s => match idx ss s with | some i => c.cur s + c2.cur (.e i) | none => c.cur s
  loc := fun s => match idx ss s with | some i => c2.loc (.e i) | none => c.loc s
  lv := fun s => match idx ss s with | some i => c2.lv (.e i) | none => c.lv s
  far := c.far
theorem up_live {c c2 : Cx} {ss : List Site} {b : Nat} (h : (c.up c2 ss).live b) : c2.live b ∨ ∃ s cp, idx ss s = none ∧ c.lv s = true ∧ c.loc s = some (b, cp) := by
  obtain ⟨s, cp, l, o⟩ := h
  simp only [Cx.up] at l o
  cases e : idx ss s with
  | none => rw [e] at l o; exact .inr ⟨s, cp, e, l, o⟩
  | some i => rw [e] at l o; exact .inl ⟨.e i, cp, l, o⟩
theorem up_ext {w w' : World} {c c2 : Cx} {ss : List Site} {hs : List Blk} (he : Ext w (c.dn ss hs) w' c2) : Ext w c w' (c.up c2 ss) where
  os := he.os
  tape := he.tape
  output := he.output
  size := he.size
  block b hb hn := by
    obtain ⟨h1, h2⟩ := he.block b hb (fun h => hn (dn_live' h))
    refine ⟨h1, fun h => ?_⟩
    rcases up_live h with h | ⟨s, cp, _, l, o⟩
    · exact h2 h
    · exact hn ⟨s, cp, l, o⟩
  far := rfl
  cur s := by
    simp only [Cx.up]
    cases e : idx ss s with
    | none => exact .inr ⟨rfl, rfl, id⟩
    | some i =>
      have h := he.cur (.e i)
      have e1 : (c.dn ss hs).cur (.e i) = 0 := rfl
      have e2 : (c.dn ss hs).loc (.e i) = c.loc s := by simp only [Cx.dn, dnLoc, idx_some e]
      rw [e1, e2] at h
      rcases h with h | ⟨h1, h2, h3⟩
      · exact .inl (by simp only; omega)
      · refine .inr ⟨by simp only; omega, h2, fun h => ?_⟩
        have h4 := h3 h
        simp only [Cx.dn, dnLv, idx_some e] at h4
        split at h4
        · rename_i q
          cases q
          split at h4
          · cases h4
          · exact h4
        · cases h4
theorem up_still {w w' : World} {c c2 : Cx} {hp : Hp} (hi : Inv w c hp) {ss : List Site} {hs : List Blk} (he : Ext w (c.dn ss hs) w' c2) {b : Nat} (h : still w' c2 b) : still w' (c.up c2 ss) b := by
  refine ⟨h.1, fun hl => ?_, fun hf => ?_⟩
  · rcases up_live hl with hl | ⟨s, cp, e, l, o⟩
    · exact h.2.1 hl
    · refine h.2.2 ?_
      rw [he.far]
      refine .inr ⟨⟨s, cp, l, o⟩, ?_⟩
      rintro ⟨i, s', cp', b', _, _, h2, h3, h4⟩
      have := hi.inj s s' b cp cp' l h3 o h4
      subst this
      exact idx_none e (List.mem_of_getElem? h2)
  · exact h.2.2 (by rw [he.far]; exact .inl hf)
theorem up_fits {w w' : World} {c c2 : Cx} {hp : Hp} (hi : Inv w c hp) {ss : List Site} (hn : ss.Nodup) : Fits c2 (c.up c2 ss) (upG hp ss) := by
  intro s ver s' ver' h hle
  unfold upG at h
  split at h
  · rename_i i
    split at h
    · rename_i s2 e
      cases h
      have e2 := idx_get hn e
      simp only [Cx.up, e2, hi.cur]
      exact ⟨by omega, fun h => ⟨by omega, by simp⟩⟩
    · cases h
  · cases h
theorem callH_sound {P : Program} {f : FuncId} {xs args : List AV} {hs : List Blk} {r : AV} {hs' : List (Nat × Blk)} {hp : Hp} {ss : List Site} (hok : OkH P f args hs r hs') (hn : ss.Nodup) (hlen : hs'.length ≤ ss.length) (hm : MB hp ss ss hs) (ha : SubL (rnL (dnG hp ss) xs) args)
    {w : World} {c : Cx} (hi : Inv w c hp) {vs : List Value} (hx : RelL w c xs vs) :
    Calls P f vs.toArray w fun e w' => ∃ v c', e = .returned v ∧ Ext w c w' c' ∧ Inv w' c' (hpU hp ss ss hs' hp) ∧ RelV w' c' (rn (upG hp ss) r) v := by
  have hd := dn_inv hi hn hm
  have hfit := dn_fits hi (ss := ss) (hs := hs)
  refine (hok w (c.dn ss hs) vs hd (ha.rel (RelL.rn hfit (fun b hb => dn_still.2 hb) _ _ hx))).mono ?_
  rintro e w' ⟨v, c2, rfl, he, h2, hv⟩
  have hext := up_ext he
  have hst : ∀ b, still w' c2 b → still w' (c.up c2 ss) b := fun b hb => up_still hi he hb
  have hf2 := up_fits (w := w) (w' := w') (c2 := c2) hi hn
  refine ⟨v, c.up c2 ss, rfl, hext, ?_, RelV.rn hf2 hst _ _ hv⟩
  have hcur2 : ∀ i, c2.cur (.e i) = ((hs'[i]?).getD (0, .gone)).1 := fun i => by
    have := h2.cur (.e i)
    rw [hpE_at] at this
    exact this
  have hold : ∀ s b cp, idx ss s = none → c.lv s = true → c.loc s = some (b, cp) → ¬ (c.dn ss hs).live b := by
    intro s b cp e l o hl
    obtain ⟨i, s', cp', b', _, _, k2, k3, k4⟩ := dn_live.1 hl
    have := hi.inj s s' b cp cp' l k3 o k4
    subst this
    exact idx_none e (List.mem_of_getElem? k2)
  have hnot2 : ∀ s b cp, idx ss s = none → c.lv s = true → c.loc s = some (b, cp) → ¬ c2.live b := by
    intro s b cp e l o hl
    exact (he.block b (hi.lt b ⟨s, cp, l, o⟩) (hold s b cp e l o)).2 hl
  refine ⟨fun s => ?_, fun s => ?_, fun s s' b cp cp' l1 l2 o1 o2 => ?_, fun b hl => ?_, fun b hl => ?_, fun b hb => ?_⟩
  · rw [hpU_get _ _ _ hn]
    simp only [Cx.up]
    cases e : idx ss s with
    | none => simp [hi.cur s]
    | some i => simp only [hi.cur s, hcur2]
  · rw [hpU_get _ _ _ hn]
    cases e : idx ss s with
    | none =>
      simp only
      refine (hi.ok s).move hext (by simp only [Cx.up, e]) (by simp only [Cx.up, e]) fun b cp l o => ?_
      exact (he.block b (hi.lt b ⟨s, cp, l, o⟩) (hold s b cp e l o)).1
    | some i =>
      simp only
      have := h2.ok (.e i)
      rw [hpE_at] at this
      exact this.rn hf2 hst (by simp only [Cx.up, e]) (by simp only [Cx.up, e])
  · simp only [Cx.up] at l1 l2 o1 o2
    cases e1 : idx ss s with
    | none =>
      rw [e1] at l1 o1
      cases e2 : idx ss s' with
      | none => rw [e2] at l2 o2; exact hi.inj s s' b cp cp' l1 l2 o1 o2
      | some j => rw [e2] at l2 o2; exact absurd ⟨.e j, cp', l2, o2⟩ (hnot2 s b cp e1 l1 o1)
    | some i =>
      rw [e1] at l1 o1
      cases e2 : idx ss s' with
      | none => rw [e2] at l2 o2; exact absurd ⟨.e i, cp, l1, o1⟩ (hnot2 s' b cp' e2 l2 o2)
      | some j =>
        rw [e2] at l2 o2
        have := h2.inj _ _ b cp cp' l1 l2 o1 o2
        cases this
        have q1 := idx_some e1
        have q2 := idx_some e2
        rw [q1] at q2
        cases q2
        rfl
  · rcases up_live hl with h | ⟨s, cp, e, l, o⟩
    · intro hf
      exact h2.far b h (by rw [he.far]; exact .inl hf)
    · exact hi.far b ⟨s, cp, l, o⟩
  · rcases up_live hl with h | ⟨s, cp, e, l, o⟩
    · exact h2.lt b h
    · exact Nat.lt_of_lt_of_le (hi.lt b ⟨s, cp, l, o⟩) he.size
  · exact Nat.lt_of_lt_of_le (hi.farlt b hb) he.size
end Go.Proofs.YtanbgeelphfggaaDoor.E
