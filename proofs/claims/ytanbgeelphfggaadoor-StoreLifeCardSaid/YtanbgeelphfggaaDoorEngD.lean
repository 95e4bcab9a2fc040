/- The abstract machine of this claim, part D: reads, addresses, slices, structs. No conditions. -/
import Derived.Test.YtanbgeelphfggaaDoorEngC
namespace Go.Proofs.YtanbgeelphfggaaDoor.E
open Go
set_option linter.unusedSimpArgs false
set_option linter.unusedVariables false
set_option linter.unusedSectionVars false
set_option maxRecDepth 20000

/-! ### Reads -/
def ALoad1 (P : Program) (t : TypeId) (cs : List AV) (K : AV → Prop) : Prop :=
  match tyAgg P t with
  | some true => match tySz P t with
    | some n => n ≤ cs.length ∧ K (.agg (cs.take n))
    | none => False
  | some false => match cs with
    | x :: _ => K x
    | [] => False
  | none => False
def ALoad (P : Program) (t : TypeId) (x : AV) (hp : Hp) (K : AV → Prop) : Prop :=
  match x with
  | .rop cs => ALoad1 P t cs K
  | .ptr s ver off => match hp.get s with
    | (n, .cells _ cs) => n = ver ∧ ALoad1 P t (cs.drop off) K
    | (n, .icc _ cs) => n = ver ∧ ALoad1 P t (cs.drop off) K
    | _ => False
  | .ept s ver k i off => match hp.get s with
    | (n, .row _ k' _ rows) => n = ver ∧ k' = k ∧ ∃ r, rows[i]? = some r ∧ ALoad1 P t (r.drop off) K
    | (n, .ice k' rows) => n = ver ∧ k' = k ∧ ∃ r, rows[i]? = some r ∧ ALoad1 P t (r.drop off) K
    | _ => False
  | _ => False

def Cells (w : World) (c : Cx) (cs : List AV) (b off : Nat) : Prop := ∃ vs, RelL w c cs vs ∧ (∀ u ∈ vs, u.oneCell' = true) ∧ ∀ i v, vs[i]? = some v → w.cell? ⟨b, off + i, none⟩ = some v
theorem Cells.drop {w : World} {c : Cx} {cs : List AV} {b off : Nat} (h : Cells w c cs b off) (n : Nat) : Cells w c (cs.drop n) b (off + n) := by
  obtain ⟨vs, h1, ho, h2⟩ := h
  refine ⟨vs.drop n, h1.drop n, fun u hu => ho u (List.mem_of_mem_drop hu), fun i v e => ?_⟩
  rw [List.getElem?_drop] at e
  have := h2 _ _ e
  rwa [show off + (n + i) = off + n + i by omega] at this
theorem Cells.take {w : World} {c : Cx} {cs : List AV} {b off : Nat} (h : Cells w c cs b off) (n : Nat) : Cells w c (cs.take n) b off := by
  obtain ⟨vs, h1, ho, h2⟩ := h
  refine ⟨vs.take n, h1.take n, fun u hu => ho u (List.mem_of_mem_take hu), fun i v e => ?_⟩
  rw [List.getElem?_take] at e
  split at e
  · exact h2 _ _ e
  · cases e
theorem Cells.of_RVAt {w : World} {c : Cx} {cs : List AV} {b off : Nat} (h : RVAt w (still w c) cs b off) : Cells w c cs b off := by
  obtain ⟨vs, h1, ho, h2⟩ := h.vals
  exact ⟨vs, RelL.of_RVL cs vs h1, ho, h2⟩
theorem cell_block {w : World} {b : Nat} {vs : List Value} {t : TypeId} {fr : Nat × Nat} (h : w.heap[b]? = some (.cells vs.toArray t fr)) (i : Nat) : w.cell? ⟨b, i, none⟩ = vs[i]? := by
  simp [World.cell?, h]
theorem Cells.of_block {w : World} {c : Cx} {cs : List AV} {b : Nat} {vs : List Value} {t : TypeId} {fr : Nat × Nat} (h : w.heap[b]? = some (.cells vs.toArray t fr)) (ho : ∀ u ∈ vs, u.oneCell' = true) (hr : RelL w c cs vs) : Cells w c cs b 0 :=
  ⟨vs, hr, ho, fun i v e => by rw [cell_block h, Nat.zero_add]; exact e⟩

theorem ALoad1_sound {P : Program} {t : TypeId} {cs : List AV} {K : AV → Prop} (h : ALoad1 P t cs K) {w : World} {c : Cx} {b off : Nat} (hc : Cells w c cs b off) :
    ∃ r a, (Instr.loadAt t (.pointer (some ⟨b, off, none⟩))).run P w = .ok r w ∧ RelV w c a r ∧ K a := by
  unfold ALoad1 at h
  split at h
  · rename_i ha
    split at h
    · rename_i n hn
      obtain ⟨hl, h⟩ := h
      obtain ⟨vs, h1, ho, h2⟩ := hc.take n
      have hlen : vs.length = n := by rw [h1.length, List.length_take]; omega
      refine ⟨.agg vs.toArray, _, ?_, ?_, h⟩
      · have e := run_loadCells_list (P := P) w ⟨b, off, none⟩ vs (fun j v hv => by rw [Addr.add_lit]; exact h2 j v hv)
        rw [hlen] at e
        simp only [Instr.loadAt, Instr.sureAddr, loadVar, Sem.run_bind, Sem.run_pure, Result.andThen_ok, run_isAgg w ha, run_sizeOf w hn, if_true, e]
      · simp only [RelV]
        exact ⟨vs, rfl, ho, h1⟩
    · exact h.elim
  · rename_i ha
    split at h
    · rename_i x xs
      obtain ⟨vs, h1, ho, h2⟩ := hc
      simp only [RelL] at h1
      obtain ⟨u, us, rfl, h3, _⟩ := h1
      refine ⟨u, _, ?_, h3, h⟩
      have h4 := h2 0 u rfl
      simp only [Nat.add_zero] at h4
      simp only [Instr.loadAt, Instr.sureAddr, loadVar, Sem.run_bind, Sem.run_pure, Result.andThen_ok, run_isAgg w ha, Bool.false_eq_true, if_false, run_load, h4]
    · exact h.elim
  · exact h.elim

/-- The cells of one row of a list of rows. -/
theorem flatten_row {rows : List (List AV)} {k : Nat} (hk : ∀ r ∈ rows, r.length = k) (i : Nat) (r : List AV) (hr : rows[i]? = some r) : (rows.flatten.drop (i * k)).take k = r ∧ i * k + k ≤ rows.flatten.length := by
  induction rows generalizing i with
  | nil => simp at hr
  | cons x rows ih =>
    have hx := hk x (by simp)
    cases i with
    | zero =>
      simp only [List.getElem?_cons_zero, Option.some.injEq] at hr
      subst hr
      simp [hx]
    | succ i =>
      simp only [List.getElem?_cons_succ] at hr
      obtain ⟨h1, h2⟩ := ih (fun y hy => hk y (by simp [hy])) i hr
      simp only [List.flatten_cons, List.length_append]
      constructor
      · rw [List.drop_append, List.drop_eq_nil_of_le (by rw [hx, Nat.add_mul]; omega), List.nil_append, hx, show (i + 1) * k - k = i * k by rw [Nat.add_mul]; omega]
        exact h1
      · rw [hx, Nat.add_mul]; omega

theorem RVL.drop {w : World} {S : Nat → Prop} {xs : List AV} {vs : List Value} (h : RVL w S xs vs) (n : Nat) : RVL w S (xs.drop n) (vs.drop n) := by
  induction n generalizing xs vs with
  | zero => simpa using h
  | succ n ih =>
    cases xs with
    | nil => simp only [RVL] at h; subst h; simp [RVL]
    | cons x xs =>
      simp only [RVL] at h
      obtain ⟨u, us, rfl, h1, h2⟩ := h
      simpa using ih h2
theorem RVL.take {w : World} {S : Nat → Prop} {xs : List AV} {vs : List Value} (h : RVL w S xs vs) (n : Nat) : RVL w S (xs.take n) (vs.take n) := by
  induction n generalizing xs vs with
  | zero => simp [RVL]
  | succ n ih =>
    cases xs with
    | nil => simp only [RVL] at h; subst h; simp [RVL]
    | cons x xs =>
      simp only [RVL] at h
      obtain ⟨u, us, rfl, h1, h2⟩ := h
      simp only [List.take_succ_cons, RVL]
      exact ⟨u, us.take n, rfl, h1, ih h2⟩

theorem Inv.cells {w : World} {c : Cx} {hp : Hp} (h : Inv w c hp) {s : Site} {n : Nat} {t : TypeId} {cs : List AV} (e : hp.get s = (n, .cells t cs)) :
    c.cur s = n ∧ c.lv s = true ∧ ∃ b cp, ∃ vs : List Value, c.loc s = some (b, cp) ∧ w.heap[b]? = some (.cells vs.toArray t (0, 0)) ∧ (∀ u ∈ vs, u.oneCell' = true) ∧ RelL w c cs vs := by
  have h1 := h.cur s
  have h2 := h.ok s
  rw [e] at h1 h2
  simp only [BlkOk] at h2
  exact ⟨h1, h2.1, h2.2⟩
theorem Inv.icc {w : World} {c : Cx} {hp : Hp} (h : Inv w c hp) {s : Site} {n : Nat} {t : TypeId} {cs : List AV} (e : hp.get s = (n, .icc t cs)) :
    c.cur s = n ∧ c.lv s = false ∧ ∃ b cp, c.loc s = some (b, cp) ∧ still w c b ∧ RVAt w (still w c) cs b 0 := by
  have h1 := h.cur s
  have h2 := h.ok s
  rw [e] at h1 h2
  simp only [BlkOk] at h2
  exact ⟨h1, h2.1, h2.2⟩
theorem Inv.ice {w : World} {c : Cx} {hp : Hp} (h : Inv w c hp) {s : Site} {n k : Nat} {rows : List (List AV)} (e : hp.get s = (n, .ice k rows)) :
    c.cur s = n ∧ c.lv s = false ∧ (c.loc s = none ∧ rows = [] ∨ ∃ b cp, c.loc s = some (b, cp) ∧ rows.length ≤ cp ∧ (rows = [] ∨ (still w c b ∧ RVRows w (still w c) k rows b 0))) := by
  have h1 := h.cur s
  have h2 := h.ok s
  rw [e] at h1 h2
  simp only [BlkOk] at h2
  refine ⟨h1, h2.1, ?_⟩
  cases hl : c.loc s with
  | none => rw [hl] at h2; exact .inl ⟨rfl, h2.2⟩
  | some x =>
    obtain ⟨b, cp⟩ := x
    rw [hl] at h2
    exact .inr ⟨b, cp, rfl, h2.2⟩
theorem Inv.row {w : World} {c : Cx} {hp : Hp} (h : Inv w c hp) {s : Site} {n k : Nat} {t : TypeId} {q : Option Nat} {rows : List (List AV)} (e : hp.get s = (n, .row t k q rows)) :
    c.cur s = n ∧ c.lv s = true ∧ 0 < k ∧ (∀ r ∈ rows, r.length = k) ∧ (c.loc s = none ∧ rows = [] ∧ (q = none ∨ q = some 0) ∨ ∃ b cp, ∃ vs rest : List Value, c.loc s = some (b, cp) ∧ (q = none ∨ q = some cp) ∧ cp ≤ maxLen ∧ w.heap[b]? = some (.cells (vs ++ rest).toArray t (0, 0)) ∧ (vs ++ rest).length = cp * k ∧ (∀ u ∈ vs ++ rest, u.oneCell' = true) ∧ RVL w (still w c) rows.flatten vs) := by
  have h1 := h.cur s
  have h2 := h.ok s
  rw [e] at h1 h2
  simp only [BlkOk] at h2
  obtain ⟨h2, h3, h4, h5⟩ := h2
  refine ⟨h1, h2, h3, h4, ?_⟩
  cases hl : c.loc s with
  | none => rw [hl] at h5; exact .inl ⟨rfl, h5⟩
  | some x =>
    obtain ⟨b, cp⟩ := x
    rw [hl] at h5
    obtain ⟨hq, h5, vs, rest, h6⟩ := h5
    exact .inr ⟨b, cp, vs, rest, rfl, hq, h5, h6⟩

theorem ALoad_sound {P : Program} {t : TypeId} {x : AV} {hp : Hp} {K : AV → Prop} (h : ALoad P t x hp K) {w : World} {c : Cx} (hi : Inv w c hp) {v : Value} (hx : RelV w c x v) :
    ∃ r a, (Instr.loadAt t v).run P w = .ok r w ∧ RelV w c a r ∧ K a := by
  unfold ALoad at h
  split at h
  · rename_i cs
    simp only [RelV, RV] at hx
    obtain ⟨b, off, rfl, _, hr⟩ := hx
    exact ALoad1_sound h (Cells.of_RVAt hr)
  · rename_i s ver off
    split at h
    · rename_i n t' cs e
      obtain ⟨rfl, h⟩ := h
      simp only [RelV] at hx
      obtain ⟨h1, _, b, cp, vs, h3, h4, ho, h5⟩ := hi.cells e
      obtain ⟨b', cp', e1, rfl⟩ := hx.2 h1.symm
      rw [h3] at e1
      cases e1
      have := (Cells.of_block h4 ho h5).drop off
      rw [Nat.zero_add] at this
      exact ALoad1_sound h this
    · rename_i n t' cs e
      obtain ⟨rfl, h⟩ := h
      simp only [RelV] at hx
      obtain ⟨h1, _, b, cp, h3, h4, h5⟩ := hi.icc e
      obtain ⟨b', cp', e1, rfl⟩ := hx.2 h1.symm
      rw [h3] at e1
      cases e1
      have := (Cells.of_RVAt h5).drop off
      rw [Nat.zero_add] at this
      exact ALoad1_sound h this
    · exact h.elim
  · rename_i s ver k i off
    split at h
    · rename_i n t' k' q rows e
      obtain ⟨rfl, rfl, r, hr, h⟩ := h
      simp only [RelV] at hx
      obtain ⟨h1, _, h0, hk, h2⟩ := hi.row e
      obtain ⟨b', cp', e1, rfl⟩ := hx.2 h1.symm
      rcases h2 with ⟨h3, _⟩ | ⟨b, cp, vs, rest, h3, _, _, h4, h5, ho, h6⟩
      · rw [h3] at e1; cases e1
      · rw [h3] at e1
        cases e1
        obtain ⟨f1, f2⟩ := flatten_row hk i r hr
        have hr' := RelL.of_RVL _ _ (((h6.drop (i * k')).take k'))
        rw [f1] at hr'
        have hc : Cells w c r b' (i * k') := by
          refine ⟨_, hr', fun u hu => ho u (List.mem_append_left _ (List.mem_of_mem_drop (List.mem_of_mem_take hu))), fun j v hv => ?_⟩
          rw [List.getElem?_take] at hv
          split at hv
          · rw [List.getElem?_drop] at hv
            rw [cell_block h4, List.getElem?_append_left (by
              rcases Nat.lt_or_ge (i * k' + j) vs.length with h' | h'
              · exact h'
              · rw [List.getElem?_eq_none h'] at hv; cases hv)]
            exact hv
          · cases hv
        have := hc.drop off
        exact ALoad1_sound h this
    · rename_i n k' rows e
      obtain ⟨rfl, rfl, r, hr, h⟩ := h
      simp only [RelV] at hx
      obtain ⟨h1, _, h2⟩ := hi.ice e
      obtain ⟨b', cp', e1, rfl⟩ := hx.2 h1.symm
      rcases h2 with ⟨h3, _⟩ | ⟨b, cp, h3, _, h4⟩
      · rw [h3] at e1; cases e1
      · rw [h3] at e1
        cases e1
        rcases h4 with rfl | ⟨_, h5⟩
        · simp at hr
        · have := (Cells.of_RVAt (h5.get i r hr).2).drop off
          rw [Nat.zero_add] at this
          exact ALoad1_sound h this
    · exact h.elim
  · exact h.elim
end Go.Proofs.YtanbgeelphfggaaDoor.E
