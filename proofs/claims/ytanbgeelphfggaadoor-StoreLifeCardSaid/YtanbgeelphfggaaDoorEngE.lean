/- The abstract machine of this claim, part E: addresses, fields, indexes, slices, conversions. No conditions. -/
import Derived.Test.YtanbgeelphfggaaDoorEngD
namespace Go.Proofs.YtanbgeelphfggaaDoor.E
open Go
set_option linter.unusedSimpArgs false
set_option linter.unusedVariables false
set_option linter.unusedSectionVars false
set_option maxRecDepth 20000

/-- Where a field begins, behind an address. -/
def tyFA (P : Program) (t : TypeId) (j : Nat) : Option Nat :=
  match P.underlying t with
  | some (.struct fs) => match fs[j]? with
    | some f => match tySz P f.type with
      | some (_ + 1) => some f.offset
      | _ => none
    | none => none
  | _ => none
def AFieldAddr (P : Program) (t : TypeId) (x : AV) (j : Nat) (hp : Hp) (K : AV → Prop) : Prop :=
  match tyFA P t j with
  | some off => match x with
    | .rop cs => K (.rop (cs.drop off))
    | .ptr s v o => (hp.get s).1 = v ∧ K (.ptr s v (o + off))
    | .ept s v k i o => (hp.get s).1 = v ∧ K (.ept s v k i (o + off))
    | _ => False
  | none => False
theorem run_fieldAt {P : Program} {t : TypeId} {j off : Nat} (h : tyFA P t j = some off) (w : World) (b o : Nat) :
    (Instr.fieldAt t (.pointer (some ⟨b, o, none⟩)) j).run P w = .ok (.pointer (some ⟨b, o + off, none⟩)) w := by
  unfold tyFA at h
  split at h
  · rename_i fs hu
    split at h
    · rename_i f hf
      split at h
      · rename_i n hn
        cases h
        simp only [Instr.fieldAt, Sem.run_bind, run_underlying hu, Result.andThen_ok, hf, Instr.sureAddr, Sem.run_pure, fieldPlace, run_sizeOf w hn]
        rw [if_neg (by omega)]
        simp only [Sem.run_pure, Result.andThen_ok, Addr.add_lit]
      · cases h
    · cases h
  · cases h
theorem AFieldAddr_sound {P : Program} {t : TypeId} {x : AV} {j : Nat} {K : AV → Prop} {hp : Hp} (h : AFieldAddr P t x j hp K) {w : World} {c : Cx} (hi : Inv w c hp) {v : Value} (hx : RelV w c x v) :
    ∃ r a, (Instr.fieldAt t v j).run P w = .ok r w ∧ RelV w c a r ∧ K a := by
  unfold AFieldAddr at h
  split at h
  · rename_i off ho
    split at h
    · rename_i cs
      simp only [RelV, RV] at hx
      obtain ⟨b, o, rfl, hs, hr⟩ := hx
      refine ⟨_, _, run_fieldAt ho w b o, ?_, h⟩
      simp only [RelV, RV]
      refine ⟨b, o + off, rfl, ?_, hr.drop off⟩
      rcases hs with rfl | hs
      · exact .inl (by simp)
      · exact .inr hs
    · rename_i s ver o
      obtain ⟨h0, h⟩ := h
      simp only [RelV] at hx
      obtain ⟨b, cp, e1, rfl⟩ := hx.2 (by rw [← h0, hi.cur s])
      refine ⟨_, _, run_fieldAt ho w b o, ?_, h⟩
      simp only [RelV]
      exact ⟨hx.1, fun _ => ⟨b, cp, e1, rfl⟩⟩
    · rename_i s ver k i o
      obtain ⟨h0, h⟩ := h
      simp only [RelV] at hx
      obtain ⟨b, cp, e1, rfl⟩ := hx.2 (by rw [← h0, hi.cur s])
      refine ⟨_, _, run_fieldAt ho w b _, ?_, h⟩
      simp only [RelV]
      exact ⟨hx.1, fun _ => ⟨b, cp, e1, by rw [Nat.add_assoc]⟩⟩
    · exact h.elim
  · exact h.elim

/-! ### Places of a slice -/
def AIndexAddr (P : Program) (t : TypeId) (x i : AV) (hp : Hp) (K : AV → Prop) : Prop :=
  match i with
  | .val (.int _ n) => match x with
    | .list k rows => tyEl P t ≠ none ∧ (tyEl P t).bind (tySz P) = some k ∧ 0 ≤ n ∧ ∃ r, rows[n.toNat]? = some r ∧ K (.rop r)
    | .own s ver k off len => (tyEl P t).bind (tySz P) = some k ∧ 0 ≤ n ∧ n < len ∧ match hp.get s with
      | (m, .row _ k' _ _) => m = ver ∧ k' = k ∧ K (.ept s ver k (off + n.toNat) 0)
      | (m, .ice k' rows) => m = ver ∧ k' = k ∧ ∃ r, rows[off + n.toNat]? = some r ∧ K (.rop r)
      | _ => False
    | _ => False
  | _ => False
theorem run_indexAt {P : Program} {t : TypeId} {k : Nat} (h : (tyEl P t).bind (tySz P) = some k) (w : World) (a : Addr) (len cap : Nat) (kk : IntKind) (n : Int) (h0 : 0 ≤ n) (h1 : n < len) :
    (Instr.indexAt t (.slice (some a) len cap) (.int kk n)).run P w = .ok (.pointer (some (a.add (n.toNat * k)))) w := by
  obtain ⟨e, he, hs⟩ := Option.bind_eq_some_iff.1 h
  have hu := und_of_tyEl he
  have he2 : P.elem t = e := by simp [Program.elem, hu]
  rw [run_indexAt_slice (P := P) w t a len cap kk n (by rw [he2]; exact hu), if_pos ⟨h0, h1⟩, he2, run_sizeOf w hs]
  rfl
theorem lt_of_get {α : Type} {l : List α} {i : Nat} {x : α} (h : l[i]? = some x) : i < l.length := (List.getElem?_eq_some_iff.1 h).1
theorem AIndexAddr_sound {P : Program} {t : TypeId} {x i : AV} {hp : Hp} {K : AV → Prop} (h : AIndexAddr P t x i hp K) {w : World} {c : Cx} (hi : Inv w c hp) {v u : Value} (hx : RelV w c x v) (hu : RelV w c i u) :
    ∃ r a, (Instr.indexAt t v u).run P w = .ok r w ∧ RelV w c a r ∧ K a := by
  unfold AIndexAddr at h
  split at h
  · rename_i kk n
    simp only [RelV] at hu
    obtain ⟨rfl, -⟩ := hu
    split at h
    · rename_i k rows
      obtain ⟨_, hk, h0, r, hr, h⟩ := h
      simp only [RelV, RV] at hx
      obtain ⟨a, cap, rfl, hc, hn, hx⟩ := hx
      have hlt := lt_of_get hr
      rcases hx with rfl | ⟨b, off, rfl, hs, hr2⟩
      · simp at hlt
      · refine ⟨_, _, run_indexAt hk w _ _ _ _ n h0 (by omega), ?_, h⟩
        rw [Addr.add_lit]
        simp only [RelV, RV]
        exact ⟨b, _, rfl, .inr hs, (hr2.get _ r hr).2⟩
    · rename_i s ver k off len
      obtain ⟨hk, h0, h1, h⟩ := h
      simp only [RelV] at hx
      split at h
      · rename_i m t' k' q rows e
        obtain ⟨rfl, rfl, h⟩ := h
        obtain ⟨g1, _, _, _, g2⟩ := hi.row e
        have hx2 := hx.2 g1.symm
        rcases g2 with ⟨g3, _⟩ | ⟨b, cp, _, _, g3, _⟩
        · rw [g3] at hx2; obtain ⟨_, rfl, _⟩ := hx2; omega
        · rw [g3] at hx2
          obtain ⟨g5, a, rfl, g6⟩ := hx2
          have g7 := g6 (.inl (by omega))
          subst g7
          refine ⟨_, _, run_indexAt hk w _ _ _ _ n h0 h1, ?_, h⟩
          rw [Addr.add_lit]
          simp only [RelV]
          exact ⟨hx.1, fun _ => ⟨b, cp, g3, by rw [Nat.add_mul]; rfl⟩⟩
      · rename_i m k' rows e
        obtain ⟨rfl, rfl, r, hr, h⟩ := h
        obtain ⟨g1, _, g2⟩ := hi.ice e
        have hx2 := hx.2 g1.symm
        rcases g2 with ⟨g3, _⟩ | ⟨b, cp, g3, g4, g8⟩
        · rw [g3] at hx2; obtain ⟨_, rfl, _⟩ := hx2; omega
        · rw [g3] at hx2
          obtain ⟨g5, a, rfl, g6⟩ := hx2
          have g7 := g6 (.inl (by omega))
          subst g7
          rcases g8 with rfl | ⟨g8, g9⟩
          · simp at hr
          refine ⟨_, _, run_indexAt hk w _ _ _ _ n h0 h1, ?_, h⟩
          rw [Addr.add_lit]
          simp only [RelV, RV]
          refine ⟨b, _, rfl, .inr g8, ?_⟩
          have := (g9.get _ r hr).2
          rwa [Nat.zero_add, Nat.add_mul] at this
      · exact h.elim
    · exact h.elim
  · exact h.elim

/-! ### A text's bytes -/
def AIndex (P : Program) (t : TypeId) (x i : AV) (K : AV → Prop) : Prop :=
  match x, i with
  | .val (.string s), .val (.int _ n) => tyStr P t = true ∧ 0 ≤ n ∧ ∃ b, s.data.toList[n.toNat]? = some b ∧ K (.val (.int .u8 b.toNat))
  | _, _ => False
theorem AIndex_sound {P : Program} {t : TypeId} {x i : AV} {K : AV → Prop} (h : AIndex P t x i K) {w : World} {c : Cx} {v u : Value} (hx : RelV w c x v) (hu : RelV w c i u) :
    ∃ r a, (Instr.index t v u).run P w = .ok r w ∧ RelV w c a r ∧ K a := by
  unfold AIndex at h
  split at h
  · rename_i s k n
    simp only [RelV] at hx hu
    obtain ⟨rfl, -⟩ := hx
    obtain ⟨rfl, -⟩ := hu
    obtain ⟨h1, h2, b, h3, h⟩ := h
    refine done h rfl ?_
    have hlt := lt_of_get h3
    have hsz : n.toNat < s.size := by simpa using hlt
    have hb : s[n.toNat]? = some b := by
      rw [getElem?_pos s n.toNat hsz]
      rw [Array.getElem?_toList] at h3
      obtain ⟨_, h3⟩ := Array.getElem?_eq_some_iff.1 h3
      rw [← h3]; rfl
    simp [Instr.index, asIntOf, run_underlying (und_of_tyStr h1), h2, hb]
  · exact h.elim

/-! ### Cuts -/
def ABnd (x : Option AV) (d : Int) (K : Int → Prop) : Prop :=
  match x with
  | none => K d
  | some (.val (.int _ n)) => K n
  | _ => False
def rowLen : Blk → Nat
  | .row _ _ _ rows => rows.length
  | _ => 0
def ASlice (P : Program) (t : TypeId) (x : AV) (lo hi : Option AV) (hp : Hp) (K : AV → Prop) : Prop :=
  match x with
  | .val (.string s) => tyStr P t = true ∧ ABnd lo 0 fun l => ABnd hi s.size fun h => 0 ≤ l ∧ l ≤ h ∧ h ≤ s.size ∧ K (.val (.string (s.extract l.toNat h.toNat)))
  | .list k rows => (tyEl P t).bind (tySz P) = some k ∧ ABnd lo 0 fun l => ABnd hi rows.length fun h => 0 ≤ l ∧ l ≤ h ∧ h ≤ rows.length ∧ K (.list k ((rows.take h.toNat).drop l.toNat))
  | .val (.slice none 0 0) => (tyEl P t).bind (tySz P) ≠ none ∧ ABnd lo 0 fun l => ABnd hi 0 fun h => 0 ≤ l ∧ l ≤ h ∧ h ≤ 0 ∧ K (.val (.slice none 0 0))
  | .own s ver k off len => (hp.get s).1 = ver ∧ (tyEl P t).bind (tySz P) = some k ∧ ABnd lo 0 fun l => ABnd hi len fun h => 0 ≤ l ∧ l ≤ h ∧ (h ≤ len ∨ off + h.toNat ≤ rowLen (hp.get s).2) ∧ K (.own s ver k (off + l.toNat) (h.toNat - l.toNat))
  | _ => False
theorem flatten_len {rows : List (List AV)} {k : Nat} (hk : ∀ r ∈ rows, r.length = k) : rows.flatten.length = rows.length * k := by
  induction rows with
  | nil => simp
  | cons x rows ih =>
    simp only [List.flatten_cons, List.length_append, List.length_cons, hk x (by simp), ih (fun r hr => hk r (by simp [hr])), Nat.add_mul]
    omega
theorem Inv.rowLen {w : World} {c : Cx} {hp : Hp} (h : Inv w c hp) (s : Site) : (c.loc s = none → E.rowLen (hp.get s).2 = 0) ∧ ∀ b cp, c.loc s = some (b, cp) → E.rowLen (hp.get s).2 ≤ cp := by
  cases e : (hp.get s).2 with
  | row t k q rows =>
    obtain ⟨_, _, h0, hk, h1⟩ := h.row (s := s) (n := (hp.get s).1) (by rw [← e])
    rcases h1 with ⟨h2, rfl, _⟩ | ⟨b, cp, vs, rest, h2, _, _, _, h3, _, h4⟩
    · exact ⟨fun _ => rfl, fun b cp e2 => by rw [h2] at e2; cases e2⟩
    · refine ⟨fun e2 => (by rw [h2] at e2; cases e2), fun b' cp' e2 => ?_⟩
      rw [h2] at e2
      cases e2
      have h5 := h4.length
      rw [flatten_len hk] at h5
      simp only [List.length_append] at h3
      exact Nat.le_of_mul_le_mul_right (show rows.length * k ≤ cp * k by omega) h0
  | _ => exact ⟨fun _ => rfl, fun _ _ _ => Nat.zero_le _⟩
theorem ABnd.mono {x : Option AV} {d : Int} {K K' : Int → Prop} (hk : ∀ n, K n → K' n) (h : ABnd x d K) : ABnd x d K' := by
  unfold ABnd at *
  split at h
  · exact hk _ h
  · exact hk _ h
  · exact h
/-- A bound that is told, or not. -/
def RelO (w : World) (c : Cx) : Option AV → Option Value → Prop
  | none, none => True
  | some x, some v => RelV w c x v
  | _, _ => False
theorem run_sliceBound {P : Program} {w : World} (k : IntKind) (n : Int) (y : Nat) (code : BoundsCode) (h0 : 0 ≤ n) (h1 : n ≤ y) : (Instr.sliceBound (.int k n) y code).run P w = .ok n.toNat w := by
  simp [Instr.sliceBound, asIntOf, h0, h1]
theorem run_sliceBounds {P : Program} {w : World} {c : Cx} (b : Bool) (len cap : Nat) {lo hi : Option AV} {lv hv : Option Value} (hl : RelO w c lo lv) (hh : RelO w c hi hv) {K : Int → Int → Prop}
    (h : ABnd lo 0 fun l => ABnd hi len fun h => 0 ≤ l ∧ l ≤ h ∧ h ≤ cap ∧ K l h) (hc : len ≤ cap) :
    ∃ l h : Int, (Instr.sliceBounds b len cap lv hv none).run P w = .ok (l.toNat, h.toNat, cap) w ∧ 0 ≤ l ∧ l ≤ h ∧ h ≤ cap ∧ K l h := by
  unfold ABnd at h
  split at h
  · cases lv with
    | some v => simp only [RelO] at hl
    | none =>
      split at h
      · cases hv with
        | some v => simp only [RelO] at hh
        | none =>
          refine ⟨0, len, ?_, h⟩
          simp [Instr.sliceBounds]
      · rename_i k n
        cases hv with
        | none => simp only [RelO] at hh
        | some v =>
          simp only [RelO, RelV] at hh
          obtain ⟨rfl, -⟩ := hh
          refine ⟨0, n, ?_, h⟩
          simp [Instr.sliceBounds, run_sliceBound (P := P) (w := w) k n cap _ (by omega) (by omega)]
      · exact h.elim
  · rename_i k l
    cases lv with
    | none => simp only [RelO] at hl
    | some v =>
      simp only [RelO, RelV] at hl
      obtain ⟨rfl, -⟩ := hl
      split at h
      · cases hv with
        | some v => simp only [RelO] at hh
        | none =>
          refine ⟨l, len, ?_, h⟩
          simp [Instr.sliceBounds, run_sliceBound (P := P) (w := w) k l len _ (by omega) (by omega)]
      · rename_i k2 n
        cases hv with
        | none => simp only [RelO] at hh
        | some v =>
          simp only [RelO, RelV] at hh
          obtain ⟨rfl, -⟩ := hh
          refine ⟨l, n, ?_, h⟩
          simp [Instr.sliceBounds, run_sliceBound (P := P) (w := w) k2 n cap _ (by omega) (by omega), run_sliceBound (P := P) (w := w) k l n.toNat _ (by omega) (by omega)]
      · exact h.elim
  · exact h.elim
theorem ASlice_sound {P : Program} {t : TypeId} {x : AV} {lo hi : Option AV} {hp : Hp} {K : AV → Prop} (h : ASlice P t x lo hi hp K) {w : World} {c : Cx} (hi' : Inv w c hp) {v : Value} {lv hv : Option Value} (hx : RelV w c x v) (hl : RelO w c lo lv) (hh : RelO w c hi hv) :
    ∃ r a, (Instr.sliceAt t v lv hv none).run P w = .ok r w ∧ RelV w c a r ∧ K a := by
  unfold ASlice at h
  split at h
  · rename_i s
    simp only [RelV] at hx
    obtain ⟨rfl, -⟩ := hx
    obtain ⟨h1, h⟩ := h
    obtain ⟨l, m, e, h2, h3, h4, h⟩ := run_sliceBounds (P := P) false s.size s.size hl hh h (Nat.le_refl _)
    refine done h rfl ?_
    simp [Instr.sliceAt, Instr.slice, run_underlying (und_of_tyStr h1), e]
  · rename_i k rows
    simp only [RelV, RV] at hx
    obtain ⟨a, cap, rfl, hc, hn, hr⟩ := hx
    obtain ⟨h1, h⟩ := h
    obtain ⟨l, m, e, h2, h3, _, h4, h⟩ := run_sliceBounds (P := P) true rows.length cap hl hh (K := fun l h => h ≤ rows.length ∧ K (.list k ((rows.take h.toNat).drop l.toNat))) (ABnd.mono (fun l h => ABnd.mono (fun n h => ⟨h.1, h.2.1, by omega, h.2.2.1, h.2.2.2⟩) h) h) hc
    obtain ⟨el, g1, g2⟩ := Option.bind_eq_some_iff.1 h1
    refine ⟨.slice (if cap = l.toNat then a else a.map (·.add (l.toNat * k))) (m.toNat - l.toNat) (cap - l.toNat), _, ?_, ?_, h⟩
    · simp only [Instr.sliceAt, Instr.slice, Sem.run_bind, run_underlying (und_of_tyEl g1), Result.andThen_ok, e, run_sizeOf w g2, Sem.run_pure]
    · simp only [RelV, RV]
      have hlen : ((rows.take m.toNat).drop l.toNat).length = m.toNat - l.toNat := by simp; omega
      refine ⟨_, cap - l.toNat, by rw [hlen], by rw [hlen]; omega, fun e => ?_, ?_⟩
      · have : a = none := by
          split at e
          · exact e
          · simpa using e
        have := hn this
        omega
      by_cases hz : m.toNat - l.toNat = 0
      · exact .inl (List.eq_nil_of_length_eq_zero (by rw [hlen]; exact hz))
      · rcases hr with rfl | ⟨b, off, rfl, hs, hr⟩
        · simp at h4; omega
        · refine .inr ⟨b, off + l.toNat * k, ?_, hs, (hr.take _).drop _⟩
          rw [if_neg (by omega), Option.map_some, Addr.add_lit]
  · simp only [RelV] at hx
    obtain ⟨rfl, -⟩ := hx
    obtain ⟨h1, h⟩ := h
    obtain ⟨k, hk⟩ := Option.ne_none_iff_exists'.1 h1
    obtain ⟨el, g1, g2⟩ := Option.bind_eq_some_iff.1 hk
    obtain ⟨l, m, e, h2, h3, h4, h⟩ := run_sliceBounds (P := P) true 0 0 hl hh (K := fun l h => K (.val (.slice none 0 0))) (ABnd.mono (fun l h => ABnd.mono (fun n h => ⟨h.1, h.2.1, by omega, h.2.2.2⟩) h) h) (Nat.le_refl _)
    refine ⟨.slice (if 0 = l.toNat then none else none) (m.toNat - l.toNat) (0 - l.toNat), _, ?_, ?_, h⟩
    · simp only [Instr.sliceAt, Instr.slice, Sem.run_bind, run_underlying (und_of_tyEl g1), Result.andThen_ok, e, run_sizeOf w g2, Sem.run_pure, Option.map_none]
    · simp only [RelV]
      rw [show l.toNat = 0 by omega, show m.toNat = 0 by omega]
      exact ⟨by simp, rfl⟩
  · rename_i s ver k off len
    obtain ⟨h0, h1, h⟩ := h
    obtain ⟨el, g1, g2⟩ := Option.bind_eq_some_iff.1 h1
    simp only [RelV] at hx
    obtain ⟨hv1, hv2⟩ := hx
    have h5 := hv2 (by rw [← h0, hi'.cur s])
    cases hloc : c.loc s with
    | none =>
      rw [hloc] at h5
      obtain ⟨rfl, rfl, rfl⟩ := h5
      obtain ⟨l, m, e, h2, h3, h4, h⟩ := run_sliceBounds (P := P) true 0 0 hl hh (K := fun l h => K (.own s ver k (0 + l.toNat) (h.toNat - l.toNat))) (ABnd.mono (fun l h => ABnd.mono (fun n h => ⟨h.1, h.2.1, by have := (hi'.rowLen s).1 hloc; rcases h.2.2.1 with h' | h' <;> omega, h.2.2.2⟩) h) h) (Nat.le_refl _)
      refine ⟨.slice (if 0 = l.toNat then none else none) (m.toNat - l.toNat) (0 - l.toNat), _, ?_, ?_, h⟩
      · simp only [Instr.sliceAt, Instr.slice, Sem.run_bind, run_underlying (und_of_tyEl g1), Result.andThen_ok, e, run_sizeOf w g2, Sem.run_pure, Option.map_none]
      · simp only [RelV]
        refine ⟨hv1, fun _ => ?_⟩
        rw [hloc]
        refine ⟨by omega, by omega, ?_⟩
        rw [show l.toNat = 0 by omega, show m.toNat = 0 by omega]
        simp
    | some x =>
      obtain ⟨b, cp⟩ := x
      rw [hloc] at h5
      obtain ⟨h6, a, rfl, h7⟩ := h5
      obtain ⟨l, m, e, h2, h3, h4, h⟩ := run_sliceBounds (P := P) true len (cp - off) hl hh (K := fun l h => K (.own s ver k (off + l.toNat) (h.toNat - l.toNat))) (ABnd.mono (fun l h => ABnd.mono (fun n h => ⟨h.1, h.2.1, by have := (hi'.rowLen s).2 _ _ hloc; rcases h.2.2.1 with h' | h' <;> omega, h.2.2.2⟩) h) h) (by omega)
      refine ⟨.slice (if cp - off = l.toNat then some a else some (a.add (l.toNat * k))) (m.toNat - l.toNat) (cp - off - l.toNat), _, ?_, ?_, h⟩
      · simp only [Instr.sliceAt, Instr.slice, Sem.run_bind, run_underlying (und_of_tyEl g1), Result.andThen_ok, e, run_sizeOf w g2, Sem.run_pure, Option.map_some]
      · simp only [RelV]
        refine ⟨hv1, fun _ => ?_⟩
        rw [hloc]
        by_cases hq : cp - off = l.toNat
        · refine ⟨by omega, a, ?_, fun hlt => ?_⟩
          · rw [if_pos hq]
            congr 1
            omega
          · have e1 : off = 0 := by omega
            have e2 : l.toNat = 0 := by omega
            rw [h7 (.inr e1), e1, e2]
        · refine ⟨by omega, ⟨b, (off + l.toNat) * k, none⟩, ?_, fun _ => rfl⟩
          have h8 := h7 (.inl (by omega))
          subst h8
          rw [if_neg hq, Addr.add_lit, Nat.add_mul]
          congr 1
          omega
  · exact h.elim
end Go.Proofs.YtanbgeelphfggaaDoor.E
