/- The abstract machine of this claim, part G: operations that turn the local heap. No conditions. -/
import Derived.Test.YtanbgeelphfggaaDoorEngF
import Derived.Laws.OwnMore
namespace Go.Proofs.YtanbgeelphfggaaDoor.E
open Go
set_option linter.unusedSimpArgs false
set_option linter.unusedVariables false
set_option linter.unusedSectionVars false
set_option maxRecDepth 20000

/-- What an operation leaves: a world, what it makes of the local heap, a value. -/
def Gives (P : Program) (m : Sem Value) (w : World) (c : Cx) (K : AV → Hp → Prop) : Prop :=
  ∃ r a w' c' hp', m.run P w = .ok r w' ∧ Ext w c w' c' ∧ Inv w' c' hp' ∧ RelV w' c' a r ∧ K a hp'

/-! ### New places -/
def ANew (t : TypeId) (cs : List AV) (s : Site) (hp : Hp) (K : AV → Hp → Prop) : Prop :=
  K (.ptr s ((hp.get s).1 + 1) 0) (hp.set s ((hp.get s).1 + 1) (.cells t cs))
theorem ANew_sound {P : Program} {t : TypeId} {cs : List AV} {s : Site} {hp : Hp} {K : AV → Hp → Prop} (h : ANew t cs s hp K) {w : World} {c : Cx} (hi : Inv w c hp) {v : Value} (hr : RelL w c cs v.cells.toList) (ho : ∀ u ∈ v.cells.toList, u.oneCell' = true) :
    Gives P (do pure (.pointer (some (← newVar t v)))) w c K := by
  have he : Ext w c (w.alloc (.cells v.cells t)) c := (Ext.alloc_still _ hi).1
  obtain ⟨h1, h2⟩ := hi.lay (w' := w.alloc (.cells v.cells t)) s (some (w.heap.size, 0)) (.cells t cs) he (fun b hb => heap_old w _ b (hi.lt b hb)) (fun b cp e => by cases e; exact ⟨Nat.le_refl _, by rw [size_alloc]; omega⟩) (by
    simp only [BlkOk]
    refine ⟨by simp [Cx.lay], w.heap.size, 0, v.cells.toList, by simp [Cx.lay], by rw [heap_new], ho, ?_⟩
    exact RelL.ext (Ext.lay s _ he (fun b cp e => by cases e; exact Nat.le_refl _)) _ _ hr)
  refine ⟨.pointer (some ⟨w.heap.size, 0, none⟩), _, _, _, _, ?_, h1, h2, ?_, h⟩
  · simp only [newVar, newRow, Sem.run_bind, run_newObj, Result.andThen_ok, Sem.run_pure]
    rfl
  · simp only [RelV, Cx.lay, if_true, hi.cur s, Nat.le_refl, true_and]
    exact fun _ => ⟨w.heap.size, 0, rfl, rfl⟩

def AAlloc (P : Program) (t : TypeId) (s : Site) (hp : Hp) (K : AV → Hp → Prop) : Prop :=
  match tyZ P t with
  | some z => ANew t z s hp K
  | none => False
theorem AAlloc_sound {P : Program} {t : TypeId} {s : Site} {hp : Hp} {K : AV → Hp → Prop} (h : AAlloc P t s hp K) {w : World} {c : Cx} (hi : Inv w c hp) : Gives P (Instr.alloc t true (.tuple #[])) w c K := by
  unfold AAlloc at h
  split at h
  · rename_i z hz
    obtain ⟨v, h1, h2, h3, _⟩ := run_zero hz w c
    obtain ⟨r, a, w', c', hp', e, rest⟩ := ANew_sound (P := P) h hi h2 h3
    refine ⟨r, a, w', c', hp', ?_, rest⟩
    simp only [Instr.alloc, Sem.run_bind, h1, Result.andThen_ok]
    simpa only [Sem.run_bind] using e
  · exact h.elim
def ABox (t : TypeId) (x : AV) (s : Site) (hp : Hp) (K : AV → Hp → Prop) : Prop :=
  match x.cs hp with
  | some cs => ANew t cs s hp K
  | none => False
theorem ABox_sound {P : Program} {t : TypeId} {x : AV} {s : Site} {hp : Hp} {K : AV → Hp → Prop} (h : ABox t x s hp K) {w : World} {c : Cx} (hi : Inv w c hp) {v : Value} (hx : RelV w c x v) : Gives P (Instr.box t v) w c K := by
  unfold ABox at h
  split at h
  · rename_i cs hcs
    obtain ⟨h1, h2⟩ := hx.cells hi hcs
    exact ANew_sound h hi h1 h2
  · exact h.elim

/-! ### Stores -/
/-- One block has turned. -/
structure Upd (w : World) (b : Nat) (o : Obj) (w' : World) : Prop where
  os : w'.os = w.os
  tape : w'.tape = w.tape
  output : w'.output = w.output
  size : w'.heap.size = w.heap.size
  here : w'.heap[b]? = some o
  there : ∀ k, k ≠ b → w'.heap[k]? = w.heap[k]?
theorem run_storeCells_upd {P : Program} {b off : Nat} {t : TypeId} : ∀ (vs : List Value) (i : Nat) (w : World) (arr : List Value), w.heap[b]? = some (.cells arr.toArray t (0, 0)) → off + i + vs.length ≤ arr.length → (∀ u ∈ vs, u.oneCell' = true) →
    ∃ w', (storeCells ⟨b, off, none⟩ vs i).run P w = .ok () w' ∧ Upd w b (.cells (arr.take (off + i) ++ vs ++ arr.drop (off + i + vs.length)).toArray t (0, 0)) w' := by
  intro vs
  induction vs with
  | nil =>
    intro i w arr h hl _
    refine ⟨w, by simp [storeCells], rfl, rfl, rfl, rfl, ?_, fun _ _ => rfl⟩
    simpa using h
  | cons v vs ih =>
    intro i w arr h hl ho
    simp only [List.length_cons] at hl
    have hcell : w.cell? ⟨b, off + i, none⟩ = some (arr[off + i]'(by omega)) := by
      rw [cell_block h, List.getElem?_eq_getElem]
    have hfr : w.frozen? ⟨b, off + i, none⟩ = false := by simp [World.frozen?, h]
    have hset : (w.setCell ⟨b, off + i, none⟩ v).heap[b]? = some (.cells (arr.set (off + i) v).toArray t (0, 0)) := by
      simp [World.setCell, Array.getElem?_modify, h]
    obtain ⟨w', e, hu⟩ := ih (i + 1) (w.setCell ⟨b, off + i, none⟩ v) (arr.set (off + i) v) hset (by simp; omega) (fun u hu => ho u (by simp [hu]))
    refine ⟨w', ?_, hu.os, hu.tape, hu.output, ?_, ?_, ?_⟩
    · have hst := run_store P w ⟨b, off + i, none⟩ v .plain (ho v (by simp))
      rw [hcell] at hst
      simp only [hfr, Bool.false_eq_true, if_false] at hst
      simp only [storeCells, Addr.add_lit, Sem.run_bind, hst, Result.andThen_ok]
      exact e
    · rw [hu.size]; simp [World.setCell]
    · rw [hu.here]
      congr 2
      rw [show off + (i + 1) = off + i + 1 by omega]
      rw [List.take_set, List.drop_set_of_lt (by omega)]
      have hlt : off + i < arr.length := by omega
      rw [List.take_succ_eq_append_getElem hlt, List.set_append, if_neg (by simp only [List.length_take]; omega)]
      simp only [List.length_take, List.append_assoc, List.length_cons]
      rw [show off + i - min (off + i) arr.length = 0 by omega]
      simp only [List.set_cons_zero, List.cons_append, List.nil_append]
      rw [show off + i + 1 + vs.length = off + i + (vs.length + 1) by omega]
    · intro k hk
      rw [hu.there k hk]
      show (w.heap.modify b _)[k]? = _
      rw [Array.getElem?_modify, if_neg (fun e => hk e.symm)]
theorem Upd.ext {w w' : World} {b : Nat} {o : Obj} {c : Cx} (h : Upd w b o w') (hl : c.live b) : Ext w c w' c :=
  ⟨h.os, h.tape, h.output, by rw [h.size]; exact Nat.le_refl _, fun k _ hn => ⟨h.there k (fun e => hn (e ▸ hl)), hn⟩, rfl, fun _ => .inr ⟨rfl, rfl, id⟩⟩
/-- A place whose block has turned, the place being where it was. -/
theorem Inv.put {w w' : World} {c : Cx} {hp : Hp} (hi : Inv w c hp) {s : Site} {b cp : Nat} {o : Obj} (hl : c.lv s = true) (hloc : c.loc s = some (b, cp)) (hu : Upd w b o w') {k : Blk} (hk : BlkOk w' c s k) : Inv w' c (hp.set s (hp.get s).1 k) := by
  have hlive : c.live b := ⟨s, cp, hl, hloc⟩
  refine hi.upd (hu.ext hlive) s _ k (fun _ _ => ⟨rfl, rfl, rfl⟩) (fun s' b' cp' hs l e => hu.there b' (fun eb => ?_)) (hi.cur s) hk fun b' cp' _ e => ?_
  · subst eb; exact hs (hi.inj s' s b' cp' cp l hl e hloc)
  · rw [hloc] at e
    cases e
    exact ⟨by rw [hu.size]; exact hi.lt _ hlive, hi.far _ hlive, fun s' cp'' hs l e => hs (hi.inj s' s b cp'' cp l hl e hloc)⟩

/-- What leads to no place of the local heap, by sight. -/
def AV.free : AV → Bool
  | .val _ | .list _ _ | .rop _ | .junk => true
  | _ => false
theorem RelV.rv {w : World} {c : Cx} {x : AV} {v : Value} (h : RelV w c x v) (hf : x.free = true) : RV w (E.still w c) x v := by
  cases x <;> simp only [AV.free, Bool.false_eq_true] at hf <;> simpa only [RelV, RV] using h
theorem RelL.rvl {w : World} {c : Cx} {xs : List AV} {vs : List Value} (h : RelL w c xs vs) (hf : xs.all AV.free = true) : RVL w (E.still w c) xs vs := by
  induction xs generalizing vs with
  | nil => simpa only [RelL, RVL] using h
  | cons x xs ih =>
    simp only [List.all_cons, Bool.and_eq_true] at hf
    simp only [RelL, RVL] at h ⊢
    obtain ⟨u, us, rfl, h1, h2⟩ := h
    exact ⟨u, us, rfl, h1.rv hf.1, ih h2 hf.2⟩

def AStore (P : Program) (t : TypeId) (x v : AV) (hp : Hp) (K : Hp → Prop) : Prop :=
  match v.cs hp with
  | some l => tySz P t = some l.length ∧ match x with
    | .ptr s ver off => match hp.get s with
      | (n, .cells t' cs) => n = ver ∧ off + l.length ≤ cs.length ∧ K (hp.set s n (.cells t' (cs.take off ++ l ++ cs.drop (off + l.length))))
      | _ => False
    | .ept s ver k i off => match hp.get s with
      | (n, .row t' k' q rows) => n = ver ∧ k' = k ∧ l.all AV.free = true ∧ ∃ r, rows[i]? = some r ∧ off + l.length ≤ k ∧ K (hp.set s n (.row t' k' q (rows.set i (r.take off ++ l ++ r.drop (off + l.length)))))
      | _ => False
    | _ => False
  | none => False

theorem flatten_set {rows : List (List AV)} {k : Nat} (hk : ∀ r ∈ rows, r.length = k) (i : Nat) (r : List AV) (hi : i < rows.length) : (rows.set i r).flatten = rows.flatten.take (i * k) ++ r ++ rows.flatten.drop (i * k + k) := by
  induction rows generalizing i with
  | nil => simp at hi
  | cons x rows ih =>
    have hx := hk x (by simp)
    cases i with
    | zero =>
      simp only [List.set_cons_zero, List.flatten_cons, Nat.zero_mul, List.take_zero, List.nil_append, Nat.zero_add]
      rw [List.drop_append, List.drop_eq_nil_of_le (by omega), List.nil_append, hx, Nat.sub_self, List.drop_zero]
    | succ i =>
      simp only [List.set_cons_succ, List.flatten_cons]
      rw [ih (fun y hy => hk y (by simp [hy])) i (by simpa using hi)]
      have e : (i + 1) * k = x.length + i * k := by rw [Nat.add_mul, hx]; omega
      rw [e, Nat.add_assoc, List.take_length_add_append, List.drop_length_add_append]
      simp [List.append_assoc]

theorem AStore_sound {P : Program} {t : TypeId} {x v : AV} {hp : Hp} {K : Hp → Prop} (h : AStore P t x v hp K) {w : World} {c : Cx} (hi : Inv w c hp) {a u : Value} (hx : RelV w c x a) (hv : RelV w c v u) :
    ∃ w' hp', (Instr.storeAt t a u).run P w = .ok () w' ∧ Ext w c w' c ∧ Inv w' c hp' ∧ K hp' := by
  unfold AStore at h
  split at h
  · rename_i l hl
    obtain ⟨hs, h⟩ := h
    obtain ⟨hc, hov⟩ := hv.cells hi hl
    have hlen := hc.length
    split at h
    · rename_i s ver off
      split at h
      · rename_i n t' cs e
        obtain ⟨rfl, hoff, h⟩ := h
        simp only [RelV] at hx
        obtain ⟨h1, hlv, b, cp, vs, h3, h4, ho, h5⟩ := hi.cells e
        obtain ⟨b', cp', e1, rfl⟩ := hx.2 h1.symm
        rw [h3] at e1
        cases e1
        have hlen2 := h5.length
        obtain ⟨w', hr, hu⟩ := run_storeCells_upd (P := P) (b := b) (off := off) (t := t') u.cells.toList 0 w vs h4 (by omega) hov
        have he := hu.ext ⟨s, cp, hlv, h3⟩
        refine ⟨w', _, ?_, he, ?_, h⟩
        · simp only [Instr.storeAt, Instr.sureAddr, storeVar, Sem.run_bind, Sem.run_pure, Result.andThen_ok, run_sizeOf w hs]
          rw [if_neg (by simp only [Array.length_toList] at hlen; omega)]
          simpa using hr
        · have hn : n = (hp.get s).1 := by rw [e]
          rw [hn]
          refine hi.put hlv h3 hu ?_
          simp only [BlkOk]
          refine ⟨hlv, b, cp, _, h3, hu.here, ?_, ?_⟩
          · intro q hq
            rcases List.mem_append.1 hq with hq | hq
            · rcases List.mem_append.1 hq with hq | hq
              · exact ho q (List.mem_of_mem_take hq)
              · exact hov q hq
            · exact ho q (List.mem_of_mem_drop hq)
          · rw [hlen, Nat.add_zero]
            exact RelL.ext he _ _ (((h5.take _).append hc).append (h5.drop _))
      · exact h.elim
    · rename_i s ver k i off
      split at h
      · rename_i n t' k' q rows e
        obtain ⟨rfl, rfl, hfree, r, hr, hoff, h⟩ := h
        simp only [RelV] at hx
        obtain ⟨h1, hlv, h0, hk, h2⟩ := hi.row e
        obtain ⟨b', cp', e1, rfl⟩ := hx.2 h1.symm
        rcases h2 with ⟨h3, _⟩ | ⟨b, cp, vs, rest, h3, hcq, hcp, h4, h5, ho, h6⟩
        · rw [h3] at e1; cases e1
        · rw [h3] at e1
          cases e1
          obtain ⟨f1, f2⟩ := flatten_row hk i r hr
          have hlen2 := h6.length
          have hlt := lt_of_get hr
          have hrk := hk r (List.mem_of_getElem? hr)
          obtain ⟨w', hrun, hu⟩ := run_storeCells_upd (P := P) (off := i * k' + off) (t := t') u.cells.toList 0 w (vs ++ rest) h4 (by simp only [List.length_append]; omega) hov
          have he := hu.ext ⟨s, _, hlv, h3⟩
          refine ⟨w', _, ?_, he, ?_, h⟩
          · simp only [Instr.storeAt, Instr.sureAddr, storeVar, Sem.run_bind, Sem.run_pure, Result.andThen_ok, run_sizeOf w hs]
            rw [if_neg (by simp only [Array.length_toList] at hlen; omega)]
            simpa using hrun
          · have hn : n = (hp.get s).1 := by rw [e]
            rw [hn]
            refine hi.put hlv h3 hu ?_
            simp only [BlkOk]
            refine ⟨hlv, h0, ?_, ?_⟩
            · intro q hq
              rcases List.mem_or_eq_of_mem_set hq with hq | rfl
              · exact hk q hq
              · simp only [List.length_append, List.length_take, List.length_drop]; omega
            · simp only [h3]
              refine ⟨hcq, hcp, vs.take (i * k' + off) ++ u.cells.toList ++ vs.drop (i * k' + off + l.length), rest, ?_, ?_, ?_, ?_⟩
              · rw [hu.here, hlen, Nat.add_zero]
                congr 2
                rw [List.take_append_of_le_length (by omega), List.drop_append_of_le_length (by omega)]
                simp [List.append_assoc]
              · simp only [List.length_append, List.length_take, List.length_drop] at h5 ⊢
                omega
              · intro q hq
                rcases List.mem_append.1 hq with hq | hq
                · rcases List.mem_append.1 hq with hq | hq
                  · rcases List.mem_append.1 hq with hq | hq
                    · exact ho q (List.mem_append_left _ (List.mem_of_mem_take hq))
                    · exact hov q hq
                  · exact ho q (List.mem_append_left _ (List.mem_of_mem_drop hq))
                · exact ho q (List.mem_append_right _ hq)
              · have key : (rows.set i (r.take off ++ l ++ r.drop (off + l.length))).flatten = rows.flatten.take (i * k' + off) ++ l ++ rows.flatten.drop (i * k' + off + l.length) := by
                  rw [flatten_set hk i _ hlt]
                  have e1 : rows.flatten.take (i * k' + off) = rows.flatten.take (i * k') ++ r.take off := by
                    rw [List.take_add]
                    congr 1
                    rw [← f1, List.take_take, Nat.min_eq_left (by omega)]
                  have e2 : rows.flatten.drop (i * k' + off + l.length) = r.drop (off + l.length) ++ rows.flatten.drop (i * k' + k') := by
                    rw [← f1, List.drop_take, List.drop_drop]
                    have e3 : rows.flatten.drop (i * k' + k') = (rows.flatten.drop (i * k' + (off + l.length))).drop (k' - (off + l.length)) := by
                      rw [List.drop_drop]; congr 1; omega
                    rw [e3, List.take_append_drop, Nat.add_assoc]
                  rw [e1, e2]
                  simp [List.append_assoc]
                rw [key]
                exact RVL.mono he.still _ _ (((h6.take _).append (hc.rvl hfree)).append (h6.drop _))
      · exact h.elim
    · exact h.elim
  · exact h.elim
end Go.Proofs.YtanbgeelphfggaaDoor.E
