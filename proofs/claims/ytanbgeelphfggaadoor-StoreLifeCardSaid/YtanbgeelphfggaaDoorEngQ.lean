/- The abstract machine of this claim, part Q: maps; copy, clear, cap; what is held against nil. No conditions. -/
import Derived.Test.YtanbgeelphfggaaDoorEngO
import Derived.MapKept
import Derived.Laws.Cover3
namespace Go.Proofs.YtanbgeelphfggaaDoor.E
open Go
set_option linter.unusedSimpArgs false
set_option linter.unusedVariables false
set_option linter.unusedSectionVars false
set_option maxRecDepth 20000

/-! ### Maps -/
def tyMap (P : Program) (t : TypeId) : Option (MK × TypeId) :=
  match P.underlying t with
  | some (.map ky el) => match P.underlying ky with
    | some (.int k) => some (.i k, el)
    | some .string => some (.s, el)
    | _ => none
  | _ => none
def keyEq : Value → Value → Bool
  | .int _ a, .int _ b => a == b
  | .string a, .string b => a == b
  | _, _ => false
def mget : List (Value × Value) → Value → Option Value
  | [], _ => none
  | (k, v) :: r, x => if keyEq k x = true then some v else mget r x
def mput : List (Value × Value) → Value → Value → List (Value × Value)
  | [], x, v => [(x, v)]
  | (k, u) :: r, x, v => if keyEq k x = true then (x, v) :: r else (k, u) :: mput r x v
theorem keyEq_iff {t : MK} {a b : Value} (ha : keyIs t a = true) (hb : keyIs t b = true) : keyEq a b = true ↔ a = b := by
  cases t <;> cases a <;> cases b <;> simp_all [keyIs, keyEq, MapKept.bytes_beq]
theorem tyMap_spec {P : Program} {t el : TypeId} {mk : MK} (h : tyMap P t = some (mk, el)) : ∃ ky d, P.underlying t = some (.map ky el) ∧ P.underlying ky = some d ∧ ∀ v, keyIs mk v = true → MapKept.IsKey d v := by
  unfold tyMap at h
  split at h
  · rename_i ky el' hu
    split at h
    · rename_i k hk
      cases h
      exact ⟨ky, _, hu, hk, fun v hv => by cases v <;> simp_all [keyIs, MapKept.IsKey]⟩
    · rename_i hk
      cases h
      exact ⟨ky, _, hu, hk, fun v hv => by cases v <;> simp_all [keyIs, MapKept.IsKey]⟩
    · cases h
  · cases h
def kv (e : MapEntry) : Value × Value := (e.key, e.val)
theorem findNow_mget {d : TypeDesc} {t : MK} (hd : ∀ v, keyIs t v = true → MapKept.IsKey d v) {k : Value} (hk : keyIs t k = true) (v : Value) : ∀ (l : List MapEntry) (i : Nat), (∀ x ∈ l, keyIs t x.key = true) →
    (Instr.findNow d k l i = some none ∧ mget (l.map kv) k = none ∧ mput (l.map kv) k v = l.map kv ++ [(k, v)]) ∨
    ∃ j e, Instr.findNow d k l i = some (some (i + j, e.val)) ∧ l[j]? = some e ∧ e.key = k ∧ mget (l.map kv) k = some e.val ∧ mput (l.map kv) k v = (l.map kv).set j (k, v)
  | [], _, _ => .inl ⟨rfl, rfl, rfl⟩
  | e :: es, i, h => by
    obtain ⟨r, hr, hiff⟩ := MapKept.sameNow_of_keys (hd k hk) (hd _ (h e (.head _)))
    have hke := keyEq_iff (h e (.head _)) hk
    cases r with
    | true =>
      have hq := hiff.1 rfl
      have h1 : keyEq e.key k = true := hke.2 hq.symm
      exact .inr ⟨0, e, by simp [Instr.findNow, hr], rfl, hq.symm, by simp [mget, kv, h1], by simp [mput, kv, h1]⟩
    | false =>
      have hne : e.key ≠ k := fun q => by have := hiff.2 q.symm; cases this
      have h0 : keyEq e.key k = false := by
        cases hq : keyEq e.key k with
        | false => rfl
        | true => exact absurd (hke.1 hq) hne
      rcases findNow_mget hd hk v es (i + 1) (fun x hx => h x (.tail _ hx)) with ⟨h1, h2, h3⟩ | ⟨j, e', h1, h2, h3, h4, h5⟩
      · exact .inl ⟨by simp [Instr.findNow, hr, h1], by simp [mget, kv, h0]; exact h2, by simp [mput, kv, h0]; exact h3⟩
      · exact .inr ⟨j + 1, e', by simp [Instr.findNow, hr, h1]; omega, by simpa using h2, h3, by simp [mget, kv, h0]; exact h4, by simp [mput, kv, h0]; exact h5⟩

/-- The zero value of a type of one cell. -/
def tyZ1 (P : Program) (t : TypeId) : Option Value :=
  match P.info? t with
  | some i => match i.zero with
    | some z => if plain z = true then some z else none
    | none => none
  | none => none
theorem run_zero1 {P : Program} {t : TypeId} {z : Value} (h : tyZ1 P t = some z) (w : World) : (zeroValue t).run P w = .ok z w ∧ plain z = true := by
  unfold tyZ1 at h
  split at h
  · rename_i i hi
    split at h
    · rename_i z0 hz0
      split at h
      · rename_i hp
        cases h
        exact ⟨by simp [zeroValue, run_typeInfo w hi, hz0], hp⟩
      · cases h
    · cases h
  · cases h
def ALookup (P : Program) (t : TypeId) (x k : AV) (ok : Bool) (hp : Hp) (K : AV → Prop) : Prop :=
  match x, k with
  | .map s ver, .val kk => match tyMap P t with
    | some (mk, el) => keyIs mk kk = true ∧ match hp.get s with
      | (n, .map mk' es) => n = ver ∧ mk' = mk ∧ match tyZ1 P el with
        | some z => K (if ok = true then .tup [.val ((mget es kk).getD z), .val (.bool (mget es kk).isSome)] else .val ((mget es kk).getD z))
        | none => False
      | _ => False
    | none => False
  | _, _ => False
theorem Inv.map {w : World} {c : Cx} {hp : Hp} (h : Inv w c hp) {s : Site} {n : Nat} {t : MK} {es : List (Value × Value)} (e : hp.get s = (n, .map t es)) :
    c.cur s = n ∧ c.lv s = true ∧ (∀ e ∈ es, keyIs t e.1 = true ∧ plain e.2 = true) ∧ ∃ b cp ents clock, c.loc s = some (b, cp) ∧ w.heap[b]? = some (.map ents clock) ∧ ents.toList.map kv = es := by
  have h1 := h.cur s
  have h2 := h.ok s
  rw [e] at h1 h2
  simp only [BlkOk] at h2
  exact ⟨h1, h2.1, h2.2.1, h2.2.2⟩
theorem mget_mem {es : List (Value × Value)} {k v : Value} (h : mget es k = some v) : ∃ k', (k', v) ∈ es := by
  induction es with
  | nil => cases h
  | cons e es ih =>
    obtain ⟨a, b⟩ := e
    simp only [mget] at h
    split at h
    · cases h; exact ⟨a, .head _⟩
    · obtain ⟨k', hk⟩ := ih h; exact ⟨k', .tail _ hk⟩
theorem ALookup_sound {P : Program} {t : TypeId} {x k : AV} {ok : Bool} {hp : Hp} {K : AV → Prop} (h : ALookup P t x k ok hp K) {w : World} {c : Cx} (hi : Inv w c hp) {v u : Value} (hx : RelV w c x v) (hk : RelV w c k u) :
    ∃ r a, (Instr.lookup t v u ok).run P w = .ok r w ∧ RelV w c a r ∧ K a := by
  unfold ALookup at h
  split at h
  · rename_i s ver u0
    split at h
    · rename_i mk el hm
      obtain ⟨hkk, h⟩ := h
      split at h
      · rename_i n mk' es e
        obtain ⟨rfl, rfl, h⟩ := h
        split at h
        · rename_i z hz
          obtain ⟨g1, _, g2, b, cp, ents, clock, g3, g4, g5⟩ := hi.map e
          simp only [RelV] at hx hk
          obtain ⟨rfl, hpk⟩ := hk
          obtain ⟨b', cp', e1, rfl⟩ := hx.2 g1.symm
          rw [g3] at e1
          cases e1
          obtain ⟨ky, d, hu, hd, hkey⟩ := tyMap_spec hm
          obtain ⟨hz2, hpz⟩ := run_zero1 hz w
          have hkeys : ∀ x ∈ ents.toList, keyIs mk' x.key = true := fun x hx => (g2 (kv x) (by rw [← g5]; exact List.mem_map_of_mem hx)).1
          have hrun : ∃ rv found, (Instr.lookup t (.map (some b)) u ok).run P w = .ok (if ok = true then .tuple #[rv, .bool found] else rv) w ∧ rv = (mget es u).getD z ∧ found = (mget es u).isSome := by
            rcases findNow_mget hkey hkk z ents.toList 0 hkeys with ⟨h1, h2, _⟩ | ⟨j, e', h1, h2, h3, h4, _⟩
            · rw [g5] at h2
              refine ⟨z, false, ?_, by rw [h2]; rfl, by rw [h2]; rfl⟩
              simp only [Instr.lookup, Sem.run_bind, run_underlying hu, Result.andThen_ok, Sem.run_pure, MapKept.run_getObj_map g4, MapKept.run_checkKey hd (hkey _ hkk), MapKept.run_findKey hd h1, hz2]
            · rw [g5] at h4
              refine ⟨e'.val, true, ?_, by rw [h4]; rfl, by rw [h4]; rfl⟩
              simp only [Instr.lookup, Sem.run_bind, run_underlying hu, Result.andThen_ok, Sem.run_pure, MapKept.run_getObj_map g4, MapKept.run_checkKey hd (hkey _ hkk), MapKept.run_findKey hd h1]
          obtain ⟨rv, found, hr, rfl, rfl⟩ := hrun
          have hpl : plain ((mget es u).getD z) = true := by
            cases hq : mget es u with
            | none => exact hpz
            | some v =>
              obtain ⟨k', hk'⟩ := mget_mem hq
              exact (g2 _ hk').2
          refine ⟨_, _, hr, ?_, h⟩
          cases ok
          · simp only [Bool.false_eq_true, if_false, RelV]; exact ⟨trivial, hpl⟩
          · simp only [if_true, RelV, RelL]
            exact ⟨_, rfl, _, _, rfl, ⟨rfl, hpl⟩, _, _, rfl, ⟨rfl, rfl⟩, rfl⟩
        · exact h.elim
      · exact h.elim
    · exact h.elim
  · exact h.elim

def AMakeMap (P : Program) (t : TypeId) (s : Site) (hp : Hp) (K : AV → Hp → Prop) : Prop :=
  match tyMap P t with
  | some (mk, _) => K (.map s ((hp.get s).1 + 1)) (hp.set s ((hp.get s).1 + 1) (.map mk []))
  | none => False
theorem AMakeMap_sound {P : Program} {t : TypeId} {s : Site} {hp : Hp} {K : AV → Hp → Prop} (h : AMakeMap P t s hp K) {w : World} {c : Cx} (hi : Inv w c hp) : Gives P (Instr.makeMap t none) w c K := by
  unfold AMakeMap at h
  split at h
  · rename_i mk el hm
    have he : Ext w c (w.alloc (.map #[] 0)) c := (Ext.alloc_still _ hi).1
    obtain ⟨h1, h2⟩ := hi.lay (w' := w.alloc (.map #[] 0)) s (some (w.heap.size, 0)) (.map mk []) he (fun b hb => heap_old w _ b (hi.lt b hb)) (fun b cp e => by cases e; exact ⟨Nat.le_refl _, by rw [size_alloc]; omega⟩) (by
      simp only [BlkOk]
      exact ⟨by simp [Cx.lay], fun e he => by simp at he, w.heap.size, 0, #[], 0, by simp [Cx.lay], by rw [heap_new], rfl⟩)
    refine ⟨.map (some w.heap.size), _, _, _, _, ?_, h1, h2, ?_, h⟩
    · simp only [Instr.makeMap, Sem.run_bind, run_newObj, Result.andThen_ok, Sem.run_pure]
      rfl
    · simp only [RelV, Cx.lay, if_true, hi.cur s, Nat.le_refl, true_and]
      exact fun _ => ⟨w.heap.size, 0, rfl, rfl⟩
  · exact h.elim

def AMapUpd (P : Program) (t : TypeId) (x k v : AV) (hp : Hp) (K : Hp → Prop) : Prop :=
  match x, k, v with
  | .map s ver, .val kk, .val vv => match tyMap P t with
    | some (mk, _) => keyIs mk kk = true ∧ match hp.get s with
      | (n, .map mk' es) => n = ver ∧ mk' = mk ∧ K (hp.set s n (.map mk (mput es kk vv)))
      | _ => False
    | none => False
  | _, _, _ => False
theorem mput_ok {t : MK} {es : List (Value × Value)} {k v : Value} (h : ∀ e ∈ es, keyIs t e.1 = true ∧ plain e.2 = true) (hk : keyIs t k = true) (hv : plain v = true) : ∀ e ∈ mput es k v, keyIs t e.1 = true ∧ plain e.2 = true := by
  induction es with
  | nil => intro e he; simp only [mput, List.mem_singleton] at he; subst he; exact ⟨hk, hv⟩
  | cons x es ih =>
    obtain ⟨a, b⟩ := x
    intro e he
    simp only [mput] at he
    split at he
    · rcases List.mem_cons.1 he with rfl | he
      · exact ⟨hk, hv⟩
      · exact h e (.tail _ he)
    · rcases List.mem_cons.1 he with rfl | he
      · exact h _ (.head _)
      · exact ih (fun e he => h e (.tail _ he)) e he
theorem AMapUpd_sound {P : Program} {t : TypeId} {x k v : AV} {hp : Hp} {K : Hp → Prop} (h : AMapUpd P t x k v hp K) {w : World} {c : Cx} (hi : Inv w c hp) {a u q : Value} (hx : RelV w c x a) (hk : RelV w c k u) (hv : RelV w c v q) :
    ∃ w' hp', (Instr.mapUpdate t a u q).run P w = .ok () w' ∧ Ext w c w' c ∧ Inv w' c hp' ∧ K hp' := by
  unfold AMapUpd at h
  split at h
  · rename_i s ver u0 q0
    split at h
    · rename_i mk el hm
      obtain ⟨hkk, h⟩ := h
      split at h
      · rename_i n mk' es e
        obtain ⟨rfl, rfl, h⟩ := h
        obtain ⟨g1, hlv, g2, b, cp, ents, clock, g3, g4, g5⟩ := hi.map e
        simp only [RelV] at hx hk hv
        obtain ⟨rfl, hpk⟩ := hk
        obtain ⟨rfl, hpv⟩ := hv
        obtain ⟨b', cp', e1, rfl⟩ := hx.2 g1.symm
        rw [g3] at e1
        cases e1
        obtain ⟨ky, d, hu, hd, hkey⟩ := tyMap_spec hm
        have hkeys : ∀ x ∈ ents.toList, keyIs mk' x.key = true := fun x hx => (g2 (kv x) (by rw [← g5]; exact List.mem_map_of_mem hx)).1
        have fin : ∀ (ents' : Array MapEntry) (clock' : Nat), ents'.toList.map kv = mput es u q → (Instr.mapUpdate t (.map (some b)) u q).run P w = .ok () { w with heap := w.heap.setIfInBounds b (.map ents' clock') } →
            ∃ w' hp', (Instr.mapUpdate t (.map (some b)) u q).run P w = .ok () w' ∧ Ext w c w' c ∧ Inv w' c hp' ∧ K hp' := by
          intro ents' clock' h1 h2
          obtain ⟨k1, k2⟩ := MapKept.heap_set (o' := .map ents' clock') g4
          have hup : Upd w b (.map ents' clock') { w with heap := w.heap.setIfInBounds b (.map ents' clock') } := ⟨rfl, rfl, rfl, by simp, k1, k2⟩
          refine ⟨_, _, h2, hup.ext ⟨s, cp, hlv, g3⟩, ?_, h⟩
          have hn : n = (hp.get s).1 := by rw [e]
          rw [hn]
          refine hi.put hlv g3 hup ?_
          simp only [BlkOk]
          exact ⟨hlv, mput_ok g2 hkk hpv, b, cp, ents', clock', g3, k1, h1⟩
        rcases findNow_mget hkey hkk q ents.toList 0 hkeys with ⟨h1, _, h3⟩ | ⟨j, e', h1, h2, h3, _, h5⟩
        · refine fin (ents.push { key := u, val := q, born := clock }) (clock + 1) ?_ ?_
          · rw [g5] at h3
            rw [h3, Array.toList_push, List.map_append, g5]
            rfl
          · simp only [Instr.mapUpdate, Sem.run_bind, run_underlying hu, Result.andThen_ok, Sem.run_pure, MapKept.run_getObj_map g4, MapKept.run_checkKey hd (hkey _ hkk), MapKept.run_findKey hd h1, MapKept.run_setObj_map _ g4]
        · refine fin (ents.modify j fun e => { e with key := u, val := q }) clock ?_ ?_
          · rw [g5] at h5
            rw [h5, ← g5]
            apply List.ext_getElem?
            intro i
            simp only [List.getElem?_map, Array.getElem?_toList, Array.getElem?_modify, List.getElem?_set, List.length_map, Array.length_toList]
            have hj := lt_of_get h2
            simp only [Array.length_toList] at hj
            by_cases hij : j = i
            · subst hij
              simp [hj, kv]
            · simp [hij]
          · have hke : ((ents[j]?).map (·.key)).getD u = u := by
              rw [Array.getElem?_toList] at h2
              simp [h2, h3]
            have hks := MapKept.run_keyThatStays (P := P) (w := w) (hkey _ hkk)
            rw [Nat.zero_add] at h1
            simp only [Instr.mapUpdate, Sem.run_bind, run_underlying hu, Result.andThen_ok, Sem.run_pure, MapKept.run_getObj_map g4, MapKept.run_checkKey hd (hkey _ hkk), MapKept.run_findKey hd h1, hke, hks, MapKept.run_setObj_map _ g4]
      · exact h.elim
    · exact h.elim
  · exact h.elim

/-! ### Copy, clear, cap -/
/-- Cells of a row of the call's own, overwritten from an element on. -/
theorem row_write {P : Program} {w : World} {c : Cx} {hp : Hp} (hi : Inv w c hp) {s : Site} {n k off len : Nat} {t : TypeId} {q : Option Nat} {rows : List (List AV)} (e : hp.get s = (n, .row t k q rows)) {b cp : Nat} (hb : c.loc s = some (b, cp)) {ys : List (List AV)} {news : List Value}
    (hy : ∀ r ∈ ys, r.length = k) (hr : RVL w (still w c) ys.flatten news) (ho : ∀ u ∈ news, u.oneCell' = true) (hfit : off + ys.length ≤ rows.length) :
    ∃ w', (storeCells ⟨b, off * k, none⟩ news).run P w = .ok () w' ∧ Ext w c w' c ∧ Inv w' c (hp.set s n (.row t k q (rows.take off ++ ys ++ rows.drop (off + ys.length)))) := by
  obtain ⟨g1, hlv, h0, hkr, g2⟩ := hi.row e
  rcases g2 with ⟨g3, _⟩ | ⟨b', cp', vs, rest, g3, hq, hcp, g4, g5, hov, g6⟩
  · rw [g3] at hb; cases hb
  · rw [g3] at hb
    cases hb
    have hl := g6.length
    rw [flatten_len hkr] at hl
    have hnl := hr.length
    rw [flatten_len hy] at hnl
    have hm : off * k + ys.length * k ≤ rows.length * k := by rw [← Nat.add_mul]; exact Nat.mul_le_mul_right _ hfit
    obtain ⟨w', hrun, hu⟩ := run_storeCells_upd (P := P) (b := b) (off := off * k) (t := t) news 0 w (vs ++ rest) g4 (by simp only [List.length_append]; omega) ho
    have hn : n = (hp.get s).1 := by rw [e]
    have e1 : (vs ++ rest).take (off * k) = vs.take (off * k) := List.take_append_of_le_length (by omega)
    have e2 : (vs ++ rest).drop (off * k + news.length) = vs.drop (off * k + news.length) ++ rest := List.drop_append_of_le_length (by omega)
    rw [Nat.add_zero, e1, e2, ← List.append_assoc] at hu
    obtain ⟨x1, x2⟩ := row_upd hi hlv g3 hu (rows := rows.take off ++ ys ++ rows.drop (off + ys.length)) rfl hq hcp h0 (fun r hr => by
      rcases List.mem_append.1 hr with hr | hr
      · rcases List.mem_append.1 hr with hr | hr
        · exact hkr r (List.mem_of_mem_take hr)
        · exact hy r hr
      · exact hkr r (List.mem_of_mem_drop hr)) (by
      simp only [List.length_append, List.length_take, List.length_drop] at g5 ⊢
      omega) (fun u hu => by
      simp only [List.mem_append] at hu
      rcases hu with ((hu | hu) | hu) | hu
      · exact hov u (List.mem_append_left _ (List.mem_of_mem_take hu))
      · exact ho u hu
      · exact hov u (List.mem_append_left _ (List.mem_of_mem_drop hu))
      · exact hov u (List.mem_append_right _ hu)) (by
      rw [flatten_splice hkr hy, flatten_len hy, hnl]
      exact ((g6.take _).append hr).append (g6.drop _))
    rw [hn]
    exact ⟨w', hrun, x1, x2⟩
/-- Where a slice of such a row begins. -/
theorem own_addr {w : World} {c : Cx} {hp : Hp} (hi : Inv w c hp) {s : Site} {n k off len : Nat} {u : Value} (hc : c.cur s = n) (hu : RelV w c (.own s n k off len) u) : (c.loc s = none ∧ u = .slice none 0 0 ∧ off = 0 ∧ len = 0) ∨ ∃ b cp a, c.loc s = some (b, cp) ∧ u = .slice (some a) len (cp - off) ∧ off + len ≤ cp ∧ (0 < len → a = ⟨b, off * k, none⟩) := by
  simp only [RelV] at hu
  have h2 := hu.2 hc.symm
  cases hl : c.loc s with
  | none =>
    rw [hl] at h2
    obtain ⟨rfl, rfl, rfl⟩ := h2
    exact .inl ⟨rfl, rfl, rfl, rfl⟩
  | some x =>
    obtain ⟨b, cp⟩ := x
    rw [hl] at h2
    obtain ⟨h3, a, rfl, h4⟩ := h2
    exact .inr ⟨b, cp, a, rfl, rfl, h3, fun h => h4 (.inl (by omega))⟩

def ACopy (P : Program) (ts : Array TypeId) (x y : AV) (hp : Hp) (K : AV → Hp → Prop) : Prop :=
  match ts.toList, x with
  | [t, _], .own s ver k off len => match (tyEl P t).bind (tySz P) with
    | some k0 => k0 = k ∧ match hp.get s with
      | (n, .row t' k2 q rows) => n = ver ∧ k2 = k ∧ off + len ≤ rows.length ∧ match y.rowsOf hp k with
        | some ys => K (.val (.int .i64 (min ys.length len : Nat))) (hp.set s n (.row t' k q (rows.take off ++ ys.take len ++ rows.drop (off + min ys.length len))))
        | none => False
      | _ => False
    | none => False
  | _, _ => False
theorem ACopy_sound {P : Program} {ts : Array TypeId} {x y : AV} {hp : Hp} {K : AV → Hp → Prop} (h : ACopy P ts x y hp K) {w : World} {c : Cx} (hi : Inv w c hp) (ty : TypeId) {u v : Value} (hu : RelV w c x u) (hv : RelV w c y v) : Gives P (Builtin.copy_ ts ty #[u, v]) w c K := by
  unfold ACopy at h
  split at h
  · rename_i t t2 s ver k off len hts
    have hts' : ts = #[t, t2] := by rw [← hts]
    subst hts'
    split at h
    · rename_i k0 hk0
      obtain ⟨rfl, h⟩ := h
      obtain ⟨el, he, hsz⟩ := Option.bind_eq_some_iff.1 hk0
      split at h
      · rename_i n t' k2 q rows e
        obtain ⟨rfl, rfl, hlen, h⟩ := h
        split at h
        · rename_i ys hys
          obtain ⟨g1, hlv, h0, hkr, g2⟩ := hi.row e
          have hrows := hv.rows hi hys
          have hsrc : ∃ m cp2 a, v = .slice a ys.length cp2 ∧ (a = none → ys = []) ∧ (∀ r ∈ ys, r.length = k2) ∧ m = min ys.length len ∧ ∃ news, RVL w (still w c) (ys.take len).flatten news ∧ (∀ u ∈ news, u.oneCell' = true) ∧ (Builtin.firstCells k2 (min ys.length len) v).run P w = .ok news.toArray w := by
            rcases hrows with ⟨rfl, rfl⟩ | ⟨a, cp2, rfl, hc2, hl2, vs, h1, h2, h3⟩
            · exact ⟨_, 0, none, rfl, fun _ => rfl, fun r hr => by simp at hr, rfl, [], by simp [RVL], fun u hu => by simp at hu, by simpa using run_firstCells_none w k2 0 0 0⟩
            · refine ⟨_, cp2, some a, rfl, (fun e => by cases e), hl2, rfl, vs.take (min ys.length len * k2), ?_, fun u hu => h2 u (List.mem_of_mem_take hu), ?_⟩
              · rw [flatten_take hl2]
                have hvl := h1.length
                rw [flatten_len hl2] at hvl
                by_cases hm : ys.length ≤ len
                · rw [Nat.min_eq_left hm, ← hvl, List.take_length, List.take_of_length_le (by rw [flatten_len hl2]; exact Nat.mul_le_mul_right _ hm)]
                  exact h1
                · rw [Nat.min_eq_right (by omega)]
                  exact h1.take _
              · have hvl := h1.length
                rw [flatten_len hl2] at hvl
                refine run_firstCells_some (P := P) w k2 _ a _ cp2 _ ?_ fun j x hx => ?_
                · rw [List.length_take, hvl]
                  exact Nat.min_eq_left (Nat.mul_le_mul_right _ (Nat.min_le_left _ _))
                · rw [List.getElem?_take] at hx
                  split at hx
                  · exact h3 j x hx
                  · cases hx
          obtain ⟨_, cp2, a2, rfl, ha2, hyk, -, news, hr1, hr2, hr3⟩ := hsrc
          have hl3 : (ys.take len).length = min ys.length len := by simp [Nat.min_comm]
          have hdrop : off + min ys.length len = off + (ys.take len).length := by rw [hl3]
          have hks : ∀ r ∈ ys.take len, r.length = k2 := fun r hr => hyk r (List.mem_of_mem_take hr)
          have hres : RelV w c (.val (.int .i64 (min ys.length len : Nat))) (.int .i64 ((min ys.length len : Nat) : Int)) := by simp only [RelV]; exact ⟨trivial, rfl⟩
          rcases own_addr hi g1 hu with ⟨g3, rfl, rfl, rfl⟩ | ⟨b, cp, a, g3, rfl, g4, g5⟩
          · rcases g2 with ⟨_, rfl, _⟩ | ⟨b, cp, _, _, g4, _⟩
            · refine ⟨.int .i64 0, _, w, c, _, ?_, Ext.refl _ _, ?_, by simpa using hres, h⟩
              · simp only [Nat.min_zero] at hr3
                simp [Builtin.copy_, run_underlying (und_of_tyEl he), run_sizeOf w hsz, Builtin.lenOf, hr3, goInt]
              · have := hi.upd (Ext.refl w c) s n (.row t' k2 q []) (fun _ _ => ⟨rfl, rfl, rfl⟩) (fun _ _ _ _ _ _ => rfl) g1 (by have := hi.ok s; rw [e] at this; exact this) fun b cp _ e2 => by rw [g3] at e2; cases e2
                simpa using this
            · rw [g3] at g4; cases g4
          · by_cases hz : len = 0
            · subst hz
              refine ⟨.int .i64 0, _, w, c, _, ?_, Ext.refl _ _, ?_, by simpa using hres, h⟩
              · simp only [Nat.min_zero] at hr3
                have hn0 : news = [] := List.eq_nil_of_length_eq_zero (by have := hr1.length; simpa using this)
                subst hn0
                simp [Builtin.copy_, run_underlying (und_of_tyEl he), run_sizeOf w hsz, Builtin.lenOf, hr3, goInt, storeCells]
              · have := hi.upd (Ext.refl w c) s n (.row t' k2 q rows) (fun _ _ => ⟨rfl, rfl, rfl⟩) (fun _ _ _ _ _ _ => rfl) g1 (by have := hi.ok s; rw [e] at this; exact this) fun b cp l e2 => ⟨hi.lt b ⟨s, cp, l, e2⟩, hi.far b ⟨s, cp, l, e2⟩, fun s' cp' hs l' e' => hs (hi.inj s' s b cp' cp l' l e' e2)⟩
                simpa using this
            · have ha := g5 (by omega)
              subst ha
              obtain ⟨w', hrun, x1, x2⟩ := row_write (P := P) hi e g3 (off := off) (len := len) hks hr1 hr2 (by rw [hl3]; omega)
              rw [← hdrop] at x2
              refine ⟨_, _, w', c, _, ?_, x1, x2, RelV.ext x1 _ _ hres, h⟩
              simp [Builtin.copy_, run_underlying (und_of_tyEl he), run_sizeOf w hsz, Builtin.lenOf, hr3, goInt, hrun]
        · exact h.elim
      · exact h.elim
    · exact h.elim
  · exact h.elim

def AClear (P : Program) (ts : Array TypeId) (x : AV) (hp : Hp) (K : AV → Hp → Prop) : Prop :=
  match ts.toList, x with
  | [t], .own s ver k off len => match tyEl P t with
    | some el => match tyZ P el with
      | some z => z.length = k ∧ match hp.get s with
        | (n, .row t' k2 q rows) => n = ver ∧ k2 = k ∧ off + len ≤ rows.length ∧ K (.val (.tuple #[])) (hp.set s n (.row t' k q (rows.take off ++ List.replicate len z ++ rows.drop (off + len))))
        | _ => False
      | none => False
    | none => False
  | _, _ => False
theorem AClear_sound {P : Program} {ts : Array TypeId} {x : AV} {hp : Hp} {K : AV → Hp → Prop} (h : AClear P ts x hp K) {w : World} {c : Cx} (hi : Inv w c hp) (ty : TypeId) {u : Value} (hu : RelV w c x u) : Gives P (Builtin.clear_ ts ty #[u]) w c K := by
  unfold AClear at h
  split at h
  · rename_i t s ver k off len hts
    have hts' : ts = #[t] := by rw [← hts]
    subst hts'
    split at h
    · rename_i el he
      split at h
      · rename_i z hz
        obtain ⟨hzk, h⟩ := h
        split at h
        · rename_i n t' k2 q rows e
          obtain ⟨rfl, rfl, hlen, h⟩ := h
          obtain ⟨g1, hlv, h0, hkr, g2⟩ := hi.row e
          obtain ⟨zv, hz1, hz2, hz3, _⟩ := run_zero hz w c
          have hzs : zv.cells.size = k2 := by have := hz2.length; simp only [Array.length_toList] at this; omega
          have hm := made_cells zv.cells len (by omega)
          have hzc : (Builtin.zeroCells zv.cells len).toList = (List.replicate len zv.cells.toList).flatten := hm
          have same : len = 0 → Inv w c (hp.set s n (.row t' k2 q (rows.take off ++ List.replicate len z ++ rows.drop (off + len)))) := by
            intro hz0
            subst hz0
            have := hi.upd (Ext.refl w c) s n (.row t' k2 q rows) (fun _ _ => ⟨rfl, rfl, rfl⟩) (fun _ _ _ _ _ _ => rfl) g1 (by have := hi.ok s; rw [e] at this; exact this) fun b cp l e2 => ⟨hi.lt b ⟨s, cp, l, e2⟩, hi.far b ⟨s, cp, l, e2⟩, fun s' cp' hs l' e' => hs (hi.inj s' s b cp' cp l' l e' e2)⟩
            simpa using this
          have hres : RelV w c (.val (.tuple #[])) (.tuple #[]) := by simp only [RelV]; exact ⟨trivial, rfl⟩
          rcases own_addr hi g1 hu with ⟨g3, rfl, rfl, rfl⟩ | ⟨b, cp, a, g3, rfl, g4, g5⟩
          · exact ⟨.tuple #[], _, w, c, _, by simp [Builtin.clear_, run_underlying (und_of_tyEl he)], Ext.refl _ _, same rfl, hres, h⟩
          · cases len with
            | zero => exact ⟨.tuple #[], _, w, c, _, by simp [Builtin.clear_, run_underlying (und_of_tyEl he)], Ext.refl _ _, same rfl, hres, h⟩
            | succ len =>
              have ha := g5 (by omega)
              subst ha
              have hks : ∀ r ∈ List.replicate (len + 1) z, r.length = k2 := fun r hr => by rw [List.eq_of_mem_replicate hr]; exact hzk
              obtain ⟨w', hrun, x1, x2⟩ := row_write (P := P) hi e g3 (off := off) (len := len + 1) hks (rvl_replicate (hz2.rvl (tyz_free hz)) _) (fun u hu => by
                obtain ⟨l, hl, hu⟩ := List.mem_flatten.1 hu
                rw [List.eq_of_mem_replicate hl] at hu
                exact hz3 u hu) (by simpa using hlen)
              rw [List.length_replicate] at x2
              refine ⟨_, _, w', c, _, ?_, x1, x2, RelV.ext x1 _ _ hres, h⟩
              simp only [Builtin.clear_, List.getElem?_toArray, List.getElem?_cons_zero, Sem.run_bind, run_underlying (und_of_tyEl he), Result.andThen_ok, hz1, hzc, hrun, Sem.run_pure]
        · exact h.elim
      · exact h.elim
    · exact h.elim
  · exact h.elim

def ACap (P : Program) (ts : Array TypeId) (x : AV) (hp : Hp) (K : AV → Hp → Prop) : Prop :=
  match ts.toList, x with
  | [t], .own s ver k off len => tyEl P t ≠ none ∧ match hp.get s with
    | (n, .row t' k2 q rows) => n = ver ∧ match q with
      | some cp => K (.val (.int .i64 (cp - off : Nat))) hp
      | none => ∀ cp : Nat, off + len ≤ cp → rows.length ≤ cp → cp ≤ maxLen → K (.val (.int .i64 (cp - off : Nat))) (hp.set s n (.row t' k2 (some cp) (rows ++ List.replicate (cp - rows.length) (List.replicate k2 .junk))))
    | _ => False
  | [t], .val (.slice none 0 0) => tyEl P t ≠ none ∧ K (.val (.int .i64 0)) hp
  | [t], .list _ rows => tyEl P t ≠ none ∧ ∀ cp : Nat, rows.length ≤ cp → K (.val (.int .i64 cp)) hp
  | _, _ => False
theorem rvl_junk {w : World} {S : Nat → Prop} : ∀ (n : Nat) (vs : List Value), vs.length = n → (∀ u ∈ vs, u.oneCell' = true) → RVL w S (List.replicate n .junk) vs
  | 0, vs, h, _ => by have := List.eq_nil_of_length_eq_zero h; subst this; simp [RVL]
  | n + 1, vs, h, ho => by
    cases vs with
    | nil => simp at h
    | cons v vs =>
      simp only [List.replicate_succ, RVL]
      exact ⟨v, vs, rfl, by simp only [RV]; exact ho v (by simp), rvl_junk n vs (by simpa using h) (fun u hu => ho u (by simp [hu]))⟩
theorem flatten_rep (m k : Nat) (x : AV) : (List.replicate m (List.replicate k x)).flatten = List.replicate (m * k) x := by
  induction m with
  | zero => simp
  | succ m ih => rw [List.replicate_succ, List.flatten_cons, ih, List.replicate_append_replicate, Nat.add_mul]; congr 1; omega
theorem ACap_sound {P : Program} {ts : Array TypeId} {x : AV} {hp : Hp} {K : AV → Hp → Prop} (h : ACap P ts x hp K) {w : World} {c : Cx} (hi : Inv w c hp) (ty : TypeId) {u : Value} (hu : RelV w c x u) : Gives P (Builtin.cap_ ts ty #[u]) w c K := by
  have hrun : ∀ (t : TypeId) (a : Option Addr) (n m : Nat), tyEl P t ≠ none → (Builtin.cap_ #[t] ty #[.slice a n m]).run P w = .ok (.int .i64 m) w := by
    intro t a n m hne
    obtain ⟨e, he⟩ := Option.ne_none_iff_exists'.1 hne
    simp [Builtin.cap_, run_underlying (und_of_tyEl he), goInt]
  have hres : ∀ n : Nat, RelV w c (.val (.int .i64 n)) (.int .i64 n) := fun n => by simp only [RelV]; exact ⟨trivial, rfl⟩
  unfold ACap at h
  split at h
  · rename_i t s ver k off len hts
    have hts' : ts = #[t] := by rw [← hts]
    subst hts'
    obtain ⟨hne, h⟩ := h
    split at h
    · rename_i n t' k2 q rows e
      obtain ⟨rfl, h⟩ := h
      obtain ⟨g1, hlv, h0, hkr, g2⟩ := hi.row e
      rcases own_addr hi g1 hu with ⟨g3, rfl, rfl, rfl⟩ | ⟨b, cp, a, g3, rfl, g4, g5⟩
      · rcases g2 with ⟨_, rfl, hq⟩ | ⟨b, cp, _, _, g4, _⟩
        · rcases hq with rfl | rfl
          · have h := h 0 (Nat.le_refl _) (Nat.le_refl _) (Nat.zero_le _)
            refine ⟨.int .i64 0, _, w, c, _, hrun t _ _ _ hne, Ext.refl _ _, ?_, hres 0, h⟩
            have := hi.upd (Ext.refl w c) s n (.row t' k2 (some 0) []) (fun _ _ => ⟨rfl, rfl, rfl⟩) (fun _ _ _ _ _ _ => rfl) g1 (by
              have := hi.ok s
              rw [e] at this
              simp only [BlkOk, g3] at this ⊢
              exact ⟨this.1, this.2.1, this.2.2.1, trivial, .inr trivial⟩) fun b cp _ e2 => by rw [g3] at e2; cases e2
            simpa using this
          · exact ⟨.int .i64 0, _, w, c, _, hrun t _ _ _ hne, Ext.refl _ _, hi, hres 0, h⟩
        · rw [g3] at g4; cases g4
      · rcases g2 with ⟨g6, _⟩ | ⟨b', cp', vs, rest, g6, hq, hcp, g7, g8, hov, g9⟩
        · rw [g3] at g6; cases g6
        · rw [g3] at g6
          cases g6
          rcases hq with rfl | rfl
          · have hle := (hi.rowLen s).2 b cp g3
            rw [e] at hle
            have h := h cp g4 hle hcp
            refine ⟨_, _, w, c, _, hrun t _ _ _ hne, Ext.refl _ _, ?_, hres _, h⟩
            refine hi.upd (Ext.refl w c) s n _ (fun _ _ => ⟨rfl, rfl, rfl⟩) (fun _ _ _ _ _ _ => rfl) g1 ?_ fun b cp l e2 => ⟨hi.lt b ⟨s, cp, l, e2⟩, hi.far b ⟨s, cp, l, e2⟩, fun s' cp' hs l' e' => hs (hi.inj s' s b cp' cp l' l e' e2)⟩
            simp only [BlkOk, g3]
            refine ⟨hlv, h0, ?_, .inr trivial, hcp, vs ++ rest, [], by simpa using g7, by simpa using g8, by simpa using hov, ?_⟩
            · intro r hr
              rcases List.mem_append.1 hr with hr | hr
              · exact hkr r hr
              · rw [List.eq_of_mem_replicate hr, List.length_replicate]
            · rw [List.flatten_append, flatten_rep]
              refine g9.append (rvl_junk _ _ ?_ fun u hu => hov u (List.mem_append_right _ hu))
              have h9 := g9.length
              rw [flatten_len hkr] at h9
              simp only [List.length_append] at g8
              rw [Nat.sub_mul]
              omega
          · exact ⟨_, _, w, c, _, hrun t _ _ _ hne, Ext.refl _ _, hi, hres _, h⟩
    · exact h.elim
  · rename_i t hts
    have hts' : ts = #[t] := by rw [← hts]
    subst hts'
    simp only [RelV] at hu
    obtain ⟨rfl, -⟩ := hu
    exact ⟨.int .i64 0, _, w, c, _, hrun t _ _ _ h.1, Ext.refl _ _, hi, hres 0, h.2⟩
  · rename_i t k rows hts
    have hts' : ts = #[t] := by rw [← hts]
    subst hts'
    simp only [RelV, RV] at hu
    obtain ⟨a, cap, rfl, hc, _⟩ := hu
    exact ⟨_, _, w, c, _, hrun t _ _ _ h.1, Ext.refl _ _, hi, hres _, h.2 cap hc⟩
  · exact h.elim
end Go.Proofs.YtanbgeelphfggaaDoor.E
