/- The abstract machine of this claim, part H: rows of the call's own. No conditions. -/
import Derived.Test.YtanbgeelphfggaaDoorEngG
namespace Go.Proofs.YtanbgeelphfggaaDoor.E
open Go
set_option linter.unusedSimpArgs false
set_option linter.unusedVariables false
set_option linter.unusedSectionVars false
set_option maxRecDepth 20000

theorem cx_lay_loc (c : Cx) (s : Site) (p : Option (Nat × Nat)) : (c.lay s p).loc s = p := by simp [Cx.lay]
theorem cx_lay_lv (c : Cx) (s : Site) (p : Option (Nat × Nat)) : (c.lay s p).lv s = true := by simp [Cx.lay]
theorem cx_lay_cur (c : Cx) (s : Site) (p : Option (Nat × Nat)) : (c.lay s p).cur s = c.cur s + 1 := by simp [Cx.lay]

/-- A new block as a row. -/
theorem row_new {w : World} {c : Cx} {hp : Hp} (hi : Inv w c hp) (s : Site) (e : TypeId) (k : Nat) (rows : List (List AV)) (cp : Nat) (vs rest : List Value) (h0 : 0 < k) (hk : ∀ r ∈ rows, r.length = k) (hcp : cp ≤ maxLen) (hlen : (vs ++ rest).length = cp * k)
    (ho : ∀ u ∈ vs ++ rest, u.oneCell' = true) (hr : RVL w (still w c) rows.flatten vs) :
    Ext w c (w.alloc (.cells (vs ++ rest).toArray e)) (c.lay s (some (w.heap.size, cp))) ∧ Inv (w.alloc (.cells (vs ++ rest).toArray e)) (c.lay s (some (w.heap.size, cp))) (hp.set s ((hp.get s).1 + 1) (.row e k none rows)) := by
  have he : Ext w c (w.alloc (.cells (vs ++ rest).toArray e)) c := (Ext.alloc_still _ hi).1
  refine hi.lay s (some (w.heap.size, cp)) (.row e k none rows) he (fun b hb => heap_old w _ b (hi.lt b hb)) (fun b cp e => by cases e; exact ⟨Nat.le_refl _, by rw [size_alloc]; omega⟩) ?_
  simp only [BlkOk]
  refine ⟨cx_lay_lv _ _ _, h0, hk, ?_⟩
  rw [cx_lay_loc]
  exact ⟨.inl trivial, hcp, vs, rest, by rw [heap_new], hlen, ho, RVL.mono (Ext.lay s _ he (fun b cp e => by cases e; exact Nat.le_refl _)).still _ _ hr⟩
theorem rel_own_new {w' : World} {c : Cx} {hp : Hp} {w : World} (hi : Inv w c hp) (s : Site) (b k len cp : Nat) (h : len ≤ cp) : RelV w' (c.lay s (some (b, cp))) (.own s ((hp.get s).1 + 1) k 0 len) (.slice (some ⟨b, 0, none⟩) len cp) := by
  simp only [RelV, cx_lay_cur, hi.cur s, Nat.le_refl, true_and]
  intro _
  rw [cx_lay_loc]
  exact ⟨by omega, ⟨b, 0, none⟩, by simp, fun _ => by simp⟩

theorem rvl_replicate {w : World} {S : Nat → Prop} {z : List AV} {zs : List Value} (h : RVL w S z zs) (n : Nat) : RVL w S (List.replicate n z).flatten (List.replicate n zs).flatten := by
  induction n with
  | zero => simp [RVL]
  | succ n ih =>
    simp only [List.replicate_succ, List.flatten_cons]
    exact h.append ih
theorem made_cells (z : Array Value) (n : Nat) (hz : 0 < z.size) : (madeCells z (n * z.size)).toList = (List.replicate n z.toList).flatten := by
  unfold madeCells
  simp only [Array.toList_map, Array.toList_range]
  induction n with
  | zero => simp
  | succ n ih =>
    rw [show (n + 1) * z.size = n * z.size + z.size by rw [Nat.add_mul]; omega, List.range_add, List.map_append, ih, List.replicate_succ']
    simp only [List.flatten_append, List.flatten_cons, List.flatten_nil, List.append_nil, List.map_map]
    congr 1
    apply List.ext_getElem
    · simp
    · intro i h1 h2
      simp only [List.length_map, List.length_range] at h1
      simp only [List.getElem_map, List.getElem_range, Function.comp]
      rw [Nat.add_comm, Nat.add_mul_mod_self_right, Nat.mod_eq_of_lt h1, getElem!_pos z i h1]
      rfl

theorem tyz_free {P : Program} {t : TypeId} {z : List AV} (h : tyZ P t = some z) : z.all AV.free = true := by
  unfold tyZ at h
  split at h
  · split at h
    · split at h
      · cases h; simp [AV.free]
      · cases h
    · cases h
  · cases h

/-! ### A literal -/
def fillR (hp : Hp) (k : Nat) : List (List AV) → List (Nat × AV) → Option (List (List AV))
  | rows, [] => some rows
  | rows, (i, x) :: rest => match x.cs hp with
    | some l => if l.length = k ∧ i < rows.length ∧ l.all AV.free = true then fillR hp k (rows.set i l) rest else none
    | none => none
def ABuildSlice (P : Program) (t : TypeId) (n : Nat) (parts : List (Nat × AV)) (s : Site) (hp : Hp) (K : AV → Hp → Prop) : Prop :=
  match tyEl P t with
  | some e => match tySz P e with
    | some k => match tyZ P e with
      | some z => 0 < k ∧ z.length = k ∧ n * k ≤ 16777216 ∧ match fillR hp k (List.replicate n z) parts with
        | some rows => K (.own s ((hp.get s).1 + 1) k 0 n) (hp.set s ((hp.get s).1 + 1) (.row e k none rows))
        | none => False
      | none => False
    | none => False
  | none => False
theorem fillR_sound {w : World} {c : Cx} {hp : Hp} (hi : Inv w c hp) {k : Nat} {parts : List (Nat × AV)} {rows res : List (List AV)} (h : fillR hp k rows parts = some res) {vs : List (Nat × Value)} {cv : Array Value}
    (hp' : RelP w c parts vs) (hk : ∀ r ∈ rows, r.length = k) (hc : RVL w (still w c) rows.flatten cv.toList) (hoc : ∀ u ∈ cv.toList, u.oneCell' = true) :
    ∃ rv, Instr.fill (fun i => some (i * k, k)) cv vs = some rv ∧ RVL w (still w c) res.flatten rv.toList ∧ (∀ u ∈ rv.toList, u.oneCell' = true) ∧ (∀ r ∈ res, r.length = k) ∧ res.length = rows.length := by
  induction parts generalizing rows cv vs with
  | nil =>
    simp only [RelP] at hp'
    subst hp'
    simp only [fillR, Option.some.injEq] at h
    subst h
    exact ⟨cv, rfl, hc, hoc, hk, rfl⟩
  | cons x xs ih =>
    simp only [RelP] at hp'
    obtain ⟨v, ys, rfl, hr, hp'⟩ := hp'
    obtain ⟨i, a⟩ := x
    simp only [fillR] at h
    split at h
    · rename_i l hl
      split at h
      · rename_i hn
        obtain ⟨hn1, hn2, hn3⟩ := hn
        obtain ⟨hcv, hov⟩ := hr.cells hi hl
        have hlen := hcv.length
        have hlen2 := hc.length
        simp only [Array.length_toList] at hlen hlen2
        obtain ⟨_, f2⟩ := flatten_row hk i (rows[i]) (by rw [List.getElem?_eq_getElem])
        have key0 : (v.cells.zipIdx.foldl (fun cs (x : Value × Nat) => cs.setIfInBounds (i * k + x.2) x.1) cv).toList = cv.toList.take (i * k) ++ v.cells.toList ++ cv.toList.drop (i * k + k) := by
          rw [← Array.foldl_toList, Array.toList_zipIdx, foldl_set_splice (i * k) _ 0 cv (by simp only [Array.length_toList]; omega)]
          simp only [Nat.add_zero, Array.length_toList]
          rw [hlen, hn1]
        have key : RVL w (still w c) (rows.set i l).flatten (v.cells.zipIdx.foldl (fun cs (x : Value × Nat) => cs.setIfInBounds (i * k + x.2) x.1) cv).toList := by
          rw [key0, flatten_set hk i l hn2]
          exact ((hc.take _).append (hcv.rvl hn3)).append (hc.drop _)
        obtain ⟨rv, e1, e2, e3, e4, e5⟩ := ih h hp' (fun r hr => by
            rcases List.mem_or_eq_of_mem_set hr with hr | rfl
            · exact hk r hr
            · exact hn1) key (by
          rw [key0]
          intro u hu
          rcases List.mem_append.1 hu with hu | hu
          · rcases List.mem_append.1 hu with hu | hu
            · exact hoc u (List.mem_of_mem_take hu)
            · exact hov u hu
          · exact hoc u (List.mem_of_mem_drop hu))
        refine ⟨rv, ?_, e2, e3, e4, by rw [e5, List.length_set]⟩
        simp only [Instr.fill]
        rw [if_neg (by simp; omega)]
        exact e1
      · cases h
    · cases h
theorem ABuildSlice_sound {P : Program} {t : TypeId} {n : Nat} {parts : List (Nat × AV)} {s : Site} {hp : Hp} {K : AV → Hp → Prop} (h : ABuildSlice P t n parts s hp K) {w : World} {c : Cx} (hi : Inv w c hp) {vs : List (Nat × Value)}
    (hp' : RelP w c parts vs) : Gives P (Instr.buildSlice t n vs.toArray) w c K := by
  unfold ABuildSlice at h
  split at h
  · rename_i e he
    split at h
    · rename_i k hk
      split at h
      · rename_i z hz
        obtain ⟨h0, hzk, hsm, h⟩ := h
        split at h
        · rename_i rows hrows
          obtain ⟨zv, hz1, hz2, hz3, i0, hi0, hiz⟩ := run_zero hz w c
          have hzs : zv.cells.size = k := by have := hz2.length; simp only [Array.length_toList] at this; omega
          have hm := made_cells zv.cells n (by omega)
          rw [hzs] at hm
          have hz2' : RVL w (still w c) z zv.cells.toList := hz2.rvl (tyz_free hz)
          obtain ⟨rv, e1, e2, e3, e4, e5⟩ := fillR_sound hi hrows hp' (cv := madeCells zv.cells (n * k)) (fun r hr => by rw [List.eq_of_mem_replicate hr]; exact hzk) (by rw [hm]; exact rvl_replicate hz2' n) (by
            rw [hm]
            intro u hu
            obtain ⟨l, hl, hu⟩ := List.mem_flatten.1 hu
            rw [List.eq_of_mem_replicate hl] at hu
            exact hz3 u hu)
          have hlen : rv.toList.length = n * k := by
            have h1 := e2.length
            rw [h1]
            have : ∀ (l : List (List AV)), (∀ r ∈ l, r.length = k) → l.flatten.length = l.length * k := by
              intro l
              induction l with
              | nil => simp
              | cons x l ih =>
                intro hh
                simp only [List.flatten_cons, List.length_append, List.length_cons, hh x (by simp), ih (fun r hr => hh r (by simp [hr])), Nat.add_mul]
                omega
            rw [this rows e4, e5, List.length_replicate]
          obtain ⟨x1, x2⟩ := row_new hi s e k rows n rv.toList [] h0 e4 (by
            have : n ≤ n * k := Nat.le_mul_of_pos_right _ h0
            simp only [maxLen]; omega) (by simpa using hlen) (by simpa using e3) e2
          refine ⟨.slice (some ⟨w.heap.size, 0, none⟩) n n, _, _, _, _, ?_, x1, x2, rel_own_new hi s _ k n n (Nat.le_refl _), h⟩
          have hf : Instr.fill (fun i => some (i * k, k)) ((Array.range (n * k)).map (zv.cells[· % zv.cells.size]!)) vs = some rv := e1
          by_cases hnk : n * k = 0
          · have hn0 : n = 0 := by
              rcases Nat.mul_eq_zero.1 hnk with h | h
              · exact h
              · omega
            subst hn0
            simp only [Nat.zero_mul, Array.range_zero', Array.map_empty] at hf
            simp only [Instr.buildSlice, Sem.run_bind, run_underlying (und_of_tyEl he), Result.andThen_ok, run_sizeOf w hk, Nat.zero_mul, Array.range_zero', Array.map_empty]
            rw [if_neg (by omega)]
            simp only [if_true, Sem.run_bind, Sem.run_pure, Result.andThen_ok, hf, newRow, run_newObj, List.append_nil, Array.toArray_toList]
            rfl
          · simp only [Instr.buildSlice, Sem.run_bind, run_underlying (und_of_tyEl he), Result.andThen_ok, run_sizeOf w hk]
            rw [if_neg (by omega), if_neg hnk]
            simp only [Sem.run_bind, hz1, Sem.run_pure, Result.andThen_ok]
            rw [hf]
            simp only [newRow, Sem.run_bind, run_newObj, Result.andThen_ok, Sem.run_pure, List.append_nil, Array.toArray_toList]
            rfl
        · exact h.elim
      · exact h.elim
    · exact h.elim
  · exact h.elim

/-! ### make -/
def AMake (P : Program) (t : TypeId) (l m : AV) (s : Site) (hp : Hp) (K : AV → Hp → Prop) : Prop :=
  match l, m with
  | .val (.int _ n), .val (.int _ cp) => match tyEl P t with
    | some e => match tySz P e, tyBy P e with
      | some k, some by_ => match tyZ P e with
        | some z => 0 < k ∧ z.length = k ∧ 0 ≤ n ∧ n ≤ cp ∧ (by_ : Int) * cp ≤ 281474976710656 ∧ cp ≤ 9223372036854775807 ∧
          K (.own s ((hp.get s).1 + 1) k 0 n.toNat) (hp.set s ((hp.get s).1 + 1) (.row e k none (List.replicate n.toNat z)))
        | none => False
      | _, _ => False
    | none => False
  | _, _ => False
theorem AMake_sound {P : Program} {t : TypeId} {l m : AV} {s : Site} {hp : Hp} {K : AV → Hp → Prop} (h : AMake P t l m s hp K) {w : World} {c : Cx} (hi : Inv w c hp) {u v : Value} (hu : RelV w c l u) (hv : RelV w c m v) : Gives P (Instr.makeSlice t u v) w c K := by
  unfold AMake at h
  split at h
  · rename_i k1 n k2 cp
    simp only [RelV] at hu hv
    obtain ⟨rfl, -⟩ := hu
    obtain ⟨rfl, -⟩ := hv
    split at h
    · rename_i e he
      split at h
      · rename_i k by_ hk hby
        split at h
        · rename_i z hz
          obtain ⟨h0, hzk, hn0, hnc, hb, hcp, h⟩ := h
          obtain ⟨zv, hz1, hz2, hz3, i0, hi0, hiz⟩ := run_zero hz w c
          have hzs : zv.cells.size = k := by have := hz2.length; simp only [Array.length_toList] at this; omega
          have hz2' : RVL w (still w c) z zv.cells.toList := hz2.rvl (tyz_free hz)
          have hsz : i0.size = k := by simpa [tySz, hi0] using hk
          have hbb : i0.bytes = by_ := by simpa [tyBy, hi0] using hby
          have hr := run_make (P := P) w t e i0 zv (und_of_tyEl he) hi0 hiz k1 k2 n cp hn0 hnc (by rw [hbb]; exact hb) hcp
          have hm := made_cells zv.cells cp.toNat (by omega)
          rw [hzs] at hm
          rw [hsz] at hr
          have hsplit : (List.replicate cp.toNat zv.cells.toList).flatten = (List.replicate n.toNat zv.cells.toList).flatten ++ (List.replicate (cp.toNat - n.toNat) zv.cells.toList).flatten := by
            rw [← List.flatten_append, List.replicate_append_replicate]
            congr 2
            omega
          have harr : madeCells zv.cells (cp.toNat * k) = ((List.replicate n.toNat zv.cells.toList).flatten ++ (List.replicate (cp.toNat - n.toNat) zv.cells.toList).flatten).toArray := by
            rw [← hsplit, ← hm]
          obtain ⟨x1, x2⟩ := row_new hi s e k (List.replicate n.toNat z) cp.toNat (List.replicate n.toNat zv.cells.toList).flatten (List.replicate (cp.toNat - n.toNat) zv.cells.toList).flatten h0
            (fun r hr => by rw [List.eq_of_mem_replicate hr]; exact hzk) (by simp only [maxLen]; omega) (by
              rw [← hsplit]
              simp [hzs]) (by
              intro u hu
              rcases List.mem_append.1 hu with hu | hu <;>
              · obtain ⟨l, hl, hu⟩ := List.mem_flatten.1 hu
                rw [List.eq_of_mem_replicate hl] at hu
                exact hz3 u hu) (rvl_replicate hz2' _)
          refine ⟨_, _, _, _, _, hr, by rw [harr]; exact x1, by rw [harr]; exact x2, rel_own_new hi s _ k n.toNat cp.toNat (by omega), h⟩
        · exact h.elim
      · exact h.elim
    · exact h.elim
  · exact h.elim
end Go.Proofs.YtanbgeelphfggaaDoor.E
