/- The abstract machine of this claim, part I: append; lengths; what is told of a slice. No conditions. -/
import Derived.Test.YtanbgeelphfggaaDoorEngH
import Derived.Maps.AppendAt
import Derived.Deep.AppendSrc
namespace Go.Proofs.YtanbgeelphfggaaDoor.E
open Go
set_option linter.unusedSimpArgs false
set_option linter.unusedVariables false
set_option linter.unusedSectionVars false
set_option maxRecDepth 20000

/-- What a slice holds. -/
def AV.rowsOf (hp : Hp) (k : Nat) : AV → Option (List (List AV))
  | .list k' rows => if k' = k then some rows else none
  | .val (.slice none 0 0) => some []
  | .own s ver k' off len => match hp.get s with
    | (n, .row _ k2 _ rows) => if n = ver ∧ k' = k ∧ k2 = k ∧ off + len ≤ rows.length then some ((rows.drop off).take len) else none
    | (n, .ice k2 rows) => if n = ver ∧ k' = k ∧ k2 = k ∧ off + len ≤ rows.length then some ((rows.drop off).take len) else none
    | _ => none
  | _ => none

theorem flatten_drop {rows : List (List AV)} {k : Nat} (hk : ∀ r ∈ rows, r.length = k) (n : Nat) : (rows.drop n).flatten = rows.flatten.drop (n * k) := by
  induction rows generalizing n with
  | nil => simp
  | cons x rows ih =>
    cases n with
    | zero => simp
    | succ n =>
      have hx := hk x (by simp)
      simp only [List.drop_succ_cons, List.flatten_cons]
      rw [ih (fun y hy => hk y (by simp [hy])) n, show (n + 1) * k = x.length + n * k by rw [Nat.add_mul, hx]; omega, List.drop_length_add_append]
theorem flatten_take {rows : List (List AV)} {k : Nat} (hk : ∀ r ∈ rows, r.length = k) (n : Nat) : (rows.take n).flatten = rows.flatten.take (n * k) := by
  induction rows generalizing n with
  | nil => simp
  | cons x rows ih =>
    cases n with
    | zero => simp
    | succ n =>
      have hx := hk x (by simp)
      simp only [List.take_succ_cons, List.flatten_cons]
      rw [ih (fun y hy => hk y (by simp [hy])) n, show (n + 1) * k = x.length + n * k by rw [Nat.add_mul, hx]; omega, List.take_length_add_append]
theorem flatten_length {rows : List (List AV)} {k : Nat} (hk : ∀ r ∈ rows, r.length = k) : rows.flatten.length = rows.length * k := by
  induction rows with
  | nil => simp
  | cons x rows ih =>
    simp only [List.flatten_cons, List.length_append, List.length_cons, hk x (by simp), ih (fun r hr => hk r (by simp [hr])), Nat.add_mul]
    omega
theorem RVRows.lens {w : World} {S : Nat → Prop} {k : Nat} {xs : List (List AV)} {b off : Nat} (h : RVRows w S k xs b off) : ∀ r ∈ xs, r.length = k := by
  induction xs generalizing off with
  | nil => intro r hr; simp at hr
  | cons x xs ih =>
    simp only [RVRows] at h
    intro r hr
    rcases List.mem_cons.1 hr with rfl | hr
    · exact h.1
    · exact ih h.2.2 r hr

/-- A slice, read: its cells. -/
theorem RelV.rows {w : World} {c : Cx} {hp : Hp} (hi : Inv w c hp) {x : AV} {v : Value} {k : Nat} {xs : List (List AV)} (h : RelV w c x v) (hx : x.rowsOf hp k = some xs) :
    (v = .slice none 0 0 ∧ xs = []) ∨ ∃ a cp, v = .slice (some a) xs.length cp ∧ xs.length ≤ cp ∧ (∀ r ∈ xs, r.length = k) ∧ ∃ vs, RVL w (still w c) xs.flatten vs ∧ (∀ u ∈ vs, u.oneCell' = true) ∧ ∀ j u, vs[j]? = some u → w.cell? (a.add j) = some u := by
  unfold AV.rowsOf at hx
  split at hx
  · rename_i k' rows
    split at hx
    · rename_i hk
      subst hk
      cases hx
      simp only [RelV, RV] at h
      obtain ⟨a, cap, rfl, hc, hn, hr⟩ := h
      rcases hr with rfl | ⟨b, off, rfl, hs, hr⟩
      · cases a with
        | none =>
          have h0 := hn rfl
          subst h0
          exact .inl ⟨rfl, rfl⟩
        | some a => exact .inr ⟨a, cap, rfl, hc, fun r hr => by simp at hr, [], by simp [RVL], fun u hu => by simp at hu, fun j u hu => by simp at hu⟩
      · obtain ⟨vs, h1, h2, h3⟩ := hr.flat.vals
        exact .inr ⟨_, cap, rfl, hc, hr.lens, vs, h1, h2, fun j u hu => by rw [Addr.add_lit]; exact h3 j u hu⟩
    · cases hx
  · cases hx
    simp only [RelV] at h
    exact .inl ⟨h.1, rfl⟩
  · rename_i s ver k' off len
    simp only [RelV] at h
    split at hx
    · rename_i n t k2 q rows e
      split at hx
      · rename_i hc
        obtain ⟨rfl, rfl, rfl, hlen⟩ := hc
        cases hx
        obtain ⟨h1, hlv, h0, hk, h2⟩ := hi.row e
        have h3 := h.2 h1.symm
        rcases h2 with ⟨h4, rfl, _⟩ | ⟨b, cp, vs, rest, h4, _, hcp, h5, h6, ho, h7⟩
        · rw [h4] at h3
          obtain ⟨rfl, rfl, rfl⟩ := h3
          exact .inl ⟨rfl, rfl⟩
        · rw [h4] at h3
          obtain ⟨h8, a, rfl, h9⟩ := h3
          have hl : ((rows.drop off).take len).length = len := by simp; omega
          refine .inr ⟨a, cp - off, by rw [hl], by omega, fun r hr => hk r (List.mem_of_mem_drop (List.mem_of_mem_take hr)), ?_⟩
          by_cases hz : len = 0
          · subst hz
            exact ⟨[], by simp [RVL], fun u hu => by simp at hu, fun j u hu => by simp at hu⟩
          · have h10 := h9 (.inl (by omega))
            subst h10
            refine ⟨(vs.drop (off * k2)).take (len * k2), ?_, fun u hu => ho u (List.mem_append_left _ (List.mem_of_mem_drop (List.mem_of_mem_take hu))), fun j u hu => ?_⟩
            · rw [flatten_take (fun r hr => hk r (List.mem_of_mem_drop hr)), flatten_drop hk]
              exact (h7.drop _).take _
            · rw [Addr.add_lit, cell_block h5]
              rw [List.getElem?_take] at hu
              split at hu
              · rw [List.getElem?_drop] at hu
                rw [List.getElem?_append_left (by
                  rcases Nat.lt_or_ge (off * k2 + j) vs.length with h' | h'
                  · exact h'
                  · rw [List.getElem?_eq_none h'] at hu; cases hu)]
                exact hu
              · cases hu
      · cases hx
    · rename_i n k2 rows e
      split at hx
      · rename_i hc
        obtain ⟨rfl, rfl, rfl, hlen⟩ := hc
        cases hx
        obtain ⟨h1, _, h2⟩ := hi.ice e
        have h3 := h.2 h1.symm
        rcases h2 with ⟨h4, rfl⟩ | ⟨b, cp, h4, h5, h6⟩
        · rw [h4] at h3
          obtain ⟨rfl, rfl, rfl⟩ := h3
          exact .inl ⟨rfl, rfl⟩
        · rw [h4] at h3
          obtain ⟨h8, a, rfl, h9⟩ := h3
          have hl : ((rows.drop off).take len).length = len := by simp; omega
          refine .inr ⟨a, cp - off, by rw [hl], by omega, ?_⟩
          rcases h6 with rfl | ⟨h6, h7⟩
          · simp only [List.drop_nil, List.take_nil]
            exact ⟨fun r hr => by simp at hr, [], by simp [RVL], fun u hu => by simp at hu, fun j u hu => by simp at hu⟩
          · have h11 := (h7.drop off).take len
            refine ⟨h11.lens, ?_⟩
            by_cases hz : len = 0
            · subst hz
              exact ⟨[], by simp [RVL], fun u hu => by simp at hu, fun j u hu => by simp at hu⟩
            · have h10 := h9 (.inl (by omega))
              subst h10
              obtain ⟨vs, g1, g2, g3⟩ := h11.flat.vals
              rw [Nat.zero_add] at g3
              exact ⟨vs, g1, g2, fun j u hu => by rw [Addr.add_lit]; exact g3 j u hu⟩
      · cases hx
    · cases hx
  · cases hx

/-! ### append -/
/-- A source, and what it is told as. -/
theorem src_of_rows {P : Program} {t e : TypeId} {k : Nat} (he : tyEl P t = some e) {w : World} {c : Cx} {y : Value} {ys : List (List AV)}
    (hy : (y = .slice none 0 0 ∧ ys = []) ∨ ∃ a cp, y = .slice (some a) ys.length cp ∧ ys.length ≤ cp ∧ (∀ r ∈ ys, r.length = k) ∧ ∃ vs, RVL w (still w c) ys.flatten vs ∧ (∀ u ∈ vs, u.oneCell' = true) ∧ ∀ j u, vs[j]? = some u → w.cell? (a.add j) = some u) :
    (∀ r ∈ ys, r.length = k) ∧ ∃ news, Src P k t y ys.length news w ∧ RVL w (still w c) ys.flatten news := by
  rcases hy with ⟨rfl, rfl⟩ | ⟨a, cp, rfl, hc, hl, vs, h1, h2, h3⟩
  · exact ⟨fun r hr => by simp at hr, [], Src.ofNil w (und_of_tyEl he) 0, by simp [RVL]⟩
  · have hlen := h1.length
    rw [flatten_length hl] at hlen
    exact ⟨hl, vs, Src.ofSlice w (und_of_tyEl he) a _ cp vs hlen h3 h2, h1⟩
/-- A source of append, and how append runs over it. -/
structure ASrc (P : Program) (t tx e k by_ : Nat) (y : Value) (m : Nat) (news : List Value) (w : World) : Prop where
  newsLen : news.length = m * k
  one : ∀ u ∈ news, u.oneCell' = true
  empty : m = 0 → ∀ ty, (Builtin.append_ #[t, tx] ty #[.slice none 0 0, y]).run P w = .ok (.slice none 0 0) w
  inn : ∀ (ty b n cp : Nat) (w' : World), n + m ≤ cp → (storeCells ⟨b, n * k, none⟩ news).run P w = .ok () w' → (Builtin.append_ #[t, tx] ty #[.slice (some ⟨b, 0, none⟩) n cp, y]).run P w = .ok (.slice (some ⟨b, 0, none⟩) (n + m) cp) w'
  grow : ∀ (ty : Nat) (base : Option Addr) (n cp : Nat) (olds : List Value) (z : Value) (i : TypeInfo), P.info? e = some i → i.zero = some z → n ≤ cp → (Builtin.firstCells k n (.slice base n cp)).run P w.drew = .ok olds.toArray w.drew → cp < n + m → ((n + m : Nat) : Int) ≤ 9223372036854775807 → Builtin.nextslicecap (n + m) cp * by_ ≤ 281474976710656 →
    (Builtin.append_ #[t, tx] ty #[.slice base n cp, y]).run P w = .ok (.slice (some ⟨w.heap.size, 0, none⟩) (n + m) (grownCap w (n + m) cp e)) (w.drew.alloc (.cells ((olds ++ news).toArray ++ Builtin.zeroCells z.cells (grownCap w (n + m) cp e - (n + m))) e))
theorem asrc_of {P : Program} {t tx e k by_ : Nat} (he : tyEl P t = some e) (hk : tySz P e = some k) (hby : tyBy P e = some by_) {w : World} {y : Value} {m : Nat} {news : List Value} (hs : Src P k tx y m news w) : ASrc P t tx e k by_ y m news w := by
  obtain ⟨i, hi, rfl⟩ : ∃ i, P.info? e = some i ∧ i.size = k := by
    unfold tySz at hk
    obtain ⟨i, hi, h⟩ := Option.map_eq_some_iff.1 hk
    exact ⟨i, hi, h⟩
  have hbb : i.bytes = by_ := by simpa [tyBy, hi] using hby
  subst hbb
  refine ⟨hs.newsLen, hs.one, fun hm ty => ?_, fun ty b n cp w' hroom hst => ?_, fun ty base n cp olds z i' hi' hiz _ hold hg h63 hfit => ?_⟩
  · subst hm
    have hl0 := hs.len
    have hcell := hs.cells
    have hn : news = [] := List.eq_nil_of_length_eq_zero (by simpa using hs.newsLen)
    subst hn
    rcases hs.kind with ⟨e', hq⟩ | hq <;> simp [Builtin.append_, run_underlying (und_of_tyEl he), run_underlying hq, sizeOf, typeInfo, hi, hl0, hcell]
  · rcases hs.kind with ⟨e', hq⟩ | hq <;> simp [Builtin.append_, run_underlying (und_of_tyEl he), run_underlying hq, sizeOf, typeInfo, hi, hs.len, hroom, hs.cells, Addr.add_lit, hst]
  · rw [hi] at hi'
    cases hi'
    exact run_append_grow_src (P := P) w t tx ty e i z (und_of_tyEl he) hi hiz base n cp olds hold y m news hs hg h63 hfit
/-- So many zeros: 'append(x, make([]T, m)...)'. -/
theorem zero_asrc {P : Program} {t tx e k by_ : Nat} {ki ki' : IntKind} {z : List AV} (he : tyEl P t = some e) (hk : tySz P e = some k) (hby : tyBy P e = some by_) (hz : tyZ P e = some z) (hzk : z.length = k) (h0 : 0 < k) (hx : P.underlying tx = some (.int ki')) (w : World) (c : Cx) (m : Int) (hm : 0 ≤ m) (hm2 : m ≤ 9223372036854775807) (hb : m * by_ ≤ 281474976710656) :
    ∃ news, ASrc P t tx e k by_ (.int ki m) m.toNat news w ∧ RVL w (still w c) (List.replicate m.toNat z).flatten news := by
  obtain ⟨zv, hz1, hz2, hz3, i, hi, hiz⟩ := run_zero hz w c
  have hzs : zv.cells.size = k := by have := hz2.length; simp only [Array.length_toList] at this; omega
  have hsz0 : i.size = k := by simpa [tySz, hi] using hk
  have hbb : i.bytes = by_ := by simpa [tyBy, hi] using hby
  have hz2' : RVL w (still w c) z zv.cells.toList := hz2.rvl (tyz_free hz)
  subst hbb
  have hzc : ∀ n : Nat, (Builtin.zeroCells zv.cells n).toList = (List.replicate n zv.cells.toList).flatten := fun n => made_cells zv.cells n (by omega)
  have hwr : IntKind.i64.wrap m = m := by
    unfold IntKind.wrap
    simp only [IntKind.bits, IntKind.signed]
    simp
    omega
  have hz1' : ∀ w' : World, (zeroValue e).run P w' = .ok zv w' := fun w' => by simp [zeroValue, typeInfo, hi, hiz]
  have hn0 : ¬ m < 0 := by omega
  have hnb : ¬ (281474976710656 < m * i.bytes) := by omega
  have hmn : (m.toNat : Int) = m := by omega
  refine ⟨(List.replicate m.toNat zv.cells.toList).flatten, ⟨by simp [hzs], ?_, fun hm0 ty => ?_, fun ty b n cp w' hroom hst => ?_, fun ty base n cp olds z2 i' hi' hiz' hnc hold hg h63 hfit => ?_⟩, rvl_replicate hz2' _⟩
  · intro u hu
    obtain ⟨l, hl, hu⟩ := List.mem_flatten.1 hu
    rw [List.eq_of_mem_replicate hl] at hu
    exact hz3 u hu
  · have : m = 0 := by omega
    subst this
    simp [Builtin.append_, run_underlying (und_of_tyEl he), run_underlying hx, sizeOf, typeInfo, hi, hsz0, asInt, asIntOf, hwr]
  · by_cases hm0 : m.toNat = 0
    · rw [hm0] at hst hroom ⊢
      simp only [List.replicate_zero, List.flatten_nil, storeCells] at hst
      simp only [Sem.run_pure, Result.ok.injEq, true_and] at hst
      subst hst
      have : m = 0 := by omega
      subst this
      simp [Builtin.append_, run_underlying (und_of_tyEl he), run_underlying hx, sizeOf, typeInfo, hi, hsz0, asInt, asIntOf, hwr, show n ≤ cp by omega, storeCells]
    · have hnz : ¬ (m.toNat = 0 ∨ k = 0) := by omega
      rw [← hzc] at hst
      simp [Builtin.append_, run_underlying (und_of_tyEl he), run_underlying hx, sizeOf, typeInfo, hi, hsz0, asInt, asIntOf, hwr, hn0, hnb, hroom, hnz, hz1', Addr.add_lit, hst]
      exact fun h => absurd (Nat.mul_eq_zero.1 h) hnz
  · rw [hi] at hi'
    cases hi'
    rw [hiz] at hiz'
    cases hiz'
    by_cases hm0 : m.toNat = 0
    · omega
    · have hnz : ¬ (m.toNat = 0 ∨ k = 0) := by omega
      have hn : ¬ (n + m.toNat ≤ cp) := by omega
      have h63' : ¬ (9223372036854775807 < ((n : Int) + (m.toNat : Int))) := by omega
      have h48' : ¬ (281474976710656 < Builtin.nextslicecap (n + m.toNat) cp * i.bytes) := by omega
      have h63'' : ¬ (9223372036854775807 < ((n : Int) + max m 0)) := by omega
      have hnz2 : ¬ (m.toNat * k = 0) := fun h => hnz (Nat.mul_eq_zero.1 h)
      have hzz := hzc m.toNat
      simp [Builtin.append_, run_underlying (und_of_tyEl he), run_underlying hx, sizeOf, typeInfo, hi, hsz0, asInt, asIntOf, hwr, hn0, hnb, hn, hnz, hnz2, h63', h63'', h48', hz1', zeroValue, hiz, Question.forced, hold, newRow, grownCap]
      congr 2
      apply Array.ext'
      simp [hzz, List.append_assoc]
/-- There is room. -/
theorem append_in {P : Program} {t tx e : TypeId} {k by_ : Nat} (hk : tySz P e = some k) {w : World} (ty : TypeId) {b n cp : Nat} {arr : List Value} (hb : w.heap[b]? = some (.cells arr.toArray e (0, 0))) (hl : arr.length = cp * k)
    {y : Value} {m : Nat} {news : List Value} (hs : ASrc P t tx e k by_ y m news w) (hroom : n + m ≤ cp) :
    ∃ w', (Builtin.append_ #[t, tx] ty #[.slice (some ⟨b, 0, none⟩) n cp, y]).run P w = .ok (.slice (some ⟨b, 0, none⟩) (n + m) cp) w' ∧ Upd w b (.cells (arr.take (n * k) ++ news ++ arr.drop (n * k + news.length)).toArray e (0, 0)) w' := by
  obtain ⟨i, hi, rfl⟩ : ∃ i, P.info? e = some i ∧ i.size = k := by
    unfold tySz at hk
    obtain ⟨i, hi, h⟩ := Option.map_eq_some_iff.1 hk
    exact ⟨i, hi, h⟩
  have hle : n * i.size + news.length ≤ arr.length := by
    rw [hs.newsLen, hl, ← Nat.add_mul]
    exact Nat.mul_le_mul_right _ hroom
  obtain ⟨w', hr, hu⟩ := run_storeCells_upd (P := P) (b := b) (off := n * i.size) (t := e) news 0 w arr hb (by omega) hs.one
  exact ⟨w', hs.inn ty b n cp w' hroom hr, by simpa using hu⟩
/-- There is none: a new row. -/
theorem append_new {P : Program} {t tx e : TypeId} {k by_ : Nat} {z : List AV} (hk : tySz P e = some k) (hby : tyBy P e = some by_) (hz : tyZ P e = some z) (hzk : z.length = k) (h0 : 0 < k) (hb0 : 0 < by_) {w : World} (c : Cx) (ty : TypeId) {base : Option Addr} {n cp : Nat} {olds : List Value}
    (hold : (Builtin.firstCells k n (.slice base n cp)).run P w.drew = .ok olds.toArray w.drew) (hlo : olds.length = n * k) {y : Value} {m : Nat} {news : List Value} (hs : ASrc P t tx e k by_ y m news w) (hnc : n ≤ cp) (hg : cp < n + m) (hsz : (n + m) * by_ ≤ 140737488355328) :
    ∃ gc rest, (Builtin.append_ #[t, tx] ty #[.slice base n cp, y]).run P w = .ok (.slice (some ⟨w.heap.size, 0, none⟩) (n + m) gc) (w.drew.alloc (.cells (olds ++ news ++ rest).toArray e)) ∧ n + m ≤ gc ∧ gc ≤ maxLen ∧ (olds ++ news ++ rest).length = gc * k ∧ ∀ u ∈ rest, u.oneCell' = true := by
  obtain ⟨zv, hz1, hz2, hz3, i, hi, hiz⟩ := run_zero hz w c
  have hzs : zv.cells.size = k := by have := hz2.length; simp only [Array.length_toList] at this; omega
  have hsz0 : i.size = k := by simpa [tySz, hi] using hk
  have hbb : i.bytes = by_ := by simpa [tyBy, hi] using hby
  subst hsz0
  subst hbb
  have hm : n + m ≤ maxLen := by
    have : n + m ≤ (n + m) * i.bytes := Nat.le_mul_of_pos_right _ hb0
    simp only [maxLen]; omega
  have hge := grownCap_ge w (n + m) cp e
  have hr := hs.grow ty base n cp olds zv i hi hiz hnc hold hg (by simp only [maxLen] at hm; omega) (growslice_fits hg hsz)
  refine ⟨grownCap w (n + m) cp e, (Builtin.zeroCells zv.cells (grownCap w (n + m) cp e - (n + m))).toList, ?_, hge, grownCap_le_maxLen w (n + m) cp e hm, ?_, ?_⟩
  · rw [hr]
    congr 3
    apply Array.ext'
    simp
  · simp only [List.length_append, hlo, hs.newsLen, Array.length_toList, size_zeroCells, hzs, ← Nat.add_mul]
    congr 1
    omega
  · intro u hu
    unfold Builtin.zeroCells at hu
    simp only [Array.toList_map, Array.toList_range, List.mem_map, List.mem_range] at hu
    obtain ⟨j, hj, rfl⟩ := hu
    have hjl : j % zv.cells.size < zv.cells.size := Nat.mod_lt _ (by omega)
    rw [getElem!_pos zv.cells _ hjl]
    exact hz3 _ (by simp)

theorem Ext.drew_alloc {w : World} {c : Cx} (o : Obj) {hp : Hp} (h : Inv w c hp) : Ext w c (w.drew.alloc o) c :=
  (Ext.refl w c).drew.trans (Ext.alloc_still o h.drew).1
/-- A new row, behind a draw. -/
theorem row_new' {w : World} {c : Cx} {hp : Hp} (hi : Inv w c hp) (s : Site) (e : TypeId) (k : Nat) (rows : List (List AV)) (cp : Nat) (vs rest : List Value) (h0 : 0 < k) (hk : ∀ r ∈ rows, r.length = k) (hcp : cp ≤ maxLen) (hlen : (vs ++ rest).length = cp * k)
    (ho : ∀ u ∈ vs ++ rest, u.oneCell' = true) (hr : RVL w (still w c) rows.flatten vs) :
    Ext w c (w.drew.alloc (.cells (vs ++ rest).toArray e)) (c.lay s (some (w.heap.size, cp))) ∧ Inv (w.drew.alloc (.cells (vs ++ rest).toArray e)) (c.lay s (some (w.heap.size, cp))) (hp.set s ((hp.get s).1 + 1) (.row e k none rows)) := by
  obtain ⟨h1, h2⟩ := row_new hi.drew s e k rows cp vs rest h0 hk hcp hlen ho (RVL.mono (w := w) (w' := w.drew) (S := still w c) (S' := still w.drew c) (fun b hb => ⟨hb, rfl⟩) _ _ hr)
  exact ⟨(Ext.refl w c).drew.trans h1, h2⟩
theorem rel_own_new' {w' w : World} {c : Cx} {hp : Hp} (hi : Inv w c hp) (s : Site) (b k len cp : Nat) (h : len ≤ cp) : RelV w' (c.lay s (some (b, cp))) (.own s ((hp.get s).1 + 1) k 0 len) (.slice (some ⟨b, 0, none⟩) len cp) :=
  rel_own_new hi s b k len cp h

/-- append, its second argument told. -/
def AApC (e k by_ : Nat) (x : AV) (s : Site) (hp : Hp) (K : AV → Hp → Prop) (ys : List (List AV)) : Prop :=
  match x with
  | .val (.slice none 0 0) => ys.length * by_ ≤ 140737488355328 ∧ (∀ r ∈ ys, r.length = k) ∧ K (.own s ((hp.get s).1 + 1) k 0 ys.length) (hp.set s ((hp.get s).1 + 1) (.row e k none ys))
  | .own s1 ver k1 off len => match hp.get s1 with
    | (n, .row e' k2 q rows) => n = ver ∧ k1 = k ∧ k2 = k ∧ e' = e ∧ off = 0 ∧ len ≤ rows.length ∧ (len + ys.length) * by_ ≤ 140737488355328 ∧ match q with
      | none => K (.own s1 (n + 1) k 0 (len + ys.length)) (hp.set s1 (n + 1) (.row e k none (rows.take len ++ ys)))
      | some cp => (len + ys.length ≤ cp → K (.own s1 n k 0 (len + ys.length)) (hp.set s1 n (.row e k (some cp) (rows.take len ++ ys ++ rows.drop (len + ys.length))))) ∧
          (cp < len + ys.length → K (.own s ((hp.get s).1 + 1) k 0 (len + ys.length)) (hp.set s ((hp.get s).1 + 1) (.row e k none (rows.take len ++ ys))))
    | _ => False
  | _ => False
/-- What is appended: a slice's rows; so many zeros; a string's bytes. -/
def AYs (P : Program) (t t' : TypeId) (z : List AV) (k by_ : Nat) (hp : Hp) (y : AV) (C : List (List AV) → Prop) : Prop :=
  if t = t' then match y.rowsOf hp k with
    | some ys => C ys
    | none => False
  else match y with
    | .val (.int _ m) => (tyInt P t').isSome = true ∧ 0 ≤ m ∧ m ≤ 9223372036854775807 ∧ m * by_ ≤ 140737488355328 ∧ C (List.replicate m.toNat z)
    | .val (.string s) => tyStr P t' = true ∧ k = 1 ∧ C (s.data.toList.map fun b => [.val (.int .u8 b.toNat)])
    | _ => False
def AAppend (P : Program) (ts : Array TypeId) (x y : AV) (s : Site) (hp : Hp) (K : AV → Hp → Prop) : Prop :=
  match ts.toList with
  | [t, t'] => match tyEl P t with
    | some e => match tySz P e, tyBy P e, tyZ P e with
      | some k, some by_, some z => 0 < k ∧ z.length = k ∧ 0 < by_ ∧ AYs P t t' z k by_ hp y fun ys => AApC e k by_ x s hp K ys
      | _, _, _ => False
    | none => False
  | _ => False

theorem flatten_splice {rows ys : List (List AV)} {k : Nat} (hk : ∀ r ∈ rows, r.length = k) (hy : ∀ r ∈ ys, r.length = k) (n : Nat) :
    (rows.take n ++ ys ++ rows.drop (n + ys.length)).flatten = rows.flatten.take (n * k) ++ ys.flatten ++ rows.flatten.drop (n * k + ys.flatten.length) := by
  simp only [List.flatten_append, flatten_take hk, flatten_drop hk, flatten_length hy, Nat.add_mul]

/-- A row of the call's own, read: its block. -/
theorem row_block {w : World} {c : Cx} {hp : Hp} (hi : Inv w c hp) {s : Site} {n k len : Nat} {t : TypeId} {q : Option Nat} {rows : List (List AV)} (e : hp.get s = (n, .row t k q rows)) {u : Value} (hu : RelV w c (.own s n k 0 len) u) (hlen : len ≤ rows.length) :
    (c.loc s = none ∧ u = .slice none 0 0 ∧ len = 0 ∧ rows = []) ∨ ∃ b cp, ∃ vs rest : List Value, c.loc s = some (b, cp) ∧ u = .slice (some ⟨b, 0, none⟩) len cp ∧ len ≤ cp ∧ (q = none ∨ q = some cp) ∧ cp ≤ maxLen ∧ w.heap[b]? = some (.cells (vs ++ rest).toArray t (0, 0)) ∧ (vs ++ rest).length = cp * k ∧
      (∀ x ∈ vs ++ rest, x.oneCell' = true) ∧ RVL w (still w c) rows.flatten vs ∧ vs.length = rows.length * k ∧ rows.length ≤ cp := by
  obtain ⟨g1, hlv, h0, hkr, g2⟩ := hi.row e
  simp only [RelV] at hu
  have hu2 := hu.2 g1.symm
  rcases g2 with ⟨g3, rfl, _⟩ | ⟨b, cp, vs, rest, g3, hq, hcp, g4, g5, hov, g6⟩
  · rw [g3] at hu2
    obtain ⟨_, rfl, rfl⟩ := hu2
    exact .inl ⟨g3, rfl, rfl, rfl⟩
  · rw [g3] at hu2
    obtain ⟨hcap, a, rfl, ha⟩ := hu2
    have ha := ha (.inr trivial)
    subst ha
    have hl := g6.length
    rw [flatten_length hkr] at hl
    have hle := (hi.rowLen s).2 b cp g3
    rw [e] at hle
    exact .inr ⟨b, cp, vs, rest, g3, by simp, by omega, hq, hcp, g4, g5, hov, g6, hl, hle⟩
/-- A row that is written behind its length. -/
theorem row_upd {w w' : World} {c : Cx} {hp : Hp} (hi : Inv w c hp) {s : Site} {k b cp : Nat} {t : TypeId} {q : Option Nat} {arr : List Value} {rows : List (List AV)} {vs rest : List Value} (hlv : c.lv s = true) (hloc : c.loc s = some (b, cp)) (hu : Upd w b (.cells arr.toArray t (0, 0)) w') (ha : arr = vs ++ rest)
    (hq : q = none ∨ q = some cp) (hcp : cp ≤ maxLen) (h0 : 0 < k) (hk : ∀ r ∈ rows, r.length = k) (hlen : arr.length = cp * k) (ho : ∀ u ∈ arr, u.oneCell' = true) (hr : RVL w (still w c) rows.flatten vs) : Ext w c w' c ∧ Inv w' c (hp.set s (hp.get s).1 (.row t k q rows)) := by
  subst ha
  have he := hu.ext ⟨s, cp, hlv, hloc⟩
  refine ⟨he, hi.put hlv hloc hu ?_⟩
  simp only [BlkOk, hloc]
  exact ⟨hlv, h0, hk, hq, hcp, vs, rest, hu.here, hlen, ho, RVL.mono he.still _ _ hr⟩
/-- The same place, under a new number. -/
def Cx.bump (c : Cx) (s : Site) : Cx := { c with cur := fun s' => if s' = s then c.cur s + 1 else c.cur s' }
theorem bump_sound {w : World} {c : Cx} {hp : Hp} (hi : Inv w c hp) (s : Site) : Ext w c w (c.bump s) ∧ Inv w (c.bump s) (hp.set s ((hp.get s).1 + 1) (hp.get s).2) := by
  have he : Ext w c w (c.bump s) := ⟨rfl, rfl, rfl, Nat.le_refl _, fun _ _ hn => ⟨rfl, hn⟩, rfl, fun s' => by
    by_cases h : s' = s
    · subst h; simp [Cx.bump]
    · simp [Cx.bump, h]⟩
  refine ⟨he, hi.upd he s _ _ (fun s' hs => by simp [Cx.bump, hs]) (fun _ _ _ _ _ _ => rfl) (by simp [Cx.bump, hi.cur s]) ((hi.ok s).move he rfl rfl fun _ _ _ _ => rfl) fun b cp l e => ?_⟩
  exact ⟨hi.lt b ⟨s, cp, l, e⟩, hi.far b ⟨s, cp, l, e⟩, fun s' cp' hs l' e' => hs (hi.inj s' s b cp' cp l' l e' e)⟩
theorem Hp.set_set (h : Hp) (s : Site) (n m : Nat) (a b : Blk) : (h.set s n a).set s m b = h.set s m b := by
  induction h with
  | nil => simp [Hp.set]
  | cons x r ih =>
    obtain ⟨t, n', c⟩ := x
    simp only [Hp.set]
    by_cases e : t = s
    · simp [e, Hp.set]
    · simp [e, Hp.set, ih]

theorem append_core {P : Program} {t tx e k by_ : Nat} {z : List AV} (he : tyEl P t = some e) (hk : tySz P e = some k) (hby : tyBy P e = some by_) (hz : tyZ P e = some z) (h0 : 0 < k) (hzk : z.length = k) (hb0 : 0 < by_) {x : AV} {s : Site} {hp : Hp} {K : AV → Hp → Prop} {ys : List (List AV)} (h : AApC e k by_ x s hp K ys)
    {w : World} {c : Cx} (hi : Inv w c hp) (ty : TypeId) {u v : Value} (hu : RelV w c x u) (hyk : ∀ r ∈ ys, r.length = k) {news : List Value} (hsrc : ASrc P t tx e k by_ v ys.length news w) (hnews : RVL w (still w c) ys.flatten news) :
    Gives P (Builtin.append_ #[t, tx] ty #[u, v]) w c K := by
  unfold AApC at h
  have hnone : ∀ (s2 : Site), ys.length * by_ ≤ 140737488355328 → ys ≠ [] → K (.own s2 ((hp.get s2).1 + 1) k 0 ys.length) (hp.set s2 ((hp.get s2).1 + 1) (.row e k none ys)) → Gives P (Builtin.append_ #[t, tx] ty #[.slice none 0 0, v]) w c K := by
    intro s2 hsz hne h
    obtain ⟨gc, rest, hr, h1, h2, h3, h4⟩ := append_new (P := P) hk hby hz hzk h0 hb0 c ty (base := none) (n := 0) (cp := 0) (olds := []) (run_firstCells_none w.drew k 0 0 0) (by simp) hsrc (Nat.le_refl 0) (by
      have := List.length_pos_iff.2 hne; omega) (by simpa using hsz)
    rw [Nat.zero_add] at hr h1
    rw [List.nil_append] at hr h3
    obtain ⟨x1, x2⟩ := row_new' hi s2 e k ys gc news rest h0 hyk h2 h3 (fun u hu => by
      rcases List.mem_append.1 hu with hu | hu
      · exact hsrc.one u hu
      · exact h4 u hu) hnews
    exact ⟨_, _, _, _, _, hr, x1, x2, rel_own_new' hi s2 _ k _ gc h1, h⟩
  have hzero : ∀ (s2 : Site), ys = [] → K (.own s2 ((hp.get s2).1 + 1) k 0 0) (hp.set s2 ((hp.get s2).1 + 1) (.row e k none [])) → Gives P (Builtin.append_ #[t, tx] ty #[.slice none 0 0, v]) w c K := by
    intro s2 hne hK0
    subst hne
    obtain ⟨x1, x2⟩ := hi.lay (w' := w) s2 none (.row e k none []) (Ext.refl w c) (fun _ _ => rfl) (fun b cp e => by cases e) (by
      simp only [BlkOk]
      refine ⟨cx_lay_lv _ _ _, h0, fun r hr => by simp at hr, ?_⟩
      rw [cx_lay_loc]
      exact ⟨trivial, .inl trivial⟩)
    refine ⟨.slice none 0 0, _, w, _, _, ?_, x1, x2, ?_, hK0⟩
    · exact hsrc.empty rfl ty
    · simp only [RelV, cx_lay_cur, hi.cur s2, Nat.le_refl, true_and]
      intro _
      simp only [cx_lay_loc]
  split at h
  · obtain ⟨hsz, _, h⟩ := h
    simp only [RelV] at hu
    obtain ⟨rfl, -⟩ := hu
    by_cases hne : ys = []
    · exact hzero s hne (by subst hne; exact h)
    · exact hnone s hsz hne h
  · rename_i s1 ver k1 off len
    split at h
    · rename_i n e' k2 q rows hrow
      obtain ⟨rfl, rfl, rfl, rfl, rfl, hlen, hsz, h⟩ := h
      obtain ⟨g1, hlv, _, hkr, g2⟩ := hi.row hrow
      have hn : (hp.get s1).1 = n := by rw [hrow]
      have hkk : ∀ r ∈ rows.take len ++ ys, r.length = k2 := fun r hr => by
        rcases List.mem_append.1 hr with hr | hr
        · exact hkr r (List.mem_of_mem_take hr)
        · exact hyk r hr
      rcases row_block hi hrow hu hlen with ⟨g3, rfl, rfl, rfl⟩ | ⟨b, cp, vs, rest, g3, rfl, hcap, hq, hcp, g4, g5, hov, g6, g7, g8⟩
      · have hq : q = none ∨ q = some 0 := by
          rcases g2 with ⟨_, _, hq⟩ | ⟨b, cp, _, _, g4, _⟩
          · exact hq
          · rw [g3] at g4; cases g4
        simp only [Nat.zero_add, List.take_nil, List.nil_append, List.drop_nil, List.append_nil] at h hsz
        rcases hq with rfl | rfl
        · simp only at h
          rw [← hn] at h
          by_cases hne : ys = []
          · exact hzero s1 hne (by subst hne; exact h)
          · exact hnone s1 hsz hne h
        · simp only at h
          by_cases hne : ys = []
          · subst hne
            have h2 := h.1 (by simp)
            have hnw : news = [] := List.eq_nil_of_length_eq_zero (by simpa using hsrc.newsLen)
            subst hnw
            refine ⟨.slice none 0 0, _, w, c, _, ?_, Ext.refl _ _, ?_, ?_, h2⟩
            · exact hsrc.empty rfl ty
            · refine hi.upd (Ext.refl _ _) s1 n _ (fun _ _ => ⟨rfl, rfl, rfl⟩) (fun _ _ _ _ _ _ => rfl) g1 ?_ fun b cp _ e => by rw [g3] at e; cases e
              have := hi.ok s1
              rw [hrow] at this
              simpa using this
            · simpa using hu
          · exact hnone s hsz hne (h.2 (List.length_pos_iff.2 hne))
      · have hmul : len * k2 ≤ rows.length * k2 := Nat.mul_le_mul_right _ hlen
        have hin : len + ys.length ≤ cp → ∃ w', (Builtin.append_ #[t, tx] ty #[.slice (some ⟨b, 0, none⟩) len cp, v]).run P w = .ok (.slice (some ⟨b, 0, none⟩) (len + ys.length) cp) w' ∧ ∃ rest', Upd w b (.cells ((vs.take (len * k2) ++ news ++ vs.drop (len * k2 + news.length)) ++ rest').toArray e' (0, 0)) w' ∧
            ((vs.take (len * k2) ++ news ++ vs.drop (len * k2 + news.length)) ++ rest').length = cp * k2 ∧ (∀ x ∈ (vs.take (len * k2) ++ news ++ vs.drop (len * k2 + news.length)) ++ rest', x.oneCell' = true) := by
          intro hroom
          obtain ⟨w', hr, hup⟩ := append_in (P := P) hk ty g4 g5 hsrc hroom
          have e1 : (vs ++ rest).take (len * k2) = vs.take (len * k2) := List.take_append_of_le_length (by omega)
          have hnl := hsrc.newsLen
          have hfit : len * k2 + news.length ≤ (vs ++ rest).length := by rw [hnl, g5, ← Nat.add_mul]; exact Nat.mul_le_mul_right _ hroom
          have e2 : (vs ++ rest).drop (len * k2 + news.length) = vs.drop (len * k2 + news.length) ++ rest.drop (len * k2 + news.length - vs.length) := List.drop_append
          refine ⟨w', hr, rest.drop (len * k2 + news.length - vs.length), ?_, ?_, ?_⟩
          · rw [e1, e2] at hup
            simpa [List.append_assoc] using hup
          · simp only [List.length_append, List.length_take, List.length_drop] at g5 hfit ⊢
            omega
          · intro x hx
            simp only [List.mem_append] at hx
            rcases hx with ((hx | hx) | hx) | hx
            · exact hov x (List.mem_append_left _ (List.mem_of_mem_take hx))
            · exact hsrc.one x hx
            · exact hov x (List.mem_append_left _ (List.mem_of_mem_drop hx))
            · exact hov x (List.mem_append_right _ (List.mem_of_mem_drop hx))
        have hout : ∀ (s2 : Site), cp < len + ys.length → K (.own s2 ((hp.get s2).1 + 1) k2 0 (len + ys.length)) (hp.set s2 ((hp.get s2).1 + 1) (.row e' k2 none (rows.take len ++ ys))) → Gives P (Builtin.append_ #[t, tx] ty #[.slice (some ⟨b, 0, none⟩) len cp, v]) w c K := by
          intro s2 hg h
          have hold : (Builtin.firstCells k2 len (.slice (some ⟨b, 0, none⟩) len cp)).run P w.drew = .ok (vs.take (len * k2)).toArray w.drew := by
            refine run_firstCells_some (P := P) w.drew k2 len ⟨b, 0, none⟩ len cp _ (by simp only [List.length_take]; omega) fun j x hx => ?_
            rw [Addr.add_lit, Nat.zero_add]
            show w.cell? _ = _
            rw [cell_block g4]
            rw [List.getElem?_take] at hx
            split at hx
            · rw [List.getElem?_append_left (lt_of_get hx)]; exact hx
            · cases hx
          obtain ⟨gc, rest', hr, h1, h2, h3, h4⟩ := append_new (P := P) hk hby hz hzk h0 hb0 c ty hold (by simp only [List.length_take]; omega) hsrc (by omega) hg hsz
          obtain ⟨x1, x2⟩ := row_new' hi s2 e' k2 (rows.take len ++ ys) gc (vs.take (len * k2) ++ news) rest' h0 hkk h2 h3 (fun u hu => by
            simp only [List.mem_append] at hu
            rcases hu with (hu | hu) | hu
            · exact hov u (List.mem_append_left _ (List.mem_of_mem_take hu))
            · exact hsrc.one u hu
            · exact h4 u hu) (by
            rw [List.flatten_append, flatten_take hkr]
            exact (g6.take _).append hnews)
          exact ⟨_, _, _, _, _, hr, x1, x2, rel_own_new' hi s2 _ k2 _ gc h1, h⟩
        rcases hq with rfl | rfl
        · simp only at h
          rw [← hn] at h
          by_cases hroom : len + ys.length ≤ cp
          · obtain ⟨w', hr, rest', hup, hl', ho'⟩ := hin hroom
            obtain ⟨x1, x2⟩ := row_upd hi hlv g3 hup (rows := rows.take len ++ ys) (vs := vs.take (len * k2) ++ news) (rest := vs.drop (len * k2 + news.length) ++ rest') (q := none) (by simp [List.append_assoc]) (.inl rfl) hcp h0 hkk hl' ho' (by
              rw [List.flatten_append, flatten_take hkr]
              exact (g6.take _).append hnews)
            obtain ⟨x3, x4⟩ := bump_sound x2 s1
            rw [Hp.get_set, if_pos rfl, Hp.set_set] at x4
            refine ⟨_, _, w', _, _, hr, x1.trans x3, x4, ?_, h⟩
            simp only [RelV, Cx.bump, if_true, hi.cur s1, Nat.le_refl, true_and, g3]
            exact fun _ => ⟨by omega, ⟨b, 0, none⟩, by simp, fun _ => by simp⟩
          · exact hout s1 (by omega) h
        · simp only at h
          by_cases hroom : len + ys.length ≤ cp
          · obtain ⟨w', hr, rest', hup, hl', ho'⟩ := hin hroom
            have hnl := hsrc.newsLen
            have hfl := flatten_length hyk
            obtain ⟨x1, x2⟩ := row_upd hi hlv g3 hup (rows := rows.take len ++ ys ++ rows.drop (len + ys.length)) (vs := vs.take (len * k2) ++ news ++ vs.drop (len * k2 + news.length)) (rest := rest') (q := some cp) rfl (.inr rfl) hcp h0 (fun r hr => by
              rcases List.mem_append.1 hr with hr | hr
              · exact hkk r hr
              · exact hkr r (List.mem_of_mem_drop hr)) hl' ho' (by
              rw [flatten_splice hkr hyk, hfl, hnl]
              exact ((g6.take _).append hnews).append (g6.drop _))
            rw [hn] at x2
            refine ⟨_, _, w', _, _, hr, x1, x2, ?_, h.1 hroom⟩
            simp only [RelV, ← g1, Nat.le_refl, true_and, g3]
            exact fun _ => ⟨by omega, ⟨b, 0, none⟩, by simp, fun _ => by simp⟩
          · exact hout s (by omega) (h.2 (by omega))
    · exact h.elim
  · exact h.elim
theorem AAppend_sound {P : Program} {ts : Array TypeId} {x y : AV} {s : Site} {hp : Hp} {K : AV → Hp → Prop} (h : AAppend P ts x y s hp K) {w : World} {c : Cx} (hi : Inv w c hp) (ty : TypeId) {u v : Value} (hu : RelV w c x u) (hv : RelV w c y v) :
    Gives P (Builtin.append_ ts ty #[u, v]) w c K := by
  unfold AAppend at h
  split at h
  · rename_i t t' hts
    have hts' : ts = #[t, t'] := by rw [← hts]
    subst hts'
    split at h
    · rename_i e he
      split at h
      · rename_i k by_ z hk hby hz
        obtain ⟨h0, hzk, hb0, h⟩ := h
        unfold AYs at h
        split at h
        · rename_i htt
          subst htt
          split at h
          · rename_i ys hys
            obtain ⟨hyk, news, hsrc, hnews⟩ := src_of_rows (P := P) he (hv.rows hi hys)
            exact append_core he hk hby hz h0 hzk hb0 h hi ty hu hyk (asrc_of he hk hby hsrc) hnews
          · exact h.elim
        · split at h
          · rename_i ki m
            obtain ⟨h1, h2, h3, h4, h⟩ := h
            simp only [RelV] at hv
            obtain ⟨rfl, -⟩ := hv
            obtain ⟨ki', hx⟩ : ∃ ki', P.underlying t' = some (.int ki') := by
              unfold tyInt at h1
              split at h1
              · rename_i ki' e'; exact ⟨ki', e'⟩
              · cases h1
            obtain ⟨news, hsrc, hnews⟩ := zero_asrc (P := P) (t := t) (ki := ki) he hk hby hz hzk h0 hx w c m h2 h3 (by omega)
            exact append_core he hk hby hz h0 hzk hb0 h hi ty hu (fun r hr => by rw [List.eq_of_mem_replicate hr]; exact hzk) (by rw [List.length_replicate]; exact hsrc) hnews
          · rename_i str
            obtain ⟨h1, h2, h⟩ := h
            subst h2
            simp only [RelV] at hv
            obtain ⟨rfl, -⟩ := hv
            have hx : P.underlying t' = some .string := by
              unfold tyStr at h1
              split at h1
              · assumption
              · cases h1
            have hsrc := asrc_of (t := t) he hk hby (Src.ofString (P := P) w hx str)
            refine append_core he hk hby hz h0 hzk hb0 h hi ty hu (fun r hr => by obtain ⟨b, _, rfl⟩ := List.mem_map.1 hr; rfl) (news := byteCells str) (by rw [List.length_map, Array.length_toList]; exact hsrc) ?_
            unfold byteCells
            generalize str.data.toList = l
            induction l with
            | nil => simp [RVL]
            | cons b l ih => simp only [List.map_cons, List.flatten_cons, List.cons_append, List.nil_append, RVL]; exact ⟨_, _, rfl, by simp [RV, plain], ih⟩
          · exact h.elim
      · exact h.elim
    · exact h.elim
  · exact h.elim
end Go.Proofs.YtanbgeelphfggaaDoor.E
