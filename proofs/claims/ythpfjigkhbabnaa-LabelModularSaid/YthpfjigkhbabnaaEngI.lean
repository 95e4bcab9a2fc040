/- The abstract machine of this claim, part I: append; lengths; what is told of a slice. No conditions. -/
import Derived.Test.YthpfjigkhbabnaaEngH
import Derived.Maps.AppendAt
namespace Go.Proofs.Ythpfjigkhbabnaa.E
open Go
set_option linter.unusedSimpArgs false
set_option linter.unusedVariables false

/-- What a slice holds. -/
def AV.rowsOf (hp : Hp) (k : Nat) : AV → Option (List (List AV))
  | .list k' rows => if k' = k then some rows else none
  | .val (.slice none 0 0) => some []
  | .own s ver k' off len => match hp.get s with
    | (n, .row _ k2 rows) => if n = ver ∧ k' = k ∧ k2 = k ∧ off + len ≤ rows.length then some ((rows.drop off).take len) else none
    | (n, .ice k2 rows) => if n = ver ∧ k' = k ∧ k2 = k ∧ off + len ≤ rows.length then some ((rows.drop off).take len) else none
    | _ => none
  | _ => none

theorem flatten_drop {rows : List (List AV)} {k : Nat} (hk : ∀ r ∈ rows, r.length = k) (n : Nat) : (rows.drop n).flatten = rows.flatten.drop (n * k) := by
  induction rows generalizing n with
  | nil => simp
  | cons x rows ih =>
    cases n with
    | zero => simp
    | succ n =>
      have hx := hk x (by simp)
      simp only [List.drop_succ_cons, List.flatten_cons]
      rw [ih (fun y hy => hk y (by simp [hy])) n, show (n + 1) * k = x.length + n * k by rw [Nat.add_mul, hx]; omega, List.drop_length_add_append]
theorem flatten_take {rows : List (List AV)} {k : Nat} (hk : ∀ r ∈ rows, r.length = k) (n : Nat) : (rows.take n).flatten = rows.flatten.take (n * k) := by
  induction rows generalizing n with
  | nil => simp
  | cons x rows ih =>
    cases n with
    | zero => simp
    | succ n =>
      have hx := hk x (by simp)
      simp only [List.take_succ_cons, List.flatten_cons]
      rw [ih (fun y hy => hk y (by simp [hy])) n, show (n + 1) * k = x.length + n * k by rw [Nat.add_mul, hx]; omega, List.take_length_add_append]
theorem flatten_length {rows : List (List AV)} {k : Nat} (hk : ∀ r ∈ rows, r.length = k) : rows.flatten.length = rows.length * k := by
  induction rows with
  | nil => simp
  | cons x rows ih =>
    simp only [List.flatten_cons, List.length_append, List.length_cons, hk x (by simp), ih (fun r hr => hk r (by simp [hr])), Nat.add_mul]
    omega
theorem RVRows.lens {w : World} {S : Nat → Prop} {k : Nat} {xs : List (List AV)} {b off : Nat} (h : RVRows w S k xs b off) : ∀ r ∈ xs, r.length = k := by
  induction xs generalizing off with
  | nil => intro r hr; simp at hr
  | cons x xs ih =>
    simp only [RVRows] at h
    intro r hr
    rcases List.mem_cons.1 hr with rfl | hr
    · exact h.1
    · exact ih h.2.2 r hr

/-- A slice, read: its cells. -/
theorem RelV.rows {w : World} {c : Cx} {hp : Hp} (hi : Inv w c hp) {x : AV} {v : Value} {k : Nat} {xs : List (List AV)} (h : RelV w c x v) (hx : x.rowsOf hp k = some xs) :
    (v = .slice none 0 0 ∧ xs = []) ∨ ∃ a cp, v = .slice (some a) xs.length cp ∧ xs.length ≤ cp ∧ (∀ r ∈ xs, r.length = k) ∧ ∃ vs, RVL w (still w c) xs.flatten vs ∧ (∀ u ∈ vs, u.oneCell' = true) ∧ ∀ j u, vs[j]? = some u → w.cell? (a.add j) = some u := by
  unfold AV.rowsOf at hx
  split at hx
  · rename_i k' rows
    split at hx
    · rename_i hk
      subst hk
      cases hx
      simp only [RelV, RV] at h
      obtain ⟨a, cap, rfl, hc, hn, hr⟩ := h
      rcases hr with rfl | ⟨b, off, rfl, hs, hr⟩
      · cases a with
        | none =>
          have h0 := hn rfl
          subst h0
          exact .inl ⟨rfl, rfl⟩
        | some a => exact .inr ⟨a, cap, rfl, hc, fun r hr => by simp at hr, [], by simp [RVL], fun u hu => by simp at hu, fun j u hu => by simp at hu⟩
      · obtain ⟨vs, h1, h2, h3⟩ := hr.flat.vals
        exact .inr ⟨_, cap, rfl, hc, hr.lens, vs, h1, h2, fun j u hu => by rw [Addr.add_lit]; exact h3 j u hu⟩
    · cases hx
  · cases hx
    simp only [RelV] at h
    exact .inl ⟨h.1, rfl⟩
  · rename_i s ver k' off len
    simp only [RelV] at h
    split at hx
    · rename_i n t k2 rows e
      split at hx
      · rename_i hc
        obtain ⟨rfl, rfl, rfl, hlen⟩ := hc
        cases hx
        obtain ⟨h1, hlv, h0, hk, h2⟩ := hi.row e
        have h3 := h.2 h1.symm
        rcases h2 with ⟨h4, rfl⟩ | ⟨b, cp, vs, rest, h4, hcp, h5, h6, ho, h7⟩
        · rw [h4] at h3
          obtain ⟨rfl, rfl, rfl⟩ := h3
          exact .inl ⟨rfl, rfl⟩
        · rw [h4] at h3
          obtain ⟨h8, a, rfl, h9⟩ := h3
          have hl : ((rows.drop off).take len).length = len := by simp; omega
          refine .inr ⟨a, cp - off, by rw [hl], by omega, fun r hr => hk r (List.mem_of_mem_drop (List.mem_of_mem_take hr)), ?_⟩
          by_cases hz : len = 0
          · subst hz
            exact ⟨[], by simp [RVL], fun u hu => by simp at hu, fun j u hu => by simp at hu⟩
          · have h10 := h9 (.inl (by omega))
            subst h10
            refine ⟨(vs.drop (off * k2)).take (len * k2), ?_, fun u hu => ho u (List.mem_of_mem_drop (List.mem_of_mem_take hu)), fun j u hu => ?_⟩
            · rw [flatten_take (fun r hr => hk r (List.mem_of_mem_drop hr)), flatten_drop hk]
              exact (h7.drop _).take _
            · rw [Addr.add_lit, cell_block h5]
              rw [List.getElem?_take] at hu
              split at hu
              · rw [List.getElem?_drop] at hu
                rw [List.getElem?_append_left (by
                  rcases Nat.lt_or_ge (off * k2 + j) vs.length with h' | h'
                  · exact h'
                  · rw [List.getElem?_eq_none h'] at hu; cases hu)]
                exact hu
              · cases hu
      · cases hx
    · rename_i n k2 rows e
      split at hx
      · rename_i hc
        obtain ⟨rfl, rfl, rfl, hlen⟩ := hc
        cases hx
        obtain ⟨h1, _, h2⟩ := hi.ice e
        have h3 := h.2 h1.symm
        rcases h2 with ⟨h4, rfl⟩ | ⟨b, cp, h4, h5, h6⟩
        · rw [h4] at h3
          obtain ⟨rfl, rfl, rfl⟩ := h3
          exact .inl ⟨rfl, rfl⟩
        · rw [h4] at h3
          obtain ⟨h8, a, rfl, h9⟩ := h3
          have hl : ((rows.drop off).take len).length = len := by simp; omega
          refine .inr ⟨a, cp - off, by rw [hl], by omega, ?_⟩
          rcases h6 with rfl | ⟨h6, h7⟩
          · simp only [List.drop_nil, List.take_nil]
            exact ⟨fun r hr => by simp at hr, [], by simp [RVL], fun u hu => by simp at hu, fun j u hu => by simp at hu⟩
          · have h11 := (h7.drop off).take len
            refine ⟨h11.lens, ?_⟩
            by_cases hz : len = 0
            · subst hz
              exact ⟨[], by simp [RVL], fun u hu => by simp at hu, fun j u hu => by simp at hu⟩
            · have h10 := h9 (.inl (by omega))
              subst h10
              obtain ⟨vs, g1, g2, g3⟩ := h11.flat.vals
              rw [Nat.zero_add] at g3
              exact ⟨vs, g1, g2, fun j u hu => by rw [Addr.add_lit]; exact g3 j u hu⟩
      · cases hx
    · cases hx
  · cases hx

theorem grown_still {w w' : World} {c : Cx} {row : Option Nat} (hg : w.grownBy w' row) (hrow : ∀ b, row = some b → c.live b) : Ext w c w' c :=
  ⟨hg.os, hg.tape, hg.output, hg.size, fun b hb hn => ⟨hg.block b hb (fun e => hn (hrow b e.symm)), hn⟩, rfl, fun _ => .inr ⟨rfl, rfl, id⟩⟩

/-- A row that lies anew, be it in its old block. -/
theorem row_again {w w' : World} {c : Cx} {hp : Hp} (hi : Inv w c hp) (s : Site) {row : Option Nat} (hg : w.grownBy w' row) (hrow : ∀ b, row = some b → c.lv s = true ∧ ∃ cp, c.loc s = some (b, cp)) {p : Option (Nat × Nat)}
    (hpb : ∀ b cp, p = some (b, cp) → (row = some b ∨ b = w.heap.size) ∧ b < w'.heap.size) {k : Blk} (hk : BlkOk w' (c.lay s p) s k) :
    Ext w c w' (c.lay s p) ∧ Inv w' (c.lay s p) (hp.set s ((hp.get s).1 + 1) k) := by
  have hlive : ∀ b, row = some b → c.live b := fun b e => by obtain ⟨h1, cp, h2⟩ := hrow b e; exact ⟨s, cp, h1, h2⟩
  have he : Ext w c w' (c.lay s p) := by
    have h0 := grown_still hg hlive
    refine ⟨h0.os, h0.tape, h0.output, h0.size, fun b hb hn => ⟨(h0.block b hb hn).1, ?_⟩, rfl, fun s' => ?_⟩
    · rintro ⟨s', cp', l, e⟩
      by_cases hs : s' = s
      · subst hs
        rw [cx_lay_loc] at e
        rcases (hpb b cp' e).1 with h1 | h1
        · exact hn (hlive b h1)
        · omega
      · simp only [Cx.lay, hs, if_false] at l e
        exact hn ⟨s', cp', l, e⟩
    · by_cases hs : s' = s
      · subst hs; simp [Cx.lay]
      · simp [Cx.lay, hs]
  refine ⟨he, hi.upd he s _ k (fun s' hs => by simp [Cx.lay, hs]) (fun s' b cp hs l e => hg.block b (hi.lt b ⟨s', cp, l, e⟩) (fun eb => ?_)) (by rw [cx_lay_cur, hi.cur s]) hk fun b cp _ e => ?_⟩
  · obtain ⟨h1, cp', h2⟩ := hrow b eb.symm
    exact hs (hi.inj s' s b cp cp' l h1 e h2)
  · rw [cx_lay_loc] at e
    obtain ⟨h1, h2⟩ := hpb b cp e
    refine ⟨h2, ?_, fun s' cp' hs l e' => ?_⟩
    · rcases h1 with h1 | h1
      · exact hi.far b (hlive b h1)
      · intro hf; have := hi.farlt b hf; omega
    · rcases h1 with h1 | h1
      · obtain ⟨h3, cp2, h4⟩ := hrow b h1
        exact hs (hi.inj s' s b cp' cp2 l h3 e' h4)
      · have := hi.lt b ⟨s', cp', l, e'⟩; omega

def AAppend (P : Program) (ts : Array TypeId) (x y : AV) (s : Site) (hp : Hp) (K : AV → Hp → Prop) : Prop :=
  match ts.toList with
  | [t, t'] => t = t' ∧ match tyEl P t with
    | some e => match tySz P e, tyBy P e, tyZ P e with
      | some k, some by_, some z => 0 < k ∧ z.length = k ∧ 0 < by_ ∧ match y.rowsOf hp k with
        | some ys => match x with
          | .val (.slice none 0 0) => ys.length * by_ ≤ 140737488355328 ∧ (∀ r ∈ ys, r.length = k) ∧ K (.own s ((hp.get s).1 + 1) k 0 ys.length) (hp.set s ((hp.get s).1 + 1) (.row e k ys))
          | .own s1 ver k1 off len => match hp.get s1 with
            | (n, .row e' k2 rows) => n = ver ∧ k1 = k ∧ k2 = k ∧ e' = e ∧ off = 0 ∧ len ≤ rows.length ∧ (len + ys.length) * by_ ≤ 140737488355328 ∧
                K (.own s1 (n + 1) k 0 (len + ys.length)) (hp.set s1 (n + 1) (.row e k (rows.take len ++ ys)))
            | _ => False
          | _ => False
        | none => False
      | _, _, _ => False
    | none => False
  | _ => False

/-- What append comes to, over a row of the call's own. -/
theorem append_core {P : Program} {t e : TypeId} {k by_ : Nat} {z : List AV} (he : tyEl P t = some e) (hk : tySz P e = some k) (hby : tyBy P e = some by_) (hz : tyZ P e = some z) (hzk : z.length = k) (h0 : 0 < k) (hb0 : 0 < by_) {w : World} {c : Cx} (ty : TypeId)
    {v : Value} {n : Nat} {xs : List Value} (hown : w.ownsRow 0 e k v n xs) {y : Value} {ys : List (List AV)}
    (hy : (y = .slice none 0 0 ∧ ys = []) ∨ ∃ a cp, y = .slice (some a) ys.length cp ∧ ys.length ≤ cp ∧ (∀ r ∈ ys, r.length = k) ∧ ∃ vs, RVL w (still w c) ys.flatten vs ∧ (∀ u ∈ vs, u.oneCell' = true) ∧ ∀ j u, vs[j]? = some u → w.cell? (a.add j) = some u)
    (hsz : (n + ys.length) * by_ ≤ 140737488355328) :
    ∃ v' w' news, (Builtin.append_ #[t, t] ty #[v, y]).run P w = .ok v' w' ∧ w'.ownsRow 0 e k v' (n + ys.length) (xs ++ news) ∧ w.grownBy w' v.ownBlock ∧ (v'.ownBlock = v.ownBlock ∨ v'.ownBlock = some w.heap.size) ∧
      RVL w (still w c) ys.flatten news ∧ (∀ u ∈ news, u.oneCell' = true) ∧ (v' = .slice none 0 0 → n = 0 ∧ ys = []) := by
  obtain ⟨zv, hz1, hz2, hz3, i0, hi0, hiz⟩ := run_zero hz w c
  have hzs : zv.cells.size = k := by have := hz2.length; simp only [Array.length_toList] at this; omega
  have hsz0 : i0.size = k := by simpa [tySz, hi0] using hk
  have hbb : i0.bytes = by_ := by simpa [tyBy, hi0] using hby
  rcases hy with ⟨rfl, rfl⟩ | ⟨a, cp, rfl, hc, hl, vs, h1, h2, h3⟩
  · have hr := run_append_owned_none (P := P) w 0 t ty e i0 k (und_of_tyEl he) hi0 v n xs hown
    refine ⟨v, w, [], hr, by simpa using hown, ⟨rfl, rfl, rfl, Nat.le_refl _, fun _ _ _ => rfl⟩, .inl rfl, by simp [RVL], fun u hu => by simp at hu, fun e => ⟨?_, rfl⟩⟩
    rcases hown.2 with ⟨_, h⟩ | ⟨g, cap, cur, h, _⟩
    · exact h
    · rw [e] at h; cases h
  · have hlen := h1.length
    rw [flatten_length hl] at hlen
    have hm : n + ys.length ≤ maxLen := by
      have : n + ys.length ≤ (n + ys.length) * by_ := Nat.le_mul_of_pos_right _ hb0
      simp only [maxLen]; omega
    obtain ⟨v', w', hr, ho, hg, hnil, hat⟩ := run_append_own_at (P := P) w 0 t ty e i0 zv k by_ (und_of_tyEl he) hi0 hiz hsz0 hbb hzs h0 v n xs hown a ys.length cp vs hlen h3 h2 hm hsz (Nat.zero_le _)
    refine ⟨v', w', vs, hr, ho, hg, hat, h1, h2, fun e => ?_⟩
    obtain ⟨e1, e2⟩ := hnil.1 e
    refine ⟨?_, List.eq_nil_of_length_eq_zero e2⟩
    rcases hown.2 with ⟨_, h⟩ | ⟨g, cap, cur, h, _⟩
    · exact h
    · rw [e1] at h; cases h

/-- A row of the call's own behind append. -/
theorem append_row {w w' : World} {c : Cx} {hp : Hp} (hi : Inv w c hp) (s : Site) {e : TypeId} {k n : Nat} {v v' : Value} {rows : List (List AV)} {xs : List Value} (h0 : 0 < k) (hk : ∀ r ∈ rows, r.length = k) (hlen : rows.length = n)
    (hg : w.grownBy w' v.ownBlock) (hv : ∀ b, v.ownBlock = some b → c.lv s = true ∧ ∃ cp, c.loc s = some (b, cp)) (hat : v'.ownBlock = v.ownBlock ∨ v'.ownBlock = some w.heap.size) (ho : w'.ownsRow 0 e k v' n xs) (hr : RVL w (still w c) rows.flatten xs) (hone : ∀ u ∈ xs, u.oneCell' = true) :
    ∃ c', Ext w c w' c' ∧ Inv w' c' (hp.set s ((hp.get s).1 + 1) (.row e k rows)) ∧ RelV w' c' (.own s ((hp.get s).1 + 1) k 0 n) v' := by
  have hlive : ∀ b, v.ownBlock = some b → c.live b := fun b e => by obtain ⟨h1, cp, h2⟩ := hv b e; exact ⟨s, cp, h1, h2⟩
  have hst := (grown_still hg hlive).still
  rcases ho.2 with ⟨rfl, rfl⟩ | ⟨g, cap, cur, rfl, _, hcur, hnc, hcm, hcs, htake⟩
  · have hrows : rows = [] := List.eq_nil_of_length_eq_zero hlen
    subst hrows
    obtain ⟨h1, h2⟩ := row_again hi s hg hv (p := none) (fun b cp e => by cases e) (k := .row e k []) (by
      simp only [BlkOk]
      refine ⟨cx_lay_lv _ _ _, h0, fun r hr => by simp at hr, ?_⟩
      rw [cx_lay_loc]
      trivial)
    refine ⟨_, h1, h2, ?_⟩
    simp only [RelV, cx_lay_cur, hi.cur s, Nat.le_refl, true_and]
    intro _
    simp only [cx_lay_loc]
  · have hlt : g < w'.heap.size := (Array.getElem?_eq_some_iff.1 hcur).1
    have hb : v.ownBlock = some g ∨ g = w.heap.size := by
      rcases hat with h | h
      · exact .inl h.symm
      · simp only [Value.ownBlock, Option.some.injEq] at h; exact .inr h
    obtain ⟨h1, h2⟩ := row_again hi s hg hv (p := some (g, cap)) (fun b cp e => by cases e; exact ⟨hb, hlt⟩) (k := .row e k rows) (by
      simp only [BlkOk]
      refine ⟨cx_lay_lv _ _ _, h0, hk, ?_⟩
      rw [cx_lay_loc]
      have hsplit : xs ++ cur.toList.drop (n * k) = cur.toList := by rw [← htake, List.take_append_drop]
      refine ⟨hcm, xs, cur.toList.drop (n * k), by rw [hsplit, Array.toArray_toList]; exact hcur, by rw [hsplit, Array.length_toList]; exact hcs, hone, ?_⟩
      refine RVL.mono (fun b hb' => ?_) _ _ hr
      obtain ⟨g1, g2⟩ := hst b hb'
      refine ⟨⟨g1.1, ?_, hb'.2.2⟩, g2⟩
      rintro ⟨s', cp', l, e'⟩
      by_cases hs : s' = s
      · subst hs
        rw [cx_lay_loc] at e'
        cases e'
        rcases hb with hb | hb
        · exact hb'.2.1 (hlive _ hb)
        · have := hb'.1; omega
      · simp only [Cx.lay, hs, if_false] at l e'
        exact hb'.2.1 ⟨s', cp', l, e'⟩)
    refine ⟨_, h1, h2, ?_⟩
    simp only [RelV, cx_lay_cur, hi.cur s, Nat.le_refl, true_and]
    intro _
    rw [cx_lay_loc]
    exact ⟨by omega, ⟨g, 0, none⟩, by simp, fun _ => by simp⟩

theorem AAppend_sound {P : Program} {ts : Array TypeId} {x y : AV} {s : Site} {hp : Hp} {K : AV → Hp → Prop} (h : AAppend P ts x y s hp K) {w : World} {c : Cx} (hi : Inv w c hp) (ty : TypeId) {u v : Value} (hu : RelV w c x u) (hv : RelV w c y v) :
    Gives P (Builtin.append_ ts ty #[u, v]) w c K := by
  unfold AAppend at h
  split at h
  · rename_i t t' hts
    obtain ⟨rfl, h⟩ := h
    have hts' : ts = #[t, t] := by rw [← hts]
    subst hts'
    split at h
    · rename_i e he
      split at h
      · rename_i k by_ z hk hby hz
        obtain ⟨h0, hzk, hb0, h⟩ := h
        split at h
        · rename_i ys hys
          have hy := hv.rows hi hys
          split at h
          · obtain ⟨hsz, hyk, h⟩ := h
            simp only [RelV] at hu
            obtain ⟨rfl, -⟩ := hu
            obtain ⟨v', w', news, hr, ho, hg, hat, h1, h2, h3⟩ := append_core (P := P) (c := c) he hk hby hz hzk h0 hb0 ty (World.ownsRow_nil w 0 e k) hy (by simpa using hsz)
            rw [Nat.zero_add] at ho
            obtain ⟨c', x1, x2, x3⟩ := append_row hi s h0 hyk rfl hg (fun b e => by simp [Value.ownBlock] at e) hat ho (by simpa using h1) (by simpa using h2)
            exact ⟨v', _, w', c', _, hr, x1, x2, x3, h⟩
          · rename_i s1 ver k1 off len
            split at h
            · rename_i n e' k2 rows hrow
              obtain ⟨rfl, rfl, rfl, rfl, rfl, hlen, hsz, h⟩ := h
              obtain ⟨g1, hlv, _, hkr, g2⟩ := hi.row hrow
              simp only [RelV] at hu
              have hu2 := hu.2 g1.symm
              have hn : (hp.get s1).1 = n := by rw [hrow]
              have hyk : ∀ r ∈ ys, r.length = k2 := by
                rcases hy with ⟨_, rfl⟩ | ⟨_, _, _, _, h, _⟩
                · intro r hr; simp at hr
                · exact h
              have hkk : ∀ r ∈ rows.take len ++ ys, r.length = k2 := fun r hr => by
                rcases List.mem_append.1 hr with hr | hr
                · exact hkr r (List.mem_of_mem_take hr)
                · exact hyk r hr
              have hll : (rows.take len ++ ys).length = len + ys.length := by simp; omega
              rcases g2 with ⟨g3, rfl⟩ | ⟨b, cp, vs, rest, g3, hcp, g4, g5, hov, g6⟩
              · rw [g3] at hu2
                obtain ⟨_, rfl, rfl⟩ := hu2
                obtain ⟨v', w', news, hr, ho, hg, hat, h1, h2, h3⟩ := append_core (P := P) (c := c) he hk hby hz hzk h0 hb0 ty (World.ownsRow_nil w 0 e' k2) hy (by simpa using hsz)
                obtain ⟨c', x1, x2, x3⟩ := append_row hi s1 h0 hkk hll hg (fun b e => by simp [Value.ownBlock] at e) hat ho (by simpa using h1) (by simpa using h2)
                rw [hn] at x2 x3
                exact ⟨v', _, w', c', _, hr, x1, x2, x3, h⟩
              · rw [g3] at hu2
                obtain ⟨hcap, a, rfl, ha⟩ := hu2
                have ha := ha (.inr trivial)
                subst ha
                have hlv2 := g6.length
                rw [flatten_length hkr] at hlv2
                have hmul : len * k2 ≤ rows.length * k2 := Nat.mul_le_mul_right _ hlen
                have hown : w.ownsRow 0 e' k2 (.slice (some ⟨b, 0 * k2, none⟩) len (cp - 0)) len (vs.take (len * k2)) := by
                  refine ⟨by simp only [List.length_take]; omega, .inr ⟨b, cp, (vs ++ rest).toArray, by simp, Nat.zero_le _, g4, by omega, hcp, by simpa using g5, ?_⟩⟩
                  simp only
                  rw [List.take_append_of_le_length (by omega)]
                obtain ⟨v', w', news, hr, ho, hg, hat, h1, h2, h3⟩ := append_core (P := P) (c := c) he hk hby hz hzk h0 hb0 ty hown hy hsz
                obtain ⟨c', x1, x2, x3⟩ := append_row hi s1 h0 hkk hll hg (fun b' e => by simp only [Value.ownBlock, Option.some.injEq] at e; subst e; exact ⟨hlv, cp, g3⟩) hat ho (by
                  simp only [List.flatten_append]
                  rw [flatten_take hkr]
                  exact (g6.take _).append h1) (fun u hu => by
                    rcases List.mem_append.1 hu with hu | hu
                    · exact hov u (List.mem_of_mem_take hu)
                    · exact h2 u hu)
                rw [hn] at x2 x3
                exact ⟨v', _, w', c', _, hr, x1, x2, x3, h⟩
            · exact h.elim
          · exact h.elim
        · exact h.elim
      · exact h.elim
    · exact h.elim
  · exact h.elim
end Go.Proofs.Ythpfjigkhbabnaa.E
