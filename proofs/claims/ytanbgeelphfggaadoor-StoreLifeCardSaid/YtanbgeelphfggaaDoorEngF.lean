/- The abstract machine of this claim, part F: parts of results, unary operations, conversions, structs, lengths. No conditions. -/
import Derived.Test.YtanbgeelphfggaaDoorEngE
namespace Go.Proofs.YtanbgeelphfggaaDoor.E
open Go
set_option linter.unusedSimpArgs false
set_option linter.unusedVariables false
set_option linter.unusedSectionVars false
set_option maxRecDepth 20000

def AExtract (x : AV) (i : Nat) (K : AV → Prop) : Prop :=
  match x with
  | .tup vs => ∃ a, vs[i]? = some a ∧ K a
  | _ => False
theorem AExtract_sound {P : Program} {x : AV} {i : Nat} {K : AV → Prop} (h : AExtract x i K) {w : World} {c : Cx} {v : Value} (hx : RelV w c x v) :
    ∃ r a, (Instr.extract v i).run P w = .ok r w ∧ RelV w c a r ∧ K a := by
  unfold AExtract at h
  split at h
  · rename_i vs
    obtain ⟨a, ha, h⟩ := h
    simp only [RelV] at hx
    obtain ⟨us, rfl, hr⟩ := hx
    obtain ⟨u, hu, hr⟩ := hr.get i a ha
    refine ⟨u, a, ?_, hr, h⟩
    simp [Instr.extract, hu]
  · exact h.elim

def AUn (op : UnOp) (x : AV) (K : AV → Prop) : Prop :=
  match op, x with
  | .not, .val (.bool b) => K (.val (.bool (!b)))
  | .neg, .val (.int k n) => K (.val (.int k (k.wrap (0 - n))))
  | .xor, .val (.int k n) => K (.val (.int k (bits .xor k (if k.signed then -1 else k.max) n)))
  | _, _ => False
theorem AUn_sound {P : Program} {op : UnOp} {x : AV} {K : AV → Prop} (h : AUn op x K) {w : World} {c : Cx} {v : Value} (hx : RelV w c x v) :
    ∃ r a, (Op.unary op v).run P w = .ok r w ∧ RelV w c a r ∧ K a := by
  unfold AUn at h
  split at h
  all_goals first
    | exact h.elim
    | (simp only [RelV] at hx; obtain ⟨rfl, -⟩ := hx; exact done h rfl (by simp only [Op.unary, Op.intArith, intBits_xor, Sem.run_pure]))

def AConv (P : Program) (src dst : TypeId) (x : AV) (K : AV → Prop) : Prop :=
  match x with
  | .val (.int _ n) => (P.underlying src).isSome = true ∧ match tyInt P dst with
    | some k => K (.val (.int k (k.wrap n)))
    | none => False
  | .val (.string s) => tyStr P src = true ∧ tyStr P dst = true ∧ K (.val (.string s))
  | _ => False
theorem AConv_sound {P : Program} {src dst : TypeId} {x : AV} {K : AV → Prop} (h : AConv P src dst x K) {w : World} {c : Cx} {v : Value} (hx : RelV w c x v) :
    ∃ r a, (convert src dst v).run P w = .ok r w ∧ RelV w c a r ∧ K a := by
  unfold AConv at h
  split at h
  · rename_i k n
    simp only [RelV] at hx
    obtain ⟨rfl, -⟩ := hx
    obtain ⟨h1, h⟩ := h
    split at h
    · rename_i k2 hk
      have hu := und_of_tyInt hk
      have hk2 : P.intKind dst = k2 := by simp [Program.intKind, hu]
      refine done h rfl ?_
      have := run_convert_int (P := P) w src dst k n h1 (by rw [hk2]; exact hu)
      rwa [hk2] at this
    · exact h.elim
  · rename_i s
    simp only [RelV] at hx
    obtain ⟨rfl, -⟩ := hx
    obtain ⟨h1, h2, h⟩ := h
    refine done h rfl ?_
    simp [convert, run_underlying (und_of_tyStr h1), run_underlying (und_of_tyStr h2)]
  · exact h.elim

/-! ### Structs by value -/
/-- A value of one cell, for sure. -/
def AV.lf (hp : Hp) : AV → Bool
  | .val u => u.oneCell'
  | .list _ _ | .rop _ | .func _ _ | .iface _ _ | .junk => true
  | .ptr s ver _ => (hp.get s).1 == ver && match (hp.get s).2 with | .cells _ _ | .icc _ _ => true | _ => false
  | .ept s ver _ _ _ => (hp.get s).1 == ver && match (hp.get s).2 with | .row _ _ _ _ | .ice _ _ => true | _ => false
  | .own s ver _ _ _ => (hp.get s).1 == ver
  | .map s ver => (hp.get s).1 == ver
  | _ => false
def AV.cs (hp : Hp) : AV → Option (List AV)
  | .agg cs => some cs
  | x => if x.lf hp then some [x] else none
theorem RelV.lf {w : World} {c : Cx} {hp : Hp} (hi : Inv w c hp) {x : AV} {v : Value} (h : RelV w c x v) (hl : x.lf hp = true) : v.oneCell' = true := by
  cases x <;> simp only [AV.lf, Bool.false_eq_true, Bool.and_eq_true, beq_iff_eq] at hl
  case val u => simp only [RelV] at h; rw [h.1]; exact hl
  case junk => simpa only [RelV] using h
  case list k rows => simp only [RelV, RV] at h; obtain ⟨a, cap, rfl, _⟩ := h; rfl
  case rop cs => simp only [RelV, RV] at h; obtain ⟨a, cap, rfl, _⟩ := h; rfl
  case func f cap => simp only [RelV] at h; obtain ⟨vs, rfl, _⟩ := h; rfl
  case iface t y => simp only [RelV] at h; obtain ⟨u, rfl, _⟩ := h; rfl
  case ptr s ver off => simp only [RelV] at h; obtain ⟨b, cp, _, rfl⟩ := h.2 (by rw [← hl.1, hi.cur]); rfl
  case ept s ver k i off => simp only [RelV] at h; obtain ⟨b, cp, _, rfl⟩ := h.2 (by rw [← hl.1, hi.cur]); rfl
  case own s ver k off len =>
    simp only [RelV] at h
    have h2 := h.2 (by rw [← hl, hi.cur])
    split at h2
    · obtain ⟨_, _, rfl⟩ := h2; rfl
    · obtain ⟨_, a, rfl, _⟩ := h2; rfl
  case map s ver => simp only [RelV] at h; obtain ⟨b, cp, _, rfl⟩ := h.2 (by rw [← hl, hi.cur]); rfl
theorem cells_one {v : Value} (h : v.oneCell' = true) : v.cells = #[v] := by cases v <;> first | rfl | simp [Value.oneCell'] at h
/-- The cells of a value, as those of what it is told as. -/
theorem RelV.cells {w : World} {c : Cx} {hp : Hp} (hi : Inv w c hp) {x : AV} {v : Value} {l : List AV} (h : RelV w c x v) (hc : x.cs hp = some l) : RelL w c l v.cells.toList ∧ ∀ u ∈ v.cells.toList, u.oneCell' = true := by
  unfold AV.cs at hc
  split at hc
  · cases hc
    simp only [RelV] at h
    obtain ⟨vs, rfl, ho, h⟩ := h
    exact ⟨by simpa [Value.cells] using h, by simpa [Value.cells] using ho⟩
  · split at hc
    · rename_i hl
      cases hc
      have ho := h.lf hi hl
      rw [cells_one ho]
      simp only [RelL]
      exact ⟨⟨v, [], rfl, h, rfl⟩, by simpa using ho⟩
    · cases hc

def fillA (hp : Hp) (pl : List (Nat × Nat)) : List AV → List (Nat × AV) → Option (List AV)
  | cells, [] => some cells
  | cells, (i, x) :: rest => match pl[i]? with
    | some (off, n) => match x.cs hp with
      | some l => if l.length = n ∧ off + n ≤ cells.length then fillA hp pl (cells.take off ++ l ++ cells.drop (off + n)) rest else none
      | none => none
    | none => none
def ABuild (P : Program) (t : TypeId) (parts : List (Nat × AV)) (hp : Hp) (K : AV → Prop) : Prop :=
  match tyZ P t with
  | some z => match tyF P t with
    | some pl => match fillA hp pl z parts with
      | some cs => K (.agg cs)
      | none => False
    | none => False
  | none => False

theorem foldl_set_splice (off : Nat) (l : List Value) : ∀ (k : Nat) (cells : Array Value), off + k + l.length ≤ cells.size →
    ((l.zipIdx k).foldl (fun cs (x : Value × Nat) => cs.setIfInBounds (off + x.2) x.1) cells).toList = cells.toList.take (off + k) ++ l ++ cells.toList.drop (off + k + l.length) := by
  induction l with
  | nil => intro k cells h; simp
  | cons v l ih =>
    intro k cells h
    simp only [List.length_cons] at h
    simp only [List.zipIdx_cons, List.foldl_cons]
    rw [ih (k + 1) _ (by simp only [Array.size_setIfInBounds]; omega)]
    simp only [Array.toList_setIfInBounds, List.length_cons]
    rw [show off + (k + 1) = off + k + 1 by omega]
    rw [List.take_set, List.drop_set_of_lt (by omega)]
    have hlt : off + k < cells.toList.length := by simp; omega
    rw [List.take_succ_eq_append_getElem hlt, List.set_append, if_neg (by simp only [List.length_take]; omega)]
    simp only [List.length_take, List.append_assoc]
    rw [show off + k - min (off + k) cells.toList.length = 0 by omega]
    simp only [List.set_cons_zero, List.cons_append, List.nil_append]
    rw [show off + k + 1 + l.length = off + k + (l.length + 1) by omega]

def RelP (w : World) (c : Cx) : List (Nat × AV) → List (Nat × Value) → Prop
  | [], vs => vs = []
  | x :: xs, vs => ∃ v us, vs = (x.1, v) :: us ∧ RelV w c x.2 v ∧ RelP w c xs us
theorem fillA_sound {w : World} {c : Cx} {hp : Hp} (hi : Inv w c hp) {pl : List (Nat × Nat)} {parts : List (Nat × AV)} {cells res : List AV} (h : fillA hp pl cells parts = some res) {vs : List (Nat × Value)} {cv : Array Value}
    (hp' : RelP w c parts vs) (hc : RelL w c cells cv.toList) (hoc : ∀ u ∈ cv.toList, u.oneCell' = true) (place : Nat → Option (Nat × Nat)) (hpl : ∀ i x, pl[i]? = some x → place i = some x) :
    ∃ rv, Instr.fill place cv vs = some rv ∧ RelL w c res rv.toList ∧ ∀ u ∈ rv.toList, u.oneCell' = true := by
  induction parts generalizing cells cv vs with
  | nil =>
    simp only [RelP] at hp'
    subst hp'
    simp only [fillA, Option.some.injEq] at h
    subst h
    exact ⟨cv, rfl, hc, hoc⟩
  | cons x xs ih =>
    simp only [RelP] at hp'
    obtain ⟨v, ys, rfl, hr, hp'⟩ := hp'
    obtain ⟨i, a⟩ := x
    simp only [fillA] at h
    split at h
    · rename_i off n hpi
      split at h
      · rename_i l hl
        split at h
        · rename_i hn
          obtain ⟨hcv, hov⟩ := hr.cells hi hl
          have hlen := hcv.length
          have hlen2 := hc.length
          simp only [Array.length_toList] at hlen hlen2
          have key0 : (v.cells.zipIdx.foldl (fun cs (x : Value × Nat) => cs.setIfInBounds (off + x.2) x.1) cv).toList = cv.toList.take off ++ v.cells.toList ++ cv.toList.drop (off + n) := by
            rw [← Array.foldl_toList, Array.toList_zipIdx, foldl_set_splice off _ 0 cv (by simp only [Array.length_toList]; omega)]
            simp only [Nat.add_zero, Array.length_toList]
            rw [hlen, hn.1]
          have key : RelL w c (cells.take off ++ l ++ cells.drop (off + n)) (v.cells.zipIdx.foldl (fun cs (x : Value × Nat) => cs.setIfInBounds (off + x.2) x.1) cv).toList := by
            rw [key0]
            exact ((hc.take _).append hcv).append (hc.drop _)
          obtain ⟨rv, e1, e2⟩ := ih h hp' key (by
            rw [key0]
            intro u hu
            rcases List.mem_append.1 hu with hu | hu
            · rcases List.mem_append.1 hu with hu | hu
              · exact hoc u (List.mem_of_mem_take hu)
              · exact hov u hu
            · exact hoc u (List.mem_of_mem_drop hu))
          refine ⟨rv, ?_, e2⟩
          simp only [Instr.fill, hpl i _ hpi]
          rw [if_neg (by simp; omega)]
          exact e1
        · cases h
      · cases h
    · cases h

theorem mapM_places {P : Program} {w : World} (l : List Field) {pl : List (Nat × Nat)} (h : (l.mapM fun f => (tySz P f.type).map fun n => (f.offset, n)) = some pl) :
    (l.mapM fun f => (do pure (f.offset, ← sizeOf f.type) : Sem (Nat × Nat))).run P w = .ok pl w := by
  induction l generalizing pl with
  | nil => simp only [List.mapM_nil, Option.pure_def, Option.some.injEq] at h; subst h; simp
  | cons f l ih =>
    simp only [List.mapM_cons, Option.bind_eq_bind, Option.bind_eq_some_iff, Option.map_eq_some_iff, Option.pure_def, Option.some.injEq] at h
    obtain ⟨x, ⟨n, hn, rfl⟩, xs, hxs, rfl⟩ := h
    simp only [List.mapM_cons, Sem.run_bind, run_sizeOf w hn, Result.andThen_ok, Sem.run_pure, ih hxs]

theorem run_zero {P : Program} {t : TypeId} {z : List AV} (h : tyZ P t = some z) (w : World) (c : Cx) : ∃ v, (zeroValue t).run P w = .ok v w ∧ RelL w c z v.cells.toList ∧ (∀ u ∈ v.cells.toList, u.oneCell' = true) ∧ ∃ i, P.info? t = some i ∧ i.zero = some v := by
  unfold tyZ at h
  split at h
  · rename_i i hi
    split at h
    · rename_i v hz
      split at h
      · rename_i ha
        cases h
        rw [← Array.all_toList] at ha
        refine ⟨v, by simp [zeroValue, run_typeInfo w hi, hz], ?_, fun u hu => by have := List.all_eq_true.1 ha u hu; simp only [Bool.and_eq_true] at this; exact this.2, i, hi, hz⟩
        generalize v.cells.toList = l at ha ⊢
        induction l with
        | nil => simp only [List.map_nil, RelL]
        | cons x l ih =>
          simp only [List.all_cons, Bool.and_eq_true] at ha
          simp only [List.map_cons, RelL]
          exact ⟨x, l, rfl, by simp only [RelV]; exact ⟨trivial, ha.1.1⟩, ih ha.2⟩
      · cases h
    · cases h
  · cases h

theorem ABuild_sound {P : Program} {t : TypeId} {parts : List (Nat × AV)} {hp : Hp} {K : AV → Prop} (h : ABuild P t parts hp K) {w : World} {c : Cx} (hi : Inv w c hp) {vs : List (Nat × Value)}
    (hp' : RelP w c parts vs) :
    ∃ r a, (Instr.build t vs.toArray).run P w = .ok r w ∧ RelV w c a r ∧ K a := by
  unfold ABuild at h
  split at h
  · rename_i z hz
    split at h
    · rename_i pl hpl
      split at h
      · rename_i cs hcs
        obtain ⟨zv, hz1, hz2, hz3, _⟩ := run_zero hz w c
        have hu : ∃ fs : Array Field, P.underlying t = some (.struct fs) ∧ (fs.toList.mapM fun f => (tySz P f.type).map fun n => (f.offset, n)) = some pl := by
          unfold tyF at hpl
          split at hpl
          · exact ⟨_, by assumption, hpl⟩
          · cases hpl
        obtain ⟨fs, hu, hm⟩ := hu
        obtain ⟨rv, hf, hr, hor⟩ := fillA_sound hi hcs hp' (cv := zv.cells) hz2 hz3 (pl.toArray[·]?) (fun i x hx => by simpa using hx)
        refine ⟨.agg rv, _, ?_, ?_, h⟩
        · have hm2 := mapM_places (w := w) fs.toList hm
          have hm3 : (fs.mapM fun f => (do pure (f.offset, ← sizeOf f.type) : Sem (Nat × Nat))).run P w = .ok pl.toArray w := by
            rw [← Array.toArray_toList (xs := fs), List.mapM_toArray]
            simp only [Array.toArray_toList, Sem.run_map, hm2, Result.andThen_ok]
          simp only [Instr.build, Sem.run_bind, hz1, Result.andThen_ok, run_underlying hu, hm3, Sem.run_pure]
          rw [hf]
          rfl
        · simp only [RelV]
          exact ⟨rv.toList, by simp, hor, hr⟩
      · exact h.elim
    · exact h.elim
  · exact h.elim
end Go.Proofs.YtanbgeelphfggaaDoor.E
