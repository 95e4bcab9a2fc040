/- The abstract machine of this claim, part C: operations that leave the local heap as it is. No conditions. -/
import Derived.Test.YtanbgeelphfggaaDoorEngB
import Derived.Laws.Slices
import Derived.Laws.Small
import Derived.Laws.StructEq
namespace Go.Proofs.YtanbgeelphfggaaDoor.E
open Go
set_option linter.unusedSimpArgs false
set_option linter.unusedVariables false
set_option linter.unusedSectionVars false
set_option maxRecDepth 20000

/-! ### What is asked of the table of types -/
def tyAgg (P : Program) (t : TypeId) : Option Bool :=
  match P.underlying t with
  | some (.struct _) | some (.array _ _) => some true
  | some _ => some false
  | none => none
def tySz (P : Program) (t : TypeId) : Option Nat := (P.info? t).map (·.size)
def tyBy (P : Program) (t : TypeId) : Option Nat := (P.info? t).map (·.bytes)
def tyEl (P : Program) (t : TypeId) : Option TypeId :=
  match P.underlying t with
  | some (.slice e) => some e
  | _ => none
def tyInt (P : Program) (t : TypeId) : Option IntKind :=
  match P.underlying t with
  | some (.int k) => some k
  | _ => none
def tyBool (P : Program) (t : TypeId) : Bool :=
  match P.underlying t with
  | some .bool => true
  | _ => false
def tyStr (P : Program) (t : TypeId) : Bool :=
  match P.underlying t with
  | some .string => true
  | _ => false
def tyZ (P : Program) (t : TypeId) : Option (List AV) :=
  match P.info? t with
  | some i => match i.zero with
    | some z => if z.cells.all (fun u => plain u && u.oneCell') then some (z.cells.toList.map .val) else none
    | none => none
  | none => none
/-- A struct type's fields: where each begins, and its cells. -/
def tyF (P : Program) (t : TypeId) : Option (List (Nat × Nat)) :=
  match P.underlying t with
  | some (.struct fs) => fs.toList.mapM fun f => (tySz P f.type).map fun n => (f.offset, n)
  | _ => none
/-- A field of a struct type: where it begins, and its type. -/
def tyFT (P : Program) (t : TypeId) (j : Nat) : Option (Nat × TypeId) :=
  match P.underlying t with
  | some (.struct fs) => (fs[j]?).map fun f => (f.offset, f.type)
  | _ => none

section
variable {P : Program} (w : World)
theorem run_isAgg {t : TypeId} {b : Bool} (h : tyAgg P t = some b) : (isAgg t).run P w = .ok b w := by
  unfold tyAgg at h
  unfold isAgg
  split at h
  · rename_i fs e; simp only [Sem.run_bind, run_underlying e, Result.andThen_ok]; cases h; rfl
  · rename_i fs a e; simp only [Sem.run_bind, run_underlying e, Result.andThen_ok]; cases h; rfl
  · rename_i d h1 h2 e
    simp only [Sem.run_bind, run_underlying e, Result.andThen_ok]
    cases h
    cases d <;> first | rfl | exact absurd rfl (h1 _) | exact absurd rfl (h2 _ _)
  · cases h
theorem run_typeInfo {t : TypeId} {i : TypeInfo} (h : P.info? t = some i) : (typeInfo t).run P w = .ok i w := by
  simp [typeInfo, h]
theorem run_sizeOf {t : TypeId} {n : Nat} (h : tySz P t = some n) : (sizeOf t).run P w = .ok n w := by
  unfold tySz at h
  obtain ⟨i, hi, rfl⟩ := Option.map_eq_some_iff.1 h
  simp [sizeOf, run_typeInfo w hi]
theorem und_of_tyEl {t e : TypeId} (h : tyEl P t = some e) : P.underlying t = some (.slice e) := by
  unfold tyEl at h
  split at h
  · rename_i e' h1; cases h; exact h1
  · cases h
theorem und_of_tyInt {t : TypeId} {k : IntKind} (h : tyInt P t = some k) : P.underlying t = some (.int k) := by
  unfold tyInt at h
  split at h
  · rename_i e' h1; cases h; exact h1
  · cases h
theorem und_of_tyBool {t : TypeId} (h : tyBool P t = true) : P.underlying t = some .bool := by
  unfold tyBool at h
  split at h
  · assumption
  · cases h
theorem und_of_tyStr {t : TypeId} (h : tyStr P t = true) : P.underlying t = some .string := by
  unfold tyStr at h
  split at h
  · assumption
  · cases h
end

/-! ### Numbers, texts, bools -/
def AInt (op : BinOp) (k : IntKind) (a b : Int) (K : AV → Prop) : Prop :=
  match op with
  | .add => K (.val (.int k (k.wrap (a + b))))
  | .sub => K (.val (.int k (k.wrap (a - b))))
  | .mul => K (.val (.int k (k.wrap (a * b))))
  | .quo => b ≠ 0 ∧ K (.val (.int k (k.wrap (a.tdiv b))))
  | .rem => b ≠ 0 ∧ K (.val (.int k (a.tmod b)))
  | .and => K (.val (.int k (bits .and k a b)))
  | .or => K (.val (.int k (bits .or k a b)))
  | .xor => K (.val (.int k (bits .xor k a b)))
  | .andNot => K (.val (.int k (bits .andNot k a b)))
  | .eql => K (.val (.bool (a == b)))
  | .neq => K (.val (.bool (a != b)))
  | .lss => K (.val (.bool (decide (a < b))))
  | .leq => K (.val (.bool (decide (a ≤ b))))
  | .gtr => K (.val (.bool (decide (a > b))))
  | .geq => K (.val (.bool (decide (a ≥ b))))
  | _ => False
def AStr (op : BinOp) (x y : ByteArray) (K : AV → Prop) : Prop :=
  match op with
  | .add => x.size + y.size ≤ 9223372036854775807 ∧ K (.val (.string (x ++ y)))
  | .eql => K (.val (.bool (x.toList == y.toList)))
  | .neq => K (.val (.bool (!(x.toList == y.toList))))
  | .lss => K (.val (.bool (Op.bytesLess x.toList y.toList)))
  | .leq => K (.val (.bool (Op.bytesLess x.toList y.toList || x.toList == y.toList)))
  | .gtr => K (.val (.bool (!(Op.bytesLess x.toList y.toList || x.toList == y.toList))))
  | .geq => K (.val (.bool (!Op.bytesLess x.toList y.toList)))
  | _ => False
/-! ### Equality of structs -/
inductive EK | int (k : IntKind) | bool | str
  deriving DecidableEq
def ekOf : Value → Option EK
  | .int k _ => some (.int k)
  | .bool _ => some .bool
  | .string _ => some .str
  | _ => none
def vEq : Value → Value → Bool
  | .int _ a, .int _ b => a == b
  | .bool a, .bool b => a == b
  | .string a, .string b => a.toList == b.toList
  | _, _ => true
def vsEq : List Value → List Value → Bool
  | x :: xs, y :: ys => vEq x y && vsEq xs ys
  | _, _ => true
def eqFs (P : Program) (g : TypeId → Option (List EK)) : List Field → Nat → Option (List EK)
  | [], _ => some []
  | f :: fs, o => if f.name ≠ "_" ∧ f.offset = o then match g f.type with
      | some l => if tySz P f.type = some l.length then match eqFs P g fs (o + l.length) with
          | some r => some (l ++ r)
          | none => none
        else none
      | none => none
    else none
def eqSh (P : Program) : Nat → TypeId → Option (List EK)
  | 0, _ => none
  | d + 1, t => match P.underlying t with
    | some (.int k) => some [.int k]
    | some .bool => some [.bool]
    | some .string => some [.str]
    | some (.struct fs) => if P.stoodInHeld t = false then eqFs P (eqSh P d) fs.toList 0 else none
    | _ => none
theorem vsEq_append {xs ys xs' ys' : List Value} (h : xs.length = ys.length) : vsEq (xs ++ xs') (ys ++ ys') = (vsEq xs ys && vsEq xs' ys') := by
  induction xs generalizing ys with
  | nil => cases ys with
    | nil => simp [vsEq]
    | cons y ys => simp at h
  | cons x xs ih => cases ys with
    | nil => simp at h
    | cons y ys => simp only [List.cons_append, vsEq, ih (by simpa using h), Bool.and_assoc]
theorem ek_int {v : Value} {k : IntKind} (h : ekOf v = some (.int k)) : ∃ n, v = .int k n := by cases v <;> simp_all [ekOf]
theorem ek_bool {v : Value} (h : ekOf v = some .bool) : ∃ n, v = .bool n := by cases v <;> simp_all [ekOf]
theorem ek_str {v : Value} (h : ekOf v = some .str) : ∃ n, v = .string n := by cases v <;> simp_all [ekOf]
theorem one_of_map {l : List Value} {k : EK} (h : l.map ekOf = [k].map some) : ∃ v, l = [v] ∧ ekOf v = some k := by
  cases l with
  | nil => simp at h
  | cons v l => cases l with
    | nil => exact ⟨v, rfl, by simpa using h⟩
    | cons _ _ => simp at h
def Chunk (A : Array Value) (o : Nat) (l : List EK) : Prop := ((A.toList.drop o).take l.length).map ekOf = l.map some
theorem part_one {P : Program} (w : World) {t : TypeId} (ha : tyAgg P t = some false) {A : Array Value} {o : Nat} {v : Value} (h : (A.toList.drop o).take 1 = [v]) : (part t A o).run P w = .ok v w := by
  have h1 : A[o]? = some v := by
    have : ((A.toList.drop o).take 1)[0]? = some v := by rw [h]; rfl
    rw [List.getElem?_take] at this
    simpa using this
  simp only [part, Sem.run_bind, run_isAgg w ha, Result.andThen_ok, Bool.false_eq_true, if_false, h1]
  rfl
theorem part_agg {P : Program} (w : World) {t : TypeId} (ha : tyAgg P t = some true) {n : Nat} (hs : tySz P t = some n) {A : Array Value} {o : Nat} : (part t A o).run P w = .ok (.agg ((A.toList.drop o).take n).toArray) w := by
  simp only [part, Sem.run_bind, run_isAgg w ha, Result.andThen_ok, if_true, run_sizeOf w hs, Sem.run_pure]
  congr 2
  apply Array.toList_inj.1
  rw [Array.toList_extract]
  simp [List.extract]
theorem eqFs_sound {P : Program} {d : Nat} {g : TypeId → Option (List EK)} (hg : ∀ t l, g t = some l → tySz P t = some l.length → ∀ (w : World) (A B : Array Value) (o : Nat), Chunk A o l → Chunk B o l →
      ∃ a b, (part t A o).run P w = .ok a w ∧ (part t B o).run P w = .ok b w ∧ (Op.equalIn d t a b).run P w = .ok (vsEq ((A.toList.drop o).take l.length) ((B.toList.drop o).take l.length)) w)
    {fs : List Field} : ∀ {o : Nat} {l : List EK} (_ : eqFs P g fs o = some l) (w : World) (A B : Array Value), Chunk A o l → Chunk B o l →
      (Op.eqFields d A B fs).run P w = .ok (vsEq ((A.toList.drop o).take l.length) ((B.toList.drop o).take l.length)) w := by
  induction fs with
  | nil =>
    intro o l h w A B _ _
    simp only [eqFs, Option.some.injEq] at h
    subst h
    simp only [Op.eqFields, List.length_nil, List.take_zero, vsEq, Sem.run_pure]
  | cons f fs ih =>
    intro o l h w A B hA hB
    simp only [eqFs] at h
    split at h
    · rename_i hc
      obtain ⟨hn, rfl⟩ := hc
      split at h
      · rename_i l1 e1
        split at h
        · rename_i hs
          split at h
          · rename_i r e2
            cases h
            have cut : ∀ C : Array Value, (C.toList.drop f.offset).take (l1.length + r.length) = (C.toList.drop f.offset).take l1.length ++ (C.toList.drop (f.offset + l1.length)).take r.length := by
              intro C
              rw [List.take_add, List.drop_drop]
            have sp : ∀ C : Array Value, Chunk C f.offset (l1 ++ r) → Chunk C f.offset l1 ∧ Chunk C (f.offset + l1.length) r := by
              intro C hC
              unfold Chunk at hC ⊢
              rw [List.length_append, cut, List.map_append, List.map_append] at hC
              have hl : (((C.toList.drop f.offset).take l1.length).map ekOf).length = (l1.map some).length := by
                have h9 := congrArg List.length hC
                simp only [List.length_append, List.length_map, List.length_take, List.length_drop] at h9 ⊢
                omega
              exact List.append_inj hC hl
            obtain ⟨a1, a2⟩ := sp A hA
            obtain ⟨b1, b2⟩ := sp B hB
            obtain ⟨a, b, p1, p2, p3⟩ := hg _ _ e1 hs w A B _ a1 b1
            have hlen : ((A.toList.drop f.offset).take l1.length).length = ((B.toList.drop f.offset).take l1.length).length := by
              have x1 := congrArg List.length a1
              have x2 := congrArg List.length b1
              rw [List.length_map, List.length_map] at x1 x2
              rw [x1, x2]
            rw [List.length_append, cut A, cut B, vsEq_append hlen]
            simp only [Op.eqFields, Sem.run_bind, Sem.run_ite, hn, not_false_eq_true, if_true, ne_eq, p1, p2, p3, Result.andThen_ok]
            cases vsEq ((A.toList.drop f.offset).take l1.length) ((B.toList.drop f.offset).take l1.length)
            · simp
            · simp only [Bool.not_true, Bool.false_eq_true, if_false, Bool.true_and]
              exact ih e2 w A B a2 b2
          · cases h
        · cases h
      · cases h
    · cases h
theorem fields_eq {P : Program} {t : TypeId} {fs : Array Field} (h : P.underlying t = some (.struct fs)) : P.fieldsOf t = fs := by
  simp only [Program.fieldsOf, h]
theorem eqSh_part {P : Program} (e d : Nat) : ∀ t l, eqSh P d t = some l → tySz P t = some l.length → ∀ (w : World) (A B : Array Value) (o : Nat), Chunk A o l → Chunk B o l →
      ∃ a b, (part t A o).run P w = .ok a w ∧ (part t B o).run P w = .ok b w ∧ (Op.equalIn (e + d) t a b).run P w = .ok (vsEq ((A.toList.drop o).take l.length) ((B.toList.drop o).take l.length)) w := by
  induction d with
  | zero => intro t l h; simp [eqSh] at h
  | succ d ih =>
    intro t l h hs w A B o hA hB
    unfold eqSh at h
    split at h
    · rename_i k hu
      cases h
      obtain ⟨u, hu1, hu2⟩ := one_of_map hA
      obtain ⟨v, hv1, hv2⟩ := one_of_map hB
      obtain ⟨n, rfl⟩ := ek_int hu2
      obtain ⟨m, rfl⟩ := ek_int hv2
      have ha : tyAgg P t = some false := by simp [tyAgg, hu]
      refine ⟨_, _, part_one w ha hu1, part_one w ha hv1, ?_⟩
      rw [hu1, hv1]
      simp only [vsEq, vEq, Bool.and_true]
      exact run_equalIn_int w (e + d) t k k n m hu
    · rename_i hu
      cases h
      obtain ⟨u, hu1, hu2⟩ := one_of_map hA
      obtain ⟨v, hv1, hv2⟩ := one_of_map hB
      obtain ⟨n, rfl⟩ := ek_bool hu2
      obtain ⟨m, rfl⟩ := ek_bool hv2
      have ha : tyAgg P t = some false := by simp [tyAgg, hu]
      refine ⟨_, _, part_one w ha hu1, part_one w ha hv1, ?_⟩
      rw [hu1, hv1]
      simp only [vsEq, vEq, Bool.and_true]
      exact run_equalIn_bool' w (e + d) t n m hu
    · rename_i hu
      cases h
      obtain ⟨u, hu1, hu2⟩ := one_of_map hA
      obtain ⟨v, hv1, hv2⟩ := one_of_map hB
      obtain ⟨n, rfl⟩ := ek_str hu2
      obtain ⟨m, rfl⟩ := ek_str hv2
      have ha : tyAgg P t = some false := by simp [tyAgg, hu]
      refine ⟨_, _, part_one w ha hu1, part_one w ha hv1, ?_⟩
      rw [hu1, hv1]
      simp only [vsEq, vEq, Bool.and_true]
      exact run_equalIn_string w (e + d) t n m hu
    · rename_i fs hu
      split at h
      · rename_i hh
        have ha : tyAgg P t = some true := by simp [tyAgg, hu]
        refine ⟨_, _, part_agg w ha hs, part_agg w ha hs, ?_⟩
        have hf := fields_eq hu
        rw [show e + (d + 1) = (e + d) + 1 from rfl, run_equalIn_agg w (e + d) t _ _ (by rw [hf]; exact hu) hh, hf]
        have := eqFs_sound ih h w ((A.toList.drop o).take l.length).toArray ((B.toList.drop o).take l.length).toArray (by unfold Chunk at hA ⊢; simpa [List.take_take] using hA) (by unfold Chunk at hB ⊢; simpa [List.take_take] using hB)
        simpa [List.take_take] using this
      · cases h
    · cases h
/-- What the kinds of the cells of a type are that may be compared. -/
def tyEq (P : Program) (t : TypeId) : Option (List EK) :=
  match P.underlying t with
  | some (.struct _) => if P.eqGuardType P.depth t = false then eqSh P 5 t else none
  | _ => none
def ekA : AV → Option EK
  | .val v => ekOf v
  | _ => none
def eqA : List AV → List AV → Bool
  | .val x :: xs, .val y :: ys => vEq x y && eqA xs ys
  | _, _ => true
theorem run_equal_struct {P : Program} (w : World) {t : TypeId} {l : List EK} (h : tyEq P t = some l) {xs ys : List Value} (hx : xs.map ekOf = l.map some) (hy : ys.map ekOf = l.map some) : (Op.equalIn 10000 t (.agg xs.toArray) (.agg ys.toArray)).run P w = .ok (vsEq xs ys) w := by
  unfold tyEq at h
  split at h
  · rename_i fs hu
    split at h
    · rename_i hg
      unfold eqSh at h
      rw [hu] at h
      simp only at h
      split at h
      · rename_i hh
        have hf := fields_eq hu
        rw [show 10000 = (9995 + 4) + 1 from rfl, run_equalIn_agg w (9995 + 4) t _ _ (by rw [hf]; exact hu) hh, hf]
        have lx := congrArg List.length hx
        have ly := congrArg List.length hy
        simp only [List.length_map] at lx ly
        have := eqFs_sound (eqSh_part 9995 4) h w xs.toArray ys.toArray (by unfold Chunk; simpa [← lx] using hx) (by unfold Chunk; simpa [← ly] using hy)
        rw [this]
        simp only [List.toList_toArray, List.drop_zero]
        rw [← lx, List.take_length, lx, ← ly, List.take_length]
      · cases h
    · cases h
  · cases h
def AEqS (s : Option (List EK)) (xs ys : List AV) (K : Bool → Prop) : Prop :=
  match s with
  | some l => xs.map ekA = l.map some ∧ ys.map ekA = l.map some ∧ K (eqA xs ys)
  | none => False
def ABin (P : Program) (op : BinOp) (t : TypeId) (x y : AV) (K : AV → Prop) : Prop :=
  match x, y with
  | .val (.int k a), .val (.int k' b) =>
    match op with
    | .shl => 0 ≤ b ∧ K (.val (.int k (k.wrap (a * 2 ^ min b.toNat k.bits))))
    | .shr => 0 ≤ b ∧ K (.val (.int k (a.fdiv (2 ^ min b.toNat k.bits))))
    | op => k = k' ∧ AInt op k a b K
  | .val (.string a), .val (.string b) => AStr op a b K
  | .val (.bool a), .val (.bool b) =>
    match op with
    | .eql => tyBool P t = true ∧ K (.val (.bool (a == b)))
    | .neq => tyBool P t = true ∧ K (.val (.bool (a != b)))
    | _ => False
  | .agg xs, .agg ys =>
    match op with
    | .eql => AEqS (tyEq P t) xs ys fun b => K (.val (.bool b))
    | .neq => AEqS (tyEq P t) xs ys fun b => K (.val (.bool (!b)))
    | _ => False
  | _, _ => False

theorem done {P : Program} {m : Sem Value} {w : World} {c : Cx} {K : AV → Prop} {u : Value} (h : K (.val u)) (hp : plain u = true) (hr : m.run P w = .ok u w) :
    ∃ r a, m.run P w = .ok r w ∧ RelV w c a r ∧ K a := ⟨u, .val u, hr, by simp only [RelV]; exact ⟨trivial, hp⟩, h⟩

theorem AInt_sound {P : Program} {op : BinOp} {t : TypeId} {k : IntKind} {a b : Int} {K : AV → Prop} (h : AInt op k a b K) {w : World} {c : Cx} :
    ∃ r a', (binOp op t (.int k a) (.int k b)).run P w = .ok r w ∧ RelV w c a' r ∧ K a' := by
  cases op <;> simp only [AInt] at h
  case quo => exact done h.2 rfl (by simp only [binOp_quo, Op.intDiv]; rw [if_neg h.1]; rfl)
  case rem => exact done h.2 rfl (by simp only [binOp_rem, Op.intDiv]; rw [if_neg h.1]; rfl)
  all_goals first
    | exact done h rfl (by simp only [binOp_add, binOp_sub, binOp_mul, Op.intArith, Sem.run_pure])
    | exact done h rfl (by simp only [binOp_and, binOp_or, binOp_xor, binOp_andNot, intBits_and, intBits_or, intBits_xor, intBits_andNot, Sem.run_pure])
    | exact done h rfl (by simp only [binOp_eql, binOp_neq, binOp_lss, binOp_leq, binOp_gtr, binOp_geq, Sem.run_pure])

theorem AStr_sound {P : Program} {op : BinOp} {t : TypeId} {a b : ByteArray} {K : AV → Prop} (h : AStr op a b K) {w : World} {c : Cx} :
    ∃ r a', (binOp op t (.string a) (.string b)).run P w = .ok r w ∧ RelV w c a' r ∧ K a' := by
  have hb : binOp op t (.string a) (.string b) = Op.stringOp op a b := by cases op <;> rfl
  rw [hb]
  cases op <;> simp only [AStr] at h
  case add => exact done h.2 rfl (by simp only [Op.stringOp]; rw [if_neg (by rw [IntKind.max_i64]; omega)]; rfl)
  all_goals exact done h rfl (by simp only [Op.stringOp, Sem.run_pure])

theorem vals_of_ek {w : World} {c : Cx} {xs : List AV} {l : List EK} {vs : List Value} (h : xs.map ekA = l.map some) (hr : RelL w c xs vs) : xs = vs.map .val ∧ vs.map ekOf = l.map some := by
  induction xs generalizing l vs with
  | nil => cases l with
    | nil => simp only [RelL] at hr; subst hr; simp
    | cons k l => simp at h
  | cons x xs ih => cases l with
    | nil => simp at h
    | cons k l =>
      simp only [List.map_cons, List.cons.injEq] at h
      simp only [RelL] at hr
      obtain ⟨u, us, rfl, h1, h2⟩ := hr
      obtain ⟨e1, e2⟩ := ih h.2 h2
      cases x <;> simp only [ekA, reduceCtorEq, false_and] at h
      rename_i v
      simp only [RelV] at h1
      obtain ⟨rfl, -⟩ := h1
      subst e1
      simp only [List.map_cons, h.1, e2]
      exact ⟨trivial, trivial⟩
theorem eqA_vals (xs ys : List Value) : eqA (xs.map .val) (ys.map .val) = vsEq xs ys := by
  induction xs generalizing ys with
  | nil => cases ys <;> rfl
  | cons x xs ih => cases ys with
    | nil => rfl
    | cons y ys => simp only [List.map_cons, eqA, vsEq, ih]
theorem AEqS_sound {P : Program} {t : TypeId} {xs ys : List AV} {K : Bool → Prop} (h : AEqS (tyEq P t) xs ys K) {w : World} {c : Cx} {us vs : List Value} (hx : RelL w c xs us) (hy : RelL w c ys vs) (op : BinOp) (xo yo : Operand) :
    (eqGuard op t xo yo (.agg us.toArray) (.agg vs.toArray)).run P w = .ok () w ∧ ∃ b, (Op.equalIn 10000 t (.agg us.toArray) (.agg vs.toArray)).run P w = .ok b w ∧ K b := by
  unfold AEqS at h
  split at h
  · rename_i l e
    obtain ⟨h1, h2, h3⟩ := h
    obtain ⟨rfl, a2⟩ := vals_of_ek h1 hx
    obtain ⟨rfl, b2⟩ := vals_of_ek h2 hy
    rw [eqA_vals] at h3
    refine ⟨run_eqGuard_agg w op t xo yo _ _ ?_, _, run_equal_struct w e a2 b2, h3⟩
    unfold tyEq at e
    split at e
    · split at e
      · assumption
      · cases e
    · cases e
  · exact h.elim
theorem ABin_sound {P : Program} {op : BinOp} {t : TypeId} {x y : AV} {K : AV → Prop} (h : ABin P op t x y K) (xo yo : Operand) {w : World} {c : Cx} {u v : Value} (hx : RelV w c x u) (hy : RelV w c y v) :
    ∃ r a, ((do eqGuard op t xo yo u v; binOp op t u v : Sem Value)).run P w = .ok r w ∧ RelV w c a r ∧ K a := by
  unfold ABin at h
  split at h
  · rename_i k a k' b
    simp only [RelV] at hx hy
    obtain ⟨rfl, -⟩ := hx
    obtain ⟨rfl, -⟩ := hy
    simp only [eqGuard_at_int, Sem.run_bind, Sem.run_pure, Result.andThen_ok]
    split at h
    · exact done h.2 rfl (by simp only [binOp_shl, Op.shift]; rw [if_neg (by omega)]; rfl)
    · exact done h.2 rfl (by simp only [binOp_shr, Op.shift]; rw [if_neg (by omega)]; rfl)
    · obtain ⟨rfl, h⟩ := h
      exact AInt_sound h
  · rename_i a b
    simp only [RelV] at hx hy
    obtain ⟨rfl, -⟩ := hx
    obtain ⟨rfl, -⟩ := hy
    simp only [eqGuard_at_string, Sem.run_bind, Sem.run_pure, Result.andThen_ok]
    exact AStr_sound h
  · rename_i a b
    simp only [RelV] at hx hy
    obtain ⟨rfl, -⟩ := hx
    obtain ⟨rfl, -⟩ := hy
    simp only [eqGuard_at_bool, Sem.run_bind, Sem.run_pure, Result.andThen_ok]
    split at h
    · refine done h.2 rfl ?_
      show (do pure (.bool (← Op.equal t (.bool a) (.bool b))) : Sem Value).run P w = _
      simp only [Sem.run_bind, run_equal_bool w t a b (und_of_tyBool h.1), Result.andThen_ok, Sem.run_pure]
    · refine done h.2 rfl ?_
      show (do pure (.bool (!(← Op.equal t (.bool a) (.bool b)))) : Sem Value).run P w = _
      simp only [Sem.run_bind, run_equal_bool w t a b (und_of_tyBool h.1), Result.andThen_ok, Sem.run_pure, bne]
    · exact h.elim
  · rename_i xs ys
    simp only [RelV] at hx hy
    obtain ⟨us, rfl, -, hx⟩ := hx
    obtain ⟨vs, rfl, -, hy⟩ := hy
    split at h
    · obtain ⟨g, b, e, hk⟩ := AEqS_sound h hx hy .eql xo yo
      refine done hk rfl ?_
      simp only [Sem.run_bind, g, Result.andThen_ok, run_eql_struct, e]
    · obtain ⟨g, b, e, hk⟩ := AEqS_sound h hx hy .neq xo yo
      refine done hk rfl ?_
      simp only [Sem.run_bind, g, Result.andThen_ok, run_neq_struct, e]
    · exact h.elim
  · exact h.elim
end Go.Proofs.YtanbgeelphfggaaDoor.E
