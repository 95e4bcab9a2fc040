/- The abstract machine of this claim, part M: its operations as equations, for the walk. No conditions. -/
import Derived.Test.YtanbgeelphfggaaDoorEngX
namespace Go.Proofs.YtanbgeelphfggaaDoor.E
open Go
set_option linter.unusedSimpArgs false
set_option linter.unusedVariables false
set_option linter.unusedSectionVars false
set_option maxRecDepth 20000

def puts (tm : List (Nat × AV)) (hp : Hp) (n : Nat) : Option Nat → AV → ASt
  | none, _ => ⟨tm, hp, n⟩
  | some d, v => if d < n then ⟨tset tm d v, hp, n⟩ else ⟨tm, hp, n⟩
theorem put_eq (tm : List (Nat × AV)) (hp : Hp) (n : Nat) (d : Option Nat) (v : AV) : ASt.put ⟨tm, hp, n⟩ d v = puts tm hp n d v := by cases d <;> rfl
/-- What follows, behind a value. -/
def kp (dst : Option Nat) (tm : List (Nat × AV)) (hp : Hp) (n : Nat) (K : ASt → Prop) (v : AV) : Prop := K (puts tm hp n dst v)
/-- What follows, behind a value and a local heap. -/
def kq (dst : Option Nat) (tm : List (Nat × AV)) (n : Nat) (K : ASt → Prop) (v : AV) (hp : Hp) : Prop := K (puts tm hp n dst v)
def kh (dst : Option Nat) (tm : List (Nat × AV)) (n : Nat) (K : ASt → Prop) (hp : Hp) : Prop := K (puts tm hp n dst (.val (.tuple #[])))
def kr (K : AV → Hp → Prop) (hp : Hp) (v : AV) : Prop := K v hp
def siteD : Option Nat → Site
  | some d => .l d
  | none => .l 1000000
section
variable {P : Program} {gd : List (Option Nat)} {rest : List Oper} {K : ASt → Prop} {tm : List (Nat × AV)} {hp : Hp} {n : Nat} {dst : Option Nat} {ty : TypeId} {pos : String} {aft : Array Edge} {g : Option (Nat × Bool)}
theorem kp_eq (v : AV) : kp dst tm hp n K v = K (puts tm hp n dst v) := rfl
theorem kq_eq (v : AV) : kq dst tm n K v hp = K (puts tm hp n dst v) := rfl
theorem kh_eq : kh dst tm n K hp = K (puts tm hp n dst (.val (.tuple #[]))) := rfl
theorem kr_eq (K : AV → Hp → Prop) (v : AV) : kr K hp v = K v hp := rfl
theorem fold_kp : (fun v => K (ASt.put ⟨tm, hp, n⟩ dst v)) = kp dst tm hp n K := by funext v; simp only [put_eq, kp]
theorem fold_kq : (fun v hp' => K (ASt.put ⟨tm, hp', n⟩ dst v)) = kq dst tm n K := by funext v hp'; simp only [put_eq, kq]
theorem site_eq (op : Op) : siteOf ⟨dst, op, ty, pos, aft, g⟩ = siteD dst := by cases dst <;> rfl

theorem o_nil (st : ASt) : AOps P gd [] K st = K st := rfl
theorem o_plain (op : Op) (st : ASt) : AOps P gd (⟨dst, op, ty, pos, aft, none⟩ :: rest) K st = AStep P ⟨dst, op, ty, pos, aft, none⟩ (AOps P gd rest K) st := rfl
/-- A guarded operation: its guard's temporary, what it is, the step, what follows. -/
def AG (P : Program) (gd : List (Option Nat)) (o : Oper) (rest : List Oper) (K : ASt → Prop) (b : Bool) (tm : List (Nat × AV)) (hp : Hp) (n : Nat) : Option Nat → AV → Prop
  | some t, .val (.bool q) => (q = b → AStep P o (AOps P gd rest K) (puts tm hp n (some t) (.val (.bool b)))) ∧ (q = !b → AOps P gd rest K (ASt.put (puts tm hp n (some t) (.val (.bool !b))) o.dst (.val (.tuple #[]))))
  | some _, .val (.tuple _) => AOps P gd rest K (puts tm hp n o.dst (.val (.tuple #[])))
  | _, _ => False
def gget (tm : List (Nat × AV)) : Option Nat → AV
  | some t => tget tm t
  | none => .dead
theorem o_guard (op : Op) (j : Nat) (b : Bool) : AOps P gd (⟨dst, op, ty, pos, aft, some (j, b)⟩ :: rest) K ⟨tm, hp, n⟩ = AG P gd ⟨dst, op, ty, pos, aft, some (j, b)⟩ rest K b tm hp n (dstAt gd j) (gget tm (dstAt gd j)) := by
  simp only [AOps]
  cases dstAt gd j with
  | none => rfl
  | some t =>
    simp only [gget]
    cases tget tm t with
    | val v => cases v <;> simp only [AGuard, AG, put_eq]
    | _ => rfl

theorem ag_t (o : Oper) (tm : List (Nat × AV)) (hp : Hp) (n t : Nat) (q : Bool) : AG P gd o rest K true tm hp n (some t) (.val (.bool q)) =
    (if q = true then AStep P o (AOps P gd rest K) (puts tm hp n (some t) (.val (.bool true))) else AOps P gd rest K (ASt.put (puts tm hp n (some t) (.val (.bool false))) o.dst (.val (.tuple #[])))) := by
  cases q <;> simp [AG]
theorem ag_f (o : Oper) (tm : List (Nat × AV)) (hp : Hp) (n t : Nat) (q : Bool) : AG P gd o rest K false tm hp n (some t) (.val (.bool q)) =
    (if q = true then AOps P gd rest K (ASt.put (puts tm hp n (some t) (.val (.bool true))) o.dst (.val (.tuple #[]))) else AStep P o (AOps P gd rest K) (puts tm hp n (some t) (.val (.bool false)))) := by
  cases q <;> simp [AG]
theorem ag_tup (o : Oper) (tm : List (Nat × AV)) (hp : Hp) (n t : Nat) (b : Bool) (l : Array Value) : AG P gd o rest K b tm hp n (some t) (.val (.tuple l)) = AOps P gd rest K (puts tm hp n o.dst (.val (.tuple #[]))) := rfl
theorem s_move (x : Operand) : AStep P ⟨dst, .move x, ty, pos, aft, g⟩ K ⟨tm, hp, n⟩ = K (puts tm hp n dst (ev tm x)) := by simp only [AStep, ADo, put_eq]
theorem s_assign (x : Operand) : AStep P ⟨dst, .assign x, ty, pos, aft, g⟩ K ⟨tm, hp, n⟩ = K (puts tm hp n dst (ev tm x)) := by simp only [AStep, ADo, put_eq]
theorem s_pick (x y z : Operand) : AStep P ⟨dst, .pick x y z, ty, pos, aft, g⟩ K ⟨tm, hp, n⟩ = APick (ev tm x) (ev tm y) (ev tm z) (kp dst tm hp n K) := by simp only [AStep, ADo]; rw [fold_kp]
theorem s_alloc (t : TypeId) : AStep P ⟨dst, .alloc t, ty, pos, aft, g⟩ K ⟨tm, hp, n⟩ = AAlloc P t (siteD dst) hp (kq dst tm n K) := by simp only [AStep, ADo, site_eq]; rw [fold_kq]
theorem s_box (t : TypeId) (x : Operand) : AStep P ⟨dst, .box t x, ty, pos, aft, g⟩ K ⟨tm, hp, n⟩ = ABox t (ev tm x) (siteD dst) hp (kq dst tm n K) := by simp only [AStep, ADo, site_eq]; rw [fold_kq]
theorem s_build (t : TypeId) (ps : Array (Nat × Operand)) : AStep P ⟨dst, .build t ps, ty, pos, aft, g⟩ K ⟨tm, hp, n⟩ = ABuild P t (ps.toList.map fun p => (p.1, ev tm p.2)) hp (kp dst tm hp n K) := by simp only [AStep, ADo]; rw [fold_kp]
theorem s_buildSlice (t : TypeId) (m : Nat) (ps : Array (Nat × Operand)) : AStep P ⟨dst, .buildSlice t m ps, ty, pos, aft, g⟩ K ⟨tm, hp, n⟩ = ABuildF P t m (ps.toList.map (·.1)) (siteD dst) (kq dst tm n K) (passL hp (ps.toList.map fun p => ev tm p.2)) := by simp only [AStep, ADo, site_eq]; rw [fold_kq]
theorem s_load (t : TypeId) (x : Operand) : AStep P ⟨dst, .load t x, ty, pos, aft, g⟩ K ⟨tm, hp, n⟩ = ALoad P t (ev tm x) hp (kp dst tm hp n K) := by simp only [AStep, ADo]; rw [fold_kp]
theorem s_store (t : TypeId) (x y : Operand) : AStep P ⟨dst, .store t x y, ty, pos, aft, g⟩ K ⟨tm, hp, n⟩ = AStoreF P t (ev tm x) (ev tm y) hp (kh dst tm n K) := by
  simp only [AStep, ADo]
  have : (fun hp' => K (ASt.put ⟨tm, hp', n⟩ dst (.val (.tuple #[])))) = kh dst tm n K := by funext hp'; simp only [put_eq, kh]
  rw [this]
theorem s_nilCheck (x : Operand) : AStep P ⟨dst, .nilCheck x, ty, pos, aft, g⟩ K ⟨tm, hp, n⟩ = ANilCheck (ev tm x) hp (kp dst tm hp n K) := by simp only [AStep, ADo]; rw [fold_kp]
theorem s_bin (op : BinOp) (t u : TypeId) (x y : Operand) : AStep P ⟨dst, .binOp op t x y u, ty, pos, aft, g⟩ K ⟨tm, hp, n⟩ = if nilC P t y = true then ANil P op t (ev tm x) hp (kp dst tm hp n K) else ABin P op t (ev tm x) (ev tm y) (kp dst tm hp n K) := by simp only [AStep, ADo]; rw [fold_kp]
theorem nilC_tmp (t : TypeId) (i : Nat) : nilC P t (.tmp i) = false := rfl
theorem nilC_int (t : TypeId) (k : IntKind) (i : Int) : nilC P t (.const (.int k i)) = false := rfl
theorem nilC_bool (t : TypeId) (i : Bool) : nilC P t (.const (.bool i)) = false := rfl
theorem nilC_str (t : TypeId) (i : ByteArray) : nilC P t (.const (.string i)) = false := rfl
theorem nilC_agg (t : TypeId) (i : Array Value) : nilC P t (.const (.agg i)) = false := rfl
theorem nilC_slice (t : TypeId) : nilC P t (.const (.slice none 0 0)) = (tyNil P t == some .slice) := rfl
theorem nilC_ptr (t : TypeId) : nilC P t (.const (.pointer none)) = (tyNil P t == some .pointer) := rfl
theorem nilC_map (t : TypeId) : nilC P t (.const (.map none)) = (tyNil P t == some .map) := rfl
theorem nilC_func (t : TypeId) : nilC P t (.const .nilFunc) = (tyNil P t == some .func) := rfl
theorem nilC_iface (t : TypeId) : nilC P t (.const .nilIface) = (tyNil P t == some .iface) := rfl
theorem s_field (t : TypeId) (x : Operand) (j : Nat) : AStep P ⟨dst, .field t x j, ty, pos, aft, g⟩ K ⟨tm, hp, n⟩ = AField P t (ev tm x) j (kp dst tm hp n K) := by simp only [AStep, ADo]; rw [fold_kp]
theorem s_lookup (t : TypeId) (x i : Operand) (ok : Bool) : AStep P ⟨dst, .lookup t x i ok, ty, pos, aft, g⟩ K ⟨tm, hp, n⟩ = ALookup P t (ev tm x) (ev tm i) ok hp (kp dst tm hp n K) := by simp only [AStep, ADo]; rw [fold_kp]
theorem s_mapUpdate (t : TypeId) (m k x : Operand) : AStep P ⟨dst, .mapUpdate t m k x, ty, pos, aft, g⟩ K ⟨tm, hp, n⟩ = AMapUpd P t (ev tm m) (ev tm k) (ev tm x) hp (kh dst tm n K) := by
  simp only [AStep, ADo]
  have : (fun hp' => K (ASt.put ⟨tm, hp', n⟩ dst (.val (.tuple #[])))) = kh dst tm n K := by funext hp'; simp only [put_eq, kh]
  rw [this]
theorem s_makeMap (t : TypeId) : AStep P ⟨dst, .makeMap t none, ty, pos, aft, g⟩ K ⟨tm, hp, n⟩ = AMakeMap P t (siteD dst) hp (kq dst tm n K) := by simp only [AStep, ADo, site_eq, true_and]; rw [fold_kq]
theorem s_copy (x y : Operand) (ts : Array TypeId) : AStep P ⟨dst, .call ⟨.builtin .copy, #[x, y], ts⟩, ty, pos, aft, g⟩ K ⟨tm, hp, n⟩ = ACopy P ts (ev tm x) (ev tm y) hp (kq dst tm n K) := by
  simp only [AStep, ADo, ACallOp, ABuiltin, List.map_cons, List.map_nil, site_eq]; rw [fold_kq]
theorem s_clear (x : Operand) (ts : Array TypeId) : AStep P ⟨dst, .call ⟨.builtin .clear, #[x], ts⟩, ty, pos, aft, g⟩ K ⟨tm, hp, n⟩ = AClear P ts (ev tm x) hp (kq dst tm n K) := by
  simp only [AStep, ADo, ACallOp, ABuiltin, List.map_cons, List.map_nil, site_eq]; rw [fold_kq]
theorem s_cap (x : Operand) (ts : Array TypeId) : AStep P ⟨dst, .call ⟨.builtin .cap, #[x], ts⟩, ty, pos, aft, g⟩ K ⟨tm, hp, n⟩ = ACap P ts (ev tm x) hp (kq dst tm n K) := by
  simp only [AStep, ADo, ACallOp, ABuiltin, List.map_cons, List.map_nil, site_eq]; rw [fold_kq]
theorem s_un (op : UnOp) (t : TypeId) (x : Operand) : AStep P ⟨dst, .unOp op t x, ty, pos, aft, g⟩ K ⟨tm, hp, n⟩ = AUn op (ev tm x) (kp dst tm hp n K) := by simp only [AStep, ADo]; rw [fold_kp]
theorem s_conv (s t : TypeId) (x : Operand) : AStep P ⟨dst, .convert s t x, ty, pos, aft, g⟩ K ⟨tm, hp, n⟩ = AConv P s t (ev tm x) (kp dst tm hp n K) := by simp only [AStep, ADo]; rw [fold_kp]
theorem s_iface (t : TypeId) (x : Operand) : AStep P ⟨dst, .makeInterface t x, ty, pos, aft, g⟩ K ⟨tm, hp, n⟩ = AIface P t (ev tm x) (kp dst tm hp n K) := by simp only [AStep, ADo]; rw [fold_kp]
theorem s_func (f : Fn) (fi ca : Array Operand) : AStep P ⟨dst, .makeFunc f fi ca, ty, pos, aft, g⟩ K ⟨tm, hp, n⟩ = AMakeFunc f fi (ca.toList.map (ev tm)) (kp dst tm hp n K) := by simp only [AStep, ADo]; rw [fold_kp]
theorem s_make (t : TypeId) (x y : Operand) : AStep P ⟨dst, .makeSlice t x y, ty, pos, aft, g⟩ K ⟨tm, hp, n⟩ = AMake P t (ev tm x) (ev tm y) (siteD dst) hp (kq dst tm n K) := by simp only [AStep, ADo, site_eq]; rw [fold_kq]
theorem s_slice (t : TypeId) (x : Operand) (lo hi : Option Operand) : AStep P ⟨dst, .slice t x lo hi none, ty, pos, aft, g⟩ K ⟨tm, hp, n⟩ = ASlice P t (ev tm x) (lo.map (ev tm)) (hi.map (ev tm)) hp (kp dst tm hp n K) := by
  simp only [AStep, ADo, true_and]; rw [fold_kp]
theorem s_fieldAddr (t : TypeId) (x : Operand) (j : Nat) : AStep P ⟨dst, .fieldAddr t x j, ty, pos, aft, g⟩ K ⟨tm, hp, n⟩ = AFieldAddr P t (ev tm x) j hp (kp dst tm hp n K) := by simp only [AStep, ADo]; rw [fold_kp]
theorem s_indexAddr (t : TypeId) (x i : Operand) : AStep P ⟨dst, .indexAddr t x i, ty, pos, aft, g⟩ K ⟨tm, hp, n⟩ = AIndexAddr P t (ev tm x) (ev tm i) hp (kp dst tm hp n K) := by simp only [AStep, ADo]; rw [fold_kp]
theorem s_index (t : TypeId) (x i : Operand) : AStep P ⟨dst, .index t x i, ty, pos, aft, g⟩ K ⟨tm, hp, n⟩ = AIndex P t (ev tm x) (ev tm i) (kp dst tm hp n K) := by simp only [AStep, ADo]; rw [fold_kp]
theorem s_extract (x : Operand) (i : Nat) : AStep P ⟨dst, .extract x i, ty, pos, aft, g⟩ K ⟨tm, hp, n⟩ = AExtract (ev tm x) i (kp dst tm hp n K) := by simp only [AStep, ADo]; rw [fold_kp]
/-- A call of a function value. -/
def ACallV (P : Program) (x : AV) (xs : List AV) (s : Site) (hp : Hp) (K : AV → Hp → Prop) : Prop :=
  match x with
  | .func f cap => AFn P f (xs ++ cap) s hp K
  | _ => False
theorem s_call (f : Operand) (xs : Array Operand) (ts : Array TypeId) : AStep P ⟨dst, .call ⟨.value f, xs, ts⟩, ty, pos, aft, g⟩ K ⟨tm, hp, n⟩ = ACallV P (ev tm f) (xs.toList.map (ev tm)) (siteD dst) hp (kq dst tm n K) := by
  simp only [AStep, ADo, ACallOp, ACallV, site_eq]
  cases ev tm f <;> first | rfl | (rw [fold_kq])
theorem c_func (f : FuncId) (cap xs : List AV) (s : Site) (K : AV → Hp → Prop) : ACallV P (.func f cap) xs s hp K = AFn P f (xs ++ cap) s hp K := rfl
theorem fn_eq (f : FuncId) (xs : List AV) (s : Site) (K : AV → Hp → Prop) : AFn P f xs s hp K = (callable P f = true ∧ ACallY P f xs s hp K (passL hp xs)) := rfl
theorem s_len (x : Operand) (t : TypeId) : AStep P ⟨dst, .call ⟨.builtin .len, #[x], #[t]⟩, ty, pos, aft, g⟩ K ⟨tm, hp, n⟩ = ALen P t (ev tm x) hp (kp dst tm hp n K) := by
  simp only [AStep, ADo, ACallOp, ABuiltin, List.map_cons, List.map_nil]; rw [fold_kp]
theorem s_append (x y : Operand) (ts : Array TypeId) : AStep P ⟨dst, .call ⟨.builtin .append, #[x, y], ts⟩, ty, pos, aft, g⟩ K ⟨tm, hp, n⟩ = AAppend P ts (ev tm x) (ev tm y) (siteD dst) hp (kq dst tm n K) := by
  simp only [AStep, ADo, ACallOp, ABuiltin, List.map_cons, List.map_nil, site_eq]; rw [fold_kq]
theorem s_max (x y : Operand) (ts : Array TypeId) : AStep P ⟨dst, .call ⟨.builtin .max, #[x, y], ts⟩, ty, pos, aft, g⟩ K ⟨tm, hp, n⟩ = AMax (ev tm x) (ev tm y) (kp dst tm hp n K) := by
  simp only [AStep, ADo, ACallOp, ABuiltin, List.map_cons, List.map_nil]; rw [fold_kp]
theorem s_min (x y : Operand) (ts : Array TypeId) : AStep P ⟨dst, .call ⟨.builtin .min, #[x, y], ts⟩, ty, pos, aft, g⟩ K ⟨tm, hp, n⟩ = AMin (ev tm x) (ev tm y) (kp dst tm hp n K) := by
  simp only [AStep, ADo, ACallOp, ABuiltin, List.map_cons, List.map_nil]; rw [fold_kp]
end

/-! ### Values -/
def kb (K : AV → Prop) (q : Bool) : Prop := K (.val (.bool q))
def kn (K : AV → Prop) (q : Bool) : Prop := K (.val (.bool (!q)))
section
variable {P : Program} {K : AV → Prop} {t : TypeId} {hp : Hp} {k kk : IntKind} {a b : Int}
theorem if_and (q : Bool) (X Y : Prop) : ((q = true → X) ∧ (q = false → Y)) = (if q = true then X else Y) := by cases q <;> simp
theorem pick_eq (q : Bool) (y z : AV) : APick (.val (.bool q)) y z K = (if q = true then K y else K z) := if_and q _ _
theorem b_shl : ABin P .shl t (.val (.int k a)) (.val (.int kk b)) K = (0 ≤ b ∧ K (.val (.int k (k.wrap (a * 2 ^ min b.toNat k.bits))))) := rfl
theorem b_shr : ABin P .shr t (.val (.int k a)) (.val (.int kk b)) K = (0 ≤ b ∧ K (.val (.int k (a.fdiv (2 ^ min b.toNat k.bits))))) := rfl
theorem b_add : ABin P .add t (.val (.int k a)) (.val (.int k b)) K = K (.val (.int k (k.wrap (a + b)))) := by simp only [ABin, AInt, true_and]
theorem b_sub : ABin P .sub t (.val (.int k a)) (.val (.int k b)) K = K (.val (.int k (k.wrap (a - b)))) := by simp only [ABin, AInt, true_and]
theorem b_mul : ABin P .mul t (.val (.int k a)) (.val (.int k b)) K = K (.val (.int k (k.wrap (a * b)))) := by simp only [ABin, AInt, true_and]
theorem b_quo : ABin P .quo t (.val (.int k a)) (.val (.int k b)) K = (b ≠ 0 ∧ K (.val (.int k (k.wrap (a.tdiv b))))) := by simp only [ABin, AInt, true_and]
theorem b_rem : ABin P .rem t (.val (.int k a)) (.val (.int k b)) K = (b ≠ 0 ∧ K (.val (.int k (a.tmod b)))) := by simp only [ABin, AInt, true_and]
theorem b_and : ABin P .and t (.val (.int k a)) (.val (.int k b)) K = K (.val (.int k (bits .and k a b))) := by simp only [ABin, AInt, true_and]
theorem b_or : ABin P .or t (.val (.int k a)) (.val (.int k b)) K = K (.val (.int k (bits .or k a b))) := by simp only [ABin, AInt, true_and]
theorem b_xor : ABin P .xor t (.val (.int k a)) (.val (.int k b)) K = K (.val (.int k (bits .xor k a b))) := by simp only [ABin, AInt, true_and]
theorem b_andNot : ABin P .andNot t (.val (.int k a)) (.val (.int k b)) K = K (.val (.int k (bits .andNot k a b))) := by simp only [ABin, AInt, true_and]
theorem b_eql : ABin P .eql t (.val (.int k a)) (.val (.int k b)) K = K (.val (.bool (a == b))) := by simp only [ABin, AInt, true_and]
theorem b_neq : ABin P .neq t (.val (.int k a)) (.val (.int k b)) K = K (.val (.bool (a != b))) := by simp only [ABin, AInt, true_and]
theorem b_lss : ABin P .lss t (.val (.int k a)) (.val (.int k b)) K = K (.val (.bool (decide (a < b)))) := by simp only [ABin, AInt, true_and]
theorem b_leq : ABin P .leq t (.val (.int k a)) (.val (.int k b)) K = K (.val (.bool (decide (a ≤ b)))) := by simp only [ABin, AInt, true_and]
theorem b_gtr : ABin P .gtr t (.val (.int k a)) (.val (.int k b)) K = K (.val (.bool (decide (a > b)))) := by simp only [ABin, AInt, true_and]
theorem b_geq : ABin P .geq t (.val (.int k a)) (.val (.int k b)) K = K (.val (.bool (decide (a ≥ b)))) := by simp only [ABin, AInt, true_and]
theorem b_str (op : BinOp) (x y : ByteArray) : ABin P op t (.val (.string x)) (.val (.string y)) K = AStr op x y K := rfl
theorem b_beql (x y : Bool) : ABin P .eql t (.val (.bool x)) (.val (.bool y)) K = (tyBool P t = true ∧ K (.val (.bool (x == y)))) := rfl
theorem b_bneq (x y : Bool) : ABin P .neq t (.val (.bool x)) (.val (.bool y)) K = (tyBool P t = true ∧ K (.val (.bool (x != y)))) := rfl
theorem b_aeql (xs ys : List AV) : ABin P .eql t (.agg xs) (.agg ys) K = AEqS (tyEq P t) xs ys (kb K) := rfl
theorem b_aneq (xs ys : List AV) : ABin P .neq t (.agg xs) (.agg ys) K = AEqS (tyEq P t) xs ys (kn K) := rfl
theorem aq_some (l : List EK) (xs ys : List AV) (K : Bool → Prop) : AEqS (some l) xs ys K = (xs.map ekA = l.map some ∧ ys.map ekA = l.map some ∧ K (eqA xs ys)) := rfl
theorem kb_eq (q : Bool) : kb K q = K (.val (.bool q)) := rfl
theorem kn_eq (q : Bool) : kn K q = K (.val (.bool (!q))) := rfl
theorem ek_i (n : Int) : ekA (.val (.int k n)) = some (.int k) := rfl
theorem ek_b (q : Bool) : ekA (.val (.bool q)) = some .bool := rfl
theorem ek_s (x : ByteArray) : ekA (.val (.string x)) = some .str := rfl
theorem eqA_i (x y : Int) (xs ys : List AV) : eqA (.val (.int k x) :: xs) (.val (.int kk y) :: ys) = (x == y && eqA xs ys) := rfl
theorem eqA_b (x y : Bool) (xs ys : List AV) : eqA (.val (.bool x) :: xs) (.val (.bool y) :: ys) = (x == y && eqA xs ys) := rfl
theorem eqA_s (x y : ByteArray) (xs ys : List AV) : eqA (.val (.string x) :: xs) (.val (.string y) :: ys) = (x.toList == y.toList && eqA xs ys) := rfl
theorem eqA_n : eqA [] [] = true := rfl
theorem t_add (x y : ByteArray) : AStr .add x y K = (x.size + y.size ≤ 9223372036854775807 ∧ K (.val (.string (x ++ y)))) := rfl
theorem t_eql (x y : ByteArray) : AStr .eql x y K = K (.val (.bool (x.toList == y.toList))) := rfl
theorem t_neq (x y : ByteArray) : AStr .neq x y K = K (.val (.bool (!(x.toList == y.toList)))) := rfl
theorem t_lss (x y : ByteArray) : AStr .lss x y K = K (.val (.bool (Op.bytesLess x.toList y.toList))) := rfl
theorem t_leq (x y : ByteArray) : AStr .leq x y K = K (.val (.bool (Op.bytesLess x.toList y.toList || x.toList == y.toList))) := rfl
theorem t_gtr (x y : ByteArray) : AStr .gtr x y K = K (.val (.bool (!(Op.bytesLess x.toList y.toList || x.toList == y.toList)))) := rfl
theorem t_geq (x y : ByteArray) : AStr .geq x y K = K (.val (.bool (!Op.bytesLess x.toList y.toList))) := rfl
theorem u_not (q : Bool) : AUn .not (.val (.bool q)) K = K (.val (.bool (!q))) := rfl
theorem u_neg : AUn .neg (.val (.int k a)) K = K (.val (.int k (k.wrap (0 - a)))) := rfl
theorem u_xor : AUn .xor (.val (.int k a)) K = K (.val (.int k (bits .xor k (if k.signed then -1 else k.max) a))) := rfl
def AConvI (K : AV → Prop) (n : Int) : Option IntKind → Prop
  | some k => K (.val (.int k (k.wrap n)))
  | none => False
theorem v_int (s d : TypeId) : AConv P s d (.val (.int k a)) K = ((P.underlying s).isSome = true ∧ AConvI K a (tyInt P d)) := by
  unfold AConv AConvI
  cases tyInt P d <;> rfl
theorem v_int_some : AConvI K a (some k) = K (.val (.int k (k.wrap a))) := rfl
theorem v_str (s d : TypeId) (x : ByteArray) : AConv P s d (.val (.string x)) K = (tyStr P s = true ∧ tyStr P d = true ∧ K (.val (.string x))) := rfl
theorem i_eq (x : AV) : AIface P t x K = (tyNoIf P t = true ∧ K (.iface t x)) := rfl
theorem f_eq (f : FuncId) (fi : Array Operand) (cap : List AV) : AMakeFunc (.func f) fi cap K = (fi.toList = [] ∧ K (.func f cap)) := rfl
theorem mx_eq : AMax (.val (.int k a)) (.val (.int kk b)) K = K (.val (.int k (if b > a then b else a))) := rfl
theorem mn_eq : AMin (.val (.int k a)) (.val (.int kk b)) K = K (.val (.int k (if b < a then b else a))) := rfl
theorem nc_rop (cs : List AV) : ANilCheck (.rop cs) hp K = K (.rop cs) := rfl
theorem nc_ptr (s : Site) (v o : Nat) : ANilCheck (.ptr s v o) hp K = ((hp.get s).1 = v ∧ K (.ptr s v o)) := rfl
theorem nc_ept (s : Site) (v k i o : Nat) : ANilCheck (.ept s v k i o) hp K = ((hp.get s).1 = v ∧ K (.ept s v k i o)) := rfl
theorem nc_func (f : FuncId) (cap : List AV) : ANilCheck (.func f cap) hp K = K (.func f cap) := rfl
theorem ln_str (s : ByteArray) : ALen P t (.val (.string s)) hp K = (tyStr P t = true ∧ K (.val (.int .i64 s.size))) := rfl
theorem ln_list (k : Nat) (rows : List (List AV)) : ALen P t (.list k rows) hp K = (tyEl P t ≠ none ∧ K (.val (.int .i64 rows.length))) := rfl
theorem ln_nil : ALen P t (.val (.slice none 0 0)) hp K = (tyEl P t ≠ none ∧ K (.val (.int .i64 0))) := rfl
theorem ln_own (s : Site) (ver k off len : Nat) : ALen P t (.own s ver k off len) hp K = (tyEl P t ≠ none ∧ (hp.get s).1 = ver ∧ K (.val (.int .i64 len))) := rfl

/-! Reads. -/
def AL1 (K : AV → Prop) : Option Bool → Option Nat → List AV → Prop
  | some true, some n, cs => n ≤ cs.length ∧ K (.agg (cs.take n))
  | some false, _, x :: _ => K x
  | _, _, _ => False
theorem l1_eq (cs : List AV) : ALoad1 P t cs K = AL1 K (tyAgg P t) (tySz P t) cs := by
  unfold ALoad1
  cases tyAgg P t with
  | none => rfl
  | some q => cases q <;> cases tySz P t <;> cases cs <;> rfl
theorem l1_agg (n : Nat) (cs : List AV) : AL1 K (some true) (some n) cs = (n ≤ cs.length ∧ K (.agg (cs.take n))) := rfl
theorem l1_one (o : Option Nat) (x : AV) (cs : List AV) : AL1 K (some false) o (x :: cs) = K x := rfl
def ALP (P : Program) (t : TypeId) (K : AV → Prop) (ver off : Nat) : Nat × Blk → Prop
  | (n, .cells _ cs) => n = ver ∧ ALoad1 P t (cs.drop off) K
  | (n, .icc _ cs) => n = ver ∧ ALoad1 P t (cs.drop off) K
  | _ => False
def ALE (P : Program) (t : TypeId) (K : AV → Prop) (ver k i off : Nat) : Nat × Blk → Prop
  | (n, .row _ k' _ rows) => n = ver ∧ k' = k ∧ ∃ r, rows[i]? = some r ∧ ALoad1 P t (r.drop off) K
  | (n, .ice k' rows) => n = ver ∧ k' = k ∧ ∃ r, rows[i]? = some r ∧ ALoad1 P t (r.drop off) K
  | _ => False
theorem ld_rop (cs : List AV) : ALoad P t (.rop cs) hp K = ALoad1 P t cs K := rfl
theorem ld_ptr (s : Site) (ver off : Nat) : ALoad P t (.ptr s ver off) hp K = ALP P t K ver off (hp.get s) := by
  simp only [ALoad]
  generalize hp.get s = x
  obtain ⟨n, b⟩ := x
  cases b <;> rfl
theorem ld_ept (s : Site) (ver k i off : Nat) : ALoad P t (.ept s ver k i off) hp K = ALE P t K ver k i off (hp.get s) := by
  simp only [ALoad]
  generalize hp.get s = x
  obtain ⟨n, b⟩ := x
  cases b <;> rfl
theorem lp_cells (ver off n : Nat) (t' : TypeId) (cs : List AV) : ALP P t K ver off (n, .cells t' cs) = (n = ver ∧ ALoad1 P t (cs.drop off) K) := rfl
theorem lp_icc (ver off n : Nat) (t' : TypeId) (cs : List AV) : ALP P t K ver off (n, .icc t' cs) = (n = ver ∧ ALoad1 P t (cs.drop off) K) := rfl
theorem le_ice (ver k i off n : Nat) (k' : Nat) (rows : List (List AV)) : ALE P t K ver k i off (n, .ice k' rows) = (n = ver ∧ k' = k ∧ ∃ r, rows[i]? = some r ∧ ALoad1 P t (r.drop off) K) := rfl
theorem le_row (ver k i off n : Nat) (t' : TypeId) (k' : Nat) (q : Option Nat) (rows : List (List AV)) : ALE P t K ver k i off (n, .row t' k' q rows) = (n = ver ∧ k' = k ∧ ∃ r, rows[i]? = some r ∧ ALoad1 P t (r.drop off) K) := rfl

/-! Addresses. -/
def AFA (hp : Hp) (K : AV → Prop) : Option Nat → AV → Prop
  | some off, .rop cs => K (.rop (cs.drop off))
  | some off, .ptr s v o => (hp.get s).1 = v ∧ K (.ptr s v (o + off))
  | some off, .ept s v k i o => (hp.get s).1 = v ∧ K (.ept s v k i (o + off))
  | _, _ => False
theorem fa_eq (x : AV) (j : Nat) : AFieldAddr P t x j hp K = AFA hp K (tyFA P t j) x := by
  unfold AFieldAddr
  cases tyFA P t j with
  | none => rfl
  | some off => cases x <;> rfl
theorem fa_rop (off : Nat) (cs : List AV) : AFA hp K (some off) (.rop cs) = K (.rop (cs.drop off)) := rfl
theorem fa_ptr (off : Nat) (s : Site) (v o : Nat) : AFA hp K (some off) (.ptr s v o) = ((hp.get s).1 = v ∧ K (.ptr s v (o + off))) := rfl
theorem fa_ept (off : Nat) (s : Site) (v k i o : Nat) : AFA hp K (some off) (.ept s v k i o) = ((hp.get s).1 = v ∧ K (.ept s v k i (o + off))) := rfl
def AIO (K : AV → Prop) (s : Site) (ver k i : Nat) : Nat × Blk → Prop
  | (m, .row _ k' _ _) => m = ver ∧ k' = k ∧ K (.ept s ver k i 0)
  | (m, .ice k' rows) => m = ver ∧ k' = k ∧ ∃ r, rows[i]? = some r ∧ K (.rop r)
  | _ => False
theorem ia_list (k : Nat) (rows : List (List AV)) (i : Int) : AIndexAddr P t (.list k rows) (.val (.int kk i)) hp K = (tyEl P t ≠ none ∧ (tyEl P t).bind (tySz P) = some k ∧ 0 ≤ i ∧ ∃ r, rows[i.toNat]? = some r ∧ K (.rop r)) := rfl
theorem ia_own (s : Site) (ver k off len : Nat) (i : Int) : AIndexAddr P t (.own s ver k off len) (.val (.int kk i)) hp K = ((tyEl P t).bind (tySz P) = some k ∧ 0 ≤ i ∧ i < len ∧ AIO K s ver k (off + i.toNat) (hp.get s)) := by
  simp only [AIndexAddr]
  generalize hp.get s = x
  obtain ⟨n, b⟩ := x
  cases b <;> rfl
theorem io_row (s : Site) (ver k i m : Nat) (t' : TypeId) (k' : Nat) (q : Option Nat) (rows : List (List AV)) : AIO K s ver k i (m, .row t' k' q rows) = (m = ver ∧ k' = k ∧ K (.ept s ver k i 0)) := rfl
theorem io_ice (s : Site) (ver k i m : Nat) (k' : Nat) (rows : List (List AV)) : AIO K s ver k i (m, .ice k' rows) = (m = ver ∧ k' = k ∧ ∃ r, rows[i]? = some r ∧ K (.rop r)) := rfl
theorem ix_str (s : ByteArray) (i : Int) : AIndex P t (.val (.string s)) (.val (.int kk i)) K = (tyStr P t = true ∧ 0 ≤ i ∧ ∃ b, s.data.toList[i.toNat]? = some b ∧ K (.val (.int .u8 b.toNat))) := rfl
theorem ex_tup (vs : List AV) (i : Nat) : AExtract (.tup vs) i K = ∃ x, vs[i]? = some x ∧ K x := rfl

/-! Cuts. -/
def bnd : Option AV → Int → Option Int
  | none, d => some d
  | some (.val (.int _ n)), _ => some n
  | _, _ => none
def ASlS (K : AV → Prop) (s : ByteArray) : Option Int → Option Int → Prop
  | some l, some h => 0 ≤ l ∧ l ≤ h ∧ h ≤ s.size ∧ K (.val (.string (s.extract l.toNat h.toNat)))
  | _, _ => False
def ASlL (K : AV → Prop) (k : Nat) (rows : List (List AV)) : Option Int → Option Int → Prop
  | some l, some h => 0 ≤ l ∧ l ≤ h ∧ h ≤ rows.length ∧ K (.list k ((rows.take h.toNat).drop l.toNat))
  | _, _ => False
def ASlO (K : AV → Prop) (s : Site) (ver k off len rl : Nat) : Option Int → Option Int → Prop
  | some l, some h => 0 ≤ l ∧ l ≤ h ∧ (h ≤ len ∨ off + h.toNat ≤ rl) ∧ K (.own s ver k (off + l.toNat) (h.toNat - l.toNat))
  | _, _ => False
theorem bnd_eq (x : Option AV) (d : Int) (K : Int → Prop) : ABnd x d K = match bnd x d with | some n => K n | none => False := by
  cases x with
  | none => rfl
  | some x => cases x with
    | val v => cases v <;> rfl
    | _ => rfl
def nrmL (ks : List (Option Nat)) (l : List AV) : List AV := l.map (nrmV ks)
theorem nl_nil (ks : List (Option Nat)) : nrmL ks [] = [] := rfl
theorem nl_cons (ks : List (Option Nat)) (x : AV) (l : List AV) : nrmL ks (x :: l) = nrmV ks x :: nrmL ks l := rfl
theorem nv_agg (ks : List (Option Nat)) (cs : List AV) : nrmV ks (.agg cs) = .agg (nrmC ks cs) := rfl
theorem nc_nil (xs : List AV) : nrmC [] xs = xs := by cases xs <;> rfl
theorem nc_none (ks : List (Option Nat)) (x : AV) (xs : List AV) : nrmC (none :: ks) (x :: xs) = x :: nrmC ks xs := rfl
theorem nc_some (k : Nat) (ks : List (Option Nat)) (x : AV) (xs : List AV) : nrmC (some k :: ks) (x :: xs) = nrm1 (some k) x :: nrmC ks xs := rfl
theorem n1_nil (k : Nat) : nrm1 (some k) (.val (.slice none 0 0)) = .list k [] := rfl
theorem n1_list (k k' : Nat) (r : List (List AV)) : nrm1 (some k) (.list k' r) = .list k' r := rfl
theorem nv_val (v : Value) : nrmV [none] (.val v) = .val v := rfl
theorem nv_rop (ks : List (Option Nat)) (l : List AV) : nrmV ks (.rop l) = .rop l := by rcases ks with _ | ⟨q, _ | ⟨_, _⟩⟩ <;> first | rfl | (cases q <;> rfl)
theorem nv_list (ks : List (Option Nat)) (k : Nat) (l : List (List AV)) : nrmV ks (.list k l) = .list k l := by rcases ks with _ | ⟨q, _ | ⟨_, _⟩⟩ <;> first | rfl | (cases q <;> rfl)
theorem nv_nil (k : Nat) : nrmV [some k] (.val (.slice none 0 0)) = .list k [] := rfl
theorem nv_func (ks : List (Option Nat)) (f : FuncId) (l : List AV) : nrmV ks (.func f l) = .func f l := by rcases ks with _ | ⟨q, _ | ⟨_, _⟩⟩ <;> first | rfl | (cases q <;> rfl)
theorem bfz_some (m : Nat) (idx : List Nat) (s : Site) (KK : AV → Hp → Prop) (l : List AV) (hp1 : Hp) : ABuildF P t m idx s KK (some (l, hp1)) = ABuildSlice P t m (idx.zip (nrmL (tyKsE P t) l)) s hp1 KK := rfl
theorem sf_ptr (s : Site) (v o : Nat) (y : AV) (KK : Hp → Prop) : AStoreF P t (.ptr s v o) y hp KK = AStore P t (.ptr s v o) y hp KK := rfl
theorem sf_ept (s : Site) (v k i o : Nat) (y : AV) (KK : Hp → Prop) : AStoreF P t (.ept s v k i o) y hp KK = AStoreE P t (.ept s v k i o) KK (passA hp y) := rfl
theorem se_some (x y : AV) (KK : Hp → Prop) (hp1 : Hp) : AStoreE P t x KK (some (y, hp1)) = AStore P t x (nrmV (tyKsT P t) y) hp1 KK := rfl
theorem zip_cons (i : Nat) (is : List Nat) (x : AV) (xs : List AV) : (i :: is).zip (x :: xs) = (i, x) :: is.zip xs := rfl
theorem zip_nil (xs : List AV) : ([] : List Nat).zip xs = [] := rfl
theorem sl_str (s : ByteArray) (lo hi : Option AV) : ASlice P t (.val (.string s)) lo hi hp K = (tyStr P t = true ∧ ASlS K s (bnd lo 0) (bnd hi s.size)) := by
  simp only [ASlice, bnd_eq]
  cases bnd lo 0 <;> cases bnd hi s.size <;> rfl
theorem sl_list (k : Nat) (rows : List (List AV)) (lo hi : Option AV) : ASlice P t (.list k rows) lo hi hp K = ((tyEl P t).bind (tySz P) = some k ∧ ASlL K k rows (bnd lo 0) (bnd hi rows.length)) := by
  simp only [ASlice, bnd_eq]
  cases bnd lo 0 <;> cases bnd hi rows.length <;> rfl
theorem sl_own (s : Site) (ver k off len : Nat) (lo hi : Option AV) : ASlice P t (.own s ver k off len) lo hi hp K = ((hp.get s).1 = ver ∧ (tyEl P t).bind (tySz P) = some k ∧ ASlO K s ver k off len (rowLen (hp.get s).2) (bnd lo 0) (bnd hi len)) := by
  simp only [ASlice, bnd_eq]
  cases bnd lo 0 <;> cases bnd hi len <;> rfl
def ASlN (K : AV → Prop) : Option Int → Option Int → Prop
  | some l, some h => 0 ≤ l ∧ l ≤ h ∧ h ≤ 0 ∧ K (.val (.slice none 0 0))
  | _, _ => False
theorem sl_nl (lo hi : Option AV) : ASlice P t (.val (.slice none 0 0)) lo hi hp K = ((tyEl P t).bind (tySz P) ≠ none ∧ ASlN K (bnd lo 0) (bnd hi 0)) := by
  simp only [ASlice, bnd_eq]
  cases bnd lo 0 <;> cases bnd hi 0 <;> rfl
theorem sln (l h : Int) : ASlN K (some l) (some h) = (0 ≤ l ∧ l ≤ h ∧ h ≤ 0 ∧ K (.val (.slice none 0 0))) := rfl
theorem sls (s : ByteArray) (l h : Int) : ASlS K s (some l) (some h) = (0 ≤ l ∧ l ≤ h ∧ h ≤ s.size ∧ K (.val (.string (s.extract l.toNat h.toNat)))) := rfl
theorem sll (k : Nat) (rows : List (List AV)) (l h : Int) : ASlL K k rows (some l) (some h) = (0 ≤ l ∧ l ≤ h ∧ h ≤ rows.length ∧ K (.list k ((rows.take h.toNat).drop l.toNat))) := rfl
theorem rl_row (t' : TypeId) (k : Nat) (q : Option Nat) (rows : List (List AV)) : rowLen (.row t' k q rows) = rows.length := rfl
theorem rl_ice (k : Nat) (rows : List (List AV)) : rowLen (.ice k rows) = 0 := rfl
theorem slo (s : Site) (ver k off len rl : Nat) (l h : Int) : ASlO K s ver k off len rl (some l) (some h) = (0 ≤ l ∧ l ≤ h ∧ (h ≤ len ∨ off + h.toNat ≤ rl) ∧ K (.own s ver k (off + l.toNat) (h.toNat - l.toNat))) := rfl

/-! Structs. -/
def ABd (hp : Hp) (K : AV → Prop) (parts : List (Nat × AV)) : Option (List AV) → Option (List (Nat × Nat)) → Prop
  | some z, some pl => match fillA hp pl z parts with
    | some cs => K (.agg cs)
    | none => False
  | _, _ => False
def ABf (K : AV → Prop) : Option (List AV) → Prop
  | some cs => K (.agg cs)
  | none => False
theorem bd_eq (parts : List (Nat × AV)) : ABuild P t parts hp K = ABd hp K parts (tyZ P t) (tyF P t) := by
  unfold ABuild
  cases tyZ P t with
  | none => rfl
  | some z => cases tyF P t <;> rfl
theorem bd_some (parts : List (Nat × AV)) (z : List AV) (pl : List (Nat × Nat)) : ABd hp K parts (some z) (some pl) = ABf K (fillA hp pl z parts) := by
  simp only [ABd]
  cases fillA hp pl z parts <;> rfl
theorem bf_some (cs : List AV) : ABf K (some cs) = K (.agg cs) := rfl
def flS (hp : Hp) (pl : List (Nat × Nat)) (cells : List AV) (rest : List (Nat × AV)) : Option (Nat × Nat) → Option (List AV) → Option (List AV)
  | some (off, n), some l => if l.length = n ∧ off + n ≤ cells.length then fillA hp pl (cells.take off ++ l ++ cells.drop (off + n)) rest else none
  | _, _ => none
theorem fl_nil (pl : List (Nat × Nat)) (cells : List AV) : fillA hp pl cells [] = some cells := rfl
theorem fl_cons (pl : List (Nat × Nat)) (cells : List AV) (i : Nat) (x : AV) (rest : List (Nat × AV)) : fillA hp pl cells ((i, x) :: rest) = flS hp pl cells rest pl[i]? (x.cs hp) := by
  simp only [fillA]
  cases pl[i]? with
  | none => rfl
  | some y => obtain ⟨off, n⟩ := y; cases x.cs hp <;> rfl
theorem fl_some (pl : List (Nat × Nat)) (cells : List AV) (rest : List (Nat × AV)) (off n : Nat) (l : List AV) : flS hp pl cells rest (some (off, n)) (some l) = if l.length = n ∧ off + n ≤ cells.length then fillA hp pl (cells.take off ++ l ++ cells.drop (off + n)) rest else none := rfl
theorem cs_agg (cs : List AV) : AV.cs hp (.agg cs) = some cs := rfl
theorem cs_val (u : Value) : AV.cs hp (.val u) = if u.oneCell' = true then some [.val u] else none := rfl
theorem cs_list (k : Nat) (rows : List (List AV)) : AV.cs hp (.list k rows) = some [.list k rows] := rfl
theorem cs_rop (cs : List AV) : AV.cs hp (.rop cs) = some [.rop cs] := rfl
theorem cs_func (f : FuncId) (cap : List AV) : AV.cs hp (.func f cap) = some [.func f cap] := rfl
theorem cs_iface (t : TypeId) (x : AV) : AV.cs hp (.iface t x) = some [.iface t x] := rfl
theorem cs_own (s : Site) (ver k off len : Nat) : AV.cs hp (.own s ver k off len) = if ((hp.get s).1 == ver) = true then some [.own s ver k off len] else none := rfl
def isCells : Blk → Bool
  | .cells _ _ => true
  | .icc _ _ => true
  | _ => false
theorem lf_ptr (s : Site) (ver off : Nat) : AV.lf hp (.ptr s ver off) = ((hp.get s).1 == ver && isCells (hp.get s).2) := by
  simp only [AV.lf]
  generalize (hp.get s).2 = q
  cases q <;> rfl
theorem cs_ptr (s : Site) (ver off : Nat) : AV.cs hp (.ptr s ver off) = if ((hp.get s).1 == ver && isCells (hp.get s).2) = true then some [.ptr s ver off] else none := by
  rw [← lf_ptr (off := off)]
  rfl
def isRow : Blk → Bool
  | .row _ _ _ _ => true
  | .ice _ _ => true
  | _ => false
theorem lf_ept (s : Site) (ver k i off : Nat) : AV.lf hp (.ept s ver k i off) = ((hp.get s).1 == ver && isRow (hp.get s).2) := by
  simp only [AV.lf]
  generalize (hp.get s).2 = q
  cases q <;> rfl
theorem cs_ept (s : Site) (ver k i off : Nat) : AV.cs hp (.ept s ver k i off) = if ((hp.get s).1 == ver && isRow (hp.get s).2) = true then some [.ept s ver k i off] else none := by
  rw [← lf_ept (k := k) (i := i) (off := off)]
  rfl
theorem cs_map (s : Site) (ver : Nat) : AV.cs hp (.map s ver) = if ((hp.get s).1 == ver) = true then some [.map s ver] else none := rfl
theorem cs_junk : AV.cs hp .junk = some [.junk] := rfl
theorem one_nilI : Value.oneCell' .nilIface = true := rfl
theorem one_nilF : Value.oneCell' .nilFunc = true := rfl
theorem one_map (x : Option Nat) : Value.oneCell' (.map x) = true := rfl
theorem one_int : Value.oneCell' (.int k a) = true := rfl
theorem one_bool (q : Bool) : Value.oneCell' (.bool q) = true := rfl
theorem one_str (s : ByteArray) : Value.oneCell' (.string s) = true := rfl
theorem one_slice (x : Option Addr) (l c : Nat) : Value.oneCell' (.slice x l c) = true := rfl
theorem one_ptr (x : Option Addr) : Value.oneCell' (.pointer x) = true := rfl
end

/-! ### The local heap -/
section
variable {P : Program} {K : AV → Hp → Prop} {t : TypeId} {hp : Hp} {s : Site}
def AAl (t : TypeId) (s : Site) (hp : Hp) (K : AV → Hp → Prop) : Option (List AV) → Prop
  | some z => K (.ptr s ((hp.get s).1 + 1) 0) (hp.set s ((hp.get s).1 + 1) (.cells t z))
  | none => False
theorem al_eq : AAlloc P t s hp K = AAl t s hp K (tyZ P t) := by
  unfold AAlloc
  cases tyZ P t <;> rfl
theorem bx_eq (x : AV) : ABox t x s hp K = AAl t s hp K (x.cs hp) := by
  unfold ABox
  cases x.cs hp <;> rfl
theorem al_some (z : List AV) : AAl t s hp K (some z) = K (.ptr s ((hp.get s).1 + 1) 0) (hp.set s ((hp.get s).1 + 1) (.cells t z)) := rfl
def AStP (K : Hp → Prop) (hp : Hp) (s : Site) (ver off : Nat) (l : List AV) : Nat × Blk → Prop
  | (n, .cells t' cs) => n = ver ∧ off + l.length ≤ cs.length ∧ K (hp.set s n (.cells t' (cs.take off ++ l ++ cs.drop (off + l.length))))
  | _ => False
def AStE (K : Hp → Prop) (hp : Hp) (s : Site) (ver k i off : Nat) (l : List AV) : Nat × Blk → Prop
  | (n, .row t' k' q rows) => n = ver ∧ k' = k ∧ l.all AV.free = true ∧ ∃ r, rows[i]? = some r ∧ off + l.length ≤ k ∧ K (hp.set s n (.row t' k' q (rows.set i (r.take off ++ l ++ r.drop (off + l.length)))))
  | _ => False
def ASt1 (P : Program) (t : TypeId) (K : Hp → Prop) (hp : Hp) : AV → Option (List AV) → Prop
  | .ptr s ver off, some l => tySz P t = some l.length ∧ AStP K hp s ver off l (hp.get s)
  | .ept s ver k i off, some l => tySz P t = some l.length ∧ AStE K hp s ver k i off l (hp.get s)
  | _, _ => False
theorem st_eq (x v : AV) (K : Hp → Prop) : AStore P t x v hp K = ASt1 P t K hp x (v.cs hp) := by
  unfold AStore
  cases v.cs hp with
  | none => cases x <;> rfl
  | some l => cases x with
    | ptr s ver off =>
      simp only [ASt1]
      generalize hp.get s = y
      obtain ⟨n, b⟩ := y
      cases b <;> rfl
    | ept s ver k i off =>
      simp only [ASt1]
      generalize hp.get s = y
      obtain ⟨n, b⟩ := y
      cases b <;> rfl
    | _ => simp only [ASt1, and_false]
theorem st_ptr (K : Hp → Prop) (ver off : Nat) (l : List AV) : ASt1 P t K hp (.ptr s ver off) (some l) = (tySz P t = some l.length ∧ AStP K hp s ver off l (hp.get s)) := rfl
theorem st_ept (K : Hp → Prop) (ver k i off : Nat) (l : List AV) : ASt1 P t K hp (.ept s ver k i off) (some l) = (tySz P t = some l.length ∧ AStE K hp s ver k i off l (hp.get s)) := rfl
theorem sp_cells (K : Hp → Prop) (ver off n : Nat) (l cs : List AV) (t' : TypeId) : AStP K hp s ver off l (n, .cells t' cs) = (n = ver ∧ off + l.length ≤ cs.length ∧ K (hp.set s n (.cells t' (cs.take off ++ l ++ cs.drop (off + l.length))))) := rfl
theorem se_row (K : Hp → Prop) (ver k i off n : Nat) (l : List AV) (t' : TypeId) (k' : Nat) (q : Option Nat) (rows : List (List AV)) : AStE K hp s ver k i off l (n, .row t' k' q rows) = (n = ver ∧ k' = k ∧ l.all AV.free = true ∧ ∃ r, rows[i]? = some r ∧ off + l.length ≤ k ∧ K (hp.set s n (.row t' k' q (rows.set i (r.take off ++ l ++ r.drop (off + l.length)))))) := rfl

def ABs (n : Nat) (parts : List (Nat × AV)) (s : Site) (hp : Hp) (K : AV → Hp → Prop) : Option TypeId → Option Nat → Option (List AV) → Prop
  | some e, some k, some z => 0 < k ∧ z.length = k ∧ n * k ≤ 16777216 ∧ match fillR hp k (List.replicate n z) parts with
    | some rows => K (.own s ((hp.get s).1 + 1) k 0 n) (hp.set s ((hp.get s).1 + 1) (.row e k none rows))
    | none => False
  | _, _, _ => False
def ABr (e : TypeId) (k n : Nat) (s : Site) (hp : Hp) (K : AV → Hp → Prop) : Option (List (List AV)) → Prop
  | some rows => K (.own s ((hp.get s).1 + 1) k 0 n) (hp.set s ((hp.get s).1 + 1) (.row e k none rows))
  | none => False
theorem bs_eq (n : Nat) (parts : List (Nat × AV)) : ABuildSlice P t n parts s hp K = ABs n parts s hp K (tyEl P t) ((tyEl P t).bind (tySz P)) ((tyEl P t).bind (tyZ P)) := by
  unfold ABuildSlice
  cases tyEl P t with
  | none => rfl
  | some e =>
    simp only [Option.bind_some]
    cases tySz P e with
    | none => rfl
    | some k => cases tyZ P e <;> rfl
theorem bs_some (n e k : Nat) (z : List AV) (parts : List (Nat × AV)) : ABs n parts s hp K (some e) (some k) (some z) = (0 < k ∧ z.length = k ∧ n * k ≤ 16777216 ∧ ABr e k n s hp K (fillR hp k (List.replicate n z) parts)) := by
  simp only [ABs]
  cases fillR hp k (List.replicate n z) parts <;> rfl
theorem br_some (e k n : Nat) (rows : List (List AV)) : ABr e k n s hp K (some rows) = K (.own s ((hp.get s).1 + 1) k 0 n) (hp.set s ((hp.get s).1 + 1) (.row e k none rows)) := rfl
def frS (hp : Hp) (k : Nat) (rows : List (List AV)) (i : Nat) (rest : List (Nat × AV)) : Option (List AV) → Option (List (List AV))
  | some l => if l.length = k ∧ i < rows.length ∧ l.all AV.free = true then fillR hp k (rows.set i l) rest else none
  | none => none
theorem fr_nil (k : Nat) (rows : List (List AV)) : fillR hp k rows [] = some rows := rfl
theorem fr_cons (k : Nat) (rows : List (List AV)) (i : Nat) (x : AV) (rest : List (Nat × AV)) : fillR hp k rows ((i, x) :: rest) = frS hp k rows i rest (x.cs hp) := by
  simp only [fillR]
  cases x.cs hp <;> rfl
theorem fr_some (k : Nat) (rows : List (List AV)) (i : Nat) (rest : List (Nat × AV)) (l : List AV) : frS hp k rows i rest (some l) = if l.length = k ∧ i < rows.length ∧ l.all AV.free = true then fillR hp k (rows.set i l) rest else none := rfl
theorem free_val (u : Value) : AV.free (.val u) = true := rfl
theorem free_list (k : Nat) (rows : List (List AV)) : AV.free (.list k rows) = true := rfl
theorem free_rop (cs : List AV) : AV.free (.rop cs) = true := rfl
theorem free_junk : AV.free .junk = true := rfl
theorem free_own (s : Site) (v k o l : Nat) : AV.free (.own s v k o l) = false := rfl
theorem free_ptr (s : Site) (v o : Nat) : AV.free (.ptr s v o) = false := rfl

def AMk (n cp : Int) (s : Site) (hp : Hp) (K : AV → Hp → Prop) : Option TypeId → Option Nat → Option Nat → Option (List AV) → Prop
  | some e, some k, some by_, some z => 0 < k ∧ z.length = k ∧ 0 ≤ n ∧ n ≤ cp ∧ (by_ : Int) * cp ≤ 281474976710656 ∧ cp ≤ 9223372036854775807 ∧
      K (.own s ((hp.get s).1 + 1) k 0 n.toNat) (hp.set s ((hp.get s).1 + 1) (.row e k none (List.replicate n.toNat z)))
  | _, _, _, _ => False
theorem mk_eq (k1 k2 : IntKind) (n cp : Int) : AMake P t (.val (.int k1 n)) (.val (.int k2 cp)) s hp K = AMk n cp s hp K (tyEl P t) ((tyEl P t).bind (tySz P)) ((tyEl P t).bind (tyBy P)) ((tyEl P t).bind (tyZ P)) := by
  unfold AMake
  cases tyEl P t with
  | none => rfl
  | some e =>
    simp only [Option.bind_some]
    cases tySz P e <;> cases tyBy P e <;> cases tyZ P e <;> rfl
theorem mk_some (n cp : Int) (e k by_ : Nat) (z : List AV) : AMk n cp s hp K (some e) (some k) (some by_) (some z) = (0 < k ∧ z.length = k ∧ 0 ≤ n ∧ n ≤ cp ∧ (by_ : Int) * cp ≤ 281474976710656 ∧ cp ≤ 9223372036854775807 ∧
      K (.own s ((hp.get s).1 + 1) k 0 n.toNat) (hp.set s ((hp.get s).1 + 1) (.row e k none (List.replicate n.toNat z)))) := rfl

def AAq (s s1 : Site) (off len e k : Nat) (hp : Hp) (K : AV → Hp → Prop) (ys rows : List (List AV)) (n : Nat) : Option Nat → Prop
  | none => K (.own s1 (n + 1) k 0 (len + ys.length)) (hp.set s1 (n + 1) (.row e k none (rows.take len ++ ys)))
  | some cp => (len + ys.length ≤ cp → K (.own s1 n k 0 (len + ys.length)) (hp.set s1 n (.row e k (some cp) (rows.take len ++ ys ++ rows.drop (len + ys.length))))) ∧
      (cp < len + ys.length → K (.own s ((hp.get s).1 + 1) k 0 (len + ys.length)) (hp.set s ((hp.get s).1 + 1) (.row e k none (rows.take len ++ ys))))
def AAo (s s1 : Site) (ver off len e k by_ : Nat) (hp : Hp) (K : AV → Hp → Prop) (k1 : Nat) (ys : List (List AV)) : Nat × Blk → Prop
  | (n, .row e' k2 q rows) => n = ver ∧ k1 = k ∧ k2 = k ∧ e' = e ∧ off = 0 ∧ len ≤ rows.length ∧ (len + ys.length) * by_ ≤ 140737488355328 ∧ AAq s s1 off len e k hp K ys rows n q
  | _ => False
def AAp (s : Site) (hp : Hp) (K : AV → Hp → Prop) (e k by_ : Nat) : AV → Option (List (List AV)) → Prop
  | .val (.slice none 0 0), some ys => ys.length * by_ ≤ 140737488355328 ∧ (∀ r ∈ ys, r.length = k) ∧ K (.own s ((hp.get s).1 + 1) k 0 ys.length) (hp.set s ((hp.get s).1 + 1) (.row e k none ys))
  | .own s1 ver k1 off len, some ys => AAo s s1 ver off len e k by_ hp K k1 ys (hp.get s1)
  | _, _ => False
def AA2 (x y : AV) (s : Site) (hp : Hp) (K : AV → Hp → Prop) : Option TypeId → Option Nat → Option Nat → Option (List AV) → Prop
  | some e, some k, some by_, some z => 0 < k ∧ z.length = k ∧ 0 < by_ ∧ AAp s hp K e k by_ x (y.rowsOf hp k)
  | _, _, _, _ => False
theorem apc_eq (e k by_ : Nat) (x : AV) (ys : List (List AV)) : AApC e k by_ x s hp K ys = AAp s hp K e k by_ x (some ys) := by
  cases x with
  | own s1 ver k1 off len =>
    simp only [AAp, AApC]
    generalize hp.get s1 = q
    obtain ⟨n, b⟩ := q
    cases b with
    | row t' k2 q rows => cases q <;> rfl
    | _ => rfl
  | val v =>
    unfold AAp AApC
    split <;> split <;> first | rfl | simp_all
  | _ => rfl
theorem ap_eq (x y : AV) (t1 : TypeId) : AAppend P #[t1, t1] x y s hp K = AA2 x y s hp K (tyEl P t1) ((tyEl P t1).bind (tySz P)) ((tyEl P t1).bind (tyBy P)) ((tyEl P t1).bind (tyZ P)) := by
  simp only [AAppend, AYs, if_true]
  cases tyEl P t1 with
  | none => rfl
  | some e =>
    simp only [Option.bind_some]
    cases tySz P e with
    | none => rfl
    | some k => cases tyBy P e with
      | none => rfl
      | some by_ => cases tyZ P e with
        | none => rfl
        | some z =>
          simp only [AA2]
          cases y.rowsOf hp k with
          | none => cases x <;> simp only [AAp]
          | some ys => simp only [apc_eq]
def AA3 (b : Bool) (x : AV) (m : Int) (s : Site) (hp : Hp) (K : AV → Hp → Prop) : Option TypeId → Option Nat → Option Nat → Option (List AV) → Prop
  | some e, some k, some by_, some z => 0 < k ∧ z.length = k ∧ 0 < by_ ∧ b = true ∧ 0 ≤ m ∧ m ≤ 9223372036854775807 ∧ m * by_ ≤ 140737488355328 ∧ AAp s hp K e k by_ x (some (List.replicate m.toNat z))
  | _, _, _, _ => False
theorem ap_zero (x : AV) (kk : IntKind) (m : Int) (t1 t2 : TypeId) : AAppend P #[t1, t2] x (.val (.int kk m)) s hp K = if t1 = t2 then False else AA3 (tyInt P t2).isSome x m s hp K (tyEl P t1) ((tyEl P t1).bind (tySz P)) ((tyEl P t1).bind (tyBy P)) ((tyEl P t1).bind (tyZ P)) := by
  simp only [AAppend, AYs]
  by_cases h : t1 = t2
  · simp only [h, if_true, AV.rowsOf]
    cases tyEl P t2 with
    | none => rfl
    | some e => dsimp only; cases tySz P e <;> cases tyBy P e <;> cases tyZ P e <;> first | rfl | simp
  · simp only [h, if_false]
    cases tyEl P t1 with
    | none => rfl
    | some e =>
      simp only [Option.bind_some]
      cases tySz P e with
      | none => rfl
      | some k => cases tyBy P e with
        | none => rfl
        | some by_ => cases tyZ P e with
          | none => rfl
          | some z => simp only [AA3, apc_eq]
theorem a3_some (b : Bool) (x : AV) (m : Int) (e k by_ : Nat) (z : List AV) : AA3 b x m s hp K (some e) (some k) (some by_) (some z) = (0 < k ∧ z.length = k ∧ 0 < by_ ∧ b = true ∧ 0 ≤ m ∧ m ≤ 9223372036854775807 ∧ m * by_ ≤ 140737488355328 ∧ AAp s hp K e k by_ x (some (List.replicate m.toNat z))) := rfl
def AA4 (b : Bool) (x : AV) (m : ByteArray) (s : Site) (hp : Hp) (K : AV → Hp → Prop) : Option TypeId → Option Nat → Option Nat → Option (List AV) → Prop
  | some e, some k, some by_, some z => 0 < k ∧ z.length = k ∧ 0 < by_ ∧ b = true ∧ k = 1 ∧ AAp s hp K e k by_ x (some (m.data.toList.map fun b => [.val (.int .u8 b.toNat)]))
  | _, _, _, _ => False
theorem ap_str (x : AV) (m : ByteArray) (t1 t2 : TypeId) : AAppend P #[t1, t2] x (.val (.string m)) s hp K = if t1 = t2 then False else AA4 (tyStr P t2) x m s hp K (tyEl P t1) ((tyEl P t1).bind (tySz P)) ((tyEl P t1).bind (tyBy P)) ((tyEl P t1).bind (tyZ P)) := by
  simp only [AAppend, AYs]
  by_cases h : t1 = t2
  · simp only [h, if_true, AV.rowsOf]
    cases tyEl P t2 with
    | none => rfl
    | some e => dsimp only; cases tySz P e <;> cases tyBy P e <;> cases tyZ P e <;> first | rfl | simp
  · simp only [h, if_false]
    cases tyEl P t1 with
    | none => rfl
    | some e =>
      simp only [Option.bind_some]
      cases tySz P e with
      | none => rfl
      | some k => cases tyBy P e with
        | none => rfl
        | some by_ => cases tyZ P e with
          | none => rfl
          | some z => simp only [AA4, apc_eq]
theorem a4_some (b : Bool) (x : AV) (m : ByteArray) (e k by_ : Nat) (z : List AV) : AA4 b x m s hp K (some e) (some k) (some by_) (some z) = (0 < k ∧ z.length = k ∧ 0 < by_ ∧ b = true ∧ k = 1 ∧ AAp s hp K e k by_ x (some (m.data.toList.map fun b => [.val (.int .u8 b.toNat)]))) := rfl
theorem a2_some (x y : AV) (e k by_ : Nat) (z : List AV) : AA2 x y s hp K (some e) (some k) (some by_) (some z) = (0 < k ∧ z.length = k ∧ 0 < by_ ∧ AAp s hp K e k by_ x (y.rowsOf hp k)) := rfl
theorem ap_nil (e k by_ : Nat) (ys : List (List AV)) : AAp s hp K e k by_ (.val (.slice none 0 0)) (some ys) = (ys.length * by_ ≤ 140737488355328 ∧ (∀ r ∈ ys, r.length = k) ∧ K (.own s ((hp.get s).1 + 1) k 0 ys.length) (hp.set s ((hp.get s).1 + 1) (.row e k none ys))) := rfl
theorem ap_own (e k by_ : Nat) (s1 : Site) (ver k1 off len : Nat) (ys : List (List AV)) : AAp s hp K e k by_ (.own s1 ver k1 off len) (some ys) = AAo s s1 ver off len e k by_ hp K k1 ys (hp.get s1) := rfl
theorem ao_row (s1 : Site) (ver off len e k by_ : Nat) (k1 : Nat) (ys : List (List AV)) (n e' k2 : Nat) (q : Option Nat) (rows : List (List AV)) : AAo s s1 ver off len e k by_ hp K k1 ys (n, .row e' k2 q rows) = (n = ver ∧ k1 = k ∧ k2 = k ∧ e' = e ∧ off = 0 ∧ len ≤ rows.length ∧ (len + ys.length) * by_ ≤ 140737488355328 ∧ AAq s s1 off len e k hp K ys rows n q) := rfl
theorem aq_none (s1 : Site) (off len e k : Nat) (ys rows : List (List AV)) (n : Nat) : AAq s s1 off len e k hp K ys rows n none = K (.own s1 (n + 1) k 0 (len + ys.length)) (hp.set s1 (n + 1) (.row e k none (rows.take len ++ ys))) := rfl
theorem aq_cap (s1 : Site) (off len e k : Nat) (ys rows : List (List AV)) (n cp : Nat) : AAq s s1 off len e k hp K ys rows n (some cp) = ((len + ys.length ≤ cp → K (.own s1 n k 0 (len + ys.length)) (hp.set s1 n (.row e k (some cp) (rows.take len ++ ys ++ rows.drop (len + ys.length))))) ∧
      (cp < len + ys.length → K (.own s ((hp.get s).1 + 1) k 0 (len + ys.length)) (hp.set s ((hp.get s).1 + 1) (.row e k none (rows.take len ++ ys))))) := rfl
def ro (ver k' k off len : Nat) : Nat × Blk → Option (List (List AV))
  | (n, .row _ k2 _ rows) => if n = ver ∧ k' = k ∧ k2 = k ∧ off + len ≤ rows.length then some ((rows.drop off).take len) else none
  | (n, .ice k2 rows) => if n = ver ∧ k' = k ∧ k2 = k ∧ off + len ≤ rows.length then some ((rows.drop off).take len) else none
  | _ => none
theorem r_list (k k' : Nat) (rows : List (List AV)) : AV.rowsOf hp k (.list k' rows) = if k' = k then some rows else none := rfl
theorem r_nil (k : Nat) : AV.rowsOf hp k (.val (.slice none 0 0)) = some [] := rfl
theorem r_own (k : Nat) (s1 : Site) (ver k' off len : Nat) : AV.rowsOf hp k (.own s1 ver k' off len) = ro ver k' k off len (hp.get s1) := by
  simp only [AV.rowsOf]
  generalize hp.get s1 = q
  obtain ⟨n, b⟩ := q
  cases b <;> rfl
theorem ro_row (ver k' k off len n : Nat) (t' : TypeId) (k2 : Nat) (q : Option Nat) (rows : List (List AV)) : ro ver k' k off len (n, .row t' k2 q rows) = if n = ver ∧ k' = k ∧ k2 = k ∧ off + len ≤ rows.length then some ((rows.drop off).take len) else none := rfl
theorem ro_ice (ver k' k off len n : Nat) (k2 : Nat) (rows : List (List AV)) : ro ver k' k off len (n, .ice k2 rows) = if n = ver ∧ k' = k ∧ k2 = k ∧ off + len ≤ rows.length then some ((rows.drop off).take len) else none := rfl

/-! What is handed over. -/
def po (hp : Hp) (s : Site) (ver k off len : Nat) : Nat × Blk → Option (AV × Hp)
  | (n, .row _ k2 _ rows) => if n = ver ∧ k2 = k ∧ off + len ≤ rows.length then some (.list k ((rows.drop off).take len), hp.set s n (.ice k rows)) else none
  | (n, .ice k2 rows) => if n = ver ∧ k2 = k ∧ off + len ≤ rows.length then some (.list k ((rows.drop off).take len), hp) else none
  | _ => none
theorem p_own (s1 : Site) (ver k off len : Nat) : pass1 hp (.own s1 ver k off len) = po hp s1 ver k off len (hp.get s1) := by
  simp only [pass1]
  generalize hp.get s1 = q
  obtain ⟨n, b⟩ := q
  cases b <;> rfl
theorem po_row (s1 : Site) (ver k off len n : Nat) (t' : TypeId) (k2 : Nat) (q : Option Nat) (rows : List (List AV)) : po hp s1 ver k off len (n, .row t' k2 q rows) = if n = ver ∧ k2 = k ∧ off + len ≤ rows.length then some (.list k ((rows.drop off).take len), hp.set s1 n (.ice k rows)) else none := rfl
theorem po_ice (s1 : Site) (ver k off len n : Nat) (k2 : Nat) (rows : List (List AV)) : po hp s1 ver k off len (n, .ice k2 rows) = if n = ver ∧ k2 = k ∧ off + len ≤ rows.length then some (.list k ((rows.drop off).take len), hp) else none := rfl
def pp (hp : Hp) (s : Site) (ver off : Nat) : Nat × Blk → Option (AV × Hp)
  | (n, .cells t cs) => if n = ver ∧ cs.all AV.free = true then some (.rop (cs.drop off), hp.set s n (.icc t cs)) else none
  | (n, .icc _ cs) => if n = ver then some (.rop (cs.drop off), hp) else none
  | _ => none
theorem p_ptr (s1 : Site) (ver off : Nat) : pass1 hp (.ptr s1 ver off) = pp hp s1 ver off (hp.get s1) := by
  simp only [pass1]
  generalize hp.get s1 = q
  obtain ⟨n, b⟩ := q
  cases b <;> rfl
theorem pp_cells (s1 : Site) (ver off n : Nat) (t : TypeId) (cs : List AV) : pp hp s1 ver off (n, .cells t cs) = if n = ver ∧ cs.all AV.free = true then some (.rop (cs.drop off), hp.set s1 n (.icc t cs)) else none := rfl
theorem pp_icc (s1 : Site) (ver off n : Nat) (t : TypeId) (cs : List AV) : pp hp s1 ver off (n, .icc t cs) = if n = ver then some (.rop (cs.drop off), hp) else none := rfl
theorem p_junk : pass1 hp .junk = some (.junk, hp) := rfl
theorem p_ept (s1 : Site) (ver k i off : Nat) : pass1 hp (.ept s1 ver k i off) = none := rfl
theorem p_map (s1 : Site) (ver : Nat) : pass1 hp (.map s1 ver) = none := rfl
theorem p_val (u : Value) : pass1 hp (.val u) = some (.val u, hp) := rfl
theorem p_list (k : Nat) (rows : List (List AV)) : pass1 hp (.list k rows) = some (.list k rows, hp) := rfl
theorem p_rop (cs : List AV) : pass1 hp (.rop cs) = some (.rop cs, hp) := rfl
def pcB (y : AV) : Option (List AV × Hp) → Option (List AV × Hp)
  | some (ys, hp2) => some (y :: ys, hp2)
  | none => none
def pcA (xs : List AV) : Option (AV × Hp) → Option (List AV × Hp)
  | some (y, hp1) => pcB y (passC hp1 xs)
  | none => none
def plA (xs : List AV) : Option (AV × Hp) → Option (List AV × Hp)
  | some (y, hp1) => pcB y (passL hp1 xs)
  | none => none
theorem pc_nil : passC hp [] = some ([], hp) := rfl
theorem pc_cons (x : AV) (xs : List AV) : passC hp (x :: xs) = pcA xs (pass1 hp x) := by
  simp only [passC]
  cases pass1 hp x with
  | none => rfl
  | some y =>
    obtain ⟨y, hp1⟩ := y
    simp only [pcA]
    cases passC hp1 xs <;> rfl
theorem pcA_some (xs : List AV) (y : AV) (hp1 : Hp) : pcA xs (some (y, hp1)) = pcB y (passC hp1 xs) := rfl
theorem pcB_some (y : AV) (ys : List AV) (hp1 : Hp) : pcB y (some (ys, hp1)) = some (y :: ys, hp1) := rfl
theorem pl_nil : passL hp [] = some ([], hp) := rfl
theorem pl_cons (x : AV) (xs : List AV) : passL hp (x :: xs) = plA xs (passA hp x) := by
  simp only [passL]
  cases passA hp x with
  | none => rfl
  | some y =>
    obtain ⟨y, hp1⟩ := y
    simp only [plA]
    cases passL hp1 xs <;> rfl
theorem plA_some (xs : List AV) (y : AV) (hp1 : Hp) : plA xs (some (y, hp1)) = pcB y (passL hp1 xs) := rfl
def pgA : Option (List AV × Hp) → Option (AV × Hp)
  | some (l, h) => some (.agg l, h)
  | none => none
def pgF (f : FuncId) : Option (List AV × Hp) → Option (AV × Hp)
  | some (l, h) => some (.func f l, h)
  | none => none
theorem pa_agg (cs : List AV) : passA hp (.agg cs) = pgA (passC hp cs) := by
  simp only [passA]
  cases passC hp cs <;> rfl
theorem pa_func (f : FuncId) (cap : List AV) : passA hp (.func f cap) = pgF f (passC hp cap) := by
  simp only [passA]
  cases passC hp cap <;> rfl
theorem pgA_some (l : List AV) (h : Hp) : pgA (some (l, h)) = some (.agg l, h) := rfl
theorem pgF_some (f : FuncId) (l : List AV) (h : Hp) : pgF f (some (l, h)) = some (.func f l, h) := rfl
theorem pa_val (u : Value) : passA hp (.val u) = some (.val u, hp) := rfl
theorem pa_list (k : Nat) (rows : List (List AV)) : passA hp (.list k rows) = some (.list k rows, hp) := rfl
theorem pa_rop (cs : List AV) : passA hp (.rop cs) = some (.rop cs, hp) := rfl
theorem pa_ptr (s1 : Site) (ver off : Nat) : passA hp (.ptr s1 ver off) = pp hp s1 ver off (hp.get s1) := p_ptr s1 ver off
theorem pa_junk : passA hp .junk = some (.junk, hp) := rfl
theorem pa_ept (s1 : Site) (ver k i off : Nat) : passA hp (.ept s1 ver k i off) = none := rfl
theorem pa_map (s1 : Site) (ver : Nat) : passA hp (.map s1 ver) = none := rfl
theorem plA_none (xs : List AV) : plA xs none = none := rfl
theorem pcA_none (xs : List AV) : pcA xs none = none := rfl
theorem pcB_none (y : AV) : pcB y none = none := rfl
theorem pgA_none : pgA none = none := rfl
theorem pgF_none (f : FuncId) : pgF f none = none := rfl
theorem pa_own (s1 : Site) (ver k off len : Nat) : passA hp (.own s1 ver k off len) = po hp s1 ver k off len (hp.get s1) := p_own s1 ver k off len
end

/-! ### Code -/
section
variable {P : Program} {K : Ex → ASt → Prop} {st : ASt}
theorem w_skip : AWp P .skip K st = K .normal st := rfl
theorem w_region (id : Nat) (ops : Array Oper) : AWp P (.region id ops false) K st = AOps P (ops.toList.map (·.dst)) ops.toList (K .normal) st := rfl
theorem w_regionD (id : Nat) (ops : Array Oper) : AWp P (.region id ops true) K st = ADr P (ops.toList.map (·.dst)) (afts ops.toList) ops.toList 0 [] [] (K .normal) st := rfl
theorem w_seq (a b : Code) : AWp P (.seq a b) K st = AWp P a (Ex.then (AWp P b K) K) st := rfl
theorem w_cond (x : Operand) (a b : Code) (tm : List (Nat × AV)) (hp : Hp) (n : Nat) : AWp P (.cond x a b) K ⟨tm, hp, n⟩ = ACond (ev tm x) (AWp P a K ⟨tm, hp, n⟩) (AWp P b K ⟨tm, hp, n⟩) := rfl
theorem w_block (id : Nat) (a : Code) : AWp P (.block id a) K st = AWp P a (Ex.inB id K) st := rfl
theorem w_loop (a : Code) : AWp P (.loop a) K st = ALoop (AWp P a) K st := rfl
theorem ln_suc (W : (Ex → ASt → Prop) → ASt → Prop) (K : Ex → ASt → Prop) (m : Nat) (st : ASt) : ALoopN W K (m + 1) st = W (Ex.then (ALoopN W K m) K) st := rfl
theorem w_exit (id : Nat) : AWp P (.exit id) K st = K (.exit id) st := rfl
theorem w_ret : AWp P .ret K st = K .ret st := rfl
theorem x_then_n (X : ASt → Prop) : Ex.then X K .normal st = X st := rfl
theorem x_then_e (X : ASt → Prop) (id : Nat) : Ex.then X K (.exit id) st = K (.exit id) st := rfl
theorem x_then_r (X : ASt → Prop) : Ex.then X K .ret st = K .ret st := rfl
theorem x_in_n (id : Nat) : Ex.inB id K .normal st = K .normal st := rfl
theorem x_in_e (id i : Nat) : Ex.inB id K (.exit i) st = if i = id then K .normal st else K (.exit i) st := rfl
theorem x_in_r (id : Nat) : Ex.inB id K .ret st = K .ret st := rfl
theorem d_cond (q : Bool) (X Y : Prop) : ACond (.val (.bool q)) X Y = (if q = true then X else Y) := if_and q _ _
theorem e_end_n (rs : List ResultVar) (r : AV) : AEnd P rs r .normal st = AFin P rs r st := rfl
theorem e_end_r (rs : List ResultVar) (r : AV) : AEnd P rs r .ret st = AFin P rs r st := rfl
/-- The results. -/
def AFr (P : Program) (r : AV) : List ResultVar → List AV → ASt → Prop
  | [], acc, st => match passL st.hp acc.reverse with
    | some (l', _) => ARet l' r
    | none => False
  | .tmp t :: rs, acc, st => AFr P r rs (tget st.tm t :: acc) st
  | .cell a t :: rs, acc, st => ALoad P t (tget st.tm a) st.hp fun v => AFr P r rs (v :: acc) st
def kf (P : Program) (r : AV) (rs : List ResultVar) (acc : List AV) (st : ASt) (v : AV) : Prop := AFr P r rs (v :: acc) st
def AFp (r : AV) : Option (List AV × Hp) → Prop
  | some (l', _) => ARet l' r
  | none => False
theorem afr_of (r : AV) : ∀ (rs : List ResultVar) (acc : List AV) {Kk : List AV → Prop}, (∀ l, Kk l = AFr P r [] (l.reverse ++ acc) st) → ARes P st rs Kk = AFr P r rs acc st := by
  intro rs
  induction rs with
  | nil => intro acc Kk h; simp only [ARes, h, List.reverse_nil, List.nil_append]
  | cons x rs ih =>
    intro acc Kk h
    cases x with
    | tmp t =>
      simp only [ARes, AFr]
      exact ih _ fun l => by rw [h]; simp only [List.reverse_cons, List.append_assoc, List.cons_append, List.nil_append]
    | cell a t =>
      simp only [ARes, AFr]
      congr 1
      funext v
      exact ih _ fun l => by rw [h]; simp only [List.reverse_cons, List.append_assoc, List.cons_append, List.nil_append]
theorem fin_eq (rs : List ResultVar) (r : AV) : AFin P rs r st = AFr P r rs [] st := by
  unfold AFin
  refine afr_of r _ _ fun l => ?_
  simp only [AFr, List.append_nil, List.reverse_reverse]
  cases passL st.hp l <;> rfl
theorem fr_end (r : AV) (acc : List AV) (tm : List (Nat × AV)) (hp : Hp) (n : Nat) : AFr P r [] acc ⟨tm, hp, n⟩ = AFp r (passL hp acc.reverse) := by
  simp only [AFr]
  cases passL hp acc.reverse <;> rfl
theorem fr_tmp (r : AV) (t : Nat) (rs : List ResultVar) (acc : List AV) (tm : List (Nat × AV)) (hp : Hp) (n : Nat) : AFr P r (.tmp t :: rs) acc ⟨tm, hp, n⟩ = AFr P r rs (tget tm t :: acc) ⟨tm, hp, n⟩ := rfl
theorem fr_cell (r : AV) (a t : Nat) (rs : List ResultVar) (acc : List AV) (tm : List (Nat × AV)) (hp : Hp) (n : Nat) : AFr P r (.cell a t :: rs) acc ⟨tm, hp, n⟩ = ALoad P t (tget tm a) hp (kf P r rs acc ⟨tm, hp, n⟩) := rfl
theorem kf_eq (r : AV) (rs : List ResultVar) (acc : List AV) (v : AV) : kf P r rs acc st v = AFr P r rs (v :: acc) st := rfl
theorem fp_some (r : AV) (l : List AV) (hp : Hp) : AFp r (some (l, hp)) = ARet l r := rfl
theorem rt_one (x r : AV) : ARet [x] r = SubA x r := rfl
theorem rt_nil (rs : List AV) : ARet [] (.tup rs) = SubL [] rs := rfl
theorem rt_two (x y : AV) (l rs : List AV) : ARet (x :: y :: l) (.tup rs) = SubL (x :: y :: l) rs := rfl
end
end Go.Proofs.YtanbgeelphfggaaDoor.E
