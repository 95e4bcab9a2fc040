/- The abstract machine of this claim, part Y: further operations as equations, for the walk. No conditions. -/
import Derived.Test.YtanbgeelphfggaaDoorEngM
namespace Go.Proofs.YtanbgeelphfggaaDoor.E
open Go
set_option linter.unusedSimpArgs false
set_option linter.unusedVariables false
set_option linter.unusedSectionVars false
set_option maxRecDepth 20000

section
variable {P : Program} {K : AV → Prop} {hp : Hp} {t : TypeId}
/-! Fields of values. -/
def AFv (K : AV → Prop) (cs : List AV) (off : Nat) : Option Bool → Option Nat → Prop
  | some true, some n => off + n ≤ cs.length ∧ K (.agg ((cs.drop off).take n))
  | some false, _ => ∃ y, cs[off]? = some y ∧ K y
  | _, _ => False
def AFt (P : Program) (K : AV → Prop) (cs : List AV) : Option (Nat × TypeId) → Prop
  | some (off, ft) => AFv K cs off (tyAgg P ft) (tySz P ft)
  | none => False
theorem fv_eq (cs : List AV) (j : Nat) : AField P t (.agg cs) j K = AFt P K cs (tyFT P t j) := by
  simp only [AField]
  cases tyFT P t j with
  | none => rfl
  | some x =>
    obtain ⟨off, ft⟩ := x
    simp only [AFt]
    cases tyAgg P ft with
    | none => cases tySz P ft <;> rfl
    | some q => cases q <;> cases tySz P ft <;> rfl
theorem ft_some (cs : List AV) (off : Nat) (ft : TypeId) : AFt P K cs (some (off, ft)) = AFv K cs off (tyAgg P ft) (tySz P ft) := rfl
theorem fv_agg (cs : List AV) (off n : Nat) : AFv K cs off (some true) (some n) = (off + n ≤ cs.length ∧ K (.agg ((cs.drop off).take n))) := rfl
theorem fv_one (cs : List AV) (off : Nat) (o : Option Nat) : AFv K cs off (some false) o = ∃ y, cs[off]? = some y ∧ K y := rfl

/-! Maps. -/
def ALk1 (K : AV → Prop) (kk : Value) (ok : Bool) (es : List (Value × Value)) : Option Value → Prop
  | some z => K (if ok = true then .tup [.val ((mget es kk).getD z), .val (.bool (mget es kk).isSome)] else .val ((mget es kk).getD z))
  | none => False
def ALk (P : Program) (K : AV → Prop) (kk : Value) (ok : Bool) (ver : Nat) : Option (MK × TypeId) → Nat × Blk → Prop
  | some (mk, el), (n, .map mk' es) => keyIs mk kk = true ∧ n = ver ∧ mk' = mk ∧ ALk1 K kk ok es (tyZ1 P el)
  | _, _ => False
theorem lk_eq (s : Site) (ver : Nat) (kk : Value) (ok : Bool) : ALookup P t (.map s ver) (.val kk) ok hp K = ALk P K kk ok ver (tyMap P t) (hp.get s) := by
  simp only [ALookup]
  cases tyMap P t with
  | none => rfl
  | some x =>
    obtain ⟨mk, el⟩ := x
    simp only
    generalize hp.get s = q
    obtain ⟨n, b⟩ := q
    cases b <;> simp only [ALk, and_false]
    cases tyZ1 P el <;> rfl
theorem lk_some (kk : Value) (ok : Bool) (ver n : Nat) (mk mk' : MK) (el : TypeId) (es : List (Value × Value)) : ALk P K kk ok ver (some (mk, el)) (n, .map mk' es) = (keyIs mk kk = true ∧ n = ver ∧ mk' = mk ∧ ALk1 K kk ok es (tyZ1 P el)) := rfl
theorem lk1_f (kk : Value) (es : List (Value × Value)) (z : Value) : ALk1 K kk false es (some z) = K (.val ((mget es kk).getD z)) := rfl
theorem lk1_t (kk : Value) (es : List (Value × Value)) (z : Value) : ALk1 K kk true es (some z) = K (.tup [.val ((mget es kk).getD z), .val (.bool (mget es kk).isSome)]) := rfl
theorem ki_i (k k' : IntKind) (i : Int) : keyIs (.i k) (.int k' i) = (k == k') := rfl
theorem ki_s (x : ByteArray) : keyIs .s (.string x) = true := rfl
def AMu (K : Hp → Prop) (hp : Hp) (s : Site) (ver : Nat) (kk vv : Value) : Option (MK × TypeId) → Nat × Blk → Prop
  | some (mk, _), (n, .map mk' es) => keyIs mk kk = true ∧ n = ver ∧ mk' = mk ∧ K (hp.set s n (.map mk (mput es kk vv)))
  | _, _ => False
theorem mu_eq (s : Site) (ver : Nat) (kk vv : Value) (K : Hp → Prop) : AMapUpd P t (.map s ver) (.val kk) (.val vv) hp K = AMu K hp s ver kk vv (tyMap P t) (hp.get s) := by
  simp only [AMapUpd]
  cases tyMap P t with
  | none => rfl
  | some x =>
    obtain ⟨mk, el⟩ := x
    simp only
    generalize hp.get s = q
    obtain ⟨n, b⟩ := q
    cases b <;> simp only [AMu, and_false]
theorem mu_some (s : Site) (ver n : Nat) (kk vv : Value) (mk mk' : MK) (el : TypeId) (es : List (Value × Value)) (K : Hp → Prop) : AMu K hp s ver kk vv (some (mk, el)) (n, .map mk' es) = (keyIs mk kk = true ∧ n = ver ∧ mk' = mk ∧ K (hp.set s n (.map mk (mput es kk vv)))) := rfl
def AMm (s : Site) (hp : Hp) (K : AV → Hp → Prop) : Option (MK × TypeId) → Prop
  | some (mk, _) => K (.map s ((hp.get s).1 + 1)) (hp.set s ((hp.get s).1 + 1) (.map mk []))
  | none => False
theorem mm_eq (s : Site) (K : AV → Hp → Prop) : AMakeMap P t s hp K = AMm s hp K (tyMap P t) := by
  simp only [AMakeMap]
  cases tyMap P t <;> rfl
theorem mm_some (s : Site) (K : AV → Hp → Prop) (mk : MK) (el : TypeId) : AMm s hp K (some (mk, el)) = K (.map s ((hp.get s).1 + 1)) (hp.set s ((hp.get s).1 + 1) (.map mk [])) := rfl

/-! Against nil. -/
def ANi (op : BinOp) (K : AV → Prop) : Option (Option Bool × Prop) → Prop
  | some (some b, _) => match op with | .eql => K (.val (.bool b)) | .neq => K (.val (.bool !b)) | _ => False
  | some (none, p) => match op with | .eql => (p → K (.val (.bool true))) ∧ K (.val (.bool false)) | .neq => (p → K (.val (.bool false))) ∧ K (.val (.bool true)) | _ => False
  | none => False
def ANk (op : BinOp) (K : AV → Prop) (hp : Hp) (x : AV) : Option NK → Prop
  | some k => ANi op K (isNil hp k x)
  | none => False
theorem nl_eql (x : AV) : ANil P .eql t x hp K = ANk .eql K hp x (tyNil P t) := by
  simp only [ANil]
  cases tyNil P t with
  | none => rfl
  | some k =>
    simp only [ANk]
    cases isNil hp k x with
    | none => rfl
    | some o => obtain ⟨o, p⟩ := o; cases o <;> rfl
theorem nl_neq (x : AV) : ANil P .neq t x hp K = ANk .neq K hp x (tyNil P t) := by
  simp only [ANil]
  cases tyNil P t with
  | none => rfl
  | some k =>
    simp only [ANk]
    cases isNil hp k x with
    | none => rfl
    | some o => obtain ⟨o, p⟩ := o; cases o <;> rfl
theorem nk_some (op : BinOp) (x : AV) (k : NK) : ANk op K hp x (some k) = ANi op K (isNil hp k x) := rfl
theorem ni_eb (b : Bool) (p : Prop) : ANi .eql K (some (some b, p)) = K (.val (.bool b)) := rfl
theorem ni_nb (b : Bool) (p : Prop) : ANi .neq K (some (some b, p)) = K (.val (.bool !b)) := rfl
theorem ni_ep (p : Prop) : ANi .eql K (some (none, p)) = ((p → K (.val (.bool true))) ∧ K (.val (.bool false))) := rfl
theorem ni_np (p : Prop) : ANi .neq K (some (none, p)) = ((p → K (.val (.bool false))) ∧ K (.val (.bool true))) := rfl
theorem nil_sl (k : Nat) (rows : List (List AV)) : isNil hp .slice (.list k rows) = some (none, rows = []) := rfl
theorem nil_so (s : Site) (ver k off len : Nat) : isNil hp .slice (.own s ver k off len) = if (hp.get s).1 = ver then some (none, len = 0) else none := rfl
theorem nil_sv (v : Value) : isNil hp .slice (.val v) = if nv .slice v = true then some (some true, True) else none := rfl
theorem nil_pp (s : Site) (ver off : Nat) : isNil hp .pointer (.ptr s ver off) = if (hp.get s).1 = ver then some (some false, True) else none := rfl
theorem nil_pe (s : Site) (ver k i off : Nat) : isNil hp .pointer (.ept s ver k i off) = if (hp.get s).1 = ver then some (some false, True) else none := rfl
theorem nil_pr (cs : List AV) : isNil hp .pointer (.rop cs) = some (some false, True) := rfl
theorem nil_pv (v : Value) : isNil hp .pointer (.val v) = if nv .pointer v = true then some (some true, True) else none := rfl
theorem nil_mm (s : Site) (ver : Nat) : isNil hp .map (.map s ver) = if (hp.get s).1 = ver then some (some false, True) else none := rfl
theorem nil_mv (v : Value) : isNil hp .map (.val v) = if nv .map v = true then some (some true, True) else none := rfl
theorem nil_ff (f : FuncId) (cap : List AV) : isNil hp .func (.func f cap) = some (some false, True) := rfl
theorem nil_fv (v : Value) : isNil hp .func (.val v) = if nv .func v = true then some (some true, True) else none := rfl
theorem nil_ii (t : TypeId) (x : AV) : isNil hp .iface (.iface t x) = some (some false, True) := rfl
theorem nil_iv (v : Value) : isNil hp .iface (.val v) = if nv .iface v = true then some (some true, True) else none := rfl
theorem nv_s : nv .slice (.slice none 0 0) = true := rfl
theorem nv_p : nv .pointer (.pointer none) = true := rfl
theorem nv_m : nv .map (.map none) = true := rfl
theorem nv_f : nv .func .nilFunc = true := rfl
theorem nv_i : nv .iface .nilIface = true := rfl
end

section
variable {P : Program} {K : AV → Hp → Prop} {hp : Hp}
/-! Copy, clear, cap. -/
def ACp (hp : Hp) (s : Site) (K : AV → Hp → Prop) (ver k off len : Nat) : Option Nat → Nat × Blk → Option (List (List AV)) → Prop
  | some k0, (n, .row t' k2 q rows), some ys => k0 = k ∧ n = ver ∧ k2 = k ∧ off + len ≤ rows.length ∧ K (.val (.int .i64 (min ys.length len : Nat))) (hp.set s n (.row t' k q (rows.take off ++ ys.take len ++ rows.drop (off + min ys.length len))))
  | _, _, _ => False
theorem cp_eq (t u : TypeId) (s : Site) (ver k off len : Nat) (y : AV) : ACopy P #[t, u] (.own s ver k off len) y hp K = ACp hp s K ver k off len ((tyEl P t).bind (tySz P)) (hp.get s) (y.rowsOf hp k) := by
  simp only [ACopy]
  cases (tyEl P t).bind (tySz P) with
  | none => rfl
  | some k0 =>
    simp only
    generalize hp.get s = q
    obtain ⟨n, b⟩ := q
    cases b with
    | row t' k2 q rows =>
      simp only
      cases y.rowsOf hp k <;> simp only [ACp, and_false]
    | _ => simp only [ACp, and_false]
theorem cp_some (s : Site) (ver k off len k0 n : Nat) (t' : TypeId) (k2 : Nat) (q : Option Nat) (rows ys : List (List AV)) : ACp hp s K ver k off len (some k0) (n, .row t' k2 q rows) (some ys) = (k0 = k ∧ n = ver ∧ k2 = k ∧ off + len ≤ rows.length ∧ K (.val (.int .i64 (min ys.length len : Nat))) (hp.set s n (.row t' k q (rows.take off ++ ys.take len ++ rows.drop (off + min ys.length len))))) := rfl
def ACl (hp : Hp) (s : Site) (K : AV → Hp → Prop) (ver k off len : Nat) : Option (List AV) → Nat × Blk → Prop
  | some z, (n, .row t' k2 q rows) => z.length = k ∧ n = ver ∧ k2 = k ∧ off + len ≤ rows.length ∧ K (.val (.tuple #[])) (hp.set s n (.row t' k q (rows.take off ++ List.replicate len z ++ rows.drop (off + len))))
  | _, _ => False
theorem cl_eq (t : TypeId) (s : Site) (ver k off len : Nat) : AClear P #[t] (.own s ver k off len) hp K = ACl hp s K ver k off len ((tyEl P t).bind (tyZ P)) (hp.get s) := by
  simp only [AClear]
  cases tyEl P t with
  | none => rfl
  | some e =>
    simp only [Option.bind_some]
    cases tyZ P e with
    | none => rfl
    | some z =>
      simp only
      generalize hp.get s = q
      obtain ⟨n, b⟩ := q
      cases b <;> simp only [ACl, and_false]
theorem cl_some (s : Site) (ver k off len n : Nat) (z : List AV) (t' : TypeId) (k2 : Nat) (q : Option Nat) (rows : List (List AV)) : ACl hp s K ver k off len (some z) (n, .row t' k2 q rows) = (z.length = k ∧ n = ver ∧ k2 = k ∧ off + len ≤ rows.length ∧ K (.val (.tuple #[])) (hp.set s n (.row t' k q (rows.take off ++ List.replicate len z ++ rows.drop (off + len))))) := rfl
def ACq (hp : Hp) (s : Site) (K : AV → Hp → Prop) (off len n : Nat) (t' : TypeId) (k2 : Nat) (rows : List (List AV)) : Option Nat → Prop
  | some cp => K (.val (.int .i64 (cp - off : Nat))) hp
  | none => ∀ cp : Nat, off + len ≤ cp → rows.length ≤ cp → cp ≤ maxLen → K (.val (.int .i64 (cp - off : Nat))) (hp.set s n (.row t' k2 (some cp) (rows ++ List.replicate (cp - rows.length) (List.replicate k2 .junk))))
def ACa (hp : Hp) (s : Site) (K : AV → Hp → Prop) (ver off len : Nat) : Nat × Blk → Prop
  | (n, .row t' k2 q rows) => n = ver ∧ ACq hp s K off len n t' k2 rows q
  | _ => False
theorem ca_own (t : TypeId) (s : Site) (ver k off len : Nat) : ACap P #[t] (.own s ver k off len) hp K = (tyEl P t ≠ none ∧ ACa hp s K ver off len (hp.get s)) := by
  simp only [ACap]
  generalize hp.get s = q
  obtain ⟨n, b⟩ := q
  cases b with
  | row t' k2 q rows => cases q <;> rfl
  | _ => rfl
theorem ca_nil (t : TypeId) : ACap P #[t] (.val (.slice none 0 0)) hp K = (tyEl P t ≠ none ∧ K (.val (.int .i64 0)) hp) := rfl
theorem ca_list (t : TypeId) (k : Nat) (rows : List (List AV)) : ACap P #[t] (.list k rows) hp K = (tyEl P t ≠ none ∧ ∀ cp : Nat, rows.length ≤ cp → K (.val (.int .i64 cp)) hp) := rfl
theorem ca_row (s : Site) (ver off len n : Nat) (t' : TypeId) (k2 : Nat) (q : Option Nat) (rows : List (List AV)) : ACa hp s K ver off len (n, .row t' k2 q rows) = (n = ver ∧ ACq hp s K off len n t' k2 rows q) := rfl
theorem ca_some (s : Site) (off len n : Nat) (t' : TypeId) (k2 cp : Nat) (rows : List (List AV)) : ACq hp s K off len n t' k2 rows (some cp) = K (.val (.int .i64 (cp - off : Nat))) hp := rfl
theorem ca_none (s : Site) (off len n : Nat) (t' : TypeId) (k2 : Nat) (rows : List (List AV)) : ACq hp s K off len n t' k2 rows none = ∀ cp : Nat, off + len ≤ cp → rows.length ≤ cp → cp ≤ maxLen → K (.val (.int .i64 (cp - off : Nat))) (hp.set s n (.row t' k2 (some cp) (rows ++ List.replicate (cp - rows.length) (List.replicate k2 .junk)))) := rfl
end

/-! ### Regions whose order is open -/
section
variable {P : Program} {gd : List (Option Nat)} {a : List (List Nat)} {rest : List Oper} {K : ASt → Prop} {tm : List (Nat × AV)} {hp : Hp} {n : Nat} {dst : Option Nat} {op : Op} {ty : TypeId} {pos : String} {aft : Array Edge} {g : Option (Nat × Bool)} {rd : List (Nat × Keys)} {wr : List (Nat × Keys × Keys)} {ev : Operand → AV} {s : Site}
theorem af_eq (l : List Oper) : afts l = l.map fun o => aftL o.after.toList := rfl
theorem af_nil : aftL [] = [] := rfl
theorem af_data (i : Nat) (r : List Edge) : aftL (⟨i, .data⟩ :: r) = i :: aftL r := rfl
theorem af_chain (i : Nat) (r : List Edge) : aftL (⟨i, .chain⟩ :: r) = i :: aftL r := rfl
theorem af_guard (i : Nat) (r : List Edge) : aftL (⟨i, .guard⟩ :: r) = i :: aftL r := rfl
theorem af_phase (i : Nat) (r : List Edge) : aftL (⟨i, .phase⟩ :: r) = i :: aftL r := rfl
theorem af_text (i : Nat) (d : Departure) (r : List Edge) : aftL (⟨i, .textOnly d⟩ :: r) = aftL r := rfl
theorem af_gc (i : Nat) (d : Departure) (r : List Edge) : aftL (⟨i, .gcOnly d⟩ :: r) = aftL r := rfl
/-- An operation of such a region. -/
def GoD (P : Program) (gd : List (Option Nat)) (a : List (List Nat)) (o : Oper) (rest : List Oper) (j : Nat) (rd : List (Nat × Keys)) (wr : List (Nat × Keys × Keys)) (K : ASt → Prop) (st : ASt) : Prop :=
  opDet P (E.ev st.tm) o st.hp ∧ ADk a j (opIn (E.ev st.tm) o (siteOf o) st.hp) rd wr (fun rd' wr' => AStep P o (ADr P gd a rest (j + 1) rd' wr' K) st) (opOut (E.ev st.tm) o (siteOf o) st.hp)
def kd (P : Program) (gd : List (Option Nat)) (a : List (List Nat)) (o : Oper) (rest : List Oper) (j : Nat) (K : ASt → Prop) (st : ASt) (rd : List (Nat × Keys)) (wr : List (Nat × Keys × Keys)) : Prop := AStep P o (ADr P gd a rest (j + 1) rd wr K) st
theorem kd_eq (o : Oper) (j : Nat) (st : ASt) : kd P gd a o rest j K st rd wr = AStep P o (ADr P gd a rest (j + 1) rd wr K) st := rfl
theorem gd_eq (op : Op) (j : Nat) : GoD P gd a ⟨dst, op, ty, pos, aft, g⟩ rest j rd wr K ⟨tm, hp, n⟩ = (opDet P (E.ev tm) ⟨dst, op, ty, pos, aft, g⟩ hp ∧ ADk a j (opIn (E.ev tm) ⟨dst, op, ty, pos, aft, g⟩ (siteD dst) hp) rd wr (kd P gd a ⟨dst, op, ty, pos, aft, g⟩ rest j K ⟨tm, hp, n⟩) (opOut (E.ev tm) ⟨dst, op, ty, pos, aft, g⟩ (siteD dst) hp)) := by
  unfold GoD kd
  rw [site_eq]
theorem dr_nil (j : Nat) (st : ASt) : ADr P gd a [] j rd wr K st = K st := rfl
theorem dr_plain (op : Op) (j : Nat) (st : ASt) : ADr P gd a (⟨dst, op, ty, pos, aft, none⟩ :: rest) j rd wr K st = GoD P gd a ⟨dst, op, ty, pos, aft, none⟩ rest j rd wr K st := rfl
def AGD (P : Program) (gd : List (Option Nat)) (a : List (List Nat)) (o : Oper) (rest : List Oper) (j : Nat) (rd : List (Nat × Keys)) (wr : List (Nat × Keys × Keys)) (K : ASt → Prop) (b : Bool) (tm : List (Nat × AV)) (hp : Hp) (n : Nat) : Option Nat → AV → Prop
  | some t, .val (.bool q) => (q = b → GoD P gd a o rest j rd wr K (puts tm hp n (some t) (.val (.bool b)))) ∧ (q = !b → ADr P gd a rest (j + 1) rd wr K (ASt.put (puts tm hp n (some t) (.val (.bool !b))) o.dst (.val (.tuple #[]))))
  | some _, .val (.tuple _) => ADr P gd a rest (j + 1) rd wr K (puts tm hp n o.dst (.val (.tuple #[])))
  | _, _ => False
theorem dr_guard (op : Op) (j i : Nat) (b : Bool) : ADr P gd a (⟨dst, op, ty, pos, aft, some (i, b)⟩ :: rest) j rd wr K ⟨tm, hp, n⟩ = AGD P gd a ⟨dst, op, ty, pos, aft, some (i, b)⟩ rest j rd wr K b tm hp n (dstAt gd i) (gget tm (dstAt gd i)) := by
  simp only [ADr]
  cases dstAt gd i with
  | none => rfl
  | some t =>
    simp only [gget]
    cases tget tm t with
    | val v => cases v <;> first | rfl | (simp only [AGuard, AGD, put_eq]; rfl) | simp only [AGuard, AGD, put_eq]
    | _ => rfl
theorem agd_t (o : Oper) (j t : Nat) (q : Bool) : AGD P gd a o rest j rd wr K true tm hp n (some t) (.val (.bool q)) =
    (if q = true then GoD P gd a o rest j rd wr K (puts tm hp n (some t) (.val (.bool true))) else ADr P gd a rest (j + 1) rd wr K (ASt.put (puts tm hp n (some t) (.val (.bool false))) o.dst (.val (.tuple #[])))) := by
  cases q <;> simp [AGD]
theorem agd_f (o : Oper) (j t : Nat) (q : Bool) : AGD P gd a o rest j rd wr K false tm hp n (some t) (.val (.bool q)) =
    (if q = true then ADr P gd a rest (j + 1) rd wr K (ASt.put (puts tm hp n (some t) (.val (.bool true))) o.dst (.val (.tuple #[]))) else GoD P gd a o rest j rd wr K (puts tm hp n (some t) (.val (.bool false)))) := by
  cases q <;> simp [AGD]
theorem agd_tup (o : Oper) (j t : Nat) (b : Bool) (l : Array Value) : AGD P gd a o rest j rd wr K b tm hp n (some t) (.val (.tuple l)) = ADr P gd a rest (j + 1) rd wr K (puts tm hp n o.dst (.val (.tuple #[]))) := rfl
theorem dk_nil (j : Nat) (D : Keys) (X : List (Nat × Keys) → List (Nat × Keys × Keys) → Prop) : ADk a j D rd wr X [] = (chkQ a j D wr ∧ X ((j, D) :: rd) wr) := rfl
theorem dk_cons (j : Nat) (D : Keys) (X : List (Nat × Keys) → List (Nat × Keys × Keys) → Prop) (w : Bool × Nat) (W : Keys) : ADk a j D rd wr X (w :: W) = ((chkW a j (w :: W) rd ∧ chkV a j D (w :: W) wr) ∧ X rd ((j, D, w :: W) :: wr)) := rfl
theorem q_nil (j : Nat) (D : Keys) : chkQ a j D [] = True := rfl
theorem q_cons (j i : Nat) (D Di Wi : Keys) (r : List (Nat × Keys × Keys)) : chkQ a j D ((i, Di, Wi) :: r) = ((dis Wi D = true ∨ ordB a a.length i j = true) ∧ chkQ a j D r) := rfl
theorem cw_nil (j : Nat) (W : Keys) : chkW a j W [] = True := rfl
theorem cw_cons (j i : Nat) (W Di : Keys) (r : List (Nat × Keys)) : chkW a j W ((i, Di) :: r) = ((dis W Di = true ∨ ordB a a.length i j = true) ∧ chkW a j W r) := rfl
theorem cv_nil (j : Nat) (D W : Keys) : chkV a j D W [] = True := rfl
theorem cv_cons (j i : Nat) (D W Di Wi : Keys) (r : List (Nat × Keys × Keys)) : chkV a j D W ((i, Di, Wi) :: r) = (((dis Wi D = true ∧ dis W Di = true) ∨ ordB a a.length i j = true) ∧ chkV a j D W r) := rfl
/-! What an operation looks at. -/
def ik (s : Site) (l : List AV) : Keys := (stsL l).map Site.key ++ [s.key]
theorem ik_eq (l : List AV) : ik s l = (stsL l).map Site.key ++ [s.key] := rfl
theorem oi_move (x : Operand) : opIn ev ⟨dst, .move x, ty, pos, aft, g⟩ s hp = ik s [ev x] := rfl
theorem oi_assign (x : Operand) : opIn ev ⟨dst, .assign x, ty, pos, aft, g⟩ s hp = ik s [ev x] := rfl
theorem oi_pick (x y z : Operand) : opIn ev ⟨dst, .pick x y z, ty, pos, aft, g⟩ s hp = ik s [ev x, ev y, ev z] := rfl
theorem oi_alloc (t : TypeId) : opIn ev ⟨dst, .alloc t, ty, pos, aft, g⟩ s hp = ik s [] := rfl
theorem oi_box (t : TypeId) (x : Operand) : opIn ev ⟨dst, .box t x, ty, pos, aft, g⟩ s hp = ik s [ev x] := rfl
theorem oi_build (t : TypeId) (ps : Array (Nat × Operand)) : opIn ev ⟨dst, .build t ps, ty, pos, aft, g⟩ s hp = ik s (ps.toList.map fun p => ev p.2) := by
  simp only [opIn, Op.operands, List.map_map, ik]; rfl
theorem oi_buildSlice (t : TypeId) (m : Nat) (ps : Array (Nat × Operand)) : opIn ev ⟨dst, .buildSlice t m ps, ty, pos, aft, g⟩ s hp = ik s (ps.toList.map fun p => ev p.2) := by
  simp only [opIn, Op.operands, List.map_map, ik]; rfl
theorem oi_load (t : TypeId) (x : Operand) : opIn ev ⟨dst, .load t x, ty, pos, aft, g⟩ s hp = ik s [ev x] := rfl
theorem oi_store (t : TypeId) (x y : Operand) : opIn ev ⟨dst, .store t x y, ty, pos, aft, g⟩ s hp = ik s [ev x, ev y] := rfl
theorem oi_nilCheck (x : Operand) : opIn ev ⟨dst, .nilCheck x, ty, pos, aft, g⟩ s hp = ik s [ev x] := rfl
theorem oi_bin (o : BinOp) (t u : TypeId) (x y : Operand) : opIn ev ⟨dst, .binOp o t x y u, ty, pos, aft, g⟩ s hp = ik s [ev x, ev y] := rfl
theorem oi_un (o : UnOp) (t : TypeId) (x : Operand) : opIn ev ⟨dst, .unOp o t x, ty, pos, aft, g⟩ s hp = ik s [ev x] := rfl
theorem oi_conv (t u : TypeId) (x : Operand) : opIn ev ⟨dst, .convert t u x, ty, pos, aft, g⟩ s hp = ik s [ev x] := rfl
theorem oi_iface (t : TypeId) (x : Operand) : opIn ev ⟨dst, .makeInterface t x, ty, pos, aft, g⟩ s hp = ik s [ev x] := rfl
theorem oi_func (f : Fn) (ca : Array Operand) : opIn ev ⟨dst, .makeFunc f #[] ca, ty, pos, aft, g⟩ s hp = ik s (ca.toList.map ev) := by
  simp [opIn, Op.operands, ik]
theorem oi_make (t : TypeId) (x y : Operand) : opIn ev ⟨dst, .makeSlice t x y, ty, pos, aft, g⟩ s hp = ik s [ev x, ev y] := rfl
theorem oi_makeMap (t : TypeId) : opIn ev ⟨dst, .makeMap t none, ty, pos, aft, g⟩ s hp = ik s [] := rfl
theorem oi_slice00 (t : TypeId) (x : Operand) : opIn ev ⟨dst, .slice t x none none none, ty, pos, aft, g⟩ s hp = ik s [ev x] := rfl
theorem oi_slice10 (t : TypeId) (x l : Operand) : opIn ev ⟨dst, .slice t x (some l) none none, ty, pos, aft, g⟩ s hp = ik s [ev x, ev l] := rfl
theorem oi_slice01 (t : TypeId) (x h : Operand) : opIn ev ⟨dst, .slice t x none (some h) none, ty, pos, aft, g⟩ s hp = ik s [ev x, ev h] := rfl
theorem oi_slice11 (t : TypeId) (x l h : Operand) : opIn ev ⟨dst, .slice t x (some l) (some h) none, ty, pos, aft, g⟩ s hp = ik s [ev x, ev l, ev h] := rfl
theorem oi_fieldAddr (t : TypeId) (x : Operand) (j : Nat) : opIn ev ⟨dst, .fieldAddr t x j, ty, pos, aft, g⟩ s hp = ik s [ev x] := rfl
theorem oi_field (t : TypeId) (x : Operand) (j : Nat) : opIn ev ⟨dst, .field t x j, ty, pos, aft, g⟩ s hp = ik s [ev x] := rfl
theorem oi_indexAddr (t : TypeId) (x i : Operand) : opIn ev ⟨dst, .indexAddr t x i, ty, pos, aft, g⟩ s hp = ik s [ev x, ev i] := rfl
theorem oi_index (t : TypeId) (x i : Operand) : opIn ev ⟨dst, .index t x i, ty, pos, aft, g⟩ s hp = ik s [ev x, ev i] := rfl
theorem oi_lookup (t : TypeId) (x i : Operand) (q : Bool) : opIn ev ⟨dst, .lookup t x i q, ty, pos, aft, g⟩ s hp = ik s [ev x, ev i] := rfl
theorem oi_mapUpdate (t : TypeId) (m k x : Operand) : opIn ev ⟨dst, .mapUpdate t m k x, ty, pos, aft, g⟩ s hp = ik s [ev m, ev k, ev x] := rfl
theorem oi_extract (x : Operand) (i : Nat) : opIn ev ⟨dst, .extract x i, ty, pos, aft, g⟩ s hp = ik s [ev x] := rfl
theorem oi_blt (b : Builtin) (xs : Array Operand) (ts : Array TypeId) : opIn ev ⟨dst, .call ⟨.builtin b, xs, ts⟩, ty, pos, aft, g⟩ s hp = ik s (xs.toList.map ev) := rfl
def callK (hp : Hp) (xs : List AV) (s : Site) : AV → Keys
  | .func _ cap => callD hp (xs ++ cap) s
  | _ => []
theorem oi_call (f : Operand) (xs : Array Operand) (ts : Array TypeId) : opIn ev ⟨dst, .call ⟨.value f, xs, ts⟩, ty, pos, aft, g⟩ s hp = callK hp (xs.toList.map ev) s (ev f) := by
  simp only [opIn]
  cases ev f <;> rfl
theorem ck_func (xs cap : List AV) (f : FuncId) : callK hp xs s (.func f cap) = callD hp (xs ++ cap) s := rfl
theorem cd_eq (xs : List AV) : callD hp xs s = (rch hp 2 (stsL xs)).map Site.key ++ [s.key] := rfl
theorem rch_suc (m : Nat) (l : List Site) : rch hp (m + 1) l = l ++ rch hp m (l.flatMap fun s => stsB (hp.get s).2) := rfl
theorem rch_zero (l : List Site) : rch hp 0 l = l := rfl
theorem oo_move (x : Operand) : opOut ev ⟨dst, .move x, ty, pos, aft, g⟩ s hp = [] := rfl
theorem oo_assign (x : Operand) : opOut ev ⟨dst, .assign x, ty, pos, aft, g⟩ s hp = [] := rfl
theorem oo_pick (x y z : Operand) : opOut ev ⟨dst, .pick x y z, ty, pos, aft, g⟩ s hp = [] := rfl
theorem oo_alloc (t : TypeId) : opOut ev ⟨dst, .alloc t, ty, pos, aft, g⟩ s hp = [s.key] := rfl
theorem oo_box (t : TypeId) (x : Operand) : opOut ev ⟨dst, .box t x, ty, pos, aft, g⟩ s hp = [s.key] := rfl
theorem oo_build (t : TypeId) (ps : Array (Nat × Operand)) : opOut ev ⟨dst, .build t ps, ty, pos, aft, g⟩ s hp = [] := rfl
theorem oo_buildSlice (t : TypeId) (m : Nat) (ps : Array (Nat × Operand)) : opOut ev ⟨dst, .buildSlice t m ps, ty, pos, aft, g⟩ s hp = (stsL (ps.toList.map fun p => ev p.2)).map Site.key ++ [s.key] := rfl
theorem oo_load (t : TypeId) (x : Operand) : opOut ev ⟨dst, .load t x, ty, pos, aft, g⟩ s hp = [] := rfl
def stK (x y : AV) : Keys := (match x with | .ept _ _ _ _ _ => sts x ++ sts y | _ => sts x).map Site.key
theorem stK_ept (s : Site) (v k i o : Nat) (y : AV) : stK (.ept s v k i o) y = ([s] ++ sts y).map Site.key := rfl
theorem stK_ptr (s : Site) (v o : Nat) (y : AV) : stK (.ptr s v o) y = [s.key] := rfl
theorem oo_store (t : TypeId) (x y : Operand) : opOut ev ⟨dst, .store t x y, ty, pos, aft, g⟩ s hp = stK (ev x) (ev y) := rfl
theorem oo_nilCheck (x : Operand) : opOut ev ⟨dst, .nilCheck x, ty, pos, aft, g⟩ s hp = [] := rfl
theorem oo_bin (o : BinOp) (t u : TypeId) (x y : Operand) : opOut ev ⟨dst, .binOp o t x y u, ty, pos, aft, g⟩ s hp = [] := rfl
theorem oo_un (o : UnOp) (t : TypeId) (x : Operand) : opOut ev ⟨dst, .unOp o t x, ty, pos, aft, g⟩ s hp = [] := rfl
theorem oo_conv (t u : TypeId) (x : Operand) : opOut ev ⟨dst, .convert t u x, ty, pos, aft, g⟩ s hp = [] := rfl
theorem oo_iface (t : TypeId) (x : Operand) : opOut ev ⟨dst, .makeInterface t x, ty, pos, aft, g⟩ s hp = [] := rfl
theorem oo_func (f : Fn) (fi ca : Array Operand) : opOut ev ⟨dst, .makeFunc f fi ca, ty, pos, aft, g⟩ s hp = [] := rfl
theorem oo_make (t : TypeId) (x y : Operand) : opOut ev ⟨dst, .makeSlice t x y, ty, pos, aft, g⟩ s hp = [s.key] := rfl
theorem oo_makeMap (t : TypeId) (r : Option Operand) : opOut ev ⟨dst, .makeMap t r, ty, pos, aft, g⟩ s hp = [s.key] := rfl
theorem oo_slice (t : TypeId) (x : Operand) (l h m : Option Operand) : opOut ev ⟨dst, .slice t x l h m, ty, pos, aft, g⟩ s hp = [] := rfl
theorem oo_fieldAddr (t : TypeId) (x : Operand) (j : Nat) : opOut ev ⟨dst, .fieldAddr t x j, ty, pos, aft, g⟩ s hp = [] := rfl
theorem oo_field (t : TypeId) (x : Operand) (j : Nat) : opOut ev ⟨dst, .field t x j, ty, pos, aft, g⟩ s hp = [] := rfl
theorem oo_indexAddr (t : TypeId) (x i : Operand) : opOut ev ⟨dst, .indexAddr t x i, ty, pos, aft, g⟩ s hp = [] := rfl
theorem oo_index (t : TypeId) (x i : Operand) : opOut ev ⟨dst, .index t x i, ty, pos, aft, g⟩ s hp = [] := rfl
theorem oo_lookup (t : TypeId) (x i : Operand) (q : Bool) : opOut ev ⟨dst, .lookup t x i q, ty, pos, aft, g⟩ s hp = [] := rfl
theorem oo_mapUpdate (t : TypeId) (m k x : Operand) : opOut ev ⟨dst, .mapUpdate t m k x, ty, pos, aft, g⟩ s hp = (sts (ev m)).map Site.key := rfl
theorem oo_extract (x : Operand) (i : Nat) : opOut ev ⟨dst, .extract x i, ty, pos, aft, g⟩ s hp = [] := rfl
theorem oo_len (xs : Array Operand) (ts : Array TypeId) : opOut ev ⟨dst, .call ⟨.builtin .len, xs, ts⟩, ty, pos, aft, g⟩ s hp = [] := rfl
theorem oo_cap (xs : Array Operand) (ts : Array TypeId) : opOut ev ⟨dst, .call ⟨.builtin .cap, xs, ts⟩, ty, pos, aft, g⟩ s hp = [] := rfl
theorem oo_max (xs : Array Operand) (ts : Array TypeId) : opOut ev ⟨dst, .call ⟨.builtin .max, xs, ts⟩, ty, pos, aft, g⟩ s hp = [] := rfl
theorem oo_min (xs : Array Operand) (ts : Array TypeId) : opOut ev ⟨dst, .call ⟨.builtin .min, xs, ts⟩, ty, pos, aft, g⟩ s hp = [] := rfl
theorem oo_append (x y : Operand) (ts : Array TypeId) : opOut ev ⟨dst, .call ⟨.builtin .append, #[x, y], ts⟩, ty, pos, aft, g⟩ s hp = (sts (ev x)).map Site.key ++ [s.key] := rfl
theorem oo_copy (x y : Operand) (ts : Array TypeId) : opOut ev ⟨dst, .call ⟨.builtin .copy, #[x, y], ts⟩, ty, pos, aft, g⟩ s hp = (sts (ev x)).map Site.key ++ [s.key] := rfl
theorem oo_clear (x : Operand) (ts : Array TypeId) : opOut ev ⟨dst, .call ⟨.builtin .clear, #[x], ts⟩, ty, pos, aft, g⟩ s hp = (sts (ev x)).map Site.key ++ [s.key] := rfl
theorem oo_call (f : Operand) (xs : Array Operand) (ts : Array TypeId) : opOut ev ⟨dst, .call ⟨.value f, xs, ts⟩, ty, pos, aft, g⟩ s hp = callK hp (xs.toList.map ev) s (ev f) := by
  simp only [opOut]
  cases ev f <;> rfl
theorem ot_move (x : Operand) : opDet P ev ⟨dst, .move x, ty, pos, aft, g⟩ hp = True := rfl
theorem ot_assign (x : Operand) : opDet P ev ⟨dst, .assign x, ty, pos, aft, g⟩ hp = True := rfl
theorem ot_pick (x y z : Operand) : opDet P ev ⟨dst, .pick x y z, ty, pos, aft, g⟩ hp = True := rfl
theorem ot_alloc (t : TypeId) : opDet P ev ⟨dst, .alloc t, ty, pos, aft, g⟩ hp = True := rfl
theorem ot_box (t : TypeId) (x : Operand) : opDet P ev ⟨dst, .box t x, ty, pos, aft, g⟩ hp = True := rfl
theorem ot_build (t : TypeId) (ps : Array (Nat × Operand)) : opDet P ev ⟨dst, .build t ps, ty, pos, aft, g⟩ hp = True := rfl
theorem ot_buildSlice (t : TypeId) (m : Nat) (ps : Array (Nat × Operand)) : opDet P ev ⟨dst, .buildSlice t m ps, ty, pos, aft, g⟩ hp = True := rfl
theorem ot_load (t : TypeId) (x : Operand) : opDet P ev ⟨dst, .load t x, ty, pos, aft, g⟩ hp = True := rfl
theorem ot_store (t : TypeId) (x y : Operand) : opDet P ev ⟨dst, .store t x y, ty, pos, aft, g⟩ hp = True := rfl
theorem ot_nilCheck (x : Operand) : opDet P ev ⟨dst, .nilCheck x, ty, pos, aft, g⟩ hp = True := rfl
theorem ot_bin (o : BinOp) (t u : TypeId) (x y : Operand) : opDet P ev ⟨dst, .binOp o t x y u, ty, pos, aft, g⟩ hp = if nilC P t y = true then nilDet P t (ev x) hp else True := by
  simp only [opDet]
  by_cases h : nilC P t y = true <;> simp [h]
theorem ot_un (o : UnOp) (t : TypeId) (x : Operand) : opDet P ev ⟨dst, .unOp o t x, ty, pos, aft, g⟩ hp = True := rfl
theorem ot_conv (t u : TypeId) (x : Operand) : opDet P ev ⟨dst, .convert t u x, ty, pos, aft, g⟩ hp = True := rfl
theorem ot_iface (t : TypeId) (x : Operand) : opDet P ev ⟨dst, .makeInterface t x, ty, pos, aft, g⟩ hp = True := rfl
theorem ot_func (f : Fn) (fi ca : Array Operand) : opDet P ev ⟨dst, .makeFunc f fi ca, ty, pos, aft, g⟩ hp = True := rfl
theorem ot_make (t : TypeId) (x y : Operand) : opDet P ev ⟨dst, .makeSlice t x y, ty, pos, aft, g⟩ hp = True := rfl
theorem ot_makeMap (t : TypeId) (r : Option Operand) : opDet P ev ⟨dst, .makeMap t r, ty, pos, aft, g⟩ hp = True := rfl
theorem ot_slice (t : TypeId) (x : Operand) (l h m : Option Operand) : opDet P ev ⟨dst, .slice t x l h m, ty, pos, aft, g⟩ hp = True := rfl
theorem ot_fieldAddr (t : TypeId) (x : Operand) (j : Nat) : opDet P ev ⟨dst, .fieldAddr t x j, ty, pos, aft, g⟩ hp = True := rfl
theorem ot_field (t : TypeId) (x : Operand) (j : Nat) : opDet P ev ⟨dst, .field t x j, ty, pos, aft, g⟩ hp = True := rfl
theorem ot_indexAddr (t : TypeId) (x i : Operand) : opDet P ev ⟨dst, .indexAddr t x i, ty, pos, aft, g⟩ hp = True := rfl
theorem ot_index (t : TypeId) (x i : Operand) : opDet P ev ⟨dst, .index t x i, ty, pos, aft, g⟩ hp = True := rfl
theorem ot_lookup (t : TypeId) (x i : Operand) (q : Bool) : opDet P ev ⟨dst, .lookup t x i q, ty, pos, aft, g⟩ hp = True := rfl
theorem ot_mapUpdate (t : TypeId) (m k x : Operand) : opDet P ev ⟨dst, .mapUpdate t m k x, ty, pos, aft, g⟩ hp = True := rfl
theorem ot_extract (x : Operand) (i : Nat) : opDet P ev ⟨dst, .extract x i, ty, pos, aft, g⟩ hp = True := rfl
theorem ot_len (xs : Array Operand) (ts : Array TypeId) : opDet P ev ⟨dst, .call ⟨.builtin .len, xs, ts⟩, ty, pos, aft, g⟩ hp = True := rfl
theorem ot_append (xs : Array Operand) (ts : Array TypeId) : opDet P ev ⟨dst, .call ⟨.builtin .append, xs, ts⟩, ty, pos, aft, g⟩ hp = True := rfl
theorem ot_copy (xs : Array Operand) (ts : Array TypeId) : opDet P ev ⟨dst, .call ⟨.builtin .copy, xs, ts⟩, ty, pos, aft, g⟩ hp = True := rfl
theorem ot_clear (xs : Array Operand) (ts : Array TypeId) : opDet P ev ⟨dst, .call ⟨.builtin .clear, xs, ts⟩, ty, pos, aft, g⟩ hp = True := rfl
theorem ot_max (xs : Array Operand) (ts : Array TypeId) : opDet P ev ⟨dst, .call ⟨.builtin .max, xs, ts⟩, ty, pos, aft, g⟩ hp = True := rfl
theorem ot_min (xs : Array Operand) (ts : Array TypeId) : opDet P ev ⟨dst, .call ⟨.builtin .min, xs, ts⟩, ty, pos, aft, g⟩ hp = True := rfl
theorem ot_call (f : Operand) (xs : Array Operand) (ts : Array TypeId) : opDet P ev ⟨dst, .call ⟨.value f, xs, ts⟩, ty, pos, aft, g⟩ hp = True := rfl
def ndO : Option (Option Bool × Prop) → Prop
  | some (some _, _) => True
  | _ => False
def ndK (hp : Hp) (x : AV) : Option NK → Prop
  | some k => ndO (isNil hp k x)
  | none => False
theorem nd_eq (t : TypeId) (x : AV) : nilDet P t x hp = ndK hp x (tyNil P t) := by
  unfold nilDet
  cases tyNil P t with
  | none => rfl
  | some k =>
    simp only [ndK]
    cases isNil hp k x with
    | none => rfl
    | some o => obtain ⟨o, p⟩ := o; cases o <;> rfl
theorem nd_some (x : AV) (k : NK) : ndK hp x (some k) = ndO (isNil hp k x) := rfl
theorem nd_yes (b : Bool) (p : Prop) : ndO (some (some b, p)) = True := rfl
theorem st_ptr' (s : Site) (v o : Nat) : sts (.ptr s v o) = [s] := rfl
theorem st_ept' (s : Site) (v k i o : Nat) : sts (.ept s v k i o) = [s] := rfl
theorem st_own (s : Site) (v k o l : Nat) : sts (.own s v k o l) = [s] := rfl
theorem st_map (s : Site) (v : Nat) : sts (.map s v) = [s] := rfl
theorem st_agg (cs : List AV) : sts (.agg cs) = stsL cs := rfl
theorem st_tup (cs : List AV) : sts (.tup cs) = stsL cs := rfl
theorem st_func (f : FuncId) (cs : List AV) : sts (.func f cs) = stsL cs := rfl
theorem st_iface (t : TypeId) (x : AV) : sts (.iface t x) = sts x := rfl
theorem st_val (v : Value) : sts (.val v) = [] := rfl
theorem st_list (k : Nat) (rows : List (List AV)) : sts (.list k rows) = [] := rfl
theorem st_rop (cs : List AV) : sts (.rop cs) = [] := rfl
theorem st_junk : sts .junk = [] := rfl
theorem st_dead : sts .dead = [] := rfl
theorem sl_nil : stsL [] = [] := rfl
theorem sl_cons (x : AV) (xs : List AV) : stsL (x :: xs) = sts x ++ stsL xs := rfl
theorem sb_cells (t : TypeId) (cs : List AV) : stsB (.cells t cs) = stsL cs := rfl
theorem sb_icc (t : TypeId) (cs : List AV) : stsB (.icc t cs) = [] := rfl
theorem sb_row (t : TypeId) (k : Nat) (q : Option Nat) (rows : List (List AV)) : stsB (.row t k q rows) = [] := rfl
theorem sb_ice (k : Nat) (rows : List (List AV)) : stsB (.ice k rows) = [] := rfl
theorem sb_map (t : MK) (es : List (Value × Value)) : stsB (.map t es) = [] := rfl
theorem sb_gone : stsB .gone = [] := rfl
theorem key_e (i : Nat) : Site.key (.e i) = (false, i) := rfl
theorem key_l (i : Nat) : Site.key (.l i) = (true, i) := rfl
theorem key_m (t i : Nat) : Site.key (.m t i) = (true, t) := rfl
end

/-! ### Calls that turn what is handed in -/
section
variable {P : Program} {hp : Hp} {ss : List Site} {g : Site → Nat → Option (Site × Nat)}
theorem callH {f : FuncId} {xs args : List AV} {hs : List Blk} {r : AV} {hs' : List (Nat × Blk)} {s : Site} {K : AV → Hp → Prop} {o : Option (List AV × Hp)} (h : OkH P f args hs r hs') (ss : List Site)
    (hc : ss.Nodup ∧ hs'.length ≤ ss.length ∧ MB hp ss ss hs ∧ SubL (rnL (dnG hp ss) xs) args ∧ (ss.all fun s' => (callD hp xs s).contains s'.key) = true ∧ K (rn (upG hp ss) r) (hpU hp ss ss hs' hp)) : ACallY P f xs s hp K o :=
  .inr (.inl ⟨ss, args, hs, r, hs', h, hc.1, hc.2.1, hc.2.2.1, hc.2.2.2.1, hc.2.2.2.2.1, hc.2.2.2.2.2⟩)
/-- What is handed in is written no more; what is new stands at these places. -/
theorem callHF {f : FuncId} {xs l args : List AV} {hs : List Blk} {r : AV} {hs' : List (Nat × Blk)} {s : Site} {K : AV → Hp → Prop} {hp1 : Hp} (h : OkH P f args hs r hs') (ss : List Site)
    (hc : ss.Nodup ∧ hs'.length ≤ ss.length ∧ MB hp1 ss ss hs ∧ SubL (rnL (dnG hp1 ss) l) args ∧ (ss.all fun s' => (callD hp1 l s).contains s'.key) = true ∧ K (rn (upG hp1 ss) r) (hpU hp1 ss ss hs' hp1)) : ACallY P f xs s hp K (some (l, hp1)) :=
  .inr (.inr ⟨ss, args, hs, r, hs', h, hc.1, hc.2.1, hc.2.2.1, hc.2.2.2.1, hc.2.2.2.2.1, hc.2.2.2.2.2⟩)
theorem nodup_nil : ([] : List Site).Nodup = True := eq_true List.nodup_nil
theorem nodup_cons (x : Site) (l : List Site) : (x :: l).Nodup = (l.contains x = false ∧ l.Nodup) := by
  rw [List.nodup_cons]
  simp
theorem mb_nil (l : List Site) : MB hp ss l [] = True := by cases l <;> rfl
theorem mb_cons (s : Site) (l : List Site) (b : Blk) (hs : List Blk) : MB hp ss (s :: l) (b :: hs) = ((b = .gone ∨ SubB (rnB (dnG hp ss) (hp.get s).2) b) ∧ MB hp ss l hs) := rfl
theorem rb_cells (t : TypeId) (cs : List AV) : rnB g (.cells t cs) = .cells t (rnL g cs) := rfl
theorem rb_icc (t : TypeId) (cs : List AV) : rnB g (.icc t cs) = .icc t cs := rfl
theorem rb_row (t : TypeId) (k : Nat) (q : Option Nat) (rows : List (List AV)) : rnB g (.row t k q rows) = .row t k q rows := rfl
theorem rb_ice (k : Nat) (rows : List (List AV)) : rnB g (.ice k rows) = .ice k rows := rfl
theorem rb_map (t : MK) (es : List (Value × Value)) : rnB g (.map t es) = .map t es := rfl
theorem rb_gone : rnB g .gone = .gone := rfl
theorem ub_cells (t t' : TypeId) (cs ds : List AV) : SubB (.cells t cs) (.cells t' ds) = (t = t' ∧ SubC cs ds) := rfl
theorem ub_row (t t' : TypeId) (k k' : Nat) (q q' : Option Nat) (rows rows' : List (List AV)) : SubB (.row t k q rows) (.row t' k' q' rows') = (t = t' ∧ k = k' ∧ q = q' ∧ rows = rows') := by
  simp only [SubB, Blk.row.injEq]
theorem ub_ice (k k' : Nat) (rows rows' : List (List AV)) : SubB (.ice k rows) (.ice k' rows') = (k = k' ∧ rows = rows') := by simp only [SubB, Blk.ice.injEq]
theorem ub_icc (t t' : TypeId) (cs ds : List AV) : SubB (.icc t cs) (.icc t' ds) = (t = t' ∧ cs = ds) := by simp only [SubB, Blk.icc.injEq]
theorem ub_map (t t' : MK) (es es' : List (Value × Value)) : SubB (.map t es) (.map t' es') = (t = t' ∧ es = es') := by simp only [SubB, Blk.map.injEq]
def mkPtr (off : Nat) : Option (Site × Nat) → AV
  | some (s, v) => .ptr s v off
  | none => .dead
def mkEpt (k i off : Nat) : Option (Site × Nat) → AV
  | some (s, v) => .ept s v k i off
  | none => .dead
def mkOwn (k off len : Nat) : Option (Site × Nat) → AV
  | some (s, v) => .own s v k off len
  | none => .dead
def mkMap : Option (Site × Nat) → AV
  | some (s, v) => .map s v
  | none => .dead
theorem n_ptr (s : Site) (v o : Nat) : rn g (.ptr s v o) = mkPtr o (g s v) := by
  simp only [rn]
  cases g s v with
  | none => rfl
  | some x => rfl
theorem n_ept (s : Site) (v k i o : Nat) : rn g (.ept s v k i o) = mkEpt k i o (g s v) := by
  simp only [rn]
  cases g s v with
  | none => rfl
  | some x => rfl
theorem n_own (s : Site) (v k o l : Nat) : rn g (.own s v k o l) = mkOwn k o l (g s v) := by
  simp only [rn]
  cases g s v with
  | none => rfl
  | some x => rfl
theorem n_map (s : Site) (v : Nat) : rn g (.map s v) = mkMap (g s v) := by
  simp only [rn]
  cases g s v with
  | none => rfl
  | some x => rfl
theorem mk_ptr (s : Site) (v o : Nat) : mkPtr o (some (s, v)) = .ptr s v o := rfl
theorem mk_ept (s : Site) (v k i o : Nat) : mkEpt k i o (some (s, v)) = .ept s v k i o := rfl
theorem mk_own (s : Site) (v k o l : Nat) : mkOwn k o l (some (s, v)) = .own s v k o l := rfl
theorem mk_map (s : Site) (v : Nat) : mkMap (some (s, v)) = .map s v := rfl
theorem mk_ptr0 (o : Nat) : mkPtr o none = .dead := rfl
theorem mk_ept0 (k i o : Nat) : mkEpt k i o none = .dead := rfl
theorem mk_own0 (k o l : Nat) : mkOwn k o l none = .dead := rfl
theorem mk_map0 : mkMap none = .dead := rfl
theorem n_agg (cs : List AV) : rn g (.agg cs) = .agg (rnL g cs) := rfl
theorem n_tup (cs : List AV) : rn g (.tup cs) = .tup (rnL g cs) := rfl
theorem n_func (f : FuncId) (cs : List AV) : rn g (.func f cs) = .func f (rnL g cs) := rfl
theorem n_iface (t : TypeId) (x : AV) : rn g (.iface t x) = .iface t (rn g x) := rfl
theorem n_val (v : Value) : rn g (.val v) = .val v := rfl
theorem n_list (k : Nat) (rows : List (List AV)) : rn g (.list k rows) = .list k rows := rfl
theorem n_rop (cs : List AV) : rn g (.rop cs) = .rop cs := rfl
theorem n_junk : rn g .junk = .junk := rfl
theorem n_dead : rn g .dead = .dead := rfl
theorem nL_nil : rnL g [] = [] := rfl
theorem nL_cons (x : AV) (xs : List AV) : rnL g (x :: xs) = rn g x :: rnL g xs := rfl
def dnI (n ver : Nat) : Option Nat → Option (Site × Nat)
  | some i => if n = ver then some (.e i, 0) else none
  | none => none
theorem dn_eq (s : Site) (ver : Nat) : dnG hp ss s ver = dnI (hp.get s).1 ver (idx ss s) := by
  unfold dnG
  cases idx ss s <;> rfl
theorem dn_some (n ver i : Nat) : dnI n ver (some i) = if n = ver then some (.e i, 0) else none := rfl
theorem dn_none (n ver : Nat) : dnI n ver none = none := rfl
theorem idx_nil (s : Site) : idx [] s = none := rfl
theorem idx_cons (x s : Site) (r : List Site) : idx (x :: r) s = if x = s then some 0 else (idx r s).map (· + 1) := rfl
def upI (hp : Hp) (ver : Nat) : Option Site → Option (Site × Nat)
  | some s' => some (s', (hp.get s').1 + ver)
  | none => none
theorem up_e (i ver : Nat) : upG hp ss (.e i) ver = upI hp ver ss[i]? := by
  simp only [upG]
  cases ss[i]? <;> rfl
theorem up_some (s : Site) (ver : Nat) : upI hp ver (some s) = some (s, (hp.get s).1 + ver) := rfl
theorem up_l (i ver : Nat) : upG hp ss (.l i) ver = none := rfl
theorem up_m (i j ver : Nat) : upG hp ss (.m i j) ver = none := rfl
theorem hu_nil (hs : List (Nat × Blk)) (acc : Hp) : hpU hp ss [] hs acc = acc := by cases hs <;> rfl
theorem hu_gone (s : Site) (l : List Site) (acc : Hp) : hpU hp ss (s :: l) [] acc = hpU hp ss l [] (acc.set s (hp.get s).1 .gone) := rfl
theorem hu_cons (s : Site) (l : List Site) (v : Nat) (b : Blk) (r : List (Nat × Blk)) (acc : Hp) : hpU hp ss (s :: l) ((v, b) :: r) acc = hpU hp ss l r (acc.set s ((hp.get s).1 + v) (rnB (upG hp ss) b)) := rfl

/-! ### The end of such a function -/
def FinAll (hp : Hp) (m : Nat) (mv : List (Option Site)) (r : AV) (hs' : List (Nat × Blk)) (l : List AV) : Prop :=
  mvOk mv = true ∧ RetH (nbO m mv) (fzL hp (outG hp m mv hs') l) r ∧ FinE (nbO m mv) hp (outG hp m mv hs') 0 m hs' ∧ FinM (nbO m mv) hp (outG hp m mv hs') mv (hs'.drop m)
def AFh (P : Program) (r : AV) (hs' : List (Nat × Blk)) (m : Nat) (mv : List (Option Site)) : List ResultVar → List AV → ASt → Prop
  | [], acc, st => FinAll st.hp m mv r hs' acc.reverse
  | .tmp t :: rs, acc, st => AFh P r hs' m mv rs (tget st.tm t :: acc) st
  | .cell a t :: rs, acc, st => ALoad P t (tget st.tm a) st.hp fun v => AFh P r hs' m mv rs (v :: acc) st
def kfh (P : Program) (r : AV) (hs' : List (Nat × Blk)) (m : Nat) (mv : List (Option Site)) (rs : List ResultVar) (acc : List AV) (st : ASt) (v : AV) : Prop := AFh P r hs' m mv rs (v :: acc) st
theorem afh_of {r : AV} {hs' : List (Nat × Blk)} {m : Nat} {mv : List (Option Site)} {st : ASt} : ∀ (rs : List ResultVar) (acc : List AV) {Kk : List AV → Prop}, (∀ l, Kk l = AFh P r hs' m mv [] (l.reverse ++ acc) st) → ARes P st rs Kk = AFh P r hs' m mv rs acc st := by
  intro rs
  induction rs with
  | nil => intro acc Kk h; simp only [ARes, h, List.reverse_nil, List.nil_append]
  | cons x rs ih =>
    intro acc Kk h
    cases x with
    | tmp t =>
      simp only [ARes, AFh]
      exact ih _ fun l => by rw [h]; simp only [List.reverse_cons, List.append_assoc, List.cons_append, List.nil_append]
    | cell a t =>
      simp only [ARes, AFh]
      congr 1
      funext v
      exact ih _ fun l => by rw [h]; simp only [List.reverse_cons, List.append_assoc, List.cons_append, List.nil_append]
theorem eh_n (rs : List ResultVar) (r : AV) (hs' : List (Nat × Blk)) (m : Nat) (mv : List (Option Site)) (st : ASt) : AEndH P rs r hs' m mv .normal st = AFh P r hs' m mv rs [] st := by
  show AFinH P rs r hs' m mv st = _
  unfold AFinH
  refine afh_of _ _ fun l => ?_
  simp only [AFh, List.append_nil, List.reverse_reverse]
  rfl
theorem eh_r (rs : List ResultVar) (r : AV) (hs' : List (Nat × Blk)) (m : Nat) (mv : List (Option Site)) (st : ASt) : AEndH P rs r hs' m mv .ret st = AFh P r hs' m mv rs [] st := eh_n rs r hs' m mv st
section
variable {r : AV} {hs' : List (Nat × Blk)} {m : Nat} {mv : List (Option Site)} {acc : List AV} {rs : List ResultVar} {tm : List (Nat × AV)} {n : Nat}
theorem fh_end : AFh P r hs' m mv [] acc ⟨tm, hp, n⟩ = FinAll hp m mv r hs' acc.reverse := rfl
theorem fh_tmp (t : Nat) : AFh P r hs' m mv (.tmp t :: rs) acc ⟨tm, hp, n⟩ = AFh P r hs' m mv rs (tget tm t :: acc) ⟨tm, hp, n⟩ := rfl
theorem fh_cell (a t : Nat) : AFh P r hs' m mv (.cell a t :: rs) acc ⟨tm, hp, n⟩ = ALoad P t (tget tm a) hp (kfh P r hs' m mv rs acc ⟨tm, hp, n⟩) := rfl
theorem kfh_eq (v : AV) (st : ASt) : kfh P r hs' m mv rs acc st v = AFh P r hs' m mv rs (v :: acc) st := rfl
theorem fa_all (l : List AV) : FinAll hp m mv r hs' l = (mvOk mv = true ∧ RetH (nbO m mv) (fzL hp (outG hp m mv hs') l) r ∧ FinE (nbO m mv) hp (outG hp m mv hs') 0 m hs' ∧ FinM (nbO m mv) hp (outG hp m mv hs') mv (hs'.drop m)) := rfl
end
theorem mo_nil : mvOk [] = true := rfl
theorem mo_some (s : Site) (r : List (Option Site)) : mvOk (some s :: r) = (!isE s && !r.contains (some s) && mvOk r) := rfl
theorem mo_none (r : List (Option Site)) : mvOk (none :: r) = mvOk r := rfl
theorem ie_e (i : Nat) : isE (.e i) = true := rfl
theorem ie_l (i : Nat) : isE (.l i) = false := rfl
theorem ie_m (i j : Nat) : isE (.m i j) = false := rfl
section
variable {nb : Nat → Prop}
theorem rh_one (x r : AV) : RetH nb [x] r = CvA nb x r := rfl
theorem rh_nil (rs : List AV) : RetH nb [] (.tup rs) = CvL nb [] rs := rfl
theorem rh_two (x y : AV) (l rs : List AV) : RetH nb (x :: y :: l) (.tup rs) = CvL nb (x :: y :: l) rs := rfl
theorem fe_zero (i : Nat) (r : List (Nat × Blk)) : FinE nb hp g i 0 r = True := by cases r <;> rfl
theorem fe_suc (i m : Nat) (v : Nat) (b : Blk) (r : List (Nat × Blk)) : FinE nb hp g i (m + 1) ((v, b) :: r) = ((if isGone b = true then v = 0 else (hp.get (.e i)).1 = v ∧ CvB nb (fzB hp g (hp.get (.e i)).2) b) ∧ FinE nb hp g (i + 1) m r) := rfl
theorem fm_nil (r : List (Nat × Blk)) : FinM nb hp g [] r = (r = []) := by cases r <;> rfl
theorem fm_some (s : Site) (mv : List (Option Site)) (v : Nat) (b : Blk) (r : List (Nat × Blk)) : FinM nb hp g (some s :: mv) ((v, b) :: r) = ((v = 1 ∧ isGone b = false ∧ CvB nb (fzB hp g (hp.get s).2) b) ∧ FinM nb hp g mv r) := rfl
theorem fm_none (mv : List (Option Site)) (v : Nat) (t : TypeId) (k : Nat) (q : Option Nat) (rows : List (List AV)) (r : List (Nat × Blk)) : FinM nb hp g (none :: mv) ((v, .row t k q rows) :: r) = ((v = 1 ∧ 0 < k ∧ rows = [] ∧ (q = none ∨ q = some 0)) ∧ FinM nb hp g mv r) := rfl
theorem gone_g : isGone .gone = true := rfl
theorem gone_c (t : TypeId) (cs : List AV) : isGone (.cells t cs) = false := rfl
theorem gone_i (t : TypeId) (cs : List AV) : isGone (.icc t cs) = false := rfl
theorem gone_r (t : TypeId) (k : Nat) (q : Option Nat) (rows : List (List AV)) : isGone (.row t k q rows) = false := rfl
theorem gone_e (k : Nat) (rows : List (List AV)) : isGone (.ice k rows) = false := rfl
theorem gone_m (t : MK) (es : List (Value × Value)) : isGone (.map t es) = false := rfl
theorem cb_cells (t t' : TypeId) (cs ds : List AV) : CvB nb (.cells t cs) (.cells t' ds) = (t = t' ∧ CvC nb cs ds) := rfl
theorem cb_row (t t' : TypeId) (k k' : Nat) (q q' : Option Nat) (rows rows' : List (List AV)) : CvB nb (.row t k q rows) (.row t' k' q' rows') = (t = t' ∧ k = k' ∧ (q' = none ∨ q' = q) ∧ rows' <+: rows) := rfl
theorem cb_map (t t' : MK) (es es' : List (Value × Value)) : CvB nb (.map t es) (.map t' es') = (t = t' ∧ es = es') := by simp only [CvB, Blk.map.injEq]
theorem cb_ice (k k' : Nat) (rows rows' : List (List AV)) : CvB nb (.ice k rows) (.ice k' rows') = (k = k' ∧ rows = rows') := by simp only [CvB, Blk.ice.injEq]
theorem cb_icc (t t' : TypeId) (cs ds : List AV) : CvB nb (.icc t cs) (.icc t' ds) = (t = t' ∧ cs = ds) := by simp only [CvB, Blk.icc.injEq]
theorem cl_nil : CvL nb [] [] = True := rfl
theorem cl_cons (x y : AV) (xs ys : List AV) : CvL nb (x :: xs) (y :: ys) = (CvA nb x y ∧ CvL nb xs ys) := rfl
theorem cc_nil : CvC nb [] [] = True := rfl
theorem cc_cons (x y : AV) (xs ys : List AV) : CvC nb (x :: xs) (y :: ys) = (Cv nb x y ∧ CvC nb xs ys) := rfl
theorem nb_eq (m : Nat) (mv : List (Option Site)) (i : Nat) : nbO m mv i = (m ≤ i ∧ mv[i - m]? = some none) := rfl
theorem cn_own (i v k off len : Nat) : Cv nb (.val (.slice none 0 0)) (.own (.e i) v k off len) = (nb i ∧ v = 1 ∧ off = 0 ∧ len = 0) := rfl
end
def fzO (hp : Hp) (g : Site → Nat → Option (Site × Nat)) (x : AV) : Option (Site × Nat) → AV
  | some _ => rn g x
  | none => fz1 hp x
theorem z_ptr (s : Site) (v o : Nat) : fz hp g (.ptr s v o) = fzO hp g (.ptr s v o) (g s v) := by
  simp only [fz, fzS]
  cases g s v <;> rfl
theorem z_ept (s : Site) (v k i o : Nat) : fz hp g (.ept s v k i o) = fzO hp g (.ept s v k i o) (g s v) := by
  simp only [fz, fzS]
  cases g s v <;> rfl
theorem z_own (s : Site) (v k o l : Nat) : fz hp g (.own s v k o l) = fzO hp g (.own s v k o l) (g s v) := by
  simp only [fz, fzS]
  cases g s v <;> rfl
theorem z_map (s : Site) (v : Nat) : fz hp g (.map s v) = fzO hp g (.map s v) (g s v) := by
  simp only [fz, fzS]
  cases g s v <;> rfl
theorem zo_some (x : AV) (q : Site × Nat) : fzO hp g x (some q) = rn g x := rfl
theorem zo_none (x : AV) : fzO hp g x none = fz1 hp x := rfl
def fzQ : Option (AV × Hp) → AV
  | some (y, _) => y
  | none => .dead
theorem z1_eq (x : AV) : fz1 hp x = fzQ (pass1 hp x) := by
  unfold fz1
  cases pass1 hp x <;> rfl
theorem zq_some (y : AV) (h : Hp) : fzQ (some (y, h)) = y := rfl
theorem zq_none : fzQ none = .dead := rfl
theorem z_agg (cs : List AV) : fz hp g (.agg cs) = .agg (fzL hp g cs) := rfl
theorem z_tup (cs : List AV) : fz hp g (.tup cs) = .tup (fzL hp g cs) := rfl
theorem z_func (f : FuncId) (cs : List AV) : fz hp g (.func f cs) = .func f (fzL hp g cs) := rfl
theorem z_iface (t : TypeId) (x : AV) : fz hp g (.iface t x) = .iface t (fz hp g x) := rfl
theorem z_val (v : Value) : fz hp g (.val v) = .val v := rfl
theorem z_list (k : Nat) (rows : List (List AV)) : fz hp g (.list k rows) = .list k rows := rfl
theorem z_rop (cs : List AV) : fz hp g (.rop cs) = .rop cs := rfl
theorem z_junk : fz hp g .junk = .junk := rfl
theorem z_dead : fz hp g .dead = .dead := rfl
theorem zl_nil : fzL hp g [] = [] := rfl
theorem zl_cons (x : AV) (xs : List AV) : fzL hp g (x :: xs) = fz hp g x :: fzL hp g xs := rfl
theorem zb_cells (t : TypeId) (cs : List AV) : fzB hp g (.cells t cs) = .cells t (fzL hp g cs) := rfl
theorem zb_icc (t : TypeId) (cs : List AV) : fzB hp g (.icc t cs) = .icc t cs := rfl
theorem zb_row (t : TypeId) (k : Nat) (q : Option Nat) (rows : List (List AV)) : fzB hp g (.row t k q rows) = .row t k q rows := rfl
theorem zb_ice (k : Nat) (rows : List (List AV)) : fzB hp g (.ice k rows) = .ice k rows := rfl
theorem zb_map (t : MK) (es : List (Value × Value)) : fzB hp g (.map t es) = .map t es := rfl
theorem zb_gone : fzB hp g .gone = .gone := rfl
def outI (m n ver : Nat) : Option Nat → Option (Site × Nat)
  | some j => if ver = n then some (.e (m + j), 1) else none
  | none => none
theorem og_e (m : Nat) (mv : List (Option Site)) (hs' : List (Nat × Blk)) (i ver : Nat) : outG hp m mv hs' (.e i) ver = if i < m ∧ isGone ((hs'[i]?).getD (0, .gone)).2 = false then some (.e i, ver) else none := rfl
theorem og_l (m : Nat) (mv : List (Option Site)) (hs' : List (Nat × Blk)) (i ver : Nat) : outG hp m mv hs' (.l i) ver = outI m (hp.get (.l i)).1 ver (idxO mv (.l i)) := by
  simp only [outG]
  cases idxO mv (.l i) <;> rfl
theorem og_m (m : Nat) (mv : List (Option Site)) (hs' : List (Nat × Blk)) (i j ver : Nat) : outG hp m mv hs' (.m i j) ver = outI m (hp.get (.m i j)).1 ver (idxO mv (.m i j)) := by
  simp only [outG]
  cases idxO mv (.m i j) <;> rfl
theorem oj_some (m n ver j : Nat) : outI m n ver (some j) = if ver = n then some (.e (m + j), 1) else none := rfl
theorem oj_none (m n ver : Nat) : outI m n ver none = none := rfl
theorem io_nil (s : Site) : idxO [] s = none := rfl
theorem io_some (x s : Site) (r : List (Option Site)) : idxO (some x :: r) s = if x = s then some 0 else (idxO r s).map (· + 1) := rfl
theorem io_none (s : Site) (r : List (Option Site)) : idxO (none :: r) s = (idxO r s).map (· + 1) := rfl
theorem he_nil (i : Nat) : hpE i [] = [] := rfl
theorem he_cons (i : Nat) (x : Nat × Blk) (r : List (Nat × Blk)) : hpE i (x :: r) = (.e i, x) :: hpE (i + 1) r := rfl
end
end Go.Proofs.YtanbgeelphfggaaDoor.E
