/- Several texts in one: DeskP DeskW GrpX DeskI DeskR DeskQ. No conditions. -/
import Derived.Test.YtonolfpnidaflaaGreatDoorGSv
import Derived.Test.YtonolfpnidaflaaGreatDoorGGr
import Derived.Test.YtonolfpnidaflaaGreatDoorGTx
import Derived.Test.YtonolfpnidaflaaGreatDoorEngineD
namespace Go.Proofs.YtonolfpnidaflaaGreatDoor.E
open Go
set_option linter.unusedSimpArgs false
set_option linter.unusedVariables false
set_option linter.unusedSectionVars false
set_option maxRecDepth 20000
set_option maxHeartbeats 1000000
/-- A number, at a place in a line. -/
def numD (l : List ByteArray) (i : Nat) : Option (Int × Nat) := match l[i]? with
 | some s => (numOk s.data.toList).map fun n => (n, i + 1)
 | none => none
theorem numD_some {l : List ByteArray} {i j : Nat} {n : Int} (h : numD l i = some (n, j)) : ∃ s, l[i]? = some s ∧ numOk s.data.toList = some n ∧ j = i + 1 := by
 unfold numD at h
 split at h
 ·rename_i s e
  rw [Option.map_eq_some_iff] at h
  obtain ⟨m, hm, e2⟩ := h
  cases e2
  exact ⟨s, e, hm, rfl⟩
 ·cases h
theorem numD_none {l : List ByteArray} {i : Nat} (h : numD l i = none) : l[i]? = none ∨ ∃ s, l[i]? = some s ∧ numOk s.data.toList = none := by
 unfold numD at h
 split at h
 ·rename_i s e
  exact .inr ⟨s, e, Option.map_eq_none_iff.1 h⟩
 ·rename_i e
  exact .inl e
theorem numD_le {l : List ByteArray} {i j : Nat} {n : Int} (h : numD l i = some (n, j)) : j ≤ l.length := by
 obtain ⟨s, hx, _, rfl⟩ := numD_some h
 exact (List.getElem?_eq_some_iff.1 hx).1
theorem numD_I {l : List ByteArray} {i j : Nat} {n : Int} (h : numD l i = some (n, j)) : inI n := by
 obtain ⟨s, _, hn, _⟩ := numD_some h
 exact Lib.atoiAll_bounds (numOk_itoa hn).2.1
def whoD (l : List ByteArray) (i : Nat) : Option (Wh × Nat) := match numD l i with
 | some (a, j) => match numD l j with
  | some (b, k) => match numD l k with
   | some (c, m) => some (⟨a, b, c⟩, m)
   | none => none
  | none => none
 | none => none
theorem whoD_some {l : List ByteArray} {i j : Nat} {w : Wh} (h : whoD l i = some (w, j)) : ∃ j1 j2, numD l i = some (w.role, j1) ∧ numD l j1 = some (w.why, j2) ∧ numD l j2 = some (w.time, j) := by
 unfold whoD at h
 split at h
 ·rename_i a j1 e1
  split at h
  ·rename_i b j2 e2
   split at h
   ·rename_i c j3 e3
    cases h
    exact ⟨j1, j2, e1, e2, e3⟩
   ·cases h
  ·cases h
 ·cases h
theorem whoD_I {l : List ByteArray} {i j : Nat} {w : Wh} (h : whoD l i = some (w, j)) : whoI w := by
 obtain ⟨_, _, h1, h2, h3⟩ := whoD_some h
 exact ⟨numD_I h1, numD_I h2, numD_I h3⟩
theorem whoD_le {l : List ByteArray} {i j : Nat} {w : Wh} (h : whoD l i = some (w, j)) : j ≤ l.length := by
 obtain ⟨_, _, _, _, h3⟩ := whoD_some h
 exact numD_le h3
structure Dk where
 g : Gr
 s : Sv
 up : List Int
 rs : List Rl
/-- What a line asks. -/
inductive Cl where
 | op (o : OpS)
 | rule (r : Rl)
 | role (m : Int)
 | below (a b c e : Int)
 | send (i n : Int)
 | ack (i n : Int)
 | sure
inductive Rd where
 | bad (e : Int)
 | none
 | got (c : Cl) (j : Nat)
def rdW (l : List ByteArray) (i : Nat) (k : Wh → Nat → Rd) : Rd := match whoD l i with
 | some (w, j) => k w j
 | none => .bad 10
def rdN (l : List ByteArray) (i : Nat) (k : Int → Nat → Rd) : Rd := match numD l i with
 | some (n, j) => k n j
 | none => .bad 10
def rdS (l : List ByteArray) (i : Nat) (k : ByteArray → Nat → Rd) : Rd := match l[i]? with
 | some s => k s (i + 1)
 | none => .bad 10
abbrev wPut : ByteArray := ⟨#[112, 117, 116]⟩
abbrev wCut : ByteArray := ⟨#[99, 117, 116]⟩
abbrev wGet : ByteArray := ⟨#[103, 101, 116]⟩
abbrev wHist : ByteArray := ⟨#[104, 105, 115, 116]⟩
abbrev wNeed : ByteArray := ⟨#[110, 101, 101, 100]⟩
abbrev wAudit : ByteArray := ⟨#[97, 117, 100, 105, 116]⟩
abbrev wFind : ByteArray := ⟨#[102, 105, 110, 100]⟩
abbrev wAllow : ByteArray := ⟨#[97, 108, 108, 111, 119]⟩
abbrev wDeny : ByteArray := ⟨#[100, 101, 110, 121]⟩
abbrev wRole : ByteArray := ⟨#[114, 111, 108, 101]⟩
abbrev wBelow : ByteArray := ⟨#[98, 101, 108, 111, 119]⟩
abbrev wSend : ByteArray := ⟨#[115, 101, 110, 100]⟩
abbrev wAck : ByteArray := ⟨#[97, 99, 107]⟩
abbrev wSure : ByteArray := ⟨#[115, 117, 114, 101]⟩
def opO (k : Int) (w : Wh) : OpS := ⟨k, w, [], ⟨⟨#[]⟩, 0, [], []⟩, ⟨#[]⟩, ⟨⟨#[]⟩, ⟨#[]⟩⟩⟩
def rdR (l : List ByteArray) (i : Nat) (b : Bool) : Rd := rdN l i fun r i => rdN l i fun w i => rdN l i fun f i => rdN l i fun t i => rdN l i fun c i => .got (.rule ⟨r, w, f, t, c, b⟩) i
def asksD (word : ByteArray) (l : List ByteArray) (i : Nat) : Rd :=
 if word = wPut then rdW l i fun w i => rdS l i fun s i => if readC s.data.toList = 0 then .got (.op { opO 2 w with rcd := readR s.data.toList }) i else .bad (readC s.data.toList)
 else if word = wCut then rdW l i fun w i => rdS l i fun s i => rdN l i fun n i => .got (.op { opO 3 w with id := s, rcd := ⟨⟨#[]⟩, n, [], []⟩ }) i
 else if word = wGet then rdW l i fun w i => rdS l i fun s i => .got (.op { opO 4 w with id := s }) i
 else if word = wHist then rdW l i fun w i => rdS l i fun s i => .got (.op { opO 6 w with id := s }) i
 else if word = wNeed then rdW l i fun w i => rdS l i fun s i => .got (.op { opO 7 w with id := s }) i
 else if word = wAudit then rdW l i fun w i => .got (.op (opO 8 w)) i
 else if word = wFind then rdW l i fun w i => rdS l i fun k i => rdS l i fun v i => .got (.op { opO 5 w with fd := ⟨k, v⟩ }) i
 else if word = wAllow then rdR l i true
 else if word = wDeny then rdR l i false
 else .none
def othersD (word : ByteArray) (l : List ByteArray) (i : Nat) : Rd :=
 if word = wRole then rdN l i fun n i => .got (.role n) i
 else if word = wBelow then rdN l i fun a i => rdN l i fun b i => rdN l i fun c i => rdN l i fun d i => .got (.below a b c d) i
 else if word = wSend then rdN l i fun a i => rdN l i fun b i => .got (.send a b) i
 else if word = wAck then rdN l i fun a i => rdN l i fun b i => .got (.ack a b) i
 else if word = wSure then .got .sure i
 else .bad 10
def sendE (g : Gr) (i n : Int) : Int := if 1 ≤ i ∧ i < g.n then (if n < 0 ∨ n > g.log.length then 1 else 0) else 4
def ackE (g : Gr) (i n : Int) : Int := if 1 ≤ i ∧ i < g.n then (if n < 0 ∨ n > g.log.length ∨ n > (gHas g (i - 1).toNat).length then 1 else 0) else 4
abbrev okB : List UInt8 := [111, 107]
def toldL (l : List Int) : List UInt8 := okB ++ l.flatMap fun n => 32 :: Lib.itoa n
def verL (v : Vn) : List UInt8 := if v.gone then 32 :: 45 :: (v.r.id.data.toList ++ 59 :: Lib.itoa v.r.cats) else 32 :: wrL v.r
def ntL (n : Nt) : List UInt8 := 32 :: (n.id.data.toList ++ 58 :: (Lib.itoa n.who.role ++ 58 :: (Lib.itoa n.who.why ++ 58 :: Lib.itoa n.who.time)))
def shownL (t : Td) : List UInt8 := okB ++ (t.vs.flatMap verL ++ (t.ids.flatMap (fun s => 32 :: s.data.toList) ++ t.nts.flatMap ntL))
/-- What a server is asked, and what is laid into the log. -/
def doD (d : Dk) (o : OpS) : Dk × Except Int (List UInt8) :=
 if (doS d.s o).2.code = 0 then ({ d with s := (doS d.s o).1, g := if chkOp o = 0 ∧ d.g.log.length < 60 then gAdd d.g (bs (lineL o)) else d.g }, .ok (shownL (doS d.s o).2))
 else ({ d with s := (doS d.s o).1 }, .error (doS d.s o).2.code)
def clD (d : Dk) : Cl → Dk × Except Int (List UInt8)
 | .op o => doD d o
 | .rule r => match (doD d { opO 1 ⟨0, 0, 0⟩ with rs := d.rs ++ [r] }).2 with
  | .ok x => ({ (doD d { opO 1 ⟨0, 0, 0⟩ with rs := d.rs ++ [r] }).1 with rs := d.rs ++ [r] }, .ok x)
  | .error e => ((doD d { opO 1 ⟨0, 0, 0⟩ with rs := d.rs ++ [r] }).1, .error e)
 | .role m => if chkUp (d.up ++ [m]) = 0 then ({ d with s := ⟨d.up ++ [m], d.rs, [], []⟩, up := d.up ++ [m] }, .ok okB) else (d, .error (chkUp (d.up ++ [m])))
 | .below a b c e => (d, if okLab a b && okLab c e then .ok (if decide (a ≤ c) && bnot b e == 0 then okB ++ [32, 121, 101, 115] else okB ++ [32, 110, 111]) else .error 1)
 | .send i n => if sendE d.g i n = 0 then
   (if tkE d.g (i - 1).toNat n.toNat (d.g.log.drop n.toNat) = 0 then ({ d with g := gTake d.g (i - 1).toNat n.toNat (d.g.log.drop n.toNat) }, .ok (toldL [((tkL d.g (i - 1).toNat n.toNat (d.g.log.drop n.toNat)).length : Nat)]))
    else (d, .error (tkE d.g (i - 1).toNat n.toNat (d.g.log.drop n.toNat))))
  else (d, .error (sendE d.g i n))
 | .ack i n => if ackE d.g i n = 0 then ({ d with g := gAck d.g (i - 1).toNat n }, .ok okB) else (d, .error (ackE d.g i n))
 | .sure => (d, .ok (toldL [gSure d.g]))
/-- An error, aS it is answered. -/
def errL (e : Int) : List UInt8 := [101, 114, 114, 111, 114, 32] ++ Lib.itoa e
/-- What was read, done, if the line ends there. -/
def rdD (d : Dk) (l : List ByteArray) : Rd → Dk × Except Int (List UInt8)
 | .bad e => (d, .error e)
 | .none => (d, .error 10)
 | .got c j => if j = l.length then clD d c else (d, .error 10)
def lineD (d : Dk) (l : List ByteArray) : Dk × Except Int (List UInt8) := match l with
 | [] => (d, .error 10)
 | w :: _ => match asksD w l 1 with
  | .none => rdD d l (othersD w l 1)
  | r => rdD d l r
/-- One line, answered. -/
def ansD (d : Dk) (l : List ByteArray) : Dk × List UInt8 := ((lineD d l).1, match (lineD d l).2 with
 | .ok x => x
 | .error e => errL e)
/-- What is so of a desk all along. -/
structure dkOk (d : Dk) : Prop where
 g : grOk d.g
 n : d.g.n = 3
 s : svOk d.s
 up : chkUp d.up = 0
 rs : chkRs d.rs = 0
 ack : ∀ x ∈ d.g.ack, 0 ≤ x ∧ x ≤ 60
 nts : ∀ n ∈ d.s.notes, whoI n.who ∧ idOk n.id = true
end Go.Proofs.YtonolfpnidaflaaGreatDoor.E

namespace Go.Proofs.YtonolfpnidaflaaGreatDoor.E
open Go
set_option linter.unusedSimpArgs false
set_option linter.unusedVariables false
set_option linter.unusedSectionVars false
set_option maxRecDepth 20000
set_option maxHeartbeats 1000000
abbrev flt (e : Int) : AV := .iface 160 (.agg [I e])
theorem bad_pan (e : Int) : OkP Tryz.prog 139 [I e] [] (flt e) [] := by
 refine OkP.of_wp (n := 5) Tryz.func139 rfl rfl (by simp) fo (by kernel_rfl) ?_
 simp +decide -implicitDefEqProofs only [S0, simprocAttr, X0]
 exact ⟨[], by simp +decide -implicitDefEqProofs only [S0, simprocAttr]⟩
theorem must_ok : Ok Tryz.prog 125 [I 0] (.tup []) := by
 refine Ok.of_wp (rs := []) (n := 6) Tryz.func125 rfl rfl rfl (by simp) fo (by kernel_rfl) ?_
 simp +decide -implicitDefEqProofs only [S0, simprocAttr]
theorem must_pan {e : Int} (h : e ≠ 0) : OkP Tryz.prog 125 [I e] [] (flt e) [] := by
 refine OkP.of_wp (n := 6) Tryz.func125 rfl rfl (by simp) fo (by kernel_rfl) ?_
 have h2 : (e != 0) = true := bne_iff_ne.2 h
 simp +decide -implicitDefEqProofs only [S0, simprocAttr, X0, h, h2]
 refine .inr (pan (bad_pan e) [] ?_)
 simp +decide -implicitDefEqProofs only [S0, simprocAttr]
 exact ⟨[], by simp +decide -implicitDefEqProofs only [S0, simprocAttr]⟩
/-- The words of a line, and which comes next. -/
abbrev wdB (l : List ByteArray) (i : Nat) : Blk := .cells 164 [strs l, I i]
theorem wnext_ok {l : List ByteArray} {i : Nat} {x : ByteArray} (h : l[i]? = some x) (hl : l.length ≤ 1000000) : OkH Tryz.prog 124 [.ptr (.e 0) 0 0] [wdB l i] (S x) [(0, wdB l (i + 1))] := by
 have hi : i < l.length := (List.getElem?_eq_some_iff.1 h).1
 have h1 : ((i : Int) == (l.length : Int)) = false := by rw [beq_eq_false_iff_ne]; omega
 have hw : IntKind.i64.wrap ((i : Int) + 1) = ((i + 1 : Nat) : Int) := by rw [wr_i64 (by omega) (by omega)]; omega
 have hw2 : IntKind.i64.wrap (((i + 1 : Nat) : Int) - 1) = (i : Int) := by rw [wr_i64 (by omega) (by omega)]; omega
 have h3 : (i : Int) < l.length := by omega
 refine OkH.of_wp (rs := [.tmp 2]) (n := 32) [] Tryz.func124 rfl rfl rfl (by simp) fo (by kernel_rfl) ?_
 simp +decide -implicitDefEqProofs only [S0, simprocAttr, h1, hw, hw2, h3, h]
theorem wnext_bad {l : List ByteArray} {i : Nat} (h : i = l.length) : OkP Tryz.prog 124 [.ptr (.e 0) 0 0] [wdB l i] (flt 10) [(0, .gone)] := by
 subst h
 refine OkP.of_wp (n := 32) Tryz.func124 rfl rfl (by simp) fo (by kernel_rfl) ?_
 simp +decide -implicitDefEqProofs only [S0, simprocAttr, X0]
 refine .inr (pan (bad_pan 10) [] ?_)
 simp +decide -implicitDefEqProofs only [S0, simprocAttr]
 exact ⟨[], by simp +decide -implicitDefEqProofs only [S0, simprocAttr]⟩
def wdOk (l : List ByteArray) : Prop := l.length ≤ 1000000 ∧ ∀ x ∈ l, x.size ≤ 100000
theorem bs_data (s : ByteArray) : bs s.data.toList = s := ba_ext (by simp [bs])
theorem dnum_ok {l : List ByteArray} {i j : Nat} {n : Int} (h : numD l i = some (n, j)) (hl : wdOk l) : OkH Tryz.prog 126 [.ptr (.e 0) 0 0] [wdB l i] (I n) [(0, wdB l j)] := by
 obtain ⟨s, hx, hn, rfl⟩ := numD_some h
 obtain ⟨hi, ha, h9⟩ := numOk_itoa hn
 have hv := Lib.atoiAll_bounds ha
 have hsz := hl.2 s (List.mem_of_getElem? hx)
 refine OkH.of_wp (rs := [.tmp 2]) (n := 28) [] Tryz.func126 rfl rfl rfl (by simp) fo (by kernel_rfl) ?_
 simp +decide -implicitDefEqProofs only [S0, simprocAttr]
 refine callH (wnext_ok hx hl.1) [.e 0] ?_
 simp +decide -implicitDefEqProofs only [S0, simprocAttr]
 refine call_eq (Atoi_ok s (by omega)) ?_
 unfold errA numA
 rw [ha]
 have hs9 : ¬ ((s.size : Int) > 9) := by
  have : s.size = s.data.toList.length := by rw [Array.length_toList]; rfl
  omega
 simp +decide -implicitDefEqProofs only [S0, simprocAttr, hs9]
 refine call_eq (Itoa_ok n hv) ?_
 have e3 : bs (Lib.itoa n) = s := by rw [hi]; exact bs_data s
 rw [e3]
 have e4 : decide (s = s) = true := decide_eq_true rfl
 simp +decide -implicitDefEqProofs only [S0, simprocAttr, toList_beq, e4]
theorem dnum_bad {l : List ByteArray} {i : Nat} (h : numD l i = none) (hl : wdOk l) (hil : i ≤ l.length) : OkP Tryz.prog 126 [.ptr (.e 0) 0 0] [wdB l i] (flt 10) [(0, .gone)] := by
 refine OkP.of_wp (n := 28) Tryz.func126 rfl rfl (by simp) fo (by kernel_rfl) ?_
 rcases numD_none h with hx | ⟨s, hx, hn⟩
 ·have e : i = l.length := by
   have := List.getElem?_eq_none_iff.1 hx
   omega
  simp +decide -implicitDefEqProofs only [S0, simprocAttr, X0]
  refine .inr (pan (wnext_bad e) [.e 0] ?_)
  simp +decide -implicitDefEqProofs only [S0, simprocAttr]
  exact ⟨[], by simp +decide -implicitDefEqProofs only [S0, simprocAttr]⟩
 ·have hsz := hl.2 s (List.mem_of_getElem? hx)
  simp +decide -implicitDefEqProofs only [S0, simprocAttr, X0]
  refine .inl (callH (wnext_ok hx hl.1) [.e 0] ?_)
  simp +decide -implicitDefEqProofs only [S0, simprocAttr, X0]
  refine .inl (call_eq (Atoi_ok s (by omega)) ?_)
  unfold errA numA
  unfold numOk at hn
  cases hb : Lib.atoiAll s.data.toList with
  | ok v =>
   have hv := Lib.atoiAll_bounds hb
   rw [hb] at hn
   simp only at hn
   have hsl : s.size = s.data.toList.length := by rw [Array.length_toList]; rfl
   by_cases hb9 : (s.size : Int) > 9
   ·simp +decide -implicitDefEqProofs only [S0, simprocAttr, X0, hb9]
    refine .inr (pan (bad_pan 10) [] ?_)
    simp +decide -implicitDefEqProofs only [S0, simprocAttr]
    exact ⟨[], by simp +decide -implicitDefEqProofs only [S0, simprocAttr]⟩
   ·simp +decide -implicitDefEqProofs only [S0, simprocAttr, X0, hb9]
    refine call_eq (Itoa_ok v hv) ?_
    have hbi : ¬ Lib.itoa v = s.data.toList := fun e => by rw [if_pos ⟨by omega, e⟩] at hn; cases hn
    have hbi' : decide (s = bs (Lib.itoa v)) = false := decide_eq_false (fun e => hbi (by rw [e]; simp [bs]))
    simp +decide -implicitDefEqProofs only [S0, simprocAttr, X0, toList_beq, hbi']
    refine .inr (pan (bad_pan 10) [] ?_)
    simp +decide -implicitDefEqProofs only [S0, simprocAttr]
    exact ⟨[], by simp +decide -implicitDefEqProofs only [S0, simprocAttr]⟩
  | _ =>
   simp +decide -implicitDefEqProofs only [S0, simprocAttr, X0]
   refine .inr (pan (bad_pan 10) [] ?_)
   simp +decide -implicitDefEqProofs only [S0, simprocAttr]
   exact ⟨[], by simp +decide -implicitDefEqProofs only [S0, simprocAttr]⟩
theorem who_ok {l : List ByteArray} {i j : Nat} {w : Wh} (h : whoD l i = some (w, j)) (hl : wdOk l) : OkH Tryz.prog 123 [.ptr (.e 0) 0 0] [wdB l i] (whoV w) [(0, wdB l j)] := by
 unfold whoD at h
 split at h
 ·rename_i a j1 e1
  split at h
  ·rename_i b j2 e2
   split at h
   ·rename_i c j3 e3
    cases h
    refine OkH.of_wp (rs := [.cell 2 30]) (n := 10) [] Tryz.func123 rfl rfl rfl (by simp) fo (by kernel_rfl) ?_
    simp +decide -implicitDefEqProofs only [S0, simprocAttr]
    refine callH (dnum_ok e1 hl) [.e 0] ?_
    simp +decide -implicitDefEqProofs only [S0, simprocAttr]
    refine callH (dnum_ok e2 hl) [.e 0] ?_
    simp +decide -implicitDefEqProofs only [S0, simprocAttr]
    refine callH (dnum_ok e3 hl) [.e 0] ?_
    simp +decide -implicitDefEqProofs only [S0, simprocAttr]
   ·cases h
  ·cases h
 ·cases h
theorem who_bad {l : List ByteArray} {i : Nat} (h : whoD l i = none) (hl : wdOk l) (hil : i ≤ l.length) : OkP Tryz.prog 123 [.ptr (.e 0) 0 0] [wdB l i] (flt 10) [(0, .gone)] := by
 refine OkP.of_wp (n := 10) Tryz.func123 rfl rfl (by simp) fo (by kernel_rfl) ?_
 unfold whoD at h
 split at h
 ·rename_i a j1 e1
  split at h
  ·rename_i b j2 e2
   split at h
   ·cases h
   ·rename_i e3
    simp +decide -implicitDefEqProofs only [S0, simprocAttr, X0]
    refine .inl (callH (dnum_ok e1 hl) [.e 0] ?_)
    simp +decide -implicitDefEqProofs only [S0, simprocAttr, X0]
    refine .inl (callH (dnum_ok e2 hl) [.e 0] ?_)
    simp +decide -implicitDefEqProofs only [S0, simprocAttr, X0]
    refine .inr (pan (dnum_bad e3 hl (numD_le e2)) [.e 0] ?_)
    simp +decide -implicitDefEqProofs only [S0, simprocAttr]
    exact ⟨[], by simp +decide -implicitDefEqProofs only [S0, simprocAttr]⟩
  ·rename_i e2
   simp +decide -implicitDefEqProofs only [S0, simprocAttr, X0]
   refine .inl (callH (dnum_ok e1 hl) [.e 0] ?_)
   simp +decide -implicitDefEqProofs only [S0, simprocAttr, X0]
   refine .inr (pan (dnum_bad e2 hl (numD_le e1)) [.e 0] ?_)
   simp +decide -implicitDefEqProofs only [S0, simprocAttr]
   exact ⟨[], by simp +decide -implicitDefEqProofs only [S0, simprocAttr]⟩
 ·rename_i e1
  simp +decide -implicitDefEqProofs only [S0, simprocAttr, X0]
  refine .inr (pan (dnum_bad e1 hl hil) [.e 0] ?_)
  simp +decide -implicitDefEqProofs only [S0, simprocAttr]
  exact ⟨[], by simp +decide -implicitDefEqProofs only [S0, simprocAttr]⟩
theorem end_ok {l : List ByteArray} : OkH Tryz.prog 101 [.ptr (.e 0) 0 0] [wdB l l.length] (.tup []) [(0, wdB l l.length)] := by
 refine OkH.of_wp (rs := []) (n := 13) [] Tryz.func101 rfl rfl rfl (by simp) fo (by kernel_rfl) ?_
 simp +decide -implicitDefEqProofs only [S0, simprocAttr]
theorem end_bad {l : List ByteArray} {i : Nat} (h : i ≠ l.length) : OkP Tryz.prog 101 [.ptr (.e 0) 0 0] [wdB l i] (flt 10) [(0, .gone)] := by
 have h1 : ((i : Int) != (l.length : Int)) = true := by rw [bne_iff_ne]; omega
 refine OkP.of_wp (n := 13) Tryz.func101 rfl rfl (by simp) fo (by kernel_rfl) ?_
 simp +decide -implicitDefEqProofs only [S0, simprocAttr, X0, h1]
 refine .inr (pan (bad_pan 10) [] ?_)
 simp +decide -implicitDefEqProofs only [S0, simprocAttr]
 exact ⟨[], by simp +decide -implicitDefEqProofs only [S0, simprocAttr]⟩
end Go.Proofs.YtonolfpnidaflaaGreatDoor.E

namespace Go.Proofs.YtonolfpnidaflaaGreatDoor.E
open Go
set_option linter.unusedSimpArgs false
set_option linter.unusedVariables false
set_option linter.unusedSectionVars false
set_option maxRecDepth 20000
set_option maxHeartbeats 2000000
theorem grAdd_full (g : Gr) (h : g.log.length = 60) (s : ByteArray) : OkH Tryz.prog 29 [.ptr (.e 0) 0 0, S s] (grH g) (.tup [I 0, I 2]) (grHv g 0 0) := by
 have hn : (g.log.length : Int) = 60 := by omega
 refine OkH.of_wp (rs := [.tmp 4, .tmp 5]) (n := 51) [] Tryz.func29 rfl rfl rfl (by simp) fo (by kernel_rfl) ?_
 simp +decide -implicitDefEqProofs only [S0, simprocAttr, hn, gfs, Option.getD_some]
theorem grSendA {g : Gr} (h : grOk g) (i m : Int) : OkH Tryz.prog 31 [.ptr (.e 0) 0 0, I i, I m] (grH g) (.tup [strs (if sendE g i m = 0 then g.log.drop m.toNat else []), I (sendE g i m)]) (grHv g 0 0) := by
 unfold sendE
 by_cases h1 : 1 ≤ i ∧ i < g.n
 ·rw [if_pos h1]
  have hd : decide (1 ≤ i ∧ i < g.n) = true := decide_eq_true h1
  by_cases h2 : m < 0 ∨ m > g.log.length
  ·rw [if_pos h2, if_neg (by decide)]
   refine OkH.of_wp (rs := [.tmp 6, .tmp 7]) (n := 30) [] Tryz.func31 rfl rfl rfl (by simp) fo (by kernel_rfl) ?_
   simp +decide -implicitDefEqProofs only [S0, simprocAttr]
   refine callH (grIs_ok g i) [.e 0, .e 1, .e 2, .e 3, .e 4] ?_
   rw [hd]
   by_cases h3 : m < 0
   ·simp +decide -implicitDefEqProofs only [S0, simprocAttr, gfs, h3, Option.getD_some]
   ·have h4 : m > g.log.length := by omega
    simp +decide -implicitDefEqProofs only [S0, simprocAttr, gfs, h3, h4, Option.getD_some]
  ·rw [if_neg h2, if_pos rfl]
   obtain ⟨j, rfl⟩ : ∃ j : Nat, i = ((j + 1 : Nat) : Int) := ⟨(i - 1).toNat, by omega⟩
   obtain ⟨k, rfl⟩ : ∃ k : Nat, m = (k : Int) := ⟨m.toNat, by omega⟩
   rw [Int.toNat_natCast]
   exact grSend_ok h (by omega) (by omega)
 ·rw [if_neg h1, if_neg (by decide)]
  have hd : decide (1 ≤ i ∧ i < g.n) = false := decide_eq_false h1
  refine OkH.of_wp (rs := [.tmp 6, .tmp 7]) (n := 30) [] Tryz.func31 rfl rfl rfl (by simp) fo (by kernel_rfl) ?_
  simp +decide -implicitDefEqProofs only [S0, simprocAttr]
  refine callH (grIs_ok g i) [.e 0, .e 1, .e 2, .e 3, .e 4] ?_
  rw [hd]
  simp +decide -implicitDefEqProofs only [S0, simprocAttr, gfs, Option.getD_some]
theorem grAckA {g : Gr} (h : grOk g) (i m : Int) : OkH Tryz.prog 136 [.ptr (.e 0) 0 0, I i, I m] (grH g) (I (ackE g i m)) (grHv (if ackE g i m = 0 then gAck g (i - 1).toNat m else g) 0 0) := by
 unfold ackE
 by_cases h1 : 1 ≤ i ∧ i < g.n
 ·rw [if_pos h1]
  have hd : decide (1 ≤ i ∧ i < g.n) = true := decide_eq_true h1
  by_cases h2 : m < 0 ∨ m > g.log.length ∨ m > (gHas g (i - 1).toNat).length
  ·rw [if_pos h2, if_neg (by decide)]
   obtain ⟨j, rfl⟩ : ∃ j : Nat, i = ((j + 1 : Nat) : Int) := ⟨(i - 1).toNat, by omega⟩
   have ej : (((j + 1 : Nat) : Int) - 1).toNat = j := by omega
   rw [ej] at h2
   have hx := ghasF h (i := j) (by omega)
   have h5 : ((j + 1 : Nat) : Int) < g.n := h1.2
   refine OkH.of_wp (rs := [.tmp 6]) (n := 49) [] Tryz.func136 rfl rfl rfl (by simp) fo (by kernel_rfl) ?_
   simp +decide -implicitDefEqProofs only [S0, simprocAttr]
   refine callH (grIs_ok g ((j + 1 : Nat) : Int)) [.e 0, .e 1, .e 2, .e 3, .e 4] ?_
   rw [hd]
   by_cases h3 : m < 0
   ·simp +decide -implicitDefEqProofs only [S0, simprocAttr, gfs, h3, Option.getD_some]
   ·by_cases h4 : m > g.log.length
    ·simp +decide -implicitDefEqProofs only [S0, simprocAttr, gfs, h3, h4, Option.getD_some]
    ·have h6 : m > (gHas g j).length := by omega
     simp +decide -implicitDefEqProofs only [S0, simprocAttr, gfs, h3, h4, h5, h6, Nat.mul_one, List.drop_succ_cons, fols_drop hx, Option.getD_some]
  ·rw [if_neg h2, if_pos rfl]
   obtain ⟨j, rfl⟩ : ∃ j : Nat, i = ((j + 1 : Nat) : Int) := ⟨(i - 1).toNat, by omega⟩
   have ej : (((j + 1 : Nat) : Int) - 1).toNat = j := by omega
   rw [ej] at h2 ⊢
   exact grAck_ok h (by omega) (by omega) (by omega) (by omega)
 ·rw [if_neg h1, if_neg (by decide)]
  have hd : decide (1 ≤ i ∧ i < g.n) = false := decide_eq_false h1
  refine OkH.of_wp (rs := [.tmp 6]) (n := 49) [] Tryz.func136 rfl rfl rfl (by simp) fo (by kernel_rfl) ?_
  simp +decide -implicitDefEqProofs only [S0, simprocAttr]
  refine callH (grIs_ok g i) [.e 0, .e 1, .e 2, .e 3, .e 4] ?_
  rw [hd]
  simp +decide -implicitDefEqProofs only [S0, simprocAttr, gfs, Option.getD_some]
end Go.Proofs.YtonolfpnidaflaaGreatDoor.E

namespace Go.Proofs.YtonolfpnidaflaaGreatDoor.E
open Go
set_option linter.unusedSimpArgs false
set_option linter.unusedVariables false
set_option linter.unusedSectionVars false
set_option maxRecDepth 20000
set_option maxHeartbeats 1000000
theorem idOk_size {s : ByteArray} (h : idOk s = true) : s.size ≤ 8 := by
 unfold idOk at h
 simp only [Bool.and_eq_true, decide_eq_true_eq] at h
 exact h.1.2
theorem size_len (s : ByteArray) : s.data.toList.length = s.size := by rw [Array.length_toList]; rfl
/-- What is so of what a server tells. -/
structure tdOk (t : Td) : Prop where
 vl : t.vs.length ≤ 5120
 vs : ∀ v ∈ t.vs, chkRec v.r = 0
 il : t.ids.length ≤ 5120
 ids : ∀ s ∈ t.ids, idOk s = true
 nl : t.nts.length ≤ 60
 nts : ∀ n ∈ t.nts, whoI n.who ∧ idOk n.id = true
theorem tdE_ok (e : Int) : tdOk (tdE e) := ⟨by simp [tdE], by simp [tdE], by simp [tdE], by simp [tdE], by simp [tdE], by simp [tdE]⟩
theorem oneG_ok {l : List Vn} (hl : ∀ v ∈ l, chkRec v.r = 0) (id : ByteArray) : tdOk (oneG l id) := by
 unfold oneG
 split
 ·rename_i r e
  obtain ⟨_, v, hv, rfl⟩ := getN_some e
  refine ⟨by simp, ?_, by simp, by simp, by simp, by simp⟩
  intro x hx
  simp only [List.mem_singleton] at hx
  subst hx
  exact hl v hv
 ·exact tdE_ok 4
abbrev ntOk (s : Sv) : Prop := ∀ n ∈ s.notes, whoI n.who ∧ idOk n.id = true
theorem doS_td {s : Sv} {o : OpS} (hs : svOk s) (hn : ntOk s) : tdOk (doS s o).2 := by
 obtain ⟨hl, hv⟩ := chkSt_len hs.2.2.1
 have hp : ∀ v ∈ partL (sSees s o.who) s.l, chkRec v.r = 0 := fun v h => hv v ((List.mem_filter.1 h).1)
 have hpl := partL_len (sSees s o.who) s.l
 have hHist : tdOk ⟨0, histL o.id (partL (sSees s o.who) s.l), [], []⟩ := by
  refine ⟨?_, fun v h => hp v (hist_mem h).1, by simp, by simp, by simp, by simp⟩
  have := histL_len o.id (partL (sSees s o.who) s.l)
  show (histL o.id (partL (sSees s o.who) s.l)).length ≤ 5120
  omega
 have hBy : tdOk ⟨0, [], byL (partL (sSees s o.who) s.l) o.fd, []⟩ := by
  refine ⟨by simp, by simp, ?_, fun x h => ?_, by simp, by simp⟩
  ·have := byL_len (partL (sSees s o.who) s.l) o.fd
   show (byL (partL (sSees s o.who) s.l) o.fd).length ≤ 5120
   omega
  ·have h1 : x ∈ idsL (partL (sSees s o.who) s.l) := (List.mem_filter.1 h).1
   rw [ids_mem] at h1
   obtain ⟨r, hr⟩ := Option.isSome_iff_exists.1 h1
   obtain ⟨e1, v, hv2, e2⟩ := getN_some hr
   rw [← e1, ← e2]
   exact (chkRec_iff.1 (hp v hv2)).1
 unfold doS doPut doCut doNeed doAsk doAudit
 repeat' split
 all_goals first
  | exact tdE_ok _
  | exact oneG_ok hv _
  | exact oneG_ok hp _
  | exact ⟨by simp, by simp, by simp, by simp, hs.2.2.2, hn⟩
  | exact hHist
  | exact hBy
theorem doS_nt {s : Sv} {o : OpS} (hs : svOk s) (hn : ntOk s) (ho : whoI o.who) : ntOk (doS s o).1 := by
 have hNew : (oneG s.l o.id).code = 0 → ∀ n ∈ s.notes ++ [⟨o.who, o.id⟩], whoI n.who ∧ idOk n.id = true := by
  intro hc n hm
  rcases List.mem_append.1 hm with h | h
  ·exact hn n h
  ·simp only [List.mem_singleton] at h
   subst h
   refine ⟨ho, ?_⟩
   unfold oneG at hc
   split at hc
   ·rename_i r e
    obtain ⟨e1, v, hv, e2⟩ := getN_some e
    show idOk o.id = true
    rw [← e1, ← e2]
    exact (chkRec_iff.1 ((chkSt_len hs.2.2.1).2 v hv)).1
   ·cases hc
 unfold doS doPut doCut doNeed
 repeat' split
 all_goals first
  | exact hn
  | exact hNew (by assumption)
theorem flat_len {α : Type} (f : α → List UInt8) (k : Nat) : ∀ (l : List α), (∀ x ∈ l, (f x).length ≤ k) → (l.flatMap f).length ≤ l.length * k := by
 intro l
 induction l with
 | nil => intro _; simp
 | cons x l ih =>
  intro h
  rw [List.flatMap_cons, List.length_append, List.length_cons, Nat.succ_mul]
  have h1 := h x (by simp)
  have h2 := ih (fun y hy => h y (by simp [hy]))
  omega
theorem flat_no {α : Type} {f : α → List UInt8} {c : UInt8} {l : List α} (h : ∀ x ∈ l, c ∉ f x) : c ∉ l.flatMap f := by
 intro hc
 obtain ⟨x, hx, hc⟩ := List.mem_flatMap.1 hc
 exact h x hx hc
theorem verL_len {v : Vn} (h : chkRec v.r = 0) : (verL v).length ≤ 400 := by
 have hg := (chkRec_good v.r).1 h
 have h1 := idOk_size hg.id
 have h2 := size_len v.r.id
 have h3 := Lib.itoa_length_le v.r.cats (by have := hg.cats; omega) (by have := hg.cats; omega)
 have h4 := wrL_len h
 unfold verL
 split
 ·simp only [List.length_cons, List.length_append]; omega
 ·simp only [List.length_cons]; omega
theorem ntL_len {n : Nt} (h : whoI n.who ∧ idOk n.id = true) : (ntL n).length ≤ 400 := by
 obtain ⟨⟨⟨a1, a2⟩, ⟨b1, b2⟩, ⟨c1, c2⟩⟩, hi⟩ := h
 have h1 := idOk_size hi
 have h2 := size_len n.id
 have h3 := Lib.itoa_length_le _ a1 a2
 have h4 := Lib.itoa_length_le _ b1 b2
 have h5 := Lib.itoa_length_le _ c1 c2
 unfold ntL
 simp only [List.length_cons, List.length_append]
 omega
theorem idL_len {s : ByteArray} (h : idOk s = true) : (32 :: s.data.toList : List UInt8).length ≤ 400 := by
 have h1 := idOk_size h
 have h2 := size_len s
 simp only [List.length_cons]
 omega
theorem shownL_len {t : Td} (h : tdOk t) : (shownL t).length ≤ 4200000 := by
 have h1 := flat_len verL 400 t.vs (fun v hv => verL_len (h.vs v hv))
 have h2 := flat_len (fun s : ByteArray => 32 :: s.data.toList) 400 t.ids (fun s hs => idL_len (h.ids s hs))
 have h3 := flat_len ntL 400 t.nts (fun n hn => ntL_len (h.nts n hn))
 have h4 := h.vl
 have h5 := h.il
 have h6 := h.nl
 unfold shownL okB
 simp only [List.length_append, List.length_cons, List.length_nil]
 omega
theorem recL_no10 {r : Rc} (hg : GoodRc r) : (10 : UInt8) ∉ recL r := by
 have e2 := itoa_no r.cats (c := 10) (by decide)
 have e1 := id_no hg.id (c := 10) (by decide)
 have hf : ∀ x ∈ r.fields.map fdL, (10 : UInt8) ∉ x := by
  intro x hx
  obtain ⟨f, hf, rfl⟩ := List.mem_map.1 hx
  exact fdL_no (fOk_mem hg.fs hf) (by decide) (by decide) (by decide)
 have hr : ∀ x ∈ r.refs.map (fun s => s.data.toList), (10 : UInt8) ∉ x := by
  intro x hx
  obtain ⟨s, hs, rfl⟩ := List.mem_map.1 hx
  exact id_no (rOk_mem hg.rs hs) (by decide)
 unfold recL
 intro h
 simp only [List.mem_append, List.mem_cons] at h
 rcases h with h | h | h | h | h | h | h
 ·exact e1 h
 ·exact absurd h (by decide)
 ·exact e2 h
 ·exact absurd h (by decide)
 ·rcases joinC_mem h with h | ⟨y, hy, h⟩
  ·exact absurd h (by decide)
  ·exact hf y hy h
 ·exact absurd h (by decide)
 ·rcases joinC_mem h with h | ⟨y, hy, h⟩
  ·exact absurd h (by decide)
  ·exact hr y hy h
theorem shownL_no {t : Td} (h : tdOk t) : (10 : UInt8) ∉ shownL t := by
 have h1 : (10 : UInt8) ∉ t.vs.flatMap verL := flat_no fun v hv => by
  have hg := (chkRec_good v.r).1 (h.vs v hv)
  have e1 := id_no hg.id (c := 10) (by decide)
  have e2 := itoa_no v.r.cats (c := 10) (by decide)
  have e3 := recL_no10 hg
  unfold verL wrL
  rw [if_pos (h.vs v hv)]
  split
  ·simp only [List.mem_cons, List.mem_append]
   rintro (h | h | h | h | h)
   ·exact absurd h (by decide)
   ·exact absurd h (by decide)
   ·exact e1 h
   ·exact absurd h (by decide)
   ·exact e2 h
  ·simp only [List.mem_cons]
   rintro (h | h)
   ·exact absurd h (by decide)
   ·exact e3 h
 have h2 : (10 : UInt8) ∉ t.ids.flatMap (fun s : ByteArray => 32 :: s.data.toList) := flat_no fun s hs => by
  have e1 := id_no (h.ids s hs) (c := 10) (by decide)
  simp only [List.mem_cons]
  rintro (h | h)
  ·exact absurd h (by decide)
  ·exact e1 h
 have h3 : (10 : UInt8) ∉ t.nts.flatMap ntL := flat_no fun n hn => by
  have e1 := id_no (h.nts n hn).2 (c := 10) (by decide)
  have e2 := itoa_no n.who.role (c := 10) (by decide)
  have e3 := itoa_no n.who.why (c := 10) (by decide)
  have e4 := itoa_no n.who.time (c := 10) (by decide)
  unfold ntL
  simp only [List.mem_cons, List.mem_append]
  rintro (h | h | h | h | h | h | h | h)
  ·exact absurd h (by decide)
  ·exact e1 h
  ·exact absurd h (by decide)
  ·exact e2 h
  ·exact absurd h (by decide)
  ·exact e3 h
  ·exact absurd h (by decide)
  ·exact e4 h
 unfold shownL okB
 simp only [List.mem_append, List.mem_cons, List.not_mem_nil, or_false]
 rintro ((h | h) | h | h | h)
 ·exact absurd h (by decide)
 ·exact absurd h (by decide)
 ·exact h1 h
 ·exact h2 h
 ·exact h3 h
theorem toldL1_no (n : Int) : (10 : UInt8) ∉ toldL [n] := by
 have e := itoa_no n (c := 10) (by decide)
 unfold toldL okB
 simp only [List.flatMap_cons, List.flatMap_nil, List.append_nil, List.mem_append, List.mem_cons, List.not_mem_nil, or_false]
 rintro ((h | h) | h | h)
 ·exact absurd h (by decide)
 ·exact absurd h (by decide)
 ·exact absurd h (by decide)
 ·exact e h
/-- What is so of an answer. -/
structure anOk (x : List UInt8) : Prop where
 no : (10 : UInt8) ∉ x
 len : x.length ≤ 4200000
 pre : (∃ y, x = okB ++ y) ∨ ∃ y, x = [101, 114, 114, 111, 114, 32] ++ y
theorem shownL_an {t : Td} (h : tdOk t) : anOk (shownL t) := ⟨shownL_no h, shownL_len h, .inl ⟨_, rfl⟩⟩
theorem toldL1_an {n : Int} (h : inI n) : anOk (toldL [n]) := by
 have := Lib.itoa_length_le n h.1 h.2
 refine ⟨toldL1_no n, ?_, .inl ⟨_, rfl⟩⟩
 unfold toldL okB
 simp only [List.flatMap_cons, List.flatMap_nil, List.append_nil, List.length_append, List.length_cons, List.length_nil]
 omega
theorem errL_an {e : Int} (h : inI e) : anOk (errL e) := by
 have := Lib.itoa_length_le e h.1 h.2
 have e1 := itoa_no e (c := 10) (by decide)
 refine ⟨?_, ?_, .inr ⟨_, rfl⟩⟩
 ·unfold errL
  intro h
  rcases List.mem_append.1 h with h | h
  ·exact absurd h (by decide)
  ·exact e1 h
 ·unfold errL
  simp only [List.length_append, List.length_cons, List.length_nil]
  omega
/-- What is so of what is read. -/
def clOk : Cl → Prop
 | .op o => whoI o.who
 | _ => True

/-! ### Errors -/
abbrev er (e : Int) : Prop := 0 ≤ e ∧ e ≤ 10
theorem er_up (l : List Int) : er (chkUp l) := by unfold chkUp er; repeat' split; all_goals omega
theorem er_R (l : List Rl) : er (chkR l) := by
 induction l with
 | nil => exact ⟨by simp [chkR], by simp [chkR]⟩
 | cons r l ih =>
  unfold chkR
  split
  ·exact ih
  ·unfold oneE er; split <;> omega
theorem er_Rs (l : List Rl) : er (chkRs l) := by
 unfold chkRs
 split
 ·exact ⟨by omega, by omega⟩
 ·exact er_R l
theorem er_rec (r : Rc) : er (chkRec r) := by unfold chkRec er; repeat' split; all_goals omega
theorem er_go (l p : List Vn) : er (chkGo p l) := by
 induction l generalizing p with
 | nil => exact ⟨by simp [chkGo], by simp [chkGo]⟩
 | cons v l ih =>
  unfold chkGo
  split
  ·exact ih _
  ·unfold stepE
   have := er_rec v.r
   unfold er at this ⊢
   repeat' split
   all_goals omega
theorem er_st (l : List Vn) : er (chkSt l) := by
 unfold chkSt
 split
 ·exact ⟨by omega, by omega⟩
 ·exact er_go l []
theorem er_put (l : List Vn) (r : Rc) : er (putE l r) := by
 have h1 := er_st l
 have h2 := er_rec r
 unfold putE er at *
 repeat' split
 all_goals omega
theorem er_cut (l : List Vn) (id : ByteArray) (c : Int) : er (cutE l id c) := by
 have h1 := er_st l
 unfold cutE er at *
 repeat' split
 all_goals omega
theorem er_at (l : List Int) (i : Int) : er (chkAt l i) := by
 have h1 := er_up l
 unfold chkAt er at *
 repeat' split
 all_goals omega
theorem er_sees (up : List Int) (l : List Rl) (w : Wh) : er (seesE up l w) := by
 have h1 := er_up up
 have h2 := er_Rs l
 have h3 := er_at up w.role
 unfold seesE er at *
 repeat' split
 all_goals omega
theorem er_may (s : Sv) (w : Wh) (c : Int) : er (sMay s w c) := by
 have h1 : er (sErr s w) := er_sees _ _ _
 unfold sMay er at *
 repeat' split
 all_goals omega
theorem er_one (l : List Vn) (id : ByteArray) : er (oneG l id).code := by
 unfold oneG
 split
 ·exact ⟨by simp, by simp⟩
 ·exact ⟨by simp [tdE], by simp [tdE]⟩
theorem er_do (s : Sv) (o : OpS) : er (doS s o).2.code := by
 have h1 : ∀ w, er (sErr s w) := fun w => er_sees _ _ _
 unfold doS doPut doCut doNeed doAsk doAudit
 repeat' split
 all_goals first
  | exact er_Rs _
  | exact er_put _ _
  | exact er_cut _ _ _
  | exact er_may _ _ _
  | exact er_rec _
  | exact er_one _ _
  | exact h1 _
  | exact ⟨by simp [tdE], by simp [tdE]⟩
theorem er_read (l : List UInt8) : er (readC l) := by
 unfold readC
 split
 ·exact ⟨by omega, by omega⟩
 ·exact er_rec _
theorem er_I {e : Int} (h : er e) : inI e := ⟨by have := h.1; omega, by have := h.2; omega⟩
def resOk : Except Int (List UInt8) → Prop
 | .ok x => anOk x
 | .error e => er e
theorem ack_get {g : Gr} (h : ∀ x ∈ g.ack, 0 ≤ x ∧ x ≤ 60) (i : Nat) : 0 ≤ (g.ack[i]?).getD 0 ∧ (g.ack[i]?).getD 0 ≤ 60 := by
 cases e : g.ack[i]? with
 | none => simp
 | some x => exact h x (List.mem_of_getElem? e)
theorem dk_add {d : Dk} (h : dkOk d) (hl : d.g.log.length < 60) (s : ByteArray) : grOk (gAdd d.g s) ∧ (gAdd d.g s).n = 3 ∧ ∀ x ∈ (gAdd d.g s).ack, 0 ≤ x ∧ x ≤ 60 := by
 refine ⟨gAdd_ok h.g hl s, h.n, fun x hx => ?_⟩
 rcases List.mem_or_eq_of_mem_set hx with hx | rfl
 ·exact h.ack x hx
 ·omega
theorem doD_ok {d : Dk} {o : OpS} (h : dkOk d) (ho : whoI o.who) : dkOk (doD d o).1 ∧ resOk (doD d o).2 := by
 have h1 := doS_ok (o := o) h.s
 have h2 := doS_nt (o := o) h.s h.nts ho
 have h3 := doS_td (o := o) h.s h.nts
 unfold doD
 split
 ·refine ⟨?_, shownL_an h3⟩
  by_cases hc : chkOp o = 0 ∧ d.g.log.length < 60
  ·rw [if_pos hc]
   obtain ⟨a1, a2, a3⟩ := dk_add h hc.2 (bs (lineL o))
   exact ⟨a1, a2, h1, h.up, h.rs, a3, h2⟩
  ·rw [if_neg hc]
   exact ⟨h.g, h.n, h1, h.up, h.rs, h.ack, h2⟩
 ·exact ⟨⟨h.g, h.n, h1, h.up, h.rs, h.ack, h2⟩, er_do d.s o⟩
theorem doD_rs {d : Dk} {l : List Rl} (h : ∀ e, (doD d { opO 1 ⟨0, 0, 0⟩ with rs := l }).2 ≠ .error e) : chkRs l = 0 := by
 by_cases e : chkRs l = 0
 ·exact e
 ·exfalso
  have e1 : (doS d.s { opO 1 ⟨0, 0, 0⟩ with rs := l }).2.code = chkRs l := by
   unfold doS
   simp only [opO, if_true]
   rw [if_neg e]
   rfl
  refine h (chkRs l) ?_
  unfold doD
  rw [e1, if_neg e]
theorem okB_an (y : List UInt8) (h : (10 : UInt8) ∉ y) (hl : y.length ≤ 100) : anOk (okB ++ y) := by
 refine ⟨?_, ?_, .inl ⟨y, rfl⟩⟩
 ·intro hx
  rcases List.mem_append.1 hx with hx | hx
  ·exact absurd hx (by decide)
  ·exact h hx
 ·rw [List.length_append]
  show 2 + y.length ≤ _
  omega
theorem clD_ok {d : Dk} {c : Cl} (h : dkOk d) (hc : clOk c) : dkOk (clD d c).1 ∧ resOk (clD d c).2 := by
 cases c with
 | op o => exact doD_ok h hc
 | rule r =>
  have hw : whoI (⟨0, 0, 0⟩ : Wh) := ⟨⟨by decide, by decide⟩, ⟨by decide, by decide⟩, ⟨by decide, by decide⟩⟩
  have hd := doD_ok (o := { opO 1 ⟨0, 0, 0⟩ with rs := d.rs ++ [r] }) h hw
  simp only [clD]
  cases e : (doD d { opO 1 ⟨0, 0, 0⟩ with rs := d.rs ++ [r] }).2 with
  | ok x =>
   rw [e] at hd
   have hr := doD_rs (d := d) (l := d.rs ++ [r]) (fun e2 h2 => by rw [e] at h2; cases h2)
   exact ⟨⟨hd.1.g, hd.1.n, hd.1.s, hd.1.up, hr, hd.1.ack, hd.1.nts⟩, hd.2⟩
  | error e2 =>
   rw [e] at hd
   exact hd
 | role m =>
  simp only [clD]
  split
  ·rename_i e
   refine ⟨⟨h.g, h.n, ⟨e, h.rs, (show chkSt [] = 0 by decide), by simp⟩, e, h.rs, h.ack, by simp⟩, okB_an [] (by simp) (by simp)⟩
  ·exact ⟨h, er_up _⟩
 | below a b c e =>
  simp only [clD]
  split
  ·refine ⟨h, ?_⟩
   split
   ·exact okB_an _ (by decide) (by decide)
   ·exact okB_an _ (by decide) (by decide)
  ·exact ⟨h, ⟨by omega, by omega⟩⟩
 | send i n =>
  simp only [clD]
  split
  ·split
   ·rename_i e1 e2
    obtain ⟨t1, t2, t3⟩ := tkE_zero e2
    have hl := tkL_len (l := d.g.log.drop n.toNat) t1
    have hh := gHas_len h.g (i - 1).toNat
    refine ⟨⟨gTake_ok h.g _ _ _, ?_, h.s, h.up, h.rs, ?_, h.nts⟩, toldL1_an ⟨by omega, by omega⟩⟩
    ·unfold gTake gPut; split <;> exact h.n
    ·unfold gTake gPut; split <;> exact h.ack
   ·refine ⟨h, ?_⟩
    show er _
    unfold tkE er
    repeat' split
    all_goals omega
  ·refine ⟨h, ?_⟩
   show er _
   unfold sendE er
   repeat' split
   all_goals omega
 | ack i n =>
  simp only [clD]
  split
  ·rename_i e
   refine ⟨⟨gAck_ok h.g _ _, h.n, h.s, h.up, h.rs, fun x hx => ?_, h.nts⟩, okB_an [] (by simp) (by simp)⟩
   rcases List.mem_or_eq_of_mem_set hx with hx | rfl
   ·exact h.ack x hx
   ·have h2 := ack_get h.ack ((i - 1).toNat + 1)
    have h3 := h.g.2.2.2.2.1
    unfold ackE at e
    split at e
    ·split at e
     ·omega
     ·omega
    ·omega
  ·refine ⟨h, ?_⟩
   show er _
   unfold ackE er
   repeat' split
   all_goals omega
 | sure => exact ⟨h, toldL1_an (by
   unfold gSure
   cases e : (d.g.ack.mergeSort fun x y => decide (x ≤ y))[(d.g.n - 1) / 2]? with
   | none => exact ⟨by simp, by simp⟩
   | some x =>
    have hx := h.ack x ((List.mergeSort_perm _ _).mem_iff.1 (List.mem_of_getElem? e))
    simp only [Option.getD_some, inI]
    omega)⟩
/-- What is so of what is read. -/
def rdOk (l : List ByteArray) : Rd → Prop
 | .bad e => er e
 | .none => True
 | .got c j => clOk c ∧ j ≤ l.length
theorem rd_bad (l : List ByteArray) : rdOk l (.bad 10) := ⟨by omega, by omega⟩
theorem rdW_ok {l : List ByteArray} {i : Nat} {k : Wh → Nat → Rd} (h : ∀ w j, whoI w → j ≤ l.length → rdOk l (k w j)) : rdOk l (rdW l i k) := by
 unfold rdW
 split
 ·rename_i w j e
  exact h w j (whoD_I e) (whoD_le e)
 ·exact rd_bad l
theorem rdN_ok {l : List ByteArray} {i : Nat} {k : Int → Nat → Rd} (h : ∀ n j, j ≤ l.length → rdOk l (k n j)) : rdOk l (rdN l i k) := by
 unfold rdN
 split
 ·rename_i w j e
  exact h w j (numD_le e)
 ·exact rd_bad l
theorem rdS_ok {l : List ByteArray} {i : Nat} {k : ByteArray → Nat → Rd} (h : ∀ s j, j ≤ l.length → rdOk l (k s j)) : rdOk l (rdS l i k) := by
 unfold rdS
 split
 ·rename_i s e
  exact h s _ (List.getElem?_eq_some_iff.1 e).1
 ·exact rd_bad l
theorem rdR_ok {l : List ByteArray} {i : Nat} {b : Bool} : rdOk l (rdR l i b) := rdN_ok fun _ _ _ => rdN_ok fun _ _ _ => rdN_ok fun _ _ _ => rdN_ok fun _ _ _ => rdN_ok fun _ _ hj => ⟨trivial, hj⟩
theorem asksD_ok (w : ByteArray) (l : List ByteArray) (i : Nat) : rdOk l (asksD w l i) := by
 unfold asksD
 repeat' split
 ·refine rdW_ok fun w j hw hj => rdS_ok fun s j hj => ?_
  split
  ·exact ⟨hw, hj⟩
  ·exact er_read _
 ·exact rdW_ok fun w j hw hj => rdS_ok fun s j hj => rdN_ok fun n j hj => ⟨hw, hj⟩
 ·exact rdW_ok fun w j hw hj => rdS_ok fun s j hj => ⟨hw, hj⟩
 ·exact rdW_ok fun w j hw hj => rdS_ok fun s j hj => ⟨hw, hj⟩
 ·exact rdW_ok fun w j hw hj => rdS_ok fun s j hj => ⟨hw, hj⟩
 ·exact rdW_ok fun w j hw hj => ⟨hw, hj⟩
 ·exact rdW_ok fun w j hw hj => rdS_ok fun s j hj => rdS_ok fun s j hj => ⟨hw, hj⟩
 ·exact rdR_ok
 ·exact rdR_ok
 ·trivial
theorem othersD_ok (w : ByteArray) (l : List ByteArray) (i : Nat) (hi : i ≤ l.length) : rdOk l (othersD w l i) := by
 unfold othersD
 repeat' split
 ·exact rdN_ok fun n j hj => ⟨trivial, hj⟩
 ·exact rdN_ok fun n j hj => rdN_ok fun n j hj => rdN_ok fun n j hj => rdN_ok fun n j hj => ⟨trivial, hj⟩
 ·exact rdN_ok fun n j hj => rdN_ok fun n j hj => ⟨trivial, hj⟩
 ·exact rdN_ok fun n j hj => rdN_ok fun n j hj => ⟨trivial, hj⟩
 ·exact ⟨trivial, hi⟩
 ·exact rd_bad l
theorem rdD_ok {d : Dk} {l : List ByteArray} {r : Rd} (h : dkOk d) (hr : rdOk l r) : dkOk (rdD d l r).1 ∧ resOk (rdD d l r).2 := by
 cases r with
 | bad e => exact ⟨h, hr⟩
 | none => exact ⟨h, ⟨by omega, by omega⟩⟩
 | got c j =>
  simp only [rdD]
  split
  ·exact clD_ok h hr.1
  ·exact ⟨h, ⟨by omega, by omega⟩⟩
theorem lineD_ok {d : Dk} {l : List ByteArray} (h : dkOk d) : dkOk (lineD d l).1 ∧ resOk (lineD d l).2 := by
 unfold lineD
 split
 ·exact ⟨h, ⟨by omega, by omega⟩⟩
 ·rename_i w r
  have ha := asksD_ok w (w :: r) 1
  split
  ·exact rdD_ok h (othersD_ok w (w :: r) 1 (by simp))
  ·exact rdD_ok h ha
theorem ansD_ok {d : Dk} {l : List ByteArray} (h : dkOk d) : dkOk (ansD d l).1 ∧ anOk (ansD d l).2 := by
 obtain ⟨h1, h2⟩ := lineD_ok (l := l) h
 refine ⟨h1, ?_⟩
 simp only [ansD]
 cases e : (lineD d l).2 with
 | ok x => rw [e] at h2; exact h2
 | error e2 => rw [e] at h2; exact errL_an (er_I h2)
end Go.Proofs.YtonolfpnidaflaaGreatDoor.E

namespace Go.Proofs.YtonolfpnidaflaaGreatDoor.E
open Go
set_option linter.unusedSimpArgs false
set_option linter.unusedVariables false
set_option linter.unusedSectionVars false
set_option maxRecDepth 20000
set_option maxHeartbeats 1000000
/-- Cut behind each c. -/
def splitA (c : UInt8) : List UInt8 → List (List UInt8)
 | [] => [[]]
 | x :: l => if x = c then [x] :: splitA c l else match splitA c l with
  | [] => [[x]]
  | h :: t => (x :: h) :: t
theorem splitA_none {c : UInt8} : ∀ {l : List UInt8}, c ∉ l → splitA c l = [l]
 | [], _ => rfl
 | x :: l, h => by
  simp only [List.mem_cons, not_or] at h
  rw [splitA, if_neg (Ne.symm h.1), splitA_none h.2]
theorem splitA_hit {c : UInt8} : ∀ {a b : List UInt8}, c ∉ a → splitA c (a ++ c :: b) = (a ++ [c]) :: splitA c b
 | [], b, _ => by simp [splitA]
 | x :: a, b, h => by
  simp only [List.mem_cons, not_or] at h
  rw [List.cons_append, splitA, if_neg (Ne.symm h.1), splitA_hit h.2]
  rfl
theorem splitKA_one (c : UInt8) : ∀ (k : Nat) (l : List UInt8), l.count c = k → Lib.splitK [c] 1 k l = splitA c l
 | 0, l, h => by
  rw [splitA_none (List.count_eq_zero.1 h)]; rfl
 | k + 1, l, h => by
  obtain ⟨a, b, rfl, hn⟩ := List.eq_append_cons_of_mem (List.count_pos_iff.1 (show 0 < l.count c by omega))
  rw [List.count_append, List.count_cons_self, List.count_eq_zero.2 hn] at h
  rw [splitA_hit hn, Lib.splitK, Lib.index_one, ib_hit hn, if_neg (by simp), ← splitKA_one c k b (by omega)]
  have e1 : List.take (a.length + 1) (a ++ c :: b) = a ++ [c] := by
   rw [show a ++ c :: b = (a ++ [c]) ++ b by simp]
   exact List.take_left' (by simp)
  have e2 : List.drop (a.length + 1) (a ++ c :: b) = b := by
   rw [show a ++ c :: b = (a ++ [c]) ++ b by simp]
   exact List.drop_left' (by simp)
  simp only [Int.toNat_natCast, List.length_singleton, e1, e2]
theorem splitBA_one (c : UInt8) (s : ByteArray) : Lib.splitB ⟨#[c]⟩ 1 (Lib.countB s ⟨#[c]⟩) s = (splitA c s.data.toList).map bs := by
 have h := Lib.splitB_data ⟨#[c]⟩ 1 (Lib.countB s ⟨#[c]⟩) s
 rw [show (⟨#[c]⟩ : ByteArray).data.toList = [c] from rfl, splitKA_one c _ _ (by rw [← Lib.count_one])] at h
 rw [← h, List.map_map]
 exact (List.map_id' _).symm.trans (List.map_congr_left fun x _ => (bs_eta x).symm)
theorem splitA_len (c : UInt8) (l : List UInt8) : (splitA c l).length = l.count c + 1 := by
 induction l with
 | nil => rfl
 | cons x l ih =>
  rw [splitA]
  split
  ·rename_i h
   subst h
   rw [List.length_cons, ih, List.count_cons_self]
  ·rename_i h
   rw [List.count_cons_of_ne h]
   split
   ·rename_i e; rw [e] at ih; simp at ih
   ·rename_i y r e
    rw [e] at ih
    simpa using ih
/-- The lines of a text. -/
def linesL (l : List UInt8) : List (List UInt8) := if (splitC 10 l).getLast? = some [] then (splitC 10 l).dropLast else splitC 10 l
theorem lines_nil : linesL [] = [] := rfl
theorem lines_last {a : List UInt8} (h : a ≠ []) (hn : (10 : UInt8) ∉ a) : linesL a = [a] := by
 unfold linesL
 rw [splitC_none hn, if_neg (by simpa using h)]
theorem lines_hit {a b : List UInt8} (hn : (10 : UInt8) ∉ a) : linesL (a ++ 10 :: b) = a :: linesL b := by
 unfold linesL
 rw [splitC_hit hn]
 have hne := splitC_ne 10 b
 cases e : splitC 10 b with
 | nil => exact absurd e hne
 | cons y r =>
  rw [List.getLast?_cons_cons]
  split
  ·rw [List.dropLast_cons_of_ne_nil (by simp)]
  ·rfl
abbrev nl : List UInt8 → List UInt8 := fun l => l
/-- The words of a line. -/
def wordsL (l : List UInt8) : List ByteArray := ((splitC 32 l).filter fun w => decide (w ≠ [])).map bs
def keepL : List ByteArray → Bool
 | [] => false
 | w :: _ => decide (w ≠ ⟨#[35]⟩)
def scriptL (l : List UInt8) : List (List ByteArray) := ((linesL l).map wordsL).filter keepL
/-- All answers. -/
def ansAll : Dk → List (List ByteArray) → List (List UInt8)
 | _, [] => []
 | d, w :: r => ((ansD d w).2 ++ [10]) :: ansAll (ansD d w).1 r
def dk0 : Dk := ⟨gNew 3, ⟨[], [], [], []⟩, [], []⟩
abbrev err2 : List UInt8 := [101, 114, 114, 111, 114, 32, 50, 10]
def runD (l : List UInt8) : List UInt8 := if 65536 < l.length ∨ 200 < (linesL l).length then err2 else (ansAll dk0 (scriptL l)).flatten
theorem dk0_ok : dkOk dk0 := ⟨gNew_ok (by decide) (by decide), rfl, ⟨by decide, by decide, by decide, by simp [dk0]⟩, by decide, by decide, fun x hx => by
 simp only [dk0, gNew] at hx
 rw [List.eq_of_mem_replicate hx]
 omega, by simp [dk0]⟩
theorem ansAll_len : ∀ (a : List (List ByteArray)) (d : Dk), (ansAll d a).length = a.length
 | [], d => rfl
 | w :: a, d => by simp only [ansAll, List.length_cons, ansAll_len a]
theorem ansAll_an : ∀ (a : List (List ByteArray)) {d : Dk}, dkOk d → ∀ x ∈ ansAll d a, ∃ y, x = y ++ [10] ∧ anOk y
 | [], d, _, x, h => by simp [ansAll] at h
 | w :: a, d, hd, x, h => by
  simp only [ansAll, List.mem_cons] at h
  rcases h with rfl | h
  ·exact ⟨_, rfl, (ansD_ok hd).2⟩
  ·exact ansAll_an a (ansD_ok hd).1 x h
theorem splitA_flat {l : List (List UInt8)} (h : ∀ x ∈ l, ∃ y, x = y ++ [(10 : UInt8)] ∧ (10 : UInt8) ∉ y) : splitA 10 l.flatten = l ++ [[]] := by
 induction l with
 | nil => rfl
 | cons x l ih =>
  obtain ⟨y, rfl, hy⟩ := h x (by simp)
  rw [List.flatten_cons, List.append_assoc, List.singleton_append, splitA_hit hy, ih fun z hz => h z (by simp [hz])]
  rfl
/-- DeskLines, plainly. -/
theorem run_lines (l : List UInt8) (h : runD l ≠ err2) : (linesL l).length ≤ 200 ∧ splitA 10 (runD l) = ansAll dk0 (scriptL l) ++ [[]] ∧ (ansAll dk0 (scriptL l)).length = (scriptL l).length ∧ ∀ x ∈ ansAll dk0 (scriptL l), (∃ y, x = okB ++ y) ∨ ∃ y, x = [101, 114, 114, 111, 114, 32] ++ y := by
 have h' := h
 unfold runD at h
 split at h
 ·exact absurd rfl h
 ·rename_i hn
  have e1 : runD l = (ansAll dk0 (scriptL l)).flatten := by unfold runD; rw [if_neg hn]
  have ha := ansAll_an (scriptL l) dk0_ok
  refine ⟨by omega, ?_, ansAll_len _ _, fun x hx => ?_⟩
  ·rw [e1]
   exact splitA_flat fun x hx => by
    obtain ⟨y, e, hy⟩ := ha x hx
    exact ⟨y, e, hy.no⟩
  ·obtain ⟨y, rfl, hy⟩ := ha x hx
   rcases hy.pre with ⟨z, rfl⟩ | ⟨z, rfl⟩
   ·exact .inl ⟨z ++ [10], by rw [List.append_assoc]⟩
   ·exact .inr ⟨z ++ [10], by rw [List.append_assoc]⟩
theorem words_size {l : List UInt8} {x : ByteArray} (h : x ∈ wordsL l) : x.size ≤ l.length := by
 unfold wordsL at h
 obtain ⟨w, hw, rfl⟩ := List.mem_map.1 h
 have hm := (List.mem_filter.1 hw).1
 rw [bs_size]
 exact splitC_len hm
theorem splitC_cnt (c : UInt8) (l : List UInt8) : (splitC c l).length ≤ l.length + 1 := by
 induction l with
 | nil => simp [splitC]
 | cons x l ih =>
  rw [splitC]
  split
  ·simpa using ih
  ·split
   ·simp
   ·rename_i y r e
    rw [e] at ih
    simp only [List.length_cons] at ih ⊢
    omega
theorem words_len (l : List UInt8) : (wordsL l).length ≤ l.length + 1 := by
 unfold wordsL
 rw [List.length_map]
 exact Nat.le_trans (List.length_filter_le _ _) (splitC_cnt 32 l)
theorem wordsL_ok {l : List UInt8} (h : l.length ≤ 100000) : wdOk (wordsL l) := ⟨by have := words_len l; omega, fun x hx => by have := words_size hx; omega⟩
end Go.Proofs.YtonolfpnidaflaaGreatDoor.E

namespace Go.Proofs.YtonolfpnidaflaaGreatDoor.E
open Go
set_option linter.unusedSimpArgs false
set_option linter.unusedVariables false
set_option linter.unusedSectionVars false
set_option maxRecDepth 20000
set_option maxHeartbeats 1000000
theorem itoa1 {n : Nat} (h : n < 10) : Lib.itoa n = [UInt8.ofNat (48 + n)] := by
 unfold Lib.itoa
 rw [if_neg (by omega), Lib.decDigits, dif_pos (by omega), Int.toNat_natCast]
theorem ansD_oth {d : Dk} {w : ByteArray} {l : List ByteArray} {c : Cl} (h0 : asksD w (w :: l) 1 = .none) (h : othersD w (w :: l) 1 = .got c (w :: l).length) : ansD d (w :: l) = ((clD d c).1, match (clD d c).2 with | .ok x => x | .error e => errL e) := by
 have e : lineD d (w :: l) = clD d c := by
  simp only [lineD, h0]
  rw [h]
  exact if_pos rfl
 unfold ansD
 rw [e]
 try rfl
/-! ### What is put, and read -/
abbrev w0 : List UInt8 := [48]
theorem st1 {r : Rc} (h : chkRec r = 0) : putE [] r = 0 := by
 unfold putE
 rw [if_pos (by decide), if_pos h, if_neg (by simp [cnt])]
theorem st2 {r : Rc} (h : chkRec r = 0) : chkSt [⟨r, false⟩] = 0 := put_st (l := []) (by decide) (st1 h)
theorem all_cons {d d' : Dk} {w : List ByteArray} {r : List (List ByteArray)} {x : List UInt8} (h : ansD d w = (d', x)) : ansAll d (w :: r) = (x ++ [10]) :: ansAll d' r := by
 simp only [ansAll, h]
theorem sure3 : gSure (gNew 3) = 0 := by
 unfold gSure gNew
 rw [List.mergeSort_of_pairwise]
 ·rfl
 ·simp
/-- # x, nothing, sure. -/
theorem run_sure : runD [35, 32, 120, 10, 10, 115, 117, 114, 101, 10] = okB ++ [32, 48, 10] := by
 have e1 : linesL [35, 32, 120, 10, 10, 115, 117, 114, 101, 10] = [[35, 32, 120], [], [115, 117, 114, 101]] := by decide
 have e2 : scriptL [35, 32, 120, 10, 10, 115, 117, 114, 101, 10] = [[wSure]] := by
  unfold scriptL
  rw [e1]
  decide
 unfold runD
 rw [if_neg (by rw [e1]; decide), e2]
 have e3 : ansD dk0 [wSure] = ((clD dk0 .sure).1, match (clD dk0 .sure).2 with | .ok x => x | .error e => errL e) := by
  refine ansD_oth ?_ ?_
  ·unfold asksD
   rw [if_neg (by decide), if_neg (by decide), if_neg (by decide), if_neg (by decide), if_neg (by decide), if_neg (by decide), if_neg (by decide), if_neg (by decide), if_neg (by decide)]
  ·unfold othersD
   rw [if_neg (by decide), if_neg (by decide), if_neg (by decide), if_neg (by decide), if_pos rfl]
   rfl
 simp only [ansAll, e3, clD]
 rw [show gSure dk0.g = 0 from sure3]
 simp only [toldL, List.flatMap_cons, List.flatMap_nil, show Lib.itoa (0 : Int) = [48] from itoa1 (n := 0) (by omega)]
 rfl
end Go.Proofs.YtonolfpnidaflaaGreatDoor.E
