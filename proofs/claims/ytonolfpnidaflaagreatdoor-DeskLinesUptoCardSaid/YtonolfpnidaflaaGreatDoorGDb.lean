/- Several texts in one: DeskA DeskB DeskC DeskD DeskF DeskH DeskG. No conditions. -/
import Derived.Test.YtonolfpnidaflaaGreatDoorGDa
import Derived.Test.YtonolfpnidaflaaGreatDoorGSv
import Derived.Test.YtonolfpnidaflaaGreatDoorGGr
import Derived.Test.YtonolfpnidaflaaGreatDoorEngineX
import Derived.Test.YtonolfpnidaflaaGreatDoorEngineE
namespace Go.Proofs.YtonolfpnidaflaaGreatDoor.E
open Go
set_option linter.unusedSimpArgs false
set_option linter.unusedVariables false
set_option linter.unusedSectionVars false
set_option maxRecDepth 20000
set_option maxHeartbeats 1000000
/-- A desk's places. -/
abbrev dkC (d : Dk) (v6 : Nat) : List AV := [.ptr (.e 1) 0 0, .ptr (.e 6) v6 0, ints d.up, rules d.rs]
abbrev dkG (d : Dk) (v : Nat) : List AV := [I d.g.n, .own (.e 2) v 1 0 d.g.log.length, .own (.e 3) 0 1 0 d.g.n, .own (.e 5) 0 1 0 d.g.n]
abbrev dkA (d : Dk) (v : Nat) : List AV := .own (.e 4) v 1 0 d.g.log.length :: fols d.g.fol
abbrev dkS (d : Dk) (v7 : Nat) : List AV := [ints d.s.up, rules d.s.rs, vers d.s.l, .own (.e 7) v7 4 0 d.s.notes.length]
abbrev dkV (d : Dk) (v v6 v7 : Nat) (r : List (Nat × Blk)) : List (Nat × Blk) := (0, .cells 110 (dkC d v6)) :: (0, .cells 131 (dkG d v)) :: (v, .row 9 1 none (ss1 d.g.log)) :: (0, .cells 33 (dkA d v)) :: (v, .row 9 1 none (ss1 d.g.log)) :: (0, .row 3 1 (some d.g.n) (is1 d.g.ack)) :: (v6, .cells 86 (dkS d v7)) :: (v7, .row 93 4 none (d.s.notes.map ntC)) :: r
abbrev dkH (d : Dk) (r : List Blk) : List Blk := .cells 110 (dkC d 0) :: .cells 131 (dkG d 0) :: .row 9 1 none (ss1 d.g.log) :: .cells 33 (dkA d 0) :: .row 9 1 none (ss1 d.g.log) :: .row 3 1 (some d.g.n) (is1 d.g.ack) :: .cells 86 (dkS d 0) :: .row 93 4 none (d.s.notes.map ntC) :: r
abbrev dBox : Nat × Blk := (1, .cells 108 [.ptr (.e 0) 0 0])
/-- What is to be done, aS a function: what it has caught. -/
def clV : Cl → AV
 | .op _ => .func 129 [.ptr (.e 9) 1 0, .ptr (.e 10) 1 0]
 | .rule _ => .func 127 [.ptr (.e 9) 1 0, .ptr (.e 10) 1 0]
 | .role _ => .func 130 [.ptr (.e 9) 1 0, .ptr (.e 10) 1 0]
 | .below _ _ _ _ => .func 131 [.ptr (.e 10) 1 0, .ptr (.e 11) 1 0]
 | .send _ _ => .func 133 [.ptr (.e 9) 1 0, .ptr (.e 10) 1 0, .ptr (.e 11) 1 0]
 | .ack _ _ => .func 135 [.ptr (.e 9) 1 0, .ptr (.e 10) 1 0, .ptr (.e 11) 1 0]
 | .sure => .func 137 [.ptr (.e 9) 1 0]
def clB : Cl → List (Nat × Blk)
 | .op o => [dBox, (1, .cells 39 (opC' o))]
 | .rule r => [dBox, (1, .cells 54 [I r.role, I r.why, I r.fr, I r.to, I r.cats, B r.allow])]
 | .role m => [dBox, (1, .cells 3 [I m])]
 | .below a b c e => [dBox, (1, .cells 190 [I a, I b]), (1, .cells 190 [I c, I e])]
 | .send i n => [dBox, (1, .cells 3 [I i]), (1, .cells 3 [I n])]
 | .ack i n => [dBox, (1, .cells 3 [I i]), (1, .cells 3 [I n])]
 | .sure => [dBox]
/-- What reading comes to: a return, or a panic. -/
def rdRun (f : FuncId) (w : ByteArray) (b : Bool) : Rd → Dk → List ByteArray → Nat → Prop
 | .bad e, d, l, i => OkP Tryz.prog f [.ptr (.e 0) 0 0, S w, .ptr (.e 8) 0 0] (dkH d [wdB l i]) (flt e) (dkV d 0 0 0 [(0, .gone)])
 | .none, d, l, i => OkH Tryz.prog f [.ptr (.e 0) 0 0, S w, .ptr (.e 8) 0 0] (dkH d [wdB l i]) (.tup [.val .nilFunc, B false]) (dkV d 0 0 0 [(0, wdB l i)])
 | .got c j, d, l, i => OkH Tryz.prog f [.ptr (.e 0) 0 0, S w, .ptr (.e 8) 0 0] (dkH d [wdB l i]) (if b then .tup [clV c, B true] else clV c) (dkV d 0 0 0 ((0, wdB l j) :: clB c))
theorem rdW_none {l : List ByteArray} {i : Nat} (k : Wh → Nat → Rd) (h : whoD l i = none) : rdW l i k = .bad 10 := by unfold rdW; rw [h]
theorem rdW_some {l : List ByteArray} {i j : Nat} {w : Wh} (k : Wh → Nat → Rd) (h : whoD l i = some (w, j)) : rdW l i k = k w j := by unfold rdW; rw [h]
theorem rdN_none {l : List ByteArray} {i : Nat} (k : Int → Nat → Rd) (h : numD l i = none) : rdN l i k = .bad 10 := by unfold rdN; rw [h]
theorem rdN_some {l : List ByteArray} {i j : Nat} {n : Int} (k : Int → Nat → Rd) (h : numD l i = some (n, j)) : rdN l i k = k n j := by unfold rdN; rw [h]
theorem rdS_none {l : List ByteArray} {i : Nat} (k : ByteArray → Nat → Rd) (h : l[i]? = none) : rdS l i k = .bad 10 := by unfold rdS; rw [h]
theorem rdS_some {l : List ByteArray} {i : Nat} {s : ByteArray} (k : ByteArray → Nat → Rd) (h : l[i]? = some s) : rdS l i k = k s (i + 1) := by unfold rdS; rw [h]
theorem get_le {l : List ByteArray} {i : Nat} {s : ByteArray} (h : l[i]? = some s) : i + 1 ≤ l.length := (List.getElem?_eq_some_iff.1 h).1
theorem get_end {l : List ByteArray} {i : Nat} (h : l[i]? = none) (hi : i ≤ l.length) : i = l.length := by
 have := List.getElem?_eq_none_iff.1 h
 omega
theorem asksPut_run (d : Dk) {l : List ByteArray} {i : Nat} (hl : wdOk l) (hil : i ≤ l.length) : rdRun 99 wPut true (asksD wPut l i) d l i := by
 rw [show asksD wPut l i = rdW l i fun w1 i1 => rdS l i1 fun s2 i2 => if readC s2.data.toList = 0 then .got (.op { opO 2 w1 with rcd := readR s2.data.toList }) i2 else .bad (readC s2.data.toList) from rfl]
 cases e1 : whoD l i with
 | none =>
  rw [rdW_none _ e1]
  refine OkP.of_wp (n := 95) Tryz.func99 rfl rfl (by simp) fo (by kernel_rfl) ?_
  simp +decide -implicitDefEqProofs only [S0, simprocAttr, X0, toList_beq]
  refine .inr (pan (who_bad e1 hl hil) [.e 8] ?_)
  simp +decide -implicitDefEqProofs only [S0, simprocAttr, toList_beq]
  exact ⟨[], by simp +decide -implicitDefEqProofs only [S0, simprocAttr, toList_beq, gfs, Option.getD_some]⟩
 | some x1 =>
  obtain ⟨w1, i1⟩ := x1
  rw [rdW_some _ e1]
  cases e2 : l[i1]? with
  | none =>
   rw [rdS_none _ e2]
   refine OkP.of_wp (n := 95) Tryz.func99 rfl rfl (by simp) fo (by kernel_rfl) ?_
   simp +decide -implicitDefEqProofs only [S0, simprocAttr, X0, toList_beq]
   refine .inl (callH (who_ok e1 hl) [.e 8] ?_)
   simp +decide -implicitDefEqProofs only [S0, simprocAttr, X0, toList_beq]
   refine .inr (pan (wnext_bad (get_end e2 (whoD_le e1))) [.e 8] ?_)
   simp +decide -implicitDefEqProofs only [S0, simprocAttr, toList_beq]
   exact ⟨[], by simp +decide -implicitDefEqProofs only [S0, simprocAttr, toList_beq, gfs, Option.getD_some]⟩
  | some x2 =>
   obtain ⟨s2, hs2⟩ : ∃ s, s = x2 := ⟨_, rfl⟩
   subst hs2
   rw [rdS_some _ e2]
   have hz : s2.size < 4294967281 := by have := hl.2 s2 (List.mem_of_getElem? e2); omega
   by_cases hr : readC s2.data.toList = 0
   ·rw [if_pos hr]
    refine OkH.of_wp (rs := [.tmp 6, .tmp 7]) (n := 95) [some (.l 3), some (.l 8)] Tryz.func99 rfl rfl rfl (by simp) fo (by kernel_rfl) ?_
    simp +decide -implicitDefEqProofs only [S0, simprocAttr, toList_beq]
    refine callH (who_ok e1 hl) [.e 8] ?_
    simp +decide -implicitDefEqProofs only [S0, simprocAttr, toList_beq]
    refine callH (wnext_ok e2 hl.1) [.e 8] ?_
    simp +decide -implicitDefEqProofs only [S0, simprocAttr, toList_beq]
    refine call_eq (recRead_ok s2 hz) ?_
    simp +decide -implicitDefEqProofs only [S0, simprocAttr, toList_beq]
    rw [hr]
    refine call_eq must_ok ?_
    simp +decide -implicitDefEqProofs only [S0, simprocAttr, toList_beq, gfs, Option.getD_some, opO, clV, clB]
   ·rw [if_neg hr]
    refine OkP.of_wp (n := 95) Tryz.func99 rfl rfl (by simp) fo (by kernel_rfl) ?_
    simp +decide -implicitDefEqProofs only [S0, simprocAttr, X0, toList_beq]
    refine .inl (callH (who_ok e1 hl) [.e 8] ?_)
    simp +decide -implicitDefEqProofs only [S0, simprocAttr, X0, toList_beq]
    refine .inl (callH (wnext_ok e2 hl.1) [.e 8] ?_)
    simp +decide -implicitDefEqProofs only [S0, simprocAttr, X0, toList_beq]
    refine .inl (call_eq (recRead_ok s2 hz) ?_)
    simp +decide -implicitDefEqProofs only [S0, simprocAttr, X0, toList_beq]
    refine .inr (pan (must_pan hr) [] ?_)
    simp +decide -implicitDefEqProofs only [S0, simprocAttr, toList_beq]
    exact ⟨[], by simp +decide -implicitDefEqProofs only [S0, simprocAttr, toList_beq, gfs, Option.getD_some]⟩
theorem asksCut_run (d : Dk) {l : List ByteArray} {i : Nat} (hl : wdOk l) (hil : i ≤ l.length) : rdRun 99 wCut true (asksD wCut l i) d l i := by
 rw [show asksD wCut l i = rdW l i fun w1 i1 => rdS l i1 fun s2 i2 => rdN l i2 fun n3 i3 => .got (.op { opO 3 w1 with id := s2, rcd := ⟨⟨#[]⟩, n3, [], []⟩ }) i3 from rfl]
 cases e1 : whoD l i with
 | none =>
  rw [rdW_none _ e1]
  refine OkP.of_wp (n := 95) Tryz.func99 rfl rfl (by simp) fo (by kernel_rfl) ?_
  simp +decide -implicitDefEqProofs only [S0, simprocAttr, X0, toList_beq]
  refine .inr (pan (who_bad e1 hl hil) [.e 8] ?_)
  simp +decide -implicitDefEqProofs only [S0, simprocAttr, toList_beq]
  exact ⟨[], by simp +decide -implicitDefEqProofs only [S0, simprocAttr, toList_beq, gfs, Option.getD_some]⟩
 | some x1 =>
  obtain ⟨w1, i1⟩ := x1
  rw [rdW_some _ e1]
  cases e2 : l[i1]? with
  | none =>
   rw [rdS_none _ e2]
   refine OkP.of_wp (n := 95) Tryz.func99 rfl rfl (by simp) fo (by kernel_rfl) ?_
   simp +decide -implicitDefEqProofs only [S0, simprocAttr, X0, toList_beq]
   refine .inl (callH (who_ok e1 hl) [.e 8] ?_)
   simp +decide -implicitDefEqProofs only [S0, simprocAttr, X0, toList_beq]
   refine .inr (pan (wnext_bad (get_end e2 (whoD_le e1))) [.e 8] ?_)
   simp +decide -implicitDefEqProofs only [S0, simprocAttr, toList_beq]
   exact ⟨[], by simp +decide -implicitDefEqProofs only [S0, simprocAttr, toList_beq, gfs, Option.getD_some]⟩
  | some x2 =>
   obtain ⟨s2, hs2⟩ : ∃ s, s = x2 := ⟨_, rfl⟩
   subst hs2
   rw [rdS_some _ e2]
   cases e3 : numD l (i1 + 1) with
   | none =>
    rw [rdN_none _ e3]
    refine OkP.of_wp (n := 95) Tryz.func99 rfl rfl (by simp) fo (by kernel_rfl) ?_
    simp +decide -implicitDefEqProofs only [S0, simprocAttr, X0, toList_beq]
    refine .inl (callH (who_ok e1 hl) [.e 8] ?_)
    simp +decide -implicitDefEqProofs only [S0, simprocAttr, X0, toList_beq]
    refine .inl (callH (wnext_ok e2 hl.1) [.e 8] ?_)
    simp +decide -implicitDefEqProofs only [S0, simprocAttr, X0, toList_beq]
    refine .inr (pan (dnum_bad e3 hl (get_le e2)) [.e 8] ?_)
    simp +decide -implicitDefEqProofs only [S0, simprocAttr, toList_beq]
    exact ⟨[], by simp +decide -implicitDefEqProofs only [S0, simprocAttr, toList_beq, gfs, Option.getD_some]⟩
   | some x3 =>
    obtain ⟨n3, i3⟩ := x3
    rw [rdN_some _ e3]
    refine OkH.of_wp (rs := [.tmp 6, .tmp 7]) (n := 95) [some (.l 3), some (.l 8)] Tryz.func99 rfl rfl rfl (by simp) fo (by kernel_rfl) ?_
    simp +decide -implicitDefEqProofs only [S0, simprocAttr, toList_beq]
    refine callH (who_ok e1 hl) [.e 8] ?_
    simp +decide -implicitDefEqProofs only [S0, simprocAttr, toList_beq]
    refine callH (wnext_ok e2 hl.1) [.e 8] ?_
    simp +decide -implicitDefEqProofs only [S0, simprocAttr, toList_beq]
    refine callH (dnum_ok e3 hl) [.e 8] ?_
    simp +decide -implicitDefEqProofs only [S0, simprocAttr, toList_beq, gfs, Option.getD_some, opO, clV, clB]
theorem asksGet_run (d : Dk) {l : List ByteArray} {i : Nat} (hl : wdOk l) (hil : i ≤ l.length) : rdRun 99 wGet true (asksD wGet l i) d l i := by
 rw [show asksD wGet l i = rdW l i fun w1 i1 => rdS l i1 fun s2 i2 => .got (.op { opO 4 w1 with id := s2 }) i2 from rfl]
 cases e1 : whoD l i with
 | none =>
  rw [rdW_none _ e1]
  refine OkP.of_wp (n := 95) Tryz.func99 rfl rfl (by simp) fo (by kernel_rfl) ?_
  simp +decide -implicitDefEqProofs only [S0, simprocAttr, X0, toList_beq]
  refine .inr (pan (who_bad e1 hl hil) [.e 8] ?_)
  simp +decide -implicitDefEqProofs only [S0, simprocAttr, toList_beq]
  exact ⟨[], by simp +decide -implicitDefEqProofs only [S0, simprocAttr, toList_beq, gfs, Option.getD_some]⟩
 | some x1 =>
  obtain ⟨w1, i1⟩ := x1
  rw [rdW_some _ e1]
  cases e2 : l[i1]? with
  | none =>
   rw [rdS_none _ e2]
   refine OkP.of_wp (n := 95) Tryz.func99 rfl rfl (by simp) fo (by kernel_rfl) ?_
   simp +decide -implicitDefEqProofs only [S0, simprocAttr, X0, toList_beq]
   refine .inl (callH (who_ok e1 hl) [.e 8] ?_)
   simp +decide -implicitDefEqProofs only [S0, simprocAttr, X0, toList_beq]
   refine .inr (pan (wnext_bad (get_end e2 (whoD_le e1))) [.e 8] ?_)
   simp +decide -implicitDefEqProofs only [S0, simprocAttr, toList_beq]
   exact ⟨[], by simp +decide -implicitDefEqProofs only [S0, simprocAttr, toList_beq, gfs, Option.getD_some]⟩
  | some x2 =>
   obtain ⟨s2, hs2⟩ : ∃ s, s = x2 := ⟨_, rfl⟩
   subst hs2
   rw [rdS_some _ e2]
   refine OkH.of_wp (rs := [.tmp 6, .tmp 7]) (n := 95) [some (.l 3), some (.l 8)] Tryz.func99 rfl rfl rfl (by simp) fo (by kernel_rfl) ?_
   simp +decide -implicitDefEqProofs only [S0, simprocAttr, toList_beq]
   refine callH (who_ok e1 hl) [.e 8] ?_
   simp +decide -implicitDefEqProofs only [S0, simprocAttr, toList_beq]
   refine callH (wnext_ok e2 hl.1) [.e 8] ?_
   simp +decide -implicitDefEqProofs only [S0, simprocAttr, toList_beq, gfs, Option.getD_some, opO, clV, clB]
theorem asksHist_run (d : Dk) {l : List ByteArray} {i : Nat} (hl : wdOk l) (hil : i ≤ l.length) : rdRun 99 wHist true (asksD wHist l i) d l i := by
 rw [show asksD wHist l i = rdW l i fun w1 i1 => rdS l i1 fun s2 i2 => .got (.op { opO 6 w1 with id := s2 }) i2 from rfl]
 cases e1 : whoD l i with
 | none =>
  rw [rdW_none _ e1]
  refine OkP.of_wp (n := 95) Tryz.func99 rfl rfl (by simp) fo (by kernel_rfl) ?_
  simp +decide -implicitDefEqProofs only [S0, simprocAttr, X0, toList_beq]
  refine .inr (pan (who_bad e1 hl hil) [.e 8] ?_)
  simp +decide -implicitDefEqProofs only [S0, simprocAttr, toList_beq]
  exact ⟨[], by simp +decide -implicitDefEqProofs only [S0, simprocAttr, toList_beq, gfs, Option.getD_some]⟩
 | some x1 =>
  obtain ⟨w1, i1⟩ := x1
  rw [rdW_some _ e1]
  cases e2 : l[i1]? with
  | none =>
   rw [rdS_none _ e2]
   refine OkP.of_wp (n := 95) Tryz.func99 rfl rfl (by simp) fo (by kernel_rfl) ?_
   simp +decide -implicitDefEqProofs only [S0, simprocAttr, X0, toList_beq]
   refine .inl (callH (who_ok e1 hl) [.e 8] ?_)
   simp +decide -implicitDefEqProofs only [S0, simprocAttr, X0, toList_beq]
   refine .inr (pan (wnext_bad (get_end e2 (whoD_le e1))) [.e 8] ?_)
   simp +decide -implicitDefEqProofs only [S0, simprocAttr, toList_beq]
   exact ⟨[], by simp +decide -implicitDefEqProofs only [S0, simprocAttr, toList_beq, gfs, Option.getD_some]⟩
  | some x2 =>
   obtain ⟨s2, hs2⟩ : ∃ s, s = x2 := ⟨_, rfl⟩
   subst hs2
   rw [rdS_some _ e2]
   refine OkH.of_wp (rs := [.tmp 6, .tmp 7]) (n := 95) [some (.l 3), some (.l 8)] Tryz.func99 rfl rfl rfl (by simp) fo (by kernel_rfl) ?_
   simp +decide -implicitDefEqProofs only [S0, simprocAttr, toList_beq]
   refine callH (who_ok e1 hl) [.e 8] ?_
   simp +decide -implicitDefEqProofs only [S0, simprocAttr, toList_beq]
   refine callH (wnext_ok e2 hl.1) [.e 8] ?_
   simp +decide -implicitDefEqProofs only [S0, simprocAttr, toList_beq, gfs, Option.getD_some, opO, clV, clB]
theorem asksNeed_run (d : Dk) {l : List ByteArray} {i : Nat} (hl : wdOk l) (hil : i ≤ l.length) : rdRun 99 wNeed true (asksD wNeed l i) d l i := by
 rw [show asksD wNeed l i = rdW l i fun w1 i1 => rdS l i1 fun s2 i2 => .got (.op { opO 7 w1 with id := s2 }) i2 from rfl]
 cases e1 : whoD l i with
 | none =>
  rw [rdW_none _ e1]
  refine OkP.of_wp (n := 95) Tryz.func99 rfl rfl (by simp) fo (by kernel_rfl) ?_
  simp +decide -implicitDefEqProofs only [S0, simprocAttr, X0, toList_beq]
  refine .inr (pan (who_bad e1 hl hil) [.e 8] ?_)
  simp +decide -implicitDefEqProofs only [S0, simprocAttr, toList_beq]
  exact ⟨[], by simp +decide -implicitDefEqProofs only [S0, simprocAttr, toList_beq, gfs, Option.getD_some]⟩
 | some x1 =>
  obtain ⟨w1, i1⟩ := x1
  rw [rdW_some _ e1]
  cases e2 : l[i1]? with
  | none =>
   rw [rdS_none _ e2]
   refine OkP.of_wp (n := 95) Tryz.func99 rfl rfl (by simp) fo (by kernel_rfl) ?_
   simp +decide -implicitDefEqProofs only [S0, simprocAttr, X0, toList_beq]
   refine .inl (callH (who_ok e1 hl) [.e 8] ?_)
   simp +decide -implicitDefEqProofs only [S0, simprocAttr, X0, toList_beq]
   refine .inr (pan (wnext_bad (get_end e2 (whoD_le e1))) [.e 8] ?_)
   simp +decide -implicitDefEqProofs only [S0, simprocAttr, toList_beq]
   exact ⟨[], by simp +decide -implicitDefEqProofs only [S0, simprocAttr, toList_beq, gfs, Option.getD_some]⟩
  | some x2 =>
   obtain ⟨s2, hs2⟩ : ∃ s, s = x2 := ⟨_, rfl⟩
   subst hs2
   rw [rdS_some _ e2]
   refine OkH.of_wp (rs := [.tmp 6, .tmp 7]) (n := 95) [some (.l 3), some (.l 8)] Tryz.func99 rfl rfl rfl (by simp) fo (by kernel_rfl) ?_
   simp +decide -implicitDefEqProofs only [S0, simprocAttr, toList_beq]
   refine callH (who_ok e1 hl) [.e 8] ?_
   simp +decide -implicitDefEqProofs only [S0, simprocAttr, toList_beq]
   refine callH (wnext_ok e2 hl.1) [.e 8] ?_
   simp +decide -implicitDefEqProofs only [S0, simprocAttr, toList_beq, gfs, Option.getD_some, opO, clV, clB]
theorem asksAudit_run (d : Dk) {l : List ByteArray} {i : Nat} (hl : wdOk l) (hil : i ≤ l.length) : rdRun 99 wAudit true (asksD wAudit l i) d l i := by
 rw [show asksD wAudit l i = rdW l i fun w1 i1 => .got (.op (opO 8 w1)) i1 from rfl]
 cases e1 : whoD l i with
 | none =>
  rw [rdW_none _ e1]
  refine OkP.of_wp (n := 95) Tryz.func99 rfl rfl (by simp) fo (by kernel_rfl) ?_
  simp +decide -implicitDefEqProofs only [S0, simprocAttr, X0, toList_beq]
  refine .inr (pan (who_bad e1 hl hil) [.e 8] ?_)
  simp +decide -implicitDefEqProofs only [S0, simprocAttr, toList_beq]
  exact ⟨[], by simp +decide -implicitDefEqProofs only [S0, simprocAttr, toList_beq, gfs, Option.getD_some]⟩
 | some x1 =>
  obtain ⟨w1, i1⟩ := x1
  rw [rdW_some _ e1]
  refine OkH.of_wp (rs := [.tmp 6, .tmp 7]) (n := 95) [some (.l 3), some (.l 8)] Tryz.func99 rfl rfl rfl (by simp) fo (by kernel_rfl) ?_
  simp +decide -implicitDefEqProofs only [S0, simprocAttr, toList_beq]
  refine callH (who_ok e1 hl) [.e 8] ?_
  simp +decide -implicitDefEqProofs only [S0, simprocAttr, toList_beq, gfs, Option.getD_some, opO, clV, clB]
theorem asksFind_run (d : Dk) {l : List ByteArray} {i : Nat} (hl : wdOk l) (hil : i ≤ l.length) : rdRun 99 wFind true (asksD wFind l i) d l i := by
 rw [show asksD wFind l i = rdW l i fun w1 i1 => rdS l i1 fun s2 i2 => rdS l i2 fun s3 i3 => .got (.op { opO 5 w1 with fd := ⟨s2, s3⟩ }) i3 from rfl]
 cases e1 : whoD l i with
 | none =>
  rw [rdW_none _ e1]
  refine OkP.of_wp (n := 95) Tryz.func99 rfl rfl (by simp) fo (by kernel_rfl) ?_
  simp +decide -implicitDefEqProofs only [S0, simprocAttr, X0, toList_beq]
  refine .inr (pan (who_bad e1 hl hil) [.e 8] ?_)
  simp +decide -implicitDefEqProofs only [S0, simprocAttr, toList_beq]
  exact ⟨[], by simp +decide -implicitDefEqProofs only [S0, simprocAttr, toList_beq, gfs, Option.getD_some]⟩
 | some x1 =>
  obtain ⟨w1, i1⟩ := x1
  rw [rdW_some _ e1]
  cases e2 : l[i1]? with
  | none =>
   rw [rdS_none _ e2]
   refine OkP.of_wp (n := 95) Tryz.func99 rfl rfl (by simp) fo (by kernel_rfl) ?_
   simp +decide -implicitDefEqProofs only [S0, simprocAttr, X0, toList_beq]
   refine .inl (callH (who_ok e1 hl) [.e 8] ?_)
   simp +decide -implicitDefEqProofs only [S0, simprocAttr, X0, toList_beq]
   refine .inr (pan (wnext_bad (get_end e2 (whoD_le e1))) [.e 8] ?_)
   simp +decide -implicitDefEqProofs only [S0, simprocAttr, toList_beq]
   exact ⟨[], by simp +decide -implicitDefEqProofs only [S0, simprocAttr, toList_beq, gfs, Option.getD_some]⟩
  | some x2 =>
   obtain ⟨s2, hs2⟩ : ∃ s, s = x2 := ⟨_, rfl⟩
   subst hs2
   rw [rdS_some _ e2]
   cases e3 : l[(i1 + 1)]? with
   | none =>
    rw [rdS_none _ e3]
    refine OkP.of_wp (n := 95) Tryz.func99 rfl rfl (by simp) fo (by kernel_rfl) ?_
    simp +decide -implicitDefEqProofs only [S0, simprocAttr, X0, toList_beq]
    refine .inl (callH (who_ok e1 hl) [.e 8] ?_)
    simp +decide -implicitDefEqProofs only [S0, simprocAttr, X0, toList_beq]
    refine .inl (callH (wnext_ok e2 hl.1) [.e 8] ?_)
    simp +decide -implicitDefEqProofs only [S0, simprocAttr, X0, toList_beq]
    refine .inr (pan (wnext_bad (get_end e3 (get_le e2))) [.e 8] ?_)
    simp +decide -implicitDefEqProofs only [S0, simprocAttr, toList_beq]
    exact ⟨[], by simp +decide -implicitDefEqProofs only [S0, simprocAttr, toList_beq, gfs, Option.getD_some]⟩
   | some x3 =>
    obtain ⟨s3, hs3⟩ : ∃ s, s = x3 := ⟨_, rfl⟩
    subst hs3
    rw [rdS_some _ e3]
    refine OkH.of_wp (rs := [.tmp 6, .tmp 7]) (n := 95) [some (.l 3), some (.l 8)] Tryz.func99 rfl rfl rfl (by simp) fo (by kernel_rfl) ?_
    simp +decide -implicitDefEqProofs only [S0, simprocAttr, toList_beq]
    refine callH (who_ok e1 hl) [.e 8] ?_
    simp +decide -implicitDefEqProofs only [S0, simprocAttr, toList_beq]
    refine callH (wnext_ok e2 hl.1) [.e 8] ?_
    simp +decide -implicitDefEqProofs only [S0, simprocAttr, toList_beq]
    refine callH (wnext_ok e3 hl.1) [.e 8] ?_
    simp +decide -implicitDefEqProofs only [S0, simprocAttr, toList_beq, gfs, Option.getD_some, opO, clV, clB]
theorem asksAllow_run (d : Dk) {l : List ByteArray} {i : Nat} (hl : wdOk l) (hil : i ≤ l.length) : rdRun 99 wAllow true (asksD wAllow l i) d l i := by
 rw [show asksD wAllow l i = rdN l i fun n1 i1 => rdN l i1 fun n2 i2 => rdN l i2 fun n3 i3 => rdN l i3 fun n4 i4 => rdN l i4 fun n5 i5 => .got (.rule ⟨n1, n2, n3, n4, n5, true⟩) i5 from rfl]
 cases e1 : numD l i with
 | none =>
  rw [rdN_none _ e1]
  refine OkP.of_wp (n := 95) Tryz.func99 rfl rfl (by simp) fo (by kernel_rfl) ?_
  simp +decide -implicitDefEqProofs only [S0, simprocAttr, X0, toList_beq]
  refine .inr (pan (dnum_bad e1 hl hil) [.e 8] ?_)
  simp +decide -implicitDefEqProofs only [S0, simprocAttr, toList_beq]
  exact ⟨[], by simp +decide -implicitDefEqProofs only [S0, simprocAttr, toList_beq, gfs, Option.getD_some]⟩
 | some x1 =>
  obtain ⟨n1, i1⟩ := x1
  rw [rdN_some _ e1]
  cases e2 : numD l i1 with
  | none =>
   rw [rdN_none _ e2]
   refine OkP.of_wp (n := 95) Tryz.func99 rfl rfl (by simp) fo (by kernel_rfl) ?_
   simp +decide -implicitDefEqProofs only [S0, simprocAttr, X0, toList_beq]
   refine .inl (callH (dnum_ok e1 hl) [.e 8] ?_)
   simp +decide -implicitDefEqProofs only [S0, simprocAttr, X0, toList_beq]
   refine .inr (pan (dnum_bad e2 hl (numD_le e1)) [.e 8] ?_)
   simp +decide -implicitDefEqProofs only [S0, simprocAttr, toList_beq]
   exact ⟨[], by simp +decide -implicitDefEqProofs only [S0, simprocAttr, toList_beq, gfs, Option.getD_some]⟩
  | some x2 =>
   obtain ⟨n2, i2⟩ := x2
   rw [rdN_some _ e2]
   cases e3 : numD l i2 with
   | none =>
    rw [rdN_none _ e3]
    refine OkP.of_wp (n := 95) Tryz.func99 rfl rfl (by simp) fo (by kernel_rfl) ?_
    simp +decide -implicitDefEqProofs only [S0, simprocAttr, X0, toList_beq]
    refine .inl (callH (dnum_ok e1 hl) [.e 8] ?_)
    simp +decide -implicitDefEqProofs only [S0, simprocAttr, X0, toList_beq]
    refine .inl (callH (dnum_ok e2 hl) [.e 8] ?_)
    simp +decide -implicitDefEqProofs only [S0, simprocAttr, X0, toList_beq]
    refine .inr (pan (dnum_bad e3 hl (numD_le e2)) [.e 8] ?_)
    simp +decide -implicitDefEqProofs only [S0, simprocAttr, toList_beq]
    exact ⟨[], by simp +decide -implicitDefEqProofs only [S0, simprocAttr, toList_beq, gfs, Option.getD_some]⟩
   | some x3 =>
    obtain ⟨n3, i3⟩ := x3
    rw [rdN_some _ e3]
    cases e4 : numD l i3 with
    | none =>
     rw [rdN_none _ e4]
     refine OkP.of_wp (n := 95) Tryz.func99 rfl rfl (by simp) fo (by kernel_rfl) ?_
     simp +decide -implicitDefEqProofs only [S0, simprocAttr, X0, toList_beq]
     refine .inl (callH (dnum_ok e1 hl) [.e 8] ?_)
     simp +decide -implicitDefEqProofs only [S0, simprocAttr, X0, toList_beq]
     refine .inl (callH (dnum_ok e2 hl) [.e 8] ?_)
     simp +decide -implicitDefEqProofs only [S0, simprocAttr, X0, toList_beq]
     refine .inl (callH (dnum_ok e3 hl) [.e 8] ?_)
     simp +decide -implicitDefEqProofs only [S0, simprocAttr, X0, toList_beq]
     refine .inr (pan (dnum_bad e4 hl (numD_le e3)) [.e 8] ?_)
     simp +decide -implicitDefEqProofs only [S0, simprocAttr, toList_beq]
     exact ⟨[], by simp +decide -implicitDefEqProofs only [S0, simprocAttr, toList_beq, gfs, Option.getD_some]⟩
    | some x4 =>
     obtain ⟨n4, i4⟩ := x4
     rw [rdN_some _ e4]
     cases e5 : numD l i4 with
     | none =>
      rw [rdN_none _ e5]
      refine OkP.of_wp (n := 95) Tryz.func99 rfl rfl (by simp) fo (by kernel_rfl) ?_
      simp +decide -implicitDefEqProofs only [S0, simprocAttr, X0, toList_beq]
      refine .inl (callH (dnum_ok e1 hl) [.e 8] ?_)
      simp +decide -implicitDefEqProofs only [S0, simprocAttr, X0, toList_beq]
      refine .inl (callH (dnum_ok e2 hl) [.e 8] ?_)
      simp +decide -implicitDefEqProofs only [S0, simprocAttr, X0, toList_beq]
      refine .inl (callH (dnum_ok e3 hl) [.e 8] ?_)
      simp +decide -implicitDefEqProofs only [S0, simprocAttr, X0, toList_beq]
      refine .inl (callH (dnum_ok e4 hl) [.e 8] ?_)
      simp +decide -implicitDefEqProofs only [S0, simprocAttr, X0, toList_beq]
      refine .inr (pan (dnum_bad e5 hl (numD_le e4)) [.e 8] ?_)
      simp +decide -implicitDefEqProofs only [S0, simprocAttr, toList_beq]
      exact ⟨[], by simp +decide -implicitDefEqProofs only [S0, simprocAttr, toList_beq, gfs, Option.getD_some]⟩
     | some x5 =>
      obtain ⟨n5, i5⟩ := x5
      rw [rdN_some _ e5]
      refine OkH.of_wp (rs := [.tmp 6, .tmp 7]) (n := 95) [some (.l 3), some (.l 11)] Tryz.func99 rfl rfl rfl (by simp) fo (by kernel_rfl) ?_
      simp +decide -implicitDefEqProofs only [S0, simprocAttr, toList_beq]
      refine callH (dnum_ok e1 hl) [.e 8] ?_
      simp +decide -implicitDefEqProofs only [S0, simprocAttr, toList_beq]
      refine callH (dnum_ok e2 hl) [.e 8] ?_
      simp +decide -implicitDefEqProofs only [S0, simprocAttr, toList_beq]
      refine callH (dnum_ok e3 hl) [.e 8] ?_
      simp +decide -implicitDefEqProofs only [S0, simprocAttr, toList_beq]
      refine callH (dnum_ok e4 hl) [.e 8] ?_
      simp +decide -implicitDefEqProofs only [S0, simprocAttr, toList_beq]
      refine callH (dnum_ok e5 hl) [.e 8] ?_
      simp +decide -implicitDefEqProofs only [S0, simprocAttr, toList_beq, gfs, Option.getD_some, opO, clV, clB]
theorem asksDeny_run (d : Dk) {l : List ByteArray} {i : Nat} (hl : wdOk l) (hil : i ≤ l.length) : rdRun 99 wDeny true (asksD wDeny l i) d l i := by
 rw [show asksD wDeny l i = rdN l i fun n1 i1 => rdN l i1 fun n2 i2 => rdN l i2 fun n3 i3 => rdN l i3 fun n4 i4 => rdN l i4 fun n5 i5 => .got (.rule ⟨n1, n2, n3, n4, n5, false⟩) i5 from rfl]
 cases e1 : numD l i with
 | none =>
  rw [rdN_none _ e1]
  refine OkP.of_wp (n := 95) Tryz.func99 rfl rfl (by simp) fo (by kernel_rfl) ?_
  simp +decide -implicitDefEqProofs only [S0, simprocAttr, X0, toList_beq]
  refine .inr (pan (dnum_bad e1 hl hil) [.e 8] ?_)
  simp +decide -implicitDefEqProofs only [S0, simprocAttr, toList_beq]
  exact ⟨[], by simp +decide -implicitDefEqProofs only [S0, simprocAttr, toList_beq, gfs, Option.getD_some]⟩
 | some x1 =>
  obtain ⟨n1, i1⟩ := x1
  rw [rdN_some _ e1]
  cases e2 : numD l i1 with
  | none =>
   rw [rdN_none _ e2]
   refine OkP.of_wp (n := 95) Tryz.func99 rfl rfl (by simp) fo (by kernel_rfl) ?_
   simp +decide -implicitDefEqProofs only [S0, simprocAttr, X0, toList_beq]
   refine .inl (callH (dnum_ok e1 hl) [.e 8] ?_)
   simp +decide -implicitDefEqProofs only [S0, simprocAttr, X0, toList_beq]
   refine .inr (pan (dnum_bad e2 hl (numD_le e1)) [.e 8] ?_)
   simp +decide -implicitDefEqProofs only [S0, simprocAttr, toList_beq]
   exact ⟨[], by simp +decide -implicitDefEqProofs only [S0, simprocAttr, toList_beq, gfs, Option.getD_some]⟩
  | some x2 =>
   obtain ⟨n2, i2⟩ := x2
   rw [rdN_some _ e2]
   cases e3 : numD l i2 with
   | none =>
    rw [rdN_none _ e3]
    refine OkP.of_wp (n := 95) Tryz.func99 rfl rfl (by simp) fo (by kernel_rfl) ?_
    simp +decide -implicitDefEqProofs only [S0, simprocAttr, X0, toList_beq]
    refine .inl (callH (dnum_ok e1 hl) [.e 8] ?_)
    simp +decide -implicitDefEqProofs only [S0, simprocAttr, X0, toList_beq]
    refine .inl (callH (dnum_ok e2 hl) [.e 8] ?_)
    simp +decide -implicitDefEqProofs only [S0, simprocAttr, X0, toList_beq]
    refine .inr (pan (dnum_bad e3 hl (numD_le e2)) [.e 8] ?_)
    simp +decide -implicitDefEqProofs only [S0, simprocAttr, toList_beq]
    exact ⟨[], by simp +decide -implicitDefEqProofs only [S0, simprocAttr, toList_beq, gfs, Option.getD_some]⟩
   | some x3 =>
    obtain ⟨n3, i3⟩ := x3
    rw [rdN_some _ e3]
    cases e4 : numD l i3 with
    | none =>
     rw [rdN_none _ e4]
     refine OkP.of_wp (n := 95) Tryz.func99 rfl rfl (by simp) fo (by kernel_rfl) ?_
     simp +decide -implicitDefEqProofs only [S0, simprocAttr, X0, toList_beq]
     refine .inl (callH (dnum_ok e1 hl) [.e 8] ?_)
     simp +decide -implicitDefEqProofs only [S0, simprocAttr, X0, toList_beq]
     refine .inl (callH (dnum_ok e2 hl) [.e 8] ?_)
     simp +decide -implicitDefEqProofs only [S0, simprocAttr, X0, toList_beq]
     refine .inl (callH (dnum_ok e3 hl) [.e 8] ?_)
     simp +decide -implicitDefEqProofs only [S0, simprocAttr, X0, toList_beq]
     refine .inr (pan (dnum_bad e4 hl (numD_le e3)) [.e 8] ?_)
     simp +decide -implicitDefEqProofs only [S0, simprocAttr, toList_beq]
     exact ⟨[], by simp +decide -implicitDefEqProofs only [S0, simprocAttr, toList_beq, gfs, Option.getD_some]⟩
    | some x4 =>
     obtain ⟨n4, i4⟩ := x4
     rw [rdN_some _ e4]
     cases e5 : numD l i4 with
     | none =>
      rw [rdN_none _ e5]
      refine OkP.of_wp (n := 95) Tryz.func99 rfl rfl (by simp) fo (by kernel_rfl) ?_
      simp +decide -implicitDefEqProofs only [S0, simprocAttr, X0, toList_beq]
      refine .inl (callH (dnum_ok e1 hl) [.e 8] ?_)
      simp +decide -implicitDefEqProofs only [S0, simprocAttr, X0, toList_beq]
      refine .inl (callH (dnum_ok e2 hl) [.e 8] ?_)
      simp +decide -implicitDefEqProofs only [S0, simprocAttr, X0, toList_beq]
      refine .inl (callH (dnum_ok e3 hl) [.e 8] ?_)
      simp +decide -implicitDefEqProofs only [S0, simprocAttr, X0, toList_beq]
      refine .inl (callH (dnum_ok e4 hl) [.e 8] ?_)
      simp +decide -implicitDefEqProofs only [S0, simprocAttr, X0, toList_beq]
      refine .inr (pan (dnum_bad e5 hl (numD_le e4)) [.e 8] ?_)
      simp +decide -implicitDefEqProofs only [S0, simprocAttr, toList_beq]
      exact ⟨[], by simp +decide -implicitDefEqProofs only [S0, simprocAttr, toList_beq, gfs, Option.getD_some]⟩
     | some x5 =>
      obtain ⟨n5, i5⟩ := x5
      rw [rdN_some _ e5]
      refine OkH.of_wp (rs := [.tmp 6, .tmp 7]) (n := 95) [some (.l 3), some (.l 11)] Tryz.func99 rfl rfl rfl (by simp) fo (by kernel_rfl) ?_
      simp +decide -implicitDefEqProofs only [S0, simprocAttr, toList_beq]
      refine callH (dnum_ok e1 hl) [.e 8] ?_
      simp +decide -implicitDefEqProofs only [S0, simprocAttr, toList_beq]
      refine callH (dnum_ok e2 hl) [.e 8] ?_
      simp +decide -implicitDefEqProofs only [S0, simprocAttr, toList_beq]
      refine callH (dnum_ok e3 hl) [.e 8] ?_
      simp +decide -implicitDefEqProofs only [S0, simprocAttr, toList_beq]
      refine callH (dnum_ok e4 hl) [.e 8] ?_
      simp +decide -implicitDefEqProofs only [S0, simprocAttr, toList_beq]
      refine callH (dnum_ok e5 hl) [.e 8] ?_
      simp +decide -implicitDefEqProofs only [S0, simprocAttr, toList_beq, gfs, Option.getD_some, opO, clV, clB]
      rfl
theorem othersRole_run (d : Dk) {l : List ByteArray} {i : Nat} (hl : wdOk l) (hil : i ≤ l.length) : rdRun 100 wRole false (othersD wRole l i) d l i := by
 rw [show othersD wRole l i = rdN l i fun n1 i1 => .got (.role n1) i1 from rfl]
 cases e1 : numD l i with
 | none =>
  rw [rdN_none _ e1]
  refine OkP.of_wp (n := 51) Tryz.func100 rfl rfl (by simp) fo (by kernel_rfl) ?_
  simp +decide -implicitDefEqProofs only [S0, simprocAttr, X0, toList_beq]
  refine .inr (pan (dnum_bad e1 hl hil) [.e 8] ?_)
  simp +decide -implicitDefEqProofs only [S0, simprocAttr, toList_beq]
  exact ⟨[], by simp +decide -implicitDefEqProofs only [S0, simprocAttr, toList_beq, gfs, Option.getD_some]⟩
 | some x1 =>
  obtain ⟨n1, i1⟩ := x1
  rw [rdN_some _ e1]
  refine OkH.of_wp (rs := [.tmp 6]) (n := 51) [some (.l 3), some (.l 7)] Tryz.func100 rfl rfl rfl (by simp) fo (by kernel_rfl) ?_
  simp +decide -implicitDefEqProofs only [S0, simprocAttr, toList_beq]
  refine callH (dnum_ok e1 hl) [.e 8] ?_
  simp +decide -implicitDefEqProofs only [S0, simprocAttr, toList_beq, gfs, Option.getD_some, opO, clV, clB]
theorem othersBelow_run (d : Dk) {l : List ByteArray} {i : Nat} (hl : wdOk l) (hil : i ≤ l.length) : rdRun 100 wBelow false (othersD wBelow l i) d l i := by
 rw [show othersD wBelow l i = rdN l i fun n1 i1 => rdN l i1 fun n2 i2 => rdN l i2 fun n3 i3 => rdN l i3 fun n4 i4 => .got (.below n1 n2 n3 n4) i4 from rfl]
 cases e1 : numD l i with
 | none =>
  rw [rdN_none _ e1]
  refine OkP.of_wp (n := 51) Tryz.func100 rfl rfl (by simp) fo (by kernel_rfl) ?_
  simp +decide -implicitDefEqProofs only [S0, simprocAttr, X0, toList_beq]
  refine .inr (pan (dnum_bad e1 hl hil) [.e 8] ?_)
  simp +decide -implicitDefEqProofs only [S0, simprocAttr, toList_beq]
  exact ⟨[], by simp +decide -implicitDefEqProofs only [S0, simprocAttr, toList_beq, gfs, Option.getD_some]⟩
 | some x1 =>
  obtain ⟨n1, i1⟩ := x1
  rw [rdN_some _ e1]
  cases e2 : numD l i1 with
  | none =>
   rw [rdN_none _ e2]
   refine OkP.of_wp (n := 51) Tryz.func100 rfl rfl (by simp) fo (by kernel_rfl) ?_
   simp +decide -implicitDefEqProofs only [S0, simprocAttr, X0, toList_beq]
   refine .inl (callH (dnum_ok e1 hl) [.e 8] ?_)
   simp +decide -implicitDefEqProofs only [S0, simprocAttr, X0, toList_beq]
   refine .inr (pan (dnum_bad e2 hl (numD_le e1)) [.e 8] ?_)
   simp +decide -implicitDefEqProofs only [S0, simprocAttr, toList_beq]
   exact ⟨[], by simp +decide -implicitDefEqProofs only [S0, simprocAttr, toList_beq, gfs, Option.getD_some]⟩
  | some x2 =>
   obtain ⟨n2, i2⟩ := x2
   rw [rdN_some _ e2]
   cases e3 : numD l i2 with
   | none =>
    rw [rdN_none _ e3]
    refine OkP.of_wp (n := 51) Tryz.func100 rfl rfl (by simp) fo (by kernel_rfl) ?_
    simp +decide -implicitDefEqProofs only [S0, simprocAttr, X0, toList_beq]
    refine .inl (callH (dnum_ok e1 hl) [.e 8] ?_)
    simp +decide -implicitDefEqProofs only [S0, simprocAttr, X0, toList_beq]
    refine .inl (callH (dnum_ok e2 hl) [.e 8] ?_)
    simp +decide -implicitDefEqProofs only [S0, simprocAttr, X0, toList_beq]
    refine .inr (pan (dnum_bad e3 hl (numD_le e2)) [.e 8] ?_)
    simp +decide -implicitDefEqProofs only [S0, simprocAttr, toList_beq]
    exact ⟨[], by simp +decide -implicitDefEqProofs only [S0, simprocAttr, toList_beq, gfs, Option.getD_some]⟩
   | some x3 =>
    obtain ⟨n3, i3⟩ := x3
    rw [rdN_some _ e3]
    cases e4 : numD l i3 with
    | none =>
     rw [rdN_none _ e4]
     refine OkP.of_wp (n := 51) Tryz.func100 rfl rfl (by simp) fo (by kernel_rfl) ?_
     simp +decide -implicitDefEqProofs only [S0, simprocAttr, X0, toList_beq]
     refine .inl (callH (dnum_ok e1 hl) [.e 8] ?_)
     simp +decide -implicitDefEqProofs only [S0, simprocAttr, X0, toList_beq]
     refine .inl (callH (dnum_ok e2 hl) [.e 8] ?_)
     simp +decide -implicitDefEqProofs only [S0, simprocAttr, X0, toList_beq]
     refine .inl (callH (dnum_ok e3 hl) [.e 8] ?_)
     simp +decide -implicitDefEqProofs only [S0, simprocAttr, X0, toList_beq]
     refine .inr (pan (dnum_bad e4 hl (numD_le e3)) [.e 8] ?_)
     simp +decide -implicitDefEqProofs only [S0, simprocAttr, toList_beq]
     exact ⟨[], by simp +decide -implicitDefEqProofs only [S0, simprocAttr, toList_beq, gfs, Option.getD_some]⟩
    | some x4 =>
     obtain ⟨n4, i4⟩ := x4
     rw [rdN_some _ e4]
     refine OkH.of_wp (rs := [.tmp 6]) (n := 51) [some (.l 3), some (.l 8), some (.l 9)] Tryz.func100 rfl rfl rfl (by simp) fo (by kernel_rfl) ?_
     simp +decide -implicitDefEqProofs only [S0, simprocAttr, toList_beq]
     refine callH (dnum_ok e1 hl) [.e 8] ?_
     simp +decide -implicitDefEqProofs only [S0, simprocAttr, toList_beq]
     refine callH (dnum_ok e2 hl) [.e 8] ?_
     simp +decide -implicitDefEqProofs only [S0, simprocAttr, toList_beq]
     refine callH (dnum_ok e3 hl) [.e 8] ?_
     simp +decide -implicitDefEqProofs only [S0, simprocAttr, toList_beq]
     refine callH (dnum_ok e4 hl) [.e 8] ?_
     simp +decide -implicitDefEqProofs only [S0, simprocAttr, toList_beq, gfs, Option.getD_some, opO, clV, clB]
theorem othersSend_run (d : Dk) {l : List ByteArray} {i : Nat} (hl : wdOk l) (hil : i ≤ l.length) : rdRun 100 wSend false (othersD wSend l i) d l i := by
 rw [show othersD wSend l i = rdN l i fun n1 i1 => rdN l i1 fun n2 i2 => .got (.send n1 n2) i2 from rfl]
 cases e1 : numD l i with
 | none =>
  rw [rdN_none _ e1]
  refine OkP.of_wp (n := 51) Tryz.func100 rfl rfl (by simp) fo (by kernel_rfl) ?_
  simp +decide -implicitDefEqProofs only [S0, simprocAttr, X0, toList_beq]
  refine .inr (pan (dnum_bad e1 hl hil) [.e 8] ?_)
  simp +decide -implicitDefEqProofs only [S0, simprocAttr, toList_beq]
  exact ⟨[], by simp +decide -implicitDefEqProofs only [S0, simprocAttr, toList_beq, gfs, Option.getD_some]⟩
 | some x1 =>
  obtain ⟨n1, i1⟩ := x1
  rw [rdN_some _ e1]
  cases e2 : numD l i1 with
  | none =>
   rw [rdN_none _ e2]
   refine OkP.of_wp (n := 51) Tryz.func100 rfl rfl (by simp) fo (by kernel_rfl) ?_
   simp +decide -implicitDefEqProofs only [S0, simprocAttr, X0, toList_beq]
   refine .inl (callH (dnum_ok e1 hl) [.e 8] ?_)
   simp +decide -implicitDefEqProofs only [S0, simprocAttr, X0, toList_beq]
   refine .inr (pan (dnum_bad e2 hl (numD_le e1)) [.e 8] ?_)
   simp +decide -implicitDefEqProofs only [S0, simprocAttr, toList_beq]
   exact ⟨[], by simp +decide -implicitDefEqProofs only [S0, simprocAttr, toList_beq, gfs, Option.getD_some]⟩
  | some x2 =>
   obtain ⟨n2, i2⟩ := x2
   rw [rdN_some _ e2]
   refine OkH.of_wp (rs := [.tmp 6]) (n := 51) [some (.l 3), some (.l 10), some (.l 11)] Tryz.func100 rfl rfl rfl (by simp) fo (by kernel_rfl) ?_
   simp +decide -implicitDefEqProofs only [S0, simprocAttr, toList_beq]
   refine callH (dnum_ok e1 hl) [.e 8] ?_
   simp +decide -implicitDefEqProofs only [S0, simprocAttr, toList_beq]
   refine callH (dnum_ok e2 hl) [.e 8] ?_
   simp +decide -implicitDefEqProofs only [S0, simprocAttr, toList_beq, gfs, Option.getD_some, opO, clV, clB]
theorem othersAck_run (d : Dk) {l : List ByteArray} {i : Nat} (hl : wdOk l) (hil : i ≤ l.length) : rdRun 100 wAck false (othersD wAck l i) d l i := by
 rw [show othersD wAck l i = rdN l i fun n1 i1 => rdN l i1 fun n2 i2 => .got (.ack n1 n2) i2 from rfl]
 cases e1 : numD l i with
 | none =>
  rw [rdN_none _ e1]
  refine OkP.of_wp (n := 51) Tryz.func100 rfl rfl (by simp) fo (by kernel_rfl) ?_
  simp +decide -implicitDefEqProofs only [S0, simprocAttr, X0, toList_beq]
  refine .inr (pan (dnum_bad e1 hl hil) [.e 8] ?_)
  simp +decide -implicitDefEqProofs only [S0, simprocAttr, toList_beq]
  exact ⟨[], by simp +decide -implicitDefEqProofs only [S0, simprocAttr, toList_beq, gfs, Option.getD_some]⟩
 | some x1 =>
  obtain ⟨n1, i1⟩ := x1
  rw [rdN_some _ e1]
  cases e2 : numD l i1 with
  | none =>
   rw [rdN_none _ e2]
   refine OkP.of_wp (n := 51) Tryz.func100 rfl rfl (by simp) fo (by kernel_rfl) ?_
   simp +decide -implicitDefEqProofs only [S0, simprocAttr, X0, toList_beq]
   refine .inl (callH (dnum_ok e1 hl) [.e 8] ?_)
   simp +decide -implicitDefEqProofs only [S0, simprocAttr, X0, toList_beq]
   refine .inr (pan (dnum_bad e2 hl (numD_le e1)) [.e 8] ?_)
   simp +decide -implicitDefEqProofs only [S0, simprocAttr, toList_beq]
   exact ⟨[], by simp +decide -implicitDefEqProofs only [S0, simprocAttr, toList_beq, gfs, Option.getD_some]⟩
  | some x2 =>
   obtain ⟨n2, i2⟩ := x2
   rw [rdN_some _ e2]
   refine OkH.of_wp (rs := [.tmp 6]) (n := 51) [some (.l 3), some (.l 12), some (.l 13)] Tryz.func100 rfl rfl rfl (by simp) fo (by kernel_rfl) ?_
   simp +decide -implicitDefEqProofs only [S0, simprocAttr, toList_beq]
   refine callH (dnum_ok e1 hl) [.e 8] ?_
   simp +decide -implicitDefEqProofs only [S0, simprocAttr, toList_beq]
   refine callH (dnum_ok e2 hl) [.e 8] ?_
   simp +decide -implicitDefEqProofs only [S0, simprocAttr, toList_beq, gfs, Option.getD_some, opO, clV, clB]
theorem othersSure_run (d : Dk) {l : List ByteArray} {i : Nat} (hl : wdOk l) (hil : i ≤ l.length) : rdRun 100 wSure false (othersD wSure l i) d l i := by
 rw [show othersD wSure l i = .got (.sure) i from rfl]
 refine OkH.of_wp (rs := [.tmp 6]) (n := 51) [some (.l 3)] Tryz.func100 rfl rfl rfl (by simp) fo (by kernel_rfl) ?_
 simp +decide -implicitDefEqProofs only [S0, simprocAttr, toList_beq, gfs, Option.getD_some, opO, clV, clB]
end Go.Proofs.YtonolfpnidaflaaGreatDoor.E

namespace Go.Proofs.YtonolfpnidaflaaGreatDoor.E
open Go
set_option linter.unusedSimpArgs false
set_option linter.unusedVariables false
set_option linter.unusedSectionVars false
set_option maxRecDepth 20000
set_option maxHeartbeats 1000000
theorem asksNo_run (d : Dk) {w : ByteArray} {l : List ByteArray} {i : Nat} (h1 : ¬ w = wPut) (h2 : ¬ w = wCut) (h3 : ¬ w = wGet) (h4 : ¬ w = wHist) (h5 : ¬ w = wNeed) (h6 : ¬ w = wAudit) (h7 : ¬ w = wFind) (h8 : ¬ w = wAllow) (h9 : ¬ w = wDeny) : rdRun 99 w true (asksD w l i) d l i := by
 unfold asksD
 rw [if_neg h1, if_neg h2, if_neg h3, if_neg h4, if_neg h5, if_neg h6, if_neg h7, if_neg h8, if_neg h9]
 refine OkH.of_wp (rs := [.tmp 6, .tmp 7]) (n := 95) [] Tryz.func99 rfl rfl rfl (by simp) fo (by kernel_rfl) ?_
 simp +decide -implicitDefEqProofs only [S0, simprocAttr, toList_beq, h1, h2, h3, h4, h5, h6, h7, h8, h9, decide_false, gfs, Option.getD_some]
theorem othersNo_run (d : Dk) {w : ByteArray} {l : List ByteArray} {i : Nat} (h1 : ¬ w = wRole) (h2 : ¬ w = wBelow) (h3 : ¬ w = wSend) (h4 : ¬ w = wAck) (h5 : ¬ w = wSure) : rdRun 100 w false (othersD w l i) d l i := by
 unfold othersD
 rw [if_neg h1, if_neg h2, if_neg h3, if_neg h4, if_neg h5]
 refine OkP.of_wp (n := 51) Tryz.func100 rfl rfl (by simp) fo (by kernel_rfl) ?_
 simp +decide -implicitDefEqProofs only [S0, simprocAttr, X0, toList_beq, h1, h2, h3, h4, h5, decide_false]
 refine .inr (pan (bad_pan 10) [] ?_)
 simp +decide -implicitDefEqProofs only [S0, simprocAttr, toList_beq]
 exact ⟨[], by simp +decide -implicitDefEqProofs only [S0, simprocAttr, toList_beq, gfs, Option.getD_some]⟩
end Go.Proofs.YtonolfpnidaflaaGreatDoor.E

namespace Go.Proofs.YtonolfpnidaflaaGreatDoor.E
open Go
set_option linter.unusedSimpArgs false
set_option linter.unusedVariables false
set_option linter.unusedSectionVars false
set_option maxRecDepth 20000
set_option maxHeartbeats 1000000
theorem told1_ok (n : Int) (h : inI n) : Ok Tryz.prog 134 [ints [n]] (S (bs (toldL [n]))) := by
 have hl := Lib.itoa_length_le n h.1 h.2
 refine Ok.of_wp (rs := [.tmp 2]) (n := 19) Tryz.func134 rfl rfl rfl (by simp) fo (by kernel_rfl) ?_
 simp +decide -implicitDefEqProofs only [S0, simprocAttr]
 refine ALoop.unrollK [3, 6, 7, 8] 2 ?_
 simp +decide -implicitDefEqProofs only [S0, simprocAttr]
 refine call_eq (Itoa_ok n h) ?_
 have k1 : (⟨#[32]⟩ : ByteArray).size = 1 := rfl
 have k2 : (⟨#[111, 107]⟩ : ByteArray).size = 2 := rfl
 simp +decide -implicitDefEqProofs only [S0, simprocAttr, ba_size, bs_size, k1, k2]
 exact ⟨by omega, by omega, S_eq (ba_ext (by simp [ba_app, bs, toldL, okB]))⟩
theorem gSure_I {d : Dk} (hd : dkOk d) : inI (gSure d.g) := by
 unfold gSure
 cases e : (d.g.ack.mergeSort fun x y => decide (x ≤ y))[(d.g.n - 1) / 2]? with
 | none => exact ⟨by simp, by simp⟩
 | some x =>
  have hx := hd.ack x ((List.mergeSort_perm _ _).mem_iff.1 (List.mem_of_getElem? e))
  simp only [Option.getD_some, inI]
  omega
abbrev dBx : Blk := .cells 108 [.ptr (.e 0) 0 0]
theorem clSure_ok {d : Dk} (hd : dkOk d) : OkH Tryz.prog 137 [.ptr (.e 8) 0 0] (dkH d [dBx]) (S (bs (toldL [gSure d.g]))) (dkV d 0 0 0 [(0, .gone)]) := by
 refine OkH.of_wp (rs := [.tmp 1]) (n := 9) [] Tryz.func137 rfl rfl rfl (by simp) fo (by kernel_rfl) ?_
 simp +decide -implicitDefEqProofs only [S0, simprocAttr]
 refine callH (grSure_ok hd.g) [.e 1, .e 2, .e 3, .e 4, .e 5] ?_
 simp +decide -implicitDefEqProofs only [S0, simprocAttr, gfs, Option.getD_some]
 refine call_ok (told1_ok _ (gSure_I hd)) (by simp +decide -implicitDefEqProofs only [S0, simprocAttr]; try rfl) ?_
 simp +decide -implicitDefEqProofs only [S0, simprocAttr, gfs, Option.getD_some]
end Go.Proofs.YtonolfpnidaflaaGreatDoor.E

namespace Go.Proofs.YtonolfpnidaflaaGreatDoor.E
open Go
set_option linter.unusedSimpArgs false
set_option linter.unusedVariables false
set_option linter.unusedSectionVars false
set_option maxRecDepth 20000
set_option maxHeartbeats 2000000
def shA (vs : List Vn) (i : Nat) : ByteArray := bs (okB ++ (vs.take i).flatMap verL)
def shB (vs : List Vn) (ids : List ByteArray) (i : Nat) : ByteArray := bs (okB ++ (vs.flatMap verL ++ (ids.take i).flatMap fun s => 32 :: s.data.toList))
def shC (vs : List Vn) (ids : List ByteArray) (ns : List Nt) (i : Nat) : ByteArray := bs (okB ++ (vs.flatMap verL ++ (ids.flatMap (fun s => 32 :: s.data.toList) ++ (ns.take i).flatMap ntL)))
theorem shA_end (vs : List Vn) (ids : List ByteArray) {i : Nat} (h : vs.length ≤ i) : shA vs i = shB vs ids 0 := by
 unfold shA shB
 rw [List.take_of_length_le h]
 simp
theorem shB_end (vs : List Vn) (ids : List ByteArray) (ns : List Nt) {i : Nat} (h : ids.length ≤ i) : shB vs ids i = shC vs ids ns 0 := by
 unfold shB shC
 rw [List.take_of_length_le h]
 simp
theorem shC_end (vs : List Vn) (ids : List ByteArray) (ns : List Nt) {i : Nat} (h : ns.length ≤ i) : shC vs ids ns i = bs (shownL ⟨0, vs, ids, ns⟩) := by
 unfold shC shownL
 rw [List.take_of_length_le h]
theorem shA_gone {vs : List Vn} {i : Nat} {v : Vn} (h : vs[i]? = some v) (hg : v.gone = true) : shA vs i ++ (⟨#[32, 45]⟩ ++ v.r.id ++ ⟨#[59]⟩ ++ bs (Lib.itoa v.r.cats)) = shA vs (i + 1) := ba_ext (by
 unfold shA
 rw [take_get h]
 simp [ba_app, bs, verL, hg])
theorem shA_put {vs : List Vn} {i : Nat} {v : Vn} (h : vs[i]? = some v) (hg : v.gone = false) : shA vs i ++ (⟨#[32]⟩ ++ bs (wrL v.r)) = shA vs (i + 1) := ba_ext (by
 unfold shA
 rw [take_get h]
 simp [ba_app, bs, verL, hg])
theorem shB_put {vs : List Vn} {ids : List ByteArray} {i : Nat} {s : ByteArray} (h : ids[i]? = some s) : shB vs ids i ++ (⟨#[32]⟩ ++ s) = shB vs ids (i + 1) := ba_ext (by
 unfold shB
 rw [take_get h]
 simp [ba_app, bs])
theorem shC_put {vs : List Vn} {ids : List ByteArray} {ns : List Nt} {i : Nat} {n : Nt} (h : ns[i]? = some n) : shC vs ids ns i ++ (⟨#[32]⟩ ++ n.id ++ ⟨#[58]⟩ ++ bs (Lib.itoa n.who.role) ++ ⟨#[58]⟩ ++ bs (Lib.itoa n.who.why) ++ ⟨#[58]⟩ ++ bs (Lib.itoa n.who.time)) = shC vs ids ns (i + 1) := ba_ext (by
 unfold shC
 rw [take_get h]
 simp [ba_app, bs, ntL])
theorem take_len {α : Type} {f : α → List UInt8} {k : Nat} {l : List α} (h : ∀ x ∈ l, (f x).length ≤ k) (i : Nat) : ((l.take i).flatMap f).length ≤ l.length * k := by
 refine Nat.le_trans (flat_len f k (l.take i) fun x hx => h x (List.mem_of_mem_take hx)) (Nat.mul_le_mul_right k ?_)
 rw [List.length_take]
 omega
theorem sh_size {vs : List Vn} {ids : List ByteArray} {ns : List Nt} (h : tdOk ⟨0, vs, ids, ns⟩) (i : Nat) : (shA vs i).size ≤ 5000000 ∧ (shB vs ids i).size ≤ 5000000 ∧ (shC vs ids ns i).size ≤ 5000000 := by
 have h1 := take_len (f := verL) (fun v hv => verL_len (h.vs v hv)) i
 have h2 := take_len (f := fun s : ByteArray => 32 :: s.data.toList) (fun s hs => idL_len (h.ids s hs)) i
 have h3 := take_len (f := ntL) (fun n hn => ntL_len (h.nts n hn)) i
 have g1 := flat_len verL 400 vs (fun v hv => verL_len (h.vs v hv))
 have g2 := flat_len (fun s : ByteArray => 32 :: s.data.toList) 400 ids (fun s hs => idL_len (h.ids s hs))
 have h4 := h.vl
 have h5 := h.il
 have h6 := h.nl
 simp only at h1 h2 h3 h4 h5 h6
 refine ⟨?_, ?_, ?_⟩
 ·unfold shA okB
  simp only [bs_size, List.length_append, List.length_cons, List.length_nil]
  omega
 ·unfold shB okB
  simp only [bs_size, List.length_append, List.length_cons, List.length_nil]
  omega
 ·unfold shC okB
  simp only [bs_size, List.length_append, List.length_cons, List.length_nil]
  omega
theorem shown_ok {vs : List Vn} {ids : List ByteArray} {ns : List Nt} (h : tdOk ⟨0, vs, ids, ns⟩) : Ok Tryz.prog 158 [tdV ⟨0, vs, ids, ns⟩] (S (bs (shownL ⟨0, vs, ids, ns⟩))) := by
 have hz := sh_size h
 have h4 : vs.length ≤ 5120 := h.vl
 have h5 : ids.length ≤ 5120 := h.il
 have h6 : ns.length ≤ 60 := h.nl
 have k1 : (⟨#[32]⟩ : ByteArray).size = 1 := rfl
 have k2 : (⟨#[32, 45]⟩ : ByteArray).size = 2 := rfl
 have k3 : (⟨#[59]⟩ : ByteArray).size = 1 := rfl
 have k4 : (⟨#[58]⟩ : ByteArray).size = 1 := rfl
 refine Ok.of_wp (rs := [.tmp 2]) (n := 91) Tryz.func158 rfl rfl rfl (by simp) fo (by kernel_rfl) ?_
 simp +decide -implicitDefEqProofs only [S0, simprocAttr]
 refine call_eq must_ok ?_
 simp +decide -implicitDefEqProofs only [S0, simprocAttr]
 refine ALoop.st [1, 3, 16, 17, 18] (fun (i : Nat) => [.ptr (.l 1) 1 0, S (shA vs i), vers vs, I vs.length, I i]) (fun _ => [(.l 1, 1, .cells 44 [I 0, vers vs, strs ids, nts ns])]) (fun i => i ≤ vs.length) (fun i => vs.length - i) [] 0 (by simp +decide -implicitDefEqProofs only [S0, simprocAttr]; try rfl) (by simp +decide -implicitDefEqProofs only [S0, simprocAttr]) (by omega) ?_
 intro i hi
 by_cases hlt : i < vs.length
 ·have h' : (i : Int) < vs.length := by omega
  obtain ⟨v, hv⟩ := lt_get hlt
  have hr := h.vs v (List.mem_of_getElem? hv)
  have hg := (chkRec_good v.r).1 hr
  have hid := idOk_size hg.id
  have hI : inI v.r.cats := ⟨by have := hg.cats; omega, by have := hg.cats; omega⟩
  have hit := Lib.itoa_length_le v.r.cats hI.1 hI.2
  have hw := wrL_len hr
  have z1 := (hz i).1
  cases hgn : v.gone with
  | true =>
   have e := shA_gone hv hgn
   simp +decide -implicitDefEqProofs only [S0, simprocAttr, h', hv, hgn, ba_size, k2, k3]
   refine ⟨by omega, by omega, call_eq (Itoa_ok v.r.cats hI) ?_⟩
   simp +decide -implicitDefEqProofs only [S0, simprocAttr, ba_size, bs_size, k2, k3, e]
   exact ⟨by omega, by omega, Nxt.mk [] (i + 1) (by simp +decide -implicitDefEqProofs only [S0, simprocAttr, wr_add1 h' (by omega)]) (by simp +decide -implicitDefEqProofs only [S0, simprocAttr]) (by omega) (by omega)⟩
  | false =>
   have e := shA_put hv hgn
   simp +decide -implicitDefEqProofs only [S0, simprocAttr, h', hv, hgn]
   refine call_eq (recWrite_ok v.r) ?_
   simp +decide -implicitDefEqProofs only [S0, simprocAttr, ba_size, bs_size, k1, e]
   exact ⟨by omega, by omega, Nxt.mk [] (i + 1) (by simp +decide -implicitDefEqProofs only [S0, simprocAttr, wr_add1 h' (by omega)]) (by simp +decide -implicitDefEqProofs only [S0, simprocAttr]) (by omega) (by omega)⟩
 ·have h' : ¬ (i : Int) < vs.length := by omega
  simp +decide -implicitDefEqProofs only [S0, simprocAttr, h']
  rw [shA_end vs ids (by omega)]
  refine ALoop.st [1, 3, 48, 49, 50] (fun (i : Nat) => [.ptr (.l 1) 1 0, S (shB vs ids i), strs ids, I ids.length, I i]) (fun _ => [(.l 1, 1, .cells 44 [I 0, vers vs, strs ids, nts ns])]) (fun i => i ≤ ids.length) (fun i => ids.length - i) [] 0 (by simp +decide -implicitDefEqProofs only [S0, simprocAttr]; try rfl) (by simp +decide -implicitDefEqProofs only [S0, simprocAttr]) (by omega) ?_
  intro i hi
  by_cases hlt : i < ids.length
  ·have h' : (i : Int) < ids.length := by omega
   obtain ⟨s, hs⟩ := lt_get hlt
   have hid := idOk_size (h.ids s (List.mem_of_getElem? hs))
   have z1 := (hz i).2.1
   have e := shB_put (vs := vs) hs
   simp +decide -implicitDefEqProofs only [S0, simprocAttr, h', hs, ba_size, k1, e]
   exact ⟨by omega, by omega, Nxt.mk [] (i + 1) (by simp +decide -implicitDefEqProofs only [S0, simprocAttr, wr_add1 h' (by omega)]) (by simp +decide -implicitDefEqProofs only [S0, simprocAttr]) (by omega) (by omega)⟩
  ·have h' : ¬ (i : Int) < ids.length := by omega
   simp +decide -implicitDefEqProofs only [S0, simprocAttr, h']
   rw [shB_end vs ids ns (by omega)]
   refine ALoop.st [1, 3, 60, 61, 62] (fun (i : Nat) => [.ptr (.l 1) 1 0, S (shC vs ids ns i), nts ns, I ns.length, I i]) (fun _ => [(.l 1, 1, .cells 44 [I 0, vers vs, strs ids, nts ns])]) (fun i => i ≤ ns.length) (fun i => ns.length - i) [] 0 (by simp +decide -implicitDefEqProofs only [S0, simprocAttr]; try rfl) (by simp +decide -implicitDefEqProofs only [S0, simprocAttr]) (by omega) ?_
   intro i hi
   by_cases hlt : i < ns.length
   ·have h' : (i : Int) < ns.length := by omega
    obtain ⟨n, hn⟩ := lt_get hlt
    obtain ⟨⟨hI1, hI2, hI3⟩, hid⟩ := h.nts n (List.mem_of_getElem? hn)
    have hid := idOk_size hid
    have t1 := Lib.itoa_length_le _ hI1.1 hI1.2
    have t2 := Lib.itoa_length_le _ hI2.1 hI2.2
    have t3 := Lib.itoa_length_le _ hI3.1 hI3.2
    have z1 := (hz i).2.2
    have e := shC_put (vs := vs) (ids := ids) hn
    simp +decide -implicitDefEqProofs only [S0, simprocAttr, h', hn, ba_size, k1, k4]
    refine ⟨by omega, by omega, call_eq (Itoa_ok n.who.role hI1) ?_⟩
    simp +decide -implicitDefEqProofs only [S0, simprocAttr, ba_size, bs_size, k1, k4]
    refine ⟨by omega, by omega, call_eq (Itoa_ok n.who.why hI2) ?_⟩
    simp +decide -implicitDefEqProofs only [S0, simprocAttr, ba_size, bs_size, k1, k4]
    refine ⟨by omega, by omega, call_eq (Itoa_ok n.who.time hI3) ?_⟩
    simp +decide -implicitDefEqProofs only [S0, simprocAttr, ba_size, bs_size, k1, k4, e]
    exact ⟨by omega, by omega, Nxt.mk [] (i + 1) (by simp +decide -implicitDefEqProofs only [S0, simprocAttr, wr_add1 h' (by omega)]) (by simp +decide -implicitDefEqProofs only [S0, simprocAttr]) (by omega) (by omega)⟩
   ·have h' : ¬ (i : Int) < ns.length := by omega
    simp +decide -implicitDefEqProofs only [S0, simprocAttr, h']
    rw [shC_end vs ids ns (by omega)]
abbrev dkOf (d : Dk) (s : Sv) (g : Gr) : Dk := { d with s := s, g := g }
theorem doD_of {d : Dk} {o : OpS} {s' : Sv} {vs : List Vn} {ids : List ByteArray} {ns : List Nt} (e : doS d.s o = (s', ⟨0, vs, ids, ns⟩)) : doD d o = (dkOf d s' (if chkOp o = 0 ∧ d.g.log.length < 60 then gAdd d.g (bs (lineL o)) else d.g), .ok (shownL ⟨0, vs, ids, ns⟩)) := by
 unfold doD
 rw [e]
 simp only [if_true]
def doV (d : Dk) (o : OpS) : Nat := if chkOp o = 0 ∧ d.g.log.length < 60 then 1 else 0
theorem do_ok {d : Dk} {o : OpS} (hd : dkOk d) (ho : whoI o.who) {s' : Sv} {vs : List Vn} {ids : List ByteArray} {ns : List Nt} (e : doS d.s o = (s', ⟨0, vs, ids, ns⟩)) :
  OkH Tryz.prog 128 [.ptr (.e 0) 0 0, opV o] (dkH d []) (S (bs (shownL ⟨0, vs, ids, ns⟩))) (dkV (doD d o).1 (doV d o) 0 (vD d.s o) []) := by
 have h1 := srvDo_ok hd.s o
 have ht := doS_td (o := o) hd.s hd.nts
 rw [e] at h1 ht
 rw [doD_of e]
 unfold doV
 refine OkH.of_wp (rs := [.tmp 4]) (n := 32) [] Tryz.func128 rfl rfl rfl (by simp) fo (by kernel_rfl) ?_
 simp +decide -implicitDefEqProofs only [S0, simprocAttr]
 refine callH h1 [.e 6, .e 7] ?_
 simp +decide -implicitDefEqProofs only [S0, simprocAttr]
 refine call_eq must_ok ?_
 simp +decide -implicitDefEqProofs only [S0, simprocAttr]
 refine call_eq (logWrite_ok o ho) ?_
 by_cases hc : chkOp o = 0
 ·by_cases hl : d.g.log.length < 60
  ·have hw : writeL o = lineL o := by unfold writeL; rw [if_pos hc]
   rw [if_pos ⟨hc, hl⟩, if_pos ⟨hc, hl⟩, hc, hw]
   simp +decide -implicitDefEqProofs only [S0, simprocAttr]
   refine callH (grAdd_ok d.g hl (bs (lineL o)) hd.g.1 hd.g.2.2.2.1) [.e 1, .e 2, .e 3, .e 4, .e 5] ?_
   simp +decide -implicitDefEqProofs only [S0, simprocAttr, gfs]
   refine call_eq (shown_ok ht) ?_
   simp +decide -implicitDefEqProofs only [S0, simprocAttr, gfs, Option.getD_some]
  ·have hl2 : d.g.log.length = 60 := by have := hd.g.2.2.2.2.1; omega
   rw [if_neg (fun h => hl h.2), if_neg (fun h => hl h.2), hc]
   simp +decide -implicitDefEqProofs only [S0, simprocAttr]
   refine callH (grAdd_full d.g hl2 (bs (writeL o))) [.e 1, .e 2, .e 3, .e 4, .e 5] ?_
   simp +decide -implicitDefEqProofs only [S0, simprocAttr, gfs]
   refine call_eq (shown_ok ht) ?_
   simp +decide -implicitDefEqProofs only [S0, simprocAttr, gfs, Option.getD_some]
 ·rw [if_neg (fun h => hc h.1), if_neg (fun h => hc h.1)]
  simp +decide -implicitDefEqProofs only [S0, simprocAttr, hc]
  refine call_eq (shown_ok ht) ?_
  simp +decide -implicitDefEqProofs only [S0, simprocAttr, gfs, Option.getD_some]
theorem do_bad {d : Dk} {o : OpS} (hd : dkOk d) (hc : (doS d.s o).2.code ≠ 0) :
  OkP Tryz.prog 128 [.ptr (.e 0) 0 0, opV o] (dkH d []) (flt (doS d.s o).2.code) (dkV (doD d o).1 0 0 (vD d.s o) []) := by
 have h1 := srvDo_ok hd.s o
 have e : (doD d o).1 = { d with s := (doS d.s o).1 } := by unfold doD; rw [if_neg hc]
 rw [e]
 refine OkP.of_wp (n := 32) Tryz.func128 rfl rfl (by simp) fo (by kernel_rfl) ?_
 simp +decide -implicitDefEqProofs only [S0, simprocAttr, X0, List.getLast?_cons_cons, List.getLast?_singleton, Option.map_some, Option.getD_some]
 refine .inl (callH h1 [.e 6, .e 7] ?_)
 simp +decide -implicitDefEqProofs only [S0, simprocAttr, X0]
 refine .inr (pan (must_pan hc) [] ?_)
 simp +decide -implicitDefEqProofs only [S0, simprocAttr]
 exact ⟨[], by simp +decide -implicitDefEqProofs only [S0, simprocAttr, gfs, Option.getD_some]⟩
end Go.Proofs.YtonolfpnidaflaaGreatDoor.E

namespace Go.Proofs.YtonolfpnidaflaaGreatDoor.E
open Go
set_option linter.unusedSimpArgs false
set_option linter.unusedVariables false
set_option linter.unusedSectionVars false
set_option maxRecDepth 20000
set_option maxHeartbeats 2000000
theorem clOp_ok {d : Dk} {o : OpS} (hd : dkOk d) (ho : whoI o.who) {s' : Sv} {vs : List Vn} {ids : List ByteArray} {ns : List Nt} (e : doS d.s o = (s', ⟨0, vs, ids, ns⟩)) :
  OkH Tryz.prog 129 [.ptr (.e 8) 0 0, .ptr (.e 9) 0 0] (dkH d [dBx, .cells 39 (opC' o)]) (S (bs (shownL ⟨0, vs, ids, ns⟩))) (dkV (doD d o).1 (doV d o) 0 (vD d.s o) [(0, .gone), (0, .gone)]) := by
 have h := do_ok hd ho e
 refine OkH.of_wp (rs := [.tmp 2]) (n := 6) [] Tryz.func129 rfl rfl rfl (by simp) fo (by kernel_rfl) ?_
 simp +decide -implicitDefEqProofs only [S0, simprocAttr]
 refine callH h [.e 0, .e 1, .e 2, .e 3, .e 4, .e 5, .e 6, .e 7] ?_
 simp +decide -implicitDefEqProofs only [S0, simprocAttr, gfs, Option.getD_some]
theorem clOp_bad {d : Dk} {o : OpS} (hd : dkOk d) (hc : (doS d.s o).2.code ≠ 0) :
  OkP Tryz.prog 129 [.ptr (.e 8) 0 0, .ptr (.e 9) 0 0] (dkH d [dBx, .cells 39 (opC' o)]) (flt (doS d.s o).2.code) (dkV (doD d o).1 0 0 (vD d.s o) [(0, .gone), (0, .gone)]) := by
 have h := do_bad hd hc
 refine OkP.of_wp (n := 6) Tryz.func129 rfl rfl (by simp) fo (by kernel_rfl) ?_
 simp +decide -implicitDefEqProofs only [S0, simprocAttr, X0]
 refine .inr (pan h [.e 0, .e 1, .e 2, .e 3, .e 4, .e 5, .e 6, .e 7] ?_)
 simp +decide -implicitDefEqProofs only [S0, simprocAttr, gfs]
 exact ⟨[], by simp +decide -implicitDefEqProofs only [S0, simprocAttr, gfs, Option.getD_some]⟩
theorem clBelow_ok {d : Dk} {a b c e : Int} (h : (okLab a b && okLab c e) = true) :
  OkH Tryz.prog 131 [.ptr (.e 0) 0 0, .ptr (.e 1) 0 0] [.cells 190 [I a, I b], .cells 190 [I c, I e]] (S (bs (if decide (a ≤ c) && bnot b e == 0 then okB ++ [32, 121, 101, 115] else okB ++ [32, 110, 111]))) [(0, .gone), (0, .gone)] := by
 have hb := Below_ok a b c e
 rw [if_pos h] at hb
 refine OkH.of_wp (rs := [.tmp 2]) (n := 14) [] Tryz.func131 rfl rfl rfl (by simp) fo (by kernel_rfl) ?_
 simp +decide -implicitDefEqProofs only [S0, simprocAttr]
 refine call_eq hb ?_
 cases hq : (decide (a ≤ c) && bnot b e == 0)
 ·simp +decide -implicitDefEqProofs only [S0, simprocAttr]
  refine call_eq must_ok ?_
  simp +decide -implicitDefEqProofs only [S0, simprocAttr]
  rfl
 ·simp +decide -implicitDefEqProofs only [S0, simprocAttr]
  refine call_eq must_ok ?_
  simp +decide -implicitDefEqProofs only [S0, simprocAttr]
  rfl
theorem clBelow_bad {d : Dk} {a b c e : Int} (h : (okLab a b && okLab c e) ≠ true) :
  OkP Tryz.prog 131 [.ptr (.e 0) 0 0, .ptr (.e 1) 0 0] [.cells 190 [I a, I b], .cells 190 [I c, I e]] (flt 1) [(0, .gone), (0, .gone)] := by
 have hb := Below_ok a b c e
 rw [if_neg h] at hb
 refine OkP.of_wp (n := 14) Tryz.func131 rfl rfl (by simp) fo (by kernel_rfl) ?_
 simp +decide -implicitDefEqProofs only [S0, simprocAttr, X0]
 refine .inl (call_eq hb ?_)
 simp +decide -implicitDefEqProofs only [S0, simprocAttr, X0]
 refine .inr (pan (must_pan (e := 1) (by decide)) [] ?_)
 simp +decide -implicitDefEqProofs only [S0, simprocAttr]
 exact ⟨[], by simp +decide -implicitDefEqProofs only [S0, simprocAttr]⟩
theorem clSend_ok {d : Dk} (hd : dkOk d) {j k : Nat} (hj : j + 1 < d.g.n) (hk : k ≤ d.g.log.length) (ht : tkE d.g j k (d.g.log.drop k) = 0) :
  OkH Tryz.prog 133 [.ptr (.e 8) 0 0, .ptr (.e 9) 0 0, .ptr (.e 10) 0 0] (dkH d [dBx, .cells 3 [I ((j + 1 : Nat) : Int)], .cells 3 [I (k : Int)]]) (S (bs (toldL [((tkL d.g j k (d.g.log.drop k)).length : Nat)]))) (dkV { d with g := gTake d.g j k (d.g.log.drop k) } 0 0 0 [(0, .gone), (0, .gone), (0, .gone)]) := by
 have h2 := grTake_ok hd.g hj (d.g.log.drop k) (fr := k) (by rw [List.length_drop]; have := hd.g.2.2.2.2.1; omega)
 rw [ht, if_pos rfl] at h2
 have hl : (tkL d.g j k (d.g.log.drop k)).length ≤ 60 := by
  obtain ⟨t1, _, t3⟩ := tkE_zero ht
  have := tkL_len (l := d.g.log.drop k) t1
  have := gHas_len hd.g j
  omega
 refine OkH.of_wp (rs := [.tmp 3]) (n := 35) [] Tryz.func133 rfl rfl rfl (by simp) fo (by kernel_rfl) ?_
 simp +decide -implicitDefEqProofs only [S0, simprocAttr, gfs]
 refine callH (grSend_ok hd.g hj hk) [.e 1, .e 2, .e 3, .e 4, .e 5] ?_
 simp +decide -implicitDefEqProofs only [S0, simprocAttr, gfs]
 refine call_eq must_ok ?_
 simp +decide -implicitDefEqProofs only [S0, simprocAttr, gfs]
 refine callH h2 [.e 1, .e 2, .e 3, .e 4, .e 5] ?_
 simp +decide -implicitDefEqProofs only [S0, simprocAttr, gfs]
 refine call_eq must_ok ?_
 simp +decide -implicitDefEqProofs only [S0, simprocAttr, gfs]
 refine call_ok (told1_ok ((tkL d.g j k (d.g.log.drop k)).length : Nat) ⟨by omega, by omega⟩) (by simp +decide -implicitDefEqProofs only [S0, simprocAttr]; try rfl) ?_
 simp +decide -implicitDefEqProofs only [S0, simprocAttr, gfs, Option.getD_some]
theorem clSend_bad1 {d : Dk} (hd : dkOk d) {i n : Int} (h : sendE d.g i n ≠ 0) :
  OkP Tryz.prog 133 [.ptr (.e 8) 0 0, .ptr (.e 9) 0 0, .ptr (.e 10) 0 0] (dkH d [dBx, .cells 3 [I i], .cells 3 [I n]]) (flt (sendE d.g i n)) (dkV d 0 0 0 [(0, .gone), (0, .gone), (0, .gone)]) := by
 refine OkP.of_wp (n := 35) Tryz.func133 rfl rfl (by simp) fo (by kernel_rfl) ?_
 simp +decide -implicitDefEqProofs only [S0, simprocAttr, X0, gfs]
 refine callH (grSendA hd.g i n) [.e 1, .e 2, .e 3, .e 4, .e 5] ?_
 simp +decide -implicitDefEqProofs only [S0, simprocAttr, X0, gfs]
 refine .inr (pan (must_pan h) [] ?_)
 simp +decide -implicitDefEqProofs only [S0, simprocAttr, gfs]
 exact ⟨[], by simp +decide -implicitDefEqProofs only [S0, simprocAttr, gfs, Option.getD_some]⟩
theorem clSend_bad2 {d : Dk} (hd : dkOk d) {j k : Nat} (hj : j + 1 < d.g.n) (hk : k ≤ d.g.log.length) (ht : tkE d.g j k (d.g.log.drop k) ≠ 0) :
  OkP Tryz.prog 133 [.ptr (.e 8) 0 0, .ptr (.e 9) 0 0, .ptr (.e 10) 0 0] (dkH d [dBx, .cells 3 [I ((j + 1 : Nat) : Int)], .cells 3 [I (k : Int)]]) (flt (tkE d.g j k (d.g.log.drop k))) (dkV d 0 0 0 [(0, .gone), (0, .gone), (0, .gone)]) := by
 have h2 := grTake_ok hd.g hj (d.g.log.drop k) (fr := k) (by rw [List.length_drop]; have := hd.g.2.2.2.2.1; omega)
 have hg : gTake d.g j k (d.g.log.drop k) = d.g := by unfold gTake; rw [if_neg ht]
 rw [hg] at h2
 refine OkP.of_wp (n := 35) Tryz.func133 rfl rfl (by simp) fo (by kernel_rfl) ?_
 simp +decide -implicitDefEqProofs only [S0, simprocAttr, X0, gfs]
 refine callH (grSend_ok hd.g hj hk) [.e 1, .e 2, .e 3, .e 4, .e 5] ?_
 simp +decide -implicitDefEqProofs only [S0, simprocAttr, X0, gfs]
 refine .inl (call_eq must_ok ?_)
 simp +decide -implicitDefEqProofs only [S0, simprocAttr, X0, gfs]
 refine callH h2 [.e 1, .e 2, .e 3, .e 4, .e 5] ?_
 simp +decide -implicitDefEqProofs only [S0, simprocAttr, X0, gfs]
 refine .inr (pan (must_pan ht) [] ?_)
 simp +decide -implicitDefEqProofs only [S0, simprocAttr, gfs]
 exact ⟨[], by simp +decide -implicitDefEqProofs only [S0, simprocAttr, gfs, Option.getD_some]⟩
theorem clAck_ok {d : Dk} (hd : dkOk d) {i n : Int} (h : ackE d.g i n = 0) :
  OkH Tryz.prog 135 [.ptr (.e 8) 0 0, .ptr (.e 9) 0 0, .ptr (.e 10) 0 0] (dkH d [dBx, .cells 3 [I i], .cells 3 [I n]]) (S (bs okB)) (dkV { d with g := gAck d.g (i - 1).toNat n } 0 0 0 [(0, .gone), (0, .gone), (0, .gone)]) := by
 have h1 := grAckA hd.g i n
 rw [h, if_pos rfl] at h1
 refine OkH.of_wp (rs := [.tmp 3]) (n := 12) [] Tryz.func135 rfl rfl rfl (by simp) fo (by kernel_rfl) ?_
 simp +decide -implicitDefEqProofs only [S0, simprocAttr, gfs]
 refine callH h1 [.e 1, .e 2, .e 3, .e 4, .e 5] ?_
 simp +decide -implicitDefEqProofs only [S0, simprocAttr, gfs]
 refine call_eq must_ok ?_
 simp +decide -implicitDefEqProofs only [S0, simprocAttr, gfs, Option.getD_some]
 rfl
theorem clAck_bad {d : Dk} (hd : dkOk d) {i n : Int} (h : ackE d.g i n ≠ 0) :
  OkP Tryz.prog 135 [.ptr (.e 8) 0 0, .ptr (.e 9) 0 0, .ptr (.e 10) 0 0] (dkH d [dBx, .cells 3 [I i], .cells 3 [I n]]) (flt (ackE d.g i n)) (dkV d 0 0 0 [(0, .gone), (0, .gone), (0, .gone)]) := by
 have h1 := grAckA hd.g i n
 rw [if_neg h] at h1
 refine OkP.of_wp2 (n := 12) Tryz.func135 rfl rfl (by simp) fo rfl (by kernel_rfl) ?_
 simp +decide -implicitDefEqProofs only [S0, simprocAttr, gfs]
 unfold ADrP
 simp only [List.reverse_cons, List.reverse_nil, List.nil_append, List.cons_append]
 refine ⟨trivial, by kernel_rfl, ?_⟩
 simp +decide -implicitDefEqProofs only [S0, simprocAttr, X0, gfs]
 refine callH h1 [.e 1, .e 2, .e 3, .e 4, .e 5] ?_
 simp +decide -implicitDefEqProofs only [S0, simprocAttr, X0, gfs, APanO]
 refine pan (must_pan h) [] ?_
 simp +decide -implicitDefEqProofs only [S0, simprocAttr, gfs]
 exact ⟨[], by simp +decide -implicitDefEqProofs only [S0, simprocAttr, gfs, Option.getD_some]⟩
end Go.Proofs.YtonolfpnidaflaaGreatDoor.E

namespace Go.Proofs.YtonolfpnidaflaaGreatDoor.E
open Go
set_option linter.unusedSimpArgs false
set_option linter.unusedVariables false
set_option linter.unusedSectionVars false
set_option maxRecDepth 20000
set_option maxHeartbeats 2000000
abbrev rlO (d : Dk) (r : Rl) : OpS := { opO 1 ⟨0, 0, 0⟩ with rs := d.rs ++ [r] }
abbrev rlBx (r : Rl) : Blk := .cells 54 [I r.role, I r.why, I r.fr, I r.to, I r.cats, B r.allow]
theorem who0_I : whoI (⟨0, 0, 0⟩ : Wh) := ⟨⟨by decide, by decide⟩, ⟨by decide, by decide⟩, ⟨by decide, by decide⟩⟩
/-- The rules to be, in a list of one's own. -/
abbrev rlB (d : Dk) (r : Rl) : Blk := .row 54 6 none ((d.rs ++ [r]).map fun r => [I r.role, I r.why, I r.fr, I r.to, I r.cats, B r.allow])
abbrev rlI (d : Dk) (r : Rl) : Blk := .ice 6 ((d.rs ++ [r]).map fun r => [I r.role, I r.why, I r.fr, I r.to, I r.cats, B r.allow])
abbrev rlV (n : Nat) : AV := .agg [I 1, I 0, I 0, I 0, .own (.e 8) 0 6 0 n, .val (.string ⟨#[]⟩), I 0, .val (.slice none 0 0), .val (.slice none 0 0), .val (.string ⟨#[]⟩), .val (.string ⟨#[]⟩), .val (.string ⟨#[]⟩)]
abbrev rlY (d : Dk) (r : Rl) : AV := .agg [I 1, I 0, I 0, I 0, rules (d.rs ++ [r]), .val (.string ⟨#[]⟩), I 0, .val (.slice none 0 0), .val (.slice none 0 0), .val (.string ⟨#[]⟩), .val (.string ⟨#[]⟩), .val (.string ⟨#[]⟩)]
theorem rl_take (d : Dk) (r : Rl) : List.take (d.rs.length + 1) (List.map (fun r : Rl => [I r.role, I r.why, I r.fr, I r.to, I r.cats, B r.allow]) (d.rs ++ [r])) = List.map (fun r : Rl => [I r.role, I r.why, I r.fr, I r.to, I r.cats, B r.allow]) (d.rs ++ [r]) := List.take_of_length_le (by simp)
theorem rl_take0 (l : List Rl) : List.take l.length (List.map (fun r : Rl => [I r.role, I r.why, I r.fr, I r.to, I r.cats, B r.allow]) l) = List.map (fun r : Rl => [I r.role, I r.why, I r.fr, I r.to, I r.cats, B r.allow]) l := List.take_of_length_le (by simp)
theorem doRule_ok {d : Dk} {r : Rl} (hd : dkOk d) {s' : Sv} {vs : List Vn} {ids : List ByteArray} {ns : List Nt} (e : doS d.s (rlO d r) = (s', ⟨0, vs, ids, ns⟩)) :
  OkH Tryz.prog 128 [.ptr (.e 0) 0 0, rlV (d.rs.length + 1)] (dkH d [rlB d r]) (S (bs (shownL ⟨0, vs, ids, ns⟩))) (dkV (doD d (rlO d r)).1 (doV d (rlO d r)) 0 (vD d.s (rlO d r)) [(0, rlI d r)]) := by
 have h := do_ok hd (show whoI (rlO d r).who from who0_I) e
 refine OkH.lend [.e 0, .e 1, .e 2, .e 3, .e 4, .e 5, .e 6, .e 7] h (y' := rlY d r) (hp1 := hpE 0 ((dkH d [rlI d r]).map fun b => (0, b))) ?_ ?_ ?_ ?_ ?_ ?_ ?_
 ·simp +decide -implicitDefEqProofs only [S0, simprocAttr, rl_take]
 ·decide
 ·simp +decide -implicitDefEqProofs only [S0, simprocAttr]
 ·simp +decide -implicitDefEqProofs only [S0, simprocAttr, gfs]
 ·simp +decide -implicitDefEqProofs only [S0, simprocAttr, gfs, opO]
 ·simp +decide -implicitDefEqProofs only [S0, simprocAttr, gfs]
 ·intro s
  simp +decide -implicitDefEqProofs only [S0, simprocAttr, gfs]
theorem doRule_bad {d : Dk} {r : Rl} (hd : dkOk d) (hc : (doS d.s (rlO d r)).2.code ≠ 0) :
  OkP Tryz.prog 128 [.ptr (.e 0) 0 0, rlV (d.rs.length + 1)] (dkH d [rlB d r]) (flt (doS d.s (rlO d r)).2.code) (dkV (doD d (rlO d r)).1 0 0 (vD d.s (rlO d r)) [(0, rlI d r)]) := by
 have h := do_bad hd hc
 refine OkP.lend [.e 0, .e 1, .e 2, .e 3, .e 4, .e 5, .e 6, .e 7] h (y' := rlY d r) (hp1 := hpE 0 ((dkH d [rlI d r]).map fun b => (0, b))) ?_ ?_ ?_ ?_ ?_ ?_ ?_
 ·simp +decide -implicitDefEqProofs only [S0, simprocAttr, rl_take]
 ·decide
 ·simp +decide -implicitDefEqProofs only [S0, simprocAttr]
 ·simp +decide -implicitDefEqProofs only [S0, simprocAttr, gfs]
 ·simp +decide -implicitDefEqProofs only [S0, simprocAttr, gfs, opO]
 ·simp +decide -implicitDefEqProofs only [S0, simprocAttr, gfs]
 ·intro s
  simp +decide -implicitDefEqProofs only [S0, simprocAttr, gfs]
theorem clRule_ok {d : Dk} {r : Rl} (hd : dkOk d) {s' : Sv} {vs : List Vn} {ids : List ByteArray} {ns : List Nt} (e : doS d.s (rlO d r) = (s', ⟨0, vs, ids, ns⟩)) :
  OkH Tryz.prog 127 [.ptr (.e 8) 0 0, .ptr (.e 9) 0 0] (dkH d [dBx, rlBx r]) (S (bs (shownL ⟨0, vs, ids, ns⟩))) (dkV { (doD d (rlO d r)).1 with rs := d.rs ++ [r] } (doV d (rlO d r)) 0 (vD d.s (rlO d r)) [(0, .gone), (0, .gone)]) := by
 have hn := (chkRs_of hd.rs).1
 refine OkH.of_wp (rs := [.tmp 2]) (n := 22) [] Tryz.func127 rfl rfl rfl (by simp) fo (by kernel_rfl) ?_
 simp +decide -implicitDefEqProofs only [S0, simprocAttr, gfs]
 refine ⟨by omega, fun x hx => by obtain ⟨y, _, rfl⟩ := List.mem_map.1 hx; rfl, by omega, callH (doRule_ok hd e) [.e 0, .e 1, .e 2, .e 3, .e 4, .e 5, .e 6, .e 7, .l 9] ?_⟩
 simp +decide -implicitDefEqProofs only [S0, simprocAttr, gfs, rl_take0, List.map_append, List.map_cons, List.map_nil, Option.getD_some]
 rw [List.take_of_length_le (by simp), show rules (d.rs ++ [r]) = .list 6 (List.map (fun r : Rl => [I r.role, I r.why, I r.fr, I r.to, I r.cats, B r.allow]) (d.rs ++ [r])) from rfl, List.map_append]
 rfl
theorem clRule_bad {d : Dk} {r : Rl} (hd : dkOk d) (hc : (doS d.s (rlO d r)).2.code ≠ 0) :
  OkP Tryz.prog 127 [.ptr (.e 8) 0 0, .ptr (.e 9) 0 0] (dkH d [dBx, rlBx r]) (flt (doS d.s (rlO d r)).2.code) (dkV (doD d (rlO d r)).1 0 0 (vD d.s (rlO d r)) [(0, .gone), (0, .gone)]) := by
 have hn := (chkRs_of hd.rs).1
 refine OkP.of_wp (n := 22) Tryz.func127 rfl rfl (by simp) fo (by kernel_rfl) ?_
 simp +decide -implicitDefEqProofs only [S0, simprocAttr, X0, gfs]
 refine ⟨by omega, fun x hx => by obtain ⟨y, _, rfl⟩ := List.mem_map.1 hx; rfl, by omega, .inr (pan (doRule_bad hd hc) [.e 0, .e 1, .e 2, .e 3, .e 4, .e 5, .e 6, .e 7, .l 9] ?_)⟩
 simp +decide -implicitDefEqProofs only [S0, simprocAttr, gfs, rl_take0, List.map_append, List.map_cons, List.map_nil]
 exact ⟨[], by simp +decide -implicitDefEqProofs only [S0, simprocAttr, gfs, Option.getD_some]⟩
theorem up_take (l : List Int) : List.take l.length (List.map (fun n : Int => [I n]) l) = List.map (fun n : Int => [I n]) l := List.take_of_length_le (by simp)
theorem up_app (l : List Int) (m : Int) : List.map (fun n : Int => [I n]) l ++ [[.val (.int .i64 m)]] = List.map (fun n : Int => [I n]) (l ++ [m]) := by simp
theorem up_len (l : List Int) (m : Int) : (List.map (fun n : Int => [I n]) (l ++ [m])).length = l.length + 1 := by simp
theorem up_ll (l : List Int) (m : Int) : List.take (l.length + 1) (List.map (fun n : Int => [I n]) (l ++ [m])) = List.map (fun n : Int => [I n]) (l ++ [m]) := List.take_of_length_le (by simp)
theorem clRole_ok {d : Dk} {m : Int} (hd : dkOk d) (h : chkUp (d.up ++ [m]) = 0) :
  OkH Tryz.prog 130 [.ptr (.e 8) 0 0, .ptr (.e 9) 0 0] (dkH d [dBx, .cells 3 [I m]]) (S (bs okB)) (dkV { d with s := ⟨d.up ++ [m], d.rs, [], []⟩, up := d.up ++ [m] } 0 1 1 [(0, .gone), (0, .gone)]) := by
 refine OkH.of_wpZ (rs := [.tmp 2]) (n := 44) Tryz.func130 rfl rfl rfl (by simp) fo (by kernel_rfl) ?_
 have hu := hd.up
 have hl8 : d.up.length ≤ 8 := by
  unfold chkUp at hu
  split at hu
  ·cases hu
  ·omega
 simp +decide -implicitDefEqProofs only [S0, simprocAttr, gfs, up_take, up_app, up_len, up_ll]
 refine ⟨by omega, fun x hx => by obtain ⟨y, _, rfl⟩ := List.mem_map.1 hx; rfl, by omega, ?_⟩
 refine call_ok (rCheck_ok (d.up ++ [m])) (by simp +decide -implicitDefEqProofs only [S0, simprocAttr, up_ll]; try rfl) ?_
 rw [h]
 simp +decide -implicitDefEqProofs only [S0, simprocAttr, gfs, up_take, up_app, up_len, up_ll]
 refine call_eq must_ok ?_
 simp +decide -implicitDefEqProofs only [S0, simprocAttr, gfs, up_take, up_app, up_len, up_ll]
 refine callHF (srvNew_ok h) [.l 19, .m 19 0] ?_
 simp +decide -implicitDefEqProofs only [S0, simprocAttr, gfs, up_take, up_app, up_len, up_ll]
 refine call_eq must_ok ?_
 simp +decide -implicitDefEqProofs only [S0, simprocAttr, gfs, up_take, up_app, up_len, up_ll]
 have hsv : svOk ⟨d.up ++ [m], [], [], []⟩ := ⟨h, (show chkRs [] = 0 by decide), (show chkSt [] = 0 by decide), by simp⟩
 have hdo := srvDo_ok hsv { opO 1 ⟨0, 0, 0⟩ with rs := d.rs }
 have e1 : doS ⟨d.up ++ [m], [], [], []⟩ { opO 1 ⟨0, 0, 0⟩ with rs := d.rs } = (⟨d.up ++ [m], d.rs, [], []⟩, tdE 0) := by
  unfold doS
  simp only [opO, if_true]
  rw [if_pos hd.rs]
 have e2 : vD ⟨d.up ++ [m], [], [], []⟩ { opO 1 ⟨0, 0, 0⟩ with rs := d.rs } = 0 := by unfold vD vN; rfl
 rw [e1, e2] at hdo
 refine callH hdo [.l 19, .m 19 0] ?_
 simp +decide -implicitDefEqProofs only [S0, simprocAttr, gfs, opO, tdE]
 refine ⟨⟨rfl, rfl⟩, call_eq must_ok ?_⟩
 simp +decide -implicitDefEqProofs only [S0, simprocAttr, gfs, tdE]
 refine ⟨_, Less.trans (Less.swap (.e 6) (.l 19) 1 2 (by decide) rfl ?_) (Less.swap (.e 7) (.m 19 0) 1 2 (by decide) rfl ?_), [], ?_⟩
 ·simp +decide -implicitDefEqProofs only [S0, simprocAttr]
 ·simp +decide -implicitDefEqProofs only [S0, simprocAttr, gfs, swH, swB, swG, swT, List.map_cons, List.map_nil]
 ·simp +decide -implicitDefEqProofs only [S0, simprocAttr, gfs, swH, swB, swG, swT, List.map_cons, List.map_nil, up_ll, Option.getD_some]
  exact ⟨rfl, rfl⟩
theorem clRole_bad {d : Dk} {m : Int} (hd : dkOk d) (h : chkUp (d.up ++ [m]) ≠ 0) :
  OkP Tryz.prog 130 [.ptr (.e 8) 0 0, .ptr (.e 9) 0 0] (dkH d [dBx, .cells 3 [I m]]) (flt (chkUp (d.up ++ [m]))) (dkV d 0 0 0 [(0, .gone), (0, .gone)]) := by
 have hu := hd.up
 have hl8 : d.up.length ≤ 8 := by
  unfold chkUp at hu
  split at hu
  ·cases hu
  ·omega
 refine OkP.of_wp (n := 44) Tryz.func130 rfl rfl (by simp) fo (by kernel_rfl) ?_
 simp +decide -implicitDefEqProofs only [S0, simprocAttr, X0, gfs, up_take, up_app, up_len, up_ll]
 refine ⟨by omega, fun x hx => by obtain ⟨y, _, rfl⟩ := List.mem_map.1 hx; rfl, by omega, ?_⟩
 refine .inl (call_ok (rCheck_ok (d.up ++ [m])) (by simp +decide -implicitDefEqProofs only [S0, simprocAttr, up_ll]; try rfl) ?_)
 simp +decide -implicitDefEqProofs only [S0, simprocAttr, X0, gfs, up_take, up_app, up_len, up_ll]
 refine .inr (pan (must_pan h) [] ?_)
 simp +decide -implicitDefEqProofs only [S0, simprocAttr, gfs]
 exact ⟨[], by simp +decide -implicitDefEqProofs only [S0, simprocAttr, gfs, Option.getD_some]⟩
end Go.Proofs.YtonolfpnidaflaaGreatDoor.E

namespace Go.Proofs.YtonolfpnidaflaaGreatDoor.E
open Go
set_option linter.unusedSimpArgs false
set_option linter.unusedVariables false
set_option linter.unusedSectionVars false
set_option maxRecDepth 20000
set_option maxHeartbeats 1000000
theorem asks_run (d : Dk) {w : ByteArray} {l : List ByteArray} {i : Nat} (hl : wdOk l) (hil : i ≤ l.length) : rdRun 99 w true (asksD w l i) d l i := by
 by_cases h1 : w = wPut
 ·subst h1; exact asksPut_run d hl hil
 by_cases h2 : w = wCut
 ·subst h2; exact asksCut_run d hl hil
 by_cases h3 : w = wGet
 ·subst h3; exact asksGet_run d hl hil
 by_cases h4 : w = wHist
 ·subst h4; exact asksHist_run d hl hil
 by_cases h5 : w = wNeed
 ·subst h5; exact asksNeed_run d hl hil
 by_cases h6 : w = wAudit
 ·subst h6; exact asksAudit_run d hl hil
 by_cases h7 : w = wFind
 ·subst h7; exact asksFind_run d hl hil
 by_cases h8 : w = wAllow
 ·subst h8; exact asksAllow_run d hl hil
 by_cases h9 : w = wDeny
 ·subst h9; exact asksDeny_run d hl hil
 exact asksNo_run d h1 h2 h3 h4 h5 h6 h7 h8 h9
theorem others_run (d : Dk) {w : ByteArray} {l : List ByteArray} {i : Nat} (hl : wdOk l) (hil : i ≤ l.length) : rdRun 100 w false (othersD w l i) d l i := by
 by_cases h1 : w = wRole
 ·subst h1; exact othersRole_run d hl hil
 by_cases h2 : w = wBelow
 ·subst h2; exact othersBelow_run d hl hil
 by_cases h3 : w = wSend
 ·subst h3; exact othersSend_run d hl hil
 by_cases h4 : w = wAck
 ·subst h4; exact othersAck_run d hl hil
 by_cases h5 : w = wSure
 ·subst h5; exact othersSure_run d hl hil
 exact othersNo_run d h1 h2 h3 h4 h5
def isAsk : Cl → Prop
 | .op _ => True
 | .rule _ => True
 | _ => False
def isOth : Cl → Prop
 | .op _ => False
 | .rule _ => False
 | _ => True
def rdIs (p : Cl → Prop) : Rd → Prop
 | .got c _ => p c
 | .none => True
 | .bad _ => True
theorem rdW_is {p : Cl → Prop} {l : List ByteArray} {i : Nat} {k : Wh → Nat → Rd} (h : ∀ w j, rdIs p (k w j)) : rdIs p (rdW l i k) := by
 unfold rdW
 split
 ·exact h _ _
 ·trivial
theorem rdN_is {p : Cl → Prop} {l : List ByteArray} {i : Nat} {k : Int → Nat → Rd} (h : ∀ w j, rdIs p (k w j)) : rdIs p (rdN l i k) := by
 unfold rdN
 split
 ·exact h _ _
 ·trivial
theorem rdS_is {p : Cl → Prop} {l : List ByteArray} {i : Nat} {k : ByteArray → Nat → Rd} (h : ∀ w j, rdIs p (k w j)) : rdIs p (rdS l i k) := by
 unfold rdS
 split
 ·exact h _ _
 ·trivial
theorem asksD_is (w : ByteArray) (l : List ByteArray) (i : Nat) : rdIs isAsk (asksD w l i) := by
 unfold asksD
 repeat' split
 ·refine rdW_is fun w j => rdS_is fun s j => ?_
  split <;> trivial
 ·exact rdW_is fun w j => rdS_is fun s j => rdN_is fun n j => trivial
 ·exact rdW_is fun w j => rdS_is fun s j => trivial
 ·exact rdW_is fun w j => rdS_is fun s j => trivial
 ·exact rdW_is fun w j => rdS_is fun s j => trivial
 ·exact rdW_is fun w j => trivial
 ·exact rdW_is fun w j => rdS_is fun s j => rdS_is fun s j => trivial
 ·exact rdN_is fun _ _ => rdN_is fun _ _ => rdN_is fun _ _ => rdN_is fun _ _ => rdN_is fun _ _ => trivial
 ·exact rdN_is fun _ _ => rdN_is fun _ _ => rdN_is fun _ _ => rdN_is fun _ _ => rdN_is fun _ _ => trivial
 ·trivial
theorem othersD_is (w : ByteArray) (l : List ByteArray) (i : Nat) : rdIs isOth (othersD w l i) := by
 unfold othersD
 repeat' split
 ·exact rdN_is fun _ _ => trivial
 ·exact rdN_is fun _ _ => rdN_is fun _ _ => rdN_is fun _ _ => rdN_is fun _ _ => trivial
 ·exact rdN_is fun _ _ => rdN_is fun _ _ => trivial
 ·exact rdN_is fun _ _ => rdN_is fun _ _ => trivial
 ·trivial
 ·trivial
def rdSome : Rd → Prop
 | .none => False
 | _ => True
theorem rdN_some' {l : List ByteArray} {i : Nat} {k : Int → Nat → Rd} (h : ∀ w j, rdSome (k w j)) : rdSome (rdN l i k) := by
 unfold rdN
 split
 ·exact h _ _
 ·trivial
theorem othersD_some (w : ByteArray) (l : List ByteArray) (i : Nat) (h : othersD w l i = .none) : False := by
 have : rdSome (othersD w l i) := by
  unfold othersD
  repeat' split
  ·exact rdN_some' fun _ _ => trivial
  ·exact rdN_some' fun _ _ => rdN_some' fun _ _ => rdN_some' fun _ _ => rdN_some' fun _ _ => trivial
  ·exact rdN_some' fun _ _ => rdN_some' fun _ _ => trivial
  ·exact rdN_some' fun _ _ => rdN_some' fun _ _ => trivial
  ·trivial
  ·trivial
 rw [h] at this
 exact this
end Go.Proofs.YtonolfpnidaflaaGreatDoor.E
