/- Several texts in one: Str Rec RecB Store StoreB StoreC. No conditions. -/
import Derived.Test.YtonolfpnidaflaaGreatDoorGBa
import Derived.Sort.Walk0
import Derived.Test.YtonolfpnidaflaaGreatDoorTab
import Derived.Test.YtonolfpnidaflaaGreatDoorGLa
namespace Go.Proofs.YtonolfpnidaflaaGreatDoor.E
open Go
set_option linter.unusedSimpArgs false
set_option linter.unusedVariables false
set_option linter.unusedSectionVars false
set_option maxRecDepth 20000
abbrev S (s : ByteArray) : AV := .val (.string s)
theorem S_eq {a b : ByteArray} (h : a = b) : S a = S b := h ▸ rfl
theorem bytes_ext {a b : ByteArray} (h : a.data.toList = b.data.toList) : a = b := by
 cases a; cases b; simp only [ByteArray.mk.injEq]; exact Array.toList_inj.1 h
theorem toList_beq (a b : ByteArray) : (a.toList == b.toList) = decide (a = b) := by
 rw [ByteArray.toList_eq, ByteArray.toList_eq, Bool.eq_iff_iff, beq_iff_eq, decide_eq_true_eq]
 exact ⟨bytes_ext, fun h => h ▸ rfl⟩
theorem size_eq (a : ByteArray) : a.size = a.data.toList.length := (Array.length_toList (xs := a.data)).symm
theorem beq_empty (a : ByteArray) : (a.toList == (⟨#[]⟩ : ByteArray).toList) = decide (a.size = 0) := by
 rw [toList_beq, Bool.eq_iff_iff, decide_eq_true_eq, decide_eq_true_eq, size_eq]
 exact ⟨fun h => by rw [h]; rfl, fun h => bytes_ext (by rw [List.eq_nil_of_length_eq_zero h])⟩
/-- Less, aS Go has it. -/
def sLt (a b : ByteArray) : Bool := Op.bytesLess a.toList b.toList
theorem bl_eq (a b : ByteArray) : Op.bytesLess a.toList b.toList = sLt a b := rfl
end Go.Proofs.YtonolfpnidaflaaGreatDoor.E

namespace Go.Proofs.YtonolfpnidaflaaGreatDoor.E
open Go
set_option linter.unusedSimpArgs false
set_option linter.unusedVariables false
set_option linter.unusedSectionVars false
set_option maxRecDepth 20000
structure Fd where
 key : ByteArray
 val : ByteArray
 deriving DecidableEq
structure Rc where
 id : ByteArray
 cats : Int
 fields : List Fd
 refs : List ByteArray
 deriving DecidableEq
abbrev fdC (f : Fd) : List AV := [S f.key, S f.val]
abbrev fdV (f : Fd) : AV := .agg [S f.key, S f.val]
abbrev fds (l : List Fd) : AV := .list 2 (l.map fun f => [S f.key, S f.val])
abbrev strs (l : List ByteArray) : AV := .list 1 (l.map fun s => [S s])
abbrev recV (r : Rc) : AV := .agg [S r.id, I r.cats, fds r.fields, strs r.refs]
def idB (c : UInt8) : Bool := decide (97 ≤ c.toNat ∧ c.toNat ≤ 122) || decide (48 ≤ c.toNat ∧ c.toNat ≤ 57)
def idOk (s : ByteArray) : Bool := !decide (s.size = 0) && decide (s.size ≤ 8) && s.data.toList.all idB
def valB (c : UInt8) : Bool := decide (33 ≤ c.toNat ∧ c.toNat ≤ 126 ∧ c.toNat ≠ 44 ∧ c.toNat ≠ 59 ∧ c.toNat ≠ 61)
def valOk (s : ByteArray) : Bool := decide (s.size ≤ 12) && s.data.toList.all valB
theorem idB_iff (c : UInt8) : idB c = true ↔ (97 ≤ c.toNat ∧ c.toNat ≤ 122) ∨ (48 ≤ c.toNat ∧ c.toNat ≤ 57) := by
 rw [idB, Bool.or_eq_true, decide_eq_true_eq, decide_eq_true_eq]
theorem valB_iff (c : UInt8) : valB c = true ↔ 33 ≤ c.toNat ∧ c.toNat ≤ 126 ∧ c.toNat ≠ 44 ∧ c.toNat ≠ 59 ∧ c.toNat ≠ 61 := by
 rw [valB, decide_eq_true_eq]
theorem idB_not {c : UInt8} (h : ¬ ((97 ≤ c.toNat ∧ c.toNat ≤ 122) ∨ (48 ≤ c.toNat ∧ c.toNat ≤ 57))) : idB c = false := by
 rw [Bool.eq_false_iff, ne_eq, idB_iff]; exact h
theorem valB_not {c : UInt8} (h : ¬ (33 ≤ c.toNat ∧ c.toNat ≤ 126 ∧ c.toNat ≠ 44 ∧ c.toNat ≠ 59 ∧ c.toNat ≠ 61)) : valB c = false := by
 rw [Bool.eq_false_iff, ne_eq, valB_iff]; exact h
theorem Id_ok (s : ByteArray) : Ok Tryz.prog 84 [S s] (B (idOk s)) := by
 refine Ok.of_wp (rs := [.tmp 2]) (n := 36) Tryz.func84 rfl rfl rfl (by simp) fo (by kernel_rfl) ?_
 by_cases h0 : s.size = 0
 ·simp +decide -implicitDefEqProofs only [S0, simprocAttr, beq_empty, h0]
  refine B_eq ?_; rw [idOk, decide_eq_true h0]; rfl
 ·by_cases h8 : s.size ≤ 8
  ·simp +decide -implicitDefEqProofs only [S0, simprocAttr, beq_empty, h0, show ¬ (8 < (s.size : Int)) by omega]
   have e0 : idOk s = s.data.toList.all idB := by rw [idOk, decide_eq_false h0, decide_eq_true h8]; rfl
   rw [e0]
   have hl := size_eq s
   refine ALoop.st [0, 13, 14] (fun (i : Nat) => [S s, I s.size, I i]) (fun _ => []) (fun i => i ≤ s.size ∧ (s.data.toList.drop i).all idB = s.data.toList.all idB) (fun i => s.size - i) [] 0 (by simp +decide -implicitDefEqProofs only [S0, simprocAttr]; try omega) (by simp +decide -implicitDefEqProofs only [S0, simprocAttr]) ⟨by omega, rfl⟩ ?_
   rintro i ⟨hi, hu⟩
   simp +decide -implicitDefEqProofs only [S0, simprocAttr]
   split
   ·rename_i h
    obtain ⟨c, hc⟩ := get_lt (l := s.data.toList) (i := i) (by omega)
    rw [get_drop hc, List.all_cons] at hu
    simp +decide -implicitDefEqProofs only [S0, simprocAttr, hc, wr_add1 h (by omega)]
    repeat' split
    all_goals try simp only [Bool.not_eq_eq_eq_not, Bool.not_true, decide_eq_false_iff_not] at *
    all_goals first
     | exact B_eq (by rw [← hu, idB_not (c := c) (by omega)]; rfl)
     | exact Nxt.mk [] (i + 1) (by simp +decide -implicitDefEqProofs only [S0, simprocAttr]) (by simp +decide -implicitDefEqProofs only [S0, simprocAttr]) ⟨by omega, by rw [← hu, (idB_iff c).2 (by omega), Bool.true_and]⟩ (by omega)
   ·rename_i h
    rw [drop_all (by omega)] at hu
    exact B_eq hu
  ·simp +decide -implicitDefEqProofs only [S0, simprocAttr, beq_empty, h0, show (8 < (s.size : Int)) by omega]
   refine B_eq ?_; rw [idOk, decide_eq_false h8, Bool.and_false]; rfl
theorem Value_ok (s : ByteArray) : Ok Tryz.prog 85 [S s] (B (valOk s)) := by
 refine Ok.of_wp (rs := [.tmp 2]) (n := 35) Tryz.func85 rfl rfl rfl (by simp) fo (by kernel_rfl) ?_
 simp +decide -implicitDefEqProofs only [S0, simprocAttr]
 split
 ·refine B_eq ?_; rw [valOk, decide_eq_false (by omega)]; rfl
 ·have e0 : valOk s = s.data.toList.all valB := by rw [valOk, decide_eq_true (by omega)]; rfl
  rw [e0]
  have hl := size_eq s
  refine ALoop.st [0, 9, 10] (fun (i : Nat) => [S s, I s.size, I i]) (fun _ => []) (fun i => i ≤ s.size ∧ (s.data.toList.drop i).all valB = s.data.toList.all valB) (fun i => s.size - i) [] 0 (by simp +decide -implicitDefEqProofs only [S0, simprocAttr]; try omega) (by simp +decide -implicitDefEqProofs only [S0, simprocAttr]) ⟨by omega, rfl⟩ ?_
  rintro i ⟨hi, hu⟩
  simp +decide -implicitDefEqProofs only [S0, simprocAttr]
  split
  ·rename_i h
   obtain ⟨c, hc⟩ := get_lt (l := s.data.toList) (i := i) (by omega)
   rw [get_drop hc, List.all_cons] at hu
   simp +decide -implicitDefEqProofs only [S0, simprocAttr, hc, wr_add1 h (by omega)]
   repeat' split
   all_goals try simp only [Bool.not_eq_eq_eq_not, Bool.not_true, decide_eq_false_iff_not] at *
   all_goals first
    | exact B_eq (by rw [← hu, valB_not (c := c) (by omega)]; rfl)
    | exact Nxt.mk [] (i + 1) (by simp +decide -implicitDefEqProofs only [S0, simprocAttr]) (by simp +decide -implicitDefEqProofs only [S0, simprocAttr]) ⟨by omega, by rw [← hu, (valB_iff c).2 (by omega), Bool.true_and]⟩ (by omega)
  ·rename_i h
   rw [drop_all (by omega)] at hu
   exact B_eq hu
/-- Is a key behind another one? -/
def aft : Option ByteArray → ByteArray → Bool
 | none, _ => true
 | some q, k => sLt q k
/-- Fields in order, behind a key. -/
def fOk : Option ByteArray → List Fd → Bool
 | _, [] => true
 | p, f :: l => idOk f.key && (valOk f.val && (aft p f.key && fOk (some f.key) l))
def rOk : Option ByteArray → List ByteArray → Bool
 | _, [] => true
 | p, s :: l => idOk s && (aft p s && rOk (some s) l)
def chkRec (r : Rc) : Int :=
 if idOk r.id then (if 0 ≤ r.cats ∧ r.cats < 256 then (if 6 < r.fields.length ∨ 4 < r.refs.length then 2 else if fOk none r.fields && rOk none r.refs then 0 else 3) else 1) else 3
theorem prev_get {α : Type} {l : List α} {i : Nat} {x : α} (h : l[i]? = some x) : (l.take (i + 1)).getLast? = some x := by
 rw [take_get h]; simp
theorem lt_get {α : Type} {l : List α} {i : Nat} (h : i < l.length) : ∃ x, l[i]? = some x := ⟨_, List.getElem?_eq_getElem h⟩
theorem recCheck_ok (r : Rc) : Ok Tryz.prog 62 [recV r] (I (chkRec r)) := by
 refine Ok.of_wp (rs := [.tmp 2]) (n := 86) Tryz.func62 rfl rfl rfl (by simp) fo (by kernel_rfl) ?_
 simp +decide -implicitDefEqProofs only [S0, simprocAttr]
 refine call_eq (Id_ok r.id) ?_
 by_cases h1 : idOk r.id = true
 ·simp +decide -implicitDefEqProofs only [S0, simprocAttr, h1]
  refine call_eq (Cats_ok r.cats) ?_
  by_cases h2 : 0 ≤ r.cats ∧ r.cats < 256
  ·have e0 : chkRec r = if 6 < r.fields.length ∨ 4 < r.refs.length then 2 else if fOk none r.fields && rOk none r.refs then 0 else 3 := by rw [chkRec, if_pos h1, if_pos h2]
   rw [decide_eq_true h2, e0]
   clear e0
   by_cases h3 : 6 < r.fields.length ∨ 4 < r.refs.length
   ·have : (6 : Int) < r.fields.length ∨ ¬ (6 : Int) < r.fields.length ∧ (4 : Int) < r.refs.length := by omega
    rw [if_pos h3]
    rcases this with h4 | ⟨h4, h5⟩
    ·simp +decide -implicitDefEqProofs only [S0, simprocAttr, h4]
    ·simp +decide -implicitDefEqProofs only [S0, simprocAttr, h4, h5]
   ·have h4 : ¬ (6 : Int) < r.fields.length := by omega
    have h5 : ¬ (4 : Int) < r.refs.length := by omega
    rw [if_neg h3]
    simp +decide -implicitDefEqProofs only [S0, simprocAttr, h4, h5]
    refine ALoop.st [1, 26, 27, 28] (fun (i : Nat) => [.ptr (.l 1) 1 0, fds r.fields, I r.fields.length, I i]) (fun _ => [(.l 1, 1, .cells 35 [S r.id, I r.cats, fds r.fields, strs r.refs])])
     (fun i => i ≤ r.fields.length ∧ fOk ((r.fields.take i).getLast?.map Fd.key) (r.fields.drop i) = fOk none r.fields) (fun i => r.fields.length - i) [] 0 (by simp +decide -implicitDefEqProofs only [S0, simprocAttr]; try omega) (by simp +decide -implicitDefEqProofs only [S0, simprocAttr]) ⟨by omega, rfl⟩ ?_
    rintro i ⟨hi, hu⟩
    simp +decide -implicitDefEqProofs only [S0, simprocAttr]
    split
    ·rename_i h
     obtain ⟨f, hf⟩ := get_lt h
     rw [get_drop hf, fOk] at hu
     simp +decide -implicitDefEqProofs only [S0, simprocAttr, hf]
     refine call_eq (Id_ok f.key) ?_
     cases g1 : idOk f.key with
     | false =>
      rw [g1, Bool.false_and] at hu
      simp +decide -implicitDefEqProofs only [S0, simprocAttr]
      rw [← hu, Bool.false_and]; rfl
     | true =>
      rw [g1, Bool.true_and] at hu
      simp +decide -implicitDefEqProofs only [S0, simprocAttr]
      refine call_eq (Value_ok f.val) ?_
      cases g2 : valOk f.val with
      | false =>
       rw [g2, Bool.false_and] at hu
       simp +decide -implicitDefEqProofs only [S0, simprocAttr]
       rw [← hu, Bool.false_and]; rfl
      | true =>
       rw [g2, Bool.true_and] at hu
       rcases i with _ | j
       ·simp only [List.take_zero, List.getLast?_nil, Option.map_none, aft, Bool.true_and] at hu
        simp +decide -implicitDefEqProofs only [S0, simprocAttr]
        exact Nxt.mk [] 1 (by simp +decide -implicitDefEqProofs only [S0, simprocAttr]; try rfl) (by simp +decide -implicitDefEqProofs only [S0, simprocAttr]) ⟨by omega, by rw [prev_get hf]; exact hu⟩ (by omega)
       ·obtain ⟨g, hg⟩ := lt_get (l := r.fields) (i := j) (by omega)
        rw [prev_get hg, Option.map_some, aft] at hu
        have e1 : IntKind.i64.wrap (((j + 1 : Nat) : Int) - 1) = j := by rw [wr_i64 (by omega) (by omega)]; omega
        have hw := wr_add1 h (by omega)
        cases g3 : sLt g.key f.key with
        | false =>
         rw [g3, Bool.false_and] at hu
         simp +decide -implicitDefEqProofs only [S0, simprocAttr, e1, hg, bl_eq, show ((j + 1 : Nat) : Int) > 0 by omega, g3]
         rw [← hu, Bool.false_and]; rfl
        | true =>
         rw [g3, Bool.true_and] at hu
         simp +decide -implicitDefEqProofs only [S0, simprocAttr, e1, hg, bl_eq, show ((j + 1 : Nat) : Int) > 0 by omega, g3]
         exact Nxt.mk [] (j + 1 + 1) (by simp +decide -implicitDefEqProofs only [S0, simprocAttr, hw]) (by simp +decide -implicitDefEqProofs only [S0, simprocAttr]) ⟨by omega, by rw [prev_get hf]; exact hu⟩ (by omega)
    ·rename_i h
     rw [drop_all h, fOk] at hu
     rw [← hu, Bool.true_and]
     clear hu
     refine ALoop.st [1, 61, 62, 63] (fun (i : Nat) => [.ptr (.l 1) 1 0, strs r.refs, I r.refs.length, I i]) (fun _ => [(.l 1, 1, .cells 35 [S r.id, I r.cats, fds r.fields, strs r.refs])])
      (fun i => i ≤ r.refs.length ∧ rOk ((r.refs.take i).getLast?) (r.refs.drop i) = rOk none r.refs) (fun i => r.refs.length - i) [] 0 (by simp +decide -implicitDefEqProofs only [S0, simprocAttr]; try omega) (by simp +decide -implicitDefEqProofs only [S0, simprocAttr]) ⟨by omega, rfl⟩ ?_
     rintro i ⟨hi, hu⟩
     simp +decide -implicitDefEqProofs only [S0, simprocAttr]
     split
     ·rename_i h
      obtain ⟨f, hf⟩ := get_lt h
      rw [get_drop hf, rOk] at hu
      simp +decide -implicitDefEqProofs only [S0, simprocAttr, hf]
      refine call_eq (Id_ok f) ?_
      cases g1 : idOk f with
      | false =>
       rw [g1, Bool.false_and] at hu
       simp +decide -implicitDefEqProofs only [S0, simprocAttr]
       rw [← hu]; rfl
      | true =>
       rw [g1, Bool.true_and] at hu
       rcases i with _ | j
       ·simp only [List.take_zero, List.getLast?_nil, aft, Bool.true_and] at hu
        simp +decide -implicitDefEqProofs only [S0, simprocAttr]
        exact Nxt.mk [] 1 (by simp +decide -implicitDefEqProofs only [S0, simprocAttr]; try rfl) (by simp +decide -implicitDefEqProofs only [S0, simprocAttr]) ⟨by omega, by rw [prev_get hf]; exact hu⟩ (by omega)
       ·obtain ⟨g, hg⟩ := lt_get (l := r.refs) (i := j) (by omega)
        rw [prev_get hg, aft] at hu
        have e1 : IntKind.i64.wrap (((j + 1 : Nat) : Int) - 1) = j := by rw [wr_i64 (by omega) (by omega)]; omega
        have hw := wr_add1 h (by omega)
        cases g3 : sLt g f with
        | false =>
         rw [g3, Bool.false_and] at hu
         simp +decide -implicitDefEqProofs only [S0, simprocAttr, e1, hg, bl_eq, show ((j + 1 : Nat) : Int) > 0 by omega, g3]
         rw [← hu]; rfl
        | true =>
         rw [g3, Bool.true_and] at hu
         simp +decide -implicitDefEqProofs only [S0, simprocAttr, e1, hg, bl_eq, show ((j + 1 : Nat) : Int) > 0 by omega, g3]
         exact Nxt.mk [] (j + 1 + 1) (by simp +decide -implicitDefEqProofs only [S0, simprocAttr, hw]) (by simp +decide -implicitDefEqProofs only [S0, simprocAttr]) ⟨by omega, by rw [prev_get hf]; exact hu⟩ (by omega)
     ·rename_i h
      rw [drop_all h, rOk] at hu
      rw [← hu]; rfl
  ·have e0 : chkRec r = 1 := by rw [chkRec, if_pos h1, if_neg h2]
   rw [decide_eq_false h2, e0]
   simp +decide -implicitDefEqProofs only [S0, simprocAttr]
 ·simp +decide -implicitDefEqProofs only [S0, simprocAttr, h1]
  refine I_eq ?_; rw [chkRec, if_neg h1]
end Go.Proofs.YtonolfpnidaflaaGreatDoor.E

namespace Go.Proofs.YtonolfpnidaflaaGreatDoor.E
open Go
set_option linter.unusedSimpArgs false
set_option linter.unusedVariables false
set_option linter.unusedSectionVars false
set_option maxRecDepth 20000
theorem cloneFds_ok {l : List Fd} (h : l.length ≤ 1000000) : Ok Tryz.prog 121 [fds l] (fds l) := by
 refine Ok.of_wp (rs := [.tmp 2]) (n := 8) Tryz.func121 rfl rfl rfl (by simp) fo (by kernel_rfl) ?_
 simp +decide -implicitDefEqProofs only [S0, simprocAttr]
 refine ⟨fun e => ?_, by omega, ?_⟩
 ·obtain rfl := List.map_eq_nil_iff.1 e
  rfl
 ·simp +decide -implicitDefEqProofs only [S0, simprocAttr, List.take_of_length_le, List.length_map]
theorem cloneStrs_ok {l : List ByteArray} (h : l.length ≤ 1000000) : Ok Tryz.prog 67 [strs l] (strs l) := by
 refine Ok.of_wp (rs := [.tmp 2]) (n := 8) Tryz.func67 rfl rfl rfl (by simp) fo (by kernel_rfl) ?_
 simp +decide -implicitDefEqProofs only [S0, simprocAttr]
 refine ⟨fun e => ?_, by omega, ?_⟩
 ·obtain rfl := List.map_eq_nil_iff.1 e
  rfl
 ·simp +decide -implicitDefEqProofs only [S0, simprocAttr, List.take_of_length_le, List.length_map]
theorem chkRec_len {r : Rc} (h : chkRec r = 0) : r.fields.length ≤ 6 ∧ r.refs.length ≤ 4 := by
 unfold chkRec at h
 repeat' split at h
 all_goals first | contradiction | omega
theorem recCopied_ok {r : Rc} (h : r.fields.length ≤ 1000000) (k : r.refs.length ≤ 1000000) : Ok Tryz.prog 96 [recV r] (recV r) := by
 refine Ok.of_wp (rs := [.cell 2 35]) (n := 12) Tryz.func96 rfl rfl rfl (by simp) fo (by kernel_rfl) ?_
 simp +decide -implicitDefEqProofs only [S0, simprocAttr]
 refine call_eq (cloneFds_ok h) ?_
 simp +decide -implicitDefEqProofs only [S0, simprocAttr]
 refine call_eq (cloneStrs_ok k) ?_
 simp +decide -implicitDefEqProofs only [S0, simprocAttr]
end Go.Proofs.YtonolfpnidaflaaGreatDoor.E

namespace Go.Proofs.YtonolfpnidaflaaGreatDoor.E
open Go
set_option linter.unusedSimpArgs false
set_option linter.unusedVariables false
set_option linter.unusedSectionVars false
set_option maxRecDepth 20000
structure Vn where
 r : Rc
 gone : Bool
 deriving DecidableEq
abbrev verC (v : Vn) : List AV := [S v.r.id, I v.r.cats, fds v.r.fields, strs v.r.refs, B v.gone]
abbrev vers (l : List Vn) : AV := .list 5 (l.map verC)
/-- Lives a record behind a version? -/
def lStep (id : ByteArray) (c : Int) (b : Bool) (v : Vn) : Bool := if v.r.id = id ∧ v.r.cats = c then !v.gone else b
def lives (l : List Vn) (id : ByteArray) (c : Int) : Bool := l.foldl (lStep id c) false
theorem lives_add (l : List Vn) (v : Vn) (id : ByteArray) (c : Int) : lives (l ++ [v]) id c = lStep id c (lives l id c) v := by simp [lives]
/-- How many have just these kinds. -/
def cnt (l : List Vn) (c : Int) : Nat := (l.filter fun v => v.r.cats = c).length
theorem cnt_add (l : List Vn) (v : Vn) (c : Int) : cnt (l ++ [v]) c = cnt l c + if v.r.cats = c then 1 else 0 := by
 unfold cnt
 rw [List.filter_append, List.length_append]
 by_cases h : v.r.cats = c
 ·rw [if_pos h, List.filter_cons_of_pos (by simp [h]), List.filter_nil]; rfl
 ·rw [if_neg h, List.filter_cons_of_neg (by simp [h]), List.filter_nil]; rfl
theorem cnt_le (l : List Vn) (c : Int) : cnt l c ≤ l.length := List.length_filter_le _ _
/-- A version behind others: may it be? -/
def stepE (p : List Vn) (v : Vn) : Int :=
 if chkRec v.r = 0 then (if 20 < cnt p v.r.cats + 1 then 2 else if v.gone = true ∧ (0 < v.r.fields.length ∨ 0 < v.r.refs.length ∨ lives p v.r.id v.r.cats = false) then 3 else 0) else chkRec v.r
def chkGo : List Vn → List Vn → Int
 | _, [] => 0
 | p, v :: l => if stepE p v = 0 then chkGo (p ++ [v]) l else stepE p v
def chkSt (l : List Vn) : Int := if 5120 < l.length then 2 else chkGo [] l
theorem lives_ok (l : List Vn) (id : ByteArray) (c : Int) (hl : l.length ≤ 1000000) : Ok Tryz.prog 110 [vers l, S id, I c] (B (lives l id c)) := by
 refine Ok.of_wp (rs := [.tmp 6]) (n := 39) Tryz.func110 rfl rfl rfl (by simp) fo (by kernel_rfl) ?_
 have e0 : IntKind.i64.wrap ((l.length : Int) - 1) = (l.length : Int) - 1 := wr_i64 (by omega) (by omega)
 simp +decide -implicitDefEqProofs only [S0, simprocAttr, e0]
 refine ALoop.st [0, 1, 2, 7] (fun (k : Nat) => [vers l, S id, I c, I ((k : Int) - 1)]) (fun _ => []) (fun k => k ≤ l.length ∧ lives (l.take k) id c = lives l id c) (fun k => k) [] l.length (by simp +decide -implicitDefEqProofs only [S0, simprocAttr]) (by simp +decide -implicitDefEqProofs only [S0, simprocAttr]) ⟨by omega, by rw [List.take_length]⟩ ?_
 rintro k ⟨hk, hu⟩
 rcases k with _ | k
 ·simp +decide -implicitDefEqProofs only [S0, simprocAttr]
  rw [← hu]; rfl
 ·have e1 : ((k + 1 : Nat) : Int) - 1 = k := by omega
  have e2 : IntKind.i64.wrap ((k : Int) - 1) = (k : Int) - 1 := wr_i64 (by omega) (by omega)
  obtain ⟨v, hv⟩ := lt_get (l := l) (i := k) (by omega)
  rw [take_get hv, lives_add, lStep] at hu
  by_cases h1 : v.r.id = id
  ·by_cases h2 : v.r.cats = c
   ·rw [if_pos ⟨h1, h2⟩] at hu
    simp +decide -implicitDefEqProofs only [S0, simprocAttr, e1, hv, toList_beq, h1, h2, show (k : Int) ≥ 0 by omega]
    rw [← hu]
   ·rw [if_neg (fun h => h2 h.2)] at hu
    simp +decide -implicitDefEqProofs only [S0, simprocAttr, e1, hv, toList_beq, h1, h2, show (k : Int) ≥ 0 by omega]
    exact Nxt.mk [] k (by simp +decide -implicitDefEqProofs only [S0, simprocAttr, e2]) (by simp +decide -implicitDefEqProofs only [S0, simprocAttr]) ⟨by omega, hu⟩ (by omega)
  ·rw [if_neg (fun h => h1 h.1)] at hu
   simp +decide -implicitDefEqProofs only [S0, simprocAttr, e1, hv, toList_beq, h1, show (k : Int) ≥ 0 by omega]
   exact Nxt.mk [] k (by simp +decide -implicitDefEqProofs only [S0, simprocAttr, e2]) (by simp +decide -implicitDefEqProofs only [S0, simprocAttr]) ⟨by omega, hu⟩ (by omega)
theorem many_ok (l : List Vn) (c : Int) (hl : l.length ≤ 1000000) : Ok Tryz.prog 109 [vers l, I c] (I (cnt l c)) := by
 refine Ok.of_wp (rs := [.tmp 4]) (n := 23) Tryz.func109 rfl rfl rfl (by simp) fo (by kernel_rfl) ?_
 simp +decide -implicitDefEqProofs only [S0, simprocAttr]
 refine ALoop.st [1, 5, 8, 9, 10] (fun (i : Nat) => [I c, I (cnt (l.take i) c), vers l, I l.length, I i]) (fun _ => []) (fun i => i ≤ l.length) (fun i => l.length - i) [] 0 (by simp +decide -implicitDefEqProofs only [S0, simprocAttr]; try rfl) (by simp +decide -implicitDefEqProofs only [S0, simprocAttr]) (by omega) ?_
 intro i hi
 simp +decide -implicitDefEqProofs only [S0, simprocAttr]
 split
 ·rename_i h
  obtain ⟨v, hv⟩ := get_lt h
  have hw := wr_add1 h (by omega)
  have hc := cnt_le (l.take i) c
  have hc2 : cnt (l.take i) c ≤ 1000000 := by rw [List.length_take] at hc; omega
  have e1 : cnt (l.take (i + 1)) c = cnt (l.take i) c + if v.r.cats = c then 1 else 0 := by rw [take_get hv, cnt_add]
  have e2 : IntKind.i64.wrap ((cnt (l.take i) c : Int) + 1) = ((cnt (l.take i) c + 1 : Nat) : Int) := by rw [wr_i64 (by omega) (by omega)]; omega
  by_cases h2 : v.r.cats = c
  ·rw [if_pos h2] at e1
   simp +decide -implicitDefEqProofs only [S0, simprocAttr, hv, h2]
   exact Nxt.mk [] (i + 1) (by simp +decide -implicitDefEqProofs only [S0, simprocAttr, hw, e1, e2]) (by simp +decide -implicitDefEqProofs only [S0, simprocAttr]) (by omega) (by omega)
  ·rw [if_neg h2] at e1
   simp +decide -implicitDefEqProofs only [S0, simprocAttr, hv, h2]
   exact Nxt.mk [] (i + 1) (by simp +decide -implicitDefEqProofs only [S0, simprocAttr, hw, e1]) (by simp +decide -implicitDefEqProofs only [S0, simprocAttr]) (by omega) (by omega)
 ·rename_i h
  rw [List.take_of_length_le (by omega)]
theorem mget_put_i (es : List (Value × Value)) (a b : Int) (v : Value) : mget (mput es (.int .i64 a) v) (.int .i64 b) = if a = b then some v else mget es (.int .i64 b) := by
 induction es with
 | nil => simp [mput, mget, keyEq]
 | cons e es ih =>
  obtain ⟨x, y⟩ := e
  simp only [mput]
  by_cases h : keyEq x (.int .i64 a) = true
  ·rw [if_pos h]
   simp only [mget]
   by_cases h2 : a = b
   ·subst h2; simp [keyEq]
   ·rw [if_neg (by simpa [keyEq] using h2), if_neg h2, if_neg]
    cases x <;> simp_all [keyEq]
  ·rw [if_neg h]
   simp only [mget, ih]
   by_cases h2 : a = b
   ·subst h2; rw [if_neg h]; simp
   ·simp only [h2, if_false]
theorem ba_beq (a b : ByteArray) : (a == b) = decide (a = b) := by rw [beq_toListBytes, toList_beq]
theorem mget_put_s (es : List (Value × Value)) (a b : ByteArray) (v : Value) : mget (mput es (.string a) v) (.string b) = if a = b then some v else mget es (.string b) := by
 induction es with
 | nil => simp [mput, mget, keyEq, ba_beq]
 | cons e es ih =>
  obtain ⟨x, y⟩ := e
  simp only [mput]
  by_cases h : keyEq x (.string a) = true
  ·rw [if_pos h]
   simp only [mget]
   by_cases h2 : a = b
   ·subst h2; simp [keyEq, ba_beq]
   ·rw [if_neg (by simpa [keyEq, ba_beq] using h2), if_neg h2, if_neg]
    cases x <;> simp_all [keyEq, ba_beq]
  ·rw [if_neg h]
   simp only [mget, ih]
   by_cases h2 : a = b
   ·subst h2; rw [if_neg h]; simp
   ·simp only [h2, if_false]
theorem stCheck_ok (l : List Vn) : Ok Tryz.prog 79 [vers l] (I (chkSt l)) := by
 refine Ok.of_wp (rs := [.tmp 2]) (n := 66) Tryz.func79 rfl rfl rfl (by simp) fo (by kernel_rfl) ?_
 simp +decide -implicitDefEqProofs only [S0, simprocAttr]
 split
 ·rw [chkSt, if_pos (by omega)]
 ·rename_i h0
  have e0 : chkSt l = chkGo [] l := by rw [chkSt, if_neg (by omega)]
  rw [e0]
  refine ALoop.st [0, 3, 11, 12, 13] (fun (s : Nat × List (Value × Value)) => [vers l, .map (.l 10) 1, vers l, I l.length, I s.1]) (fun s => [(.l 10, 1, .map (.i .i64) s.2)])
   (fun s => s.1 ≤ l.length ∧ chkGo (l.take s.1) (l.drop s.1) = chkGo [] l ∧ ∀ c : Int, (mget s.2 (.int .i64 c)).getD (.int .i64 0) = .int .i64 (cnt (l.take s.1) c)) (fun s => l.length - s.1) [] (0, []) (by simp +decide -implicitDefEqProofs only [S0, simprocAttr]; try simp) (by simp +decide -implicitDefEqProofs only [S0, simprocAttr]) ⟨by simp, rfl, fun c => rfl⟩ ?_
  rintro ⟨i, es⟩ ⟨hi, hu, hm⟩
  simp only at hi hu hm
  simp +decide -implicitDefEqProofs only [S0, simprocAttr]
  split
  ·rename_i h
   obtain ⟨v, hv⟩ := get_lt h
   have hw := wr_add1 h (by omega)
   rw [get_drop hv, chkGo] at hu
   simp +decide -implicitDefEqProofs only [S0, simprocAttr, hv]
   refine call_eq (recCheck_ok v.r) ?_
   by_cases h1 : chkRec v.r = 0
   ·have hm1 := hm v.r.cats
    have hc := cnt_le (l.take i) v.r.cats
    have hc2 : cnt (l.take i) v.r.cats ≤ 5120 := by rw [List.length_take] at hc; omega
    have e2 : IntKind.i64.wrap ((cnt (l.take i) v.r.cats : Int) + 1) = ((cnt (l.take i) v.r.cats + 1 : Nat) : Int) := by rw [wr_i64 (by omega) (by omega)]; omega
    have hput : ∀ c, (mget (mput es (.int .i64 v.r.cats) (.int .i64 ((cnt (l.take i) v.r.cats + 1 : Nat) : Int))) (.int .i64 c)).getD (.int .i64 0) = .int .i64 (cnt (l.take (i + 1)) c) := by
     intro c
     rw [mget_put_i, take_get hv, cnt_add]
     by_cases h2 : v.r.cats = c
     ·subst h2; simp
     ·rw [if_neg h2, if_neg h2, hm]; simp
    have hput1 := hput v.r.cats
    rw [take_get hv, cnt_add, if_pos rfl] at hput1
    by_cases h2 : 20 < cnt (l.take i) v.r.cats + 1
    ·have h2' : ((cnt (l.take i) v.r.cats + 1 : Nat) : Int) > 20 := by omega
     simp +decide -implicitDefEqProofs only [S0, simprocAttr, h1, hm1, e2, hput1, h2']
     have : stepE (l.take i) v = 2 := by rw [stepE, if_pos h1, if_pos h2]
     rw [← hu, this, if_neg (by decide)]
    ·have h2' : ¬ ((cnt (l.take i) v.r.cats + 1 : Nat) : Int) > 20 := by omega
     have e3 : stepE (l.take i) v = if v.gone = true ∧ (0 < v.r.fields.length ∨ 0 < v.r.refs.length ∨ lives (l.take i) v.r.id v.r.cats = false) then 3 else 0 := by rw [stepE, if_pos h1, if_neg h2]
     have nxt : stepE (l.take i) v = 0 → chkGo (l.take (i + 1)) (l.drop (i + 1)) = chkGo [] l := fun h => by rw [h, if_pos rfl] at hu; rw [take_get hv]; exact hu
     have bad : stepE (l.take i) v = 3 → (3 : Int) = chkGo [] l := fun h => by rw [h, if_neg (by decide)] at hu; exact hu
     cases h3 : v.gone with
     | false =>
      rw [h3, if_neg (by simp)] at e3
      simp +decide -implicitDefEqProofs only [S0, simprocAttr, h1, hm1, e2, hput1, h2', h3]
      exact Nxt.mk [] (i + 1, _) (by simp +decide -implicitDefEqProofs only [S0, simprocAttr, hw]) (by simp +decide -implicitDefEqProofs only [S0, simprocAttr]) ⟨by simp only; omega, nxt e3, hput⟩ (by simp only; omega)
     | true =>
      rw [h3] at e3
      simp only [true_and] at e3
      by_cases h4 : 0 < v.r.fields.length
      ·rw [if_pos (.inl h4)] at e3
       simp +decide -implicitDefEqProofs only [S0, simprocAttr, h1, hm1, e2, hput1, h2', h3, show (v.r.fields.length : Int) > 0 by omega]
       exact I_eq (bad e3)
      ·by_cases h5 : 0 < v.r.refs.length
       ·rw [if_pos (.inr (.inl h5))] at e3
        simp +decide -implicitDefEqProofs only [S0, simprocAttr, h1, hm1, e2, hput1, h2', h3, show ¬ (v.r.fields.length : Int) > 0 by omega, show (v.r.refs.length : Int) > 0 by omega]
        exact I_eq (bad e3)
       ·simp +decide -implicitDefEqProofs only [S0, simprocAttr, h1, hm1, e2, hput1, h2', h3, show ¬ (v.r.fields.length : Int) > 0 by omega, show ¬ (v.r.refs.length : Int) > 0 by omega]
        refine ⟨by omega, ?_⟩
        rw [← List.map_take]
        refine call_eq (lives_ok (l.take i) _ _ (by simp; omega)) ?_
        cases h6 : lives (l.take i) v.r.id v.r.cats with
        | false =>
         rw [if_pos (.inr (.inr h6))] at e3
         simp +decide -implicitDefEqProofs only [S0, simprocAttr]
         exact I_eq (bad e3)
        | true =>
         rw [if_neg (by simp [h4, h5, h6])] at e3
         simp +decide -implicitDefEqProofs only [S0, simprocAttr]
         exact Nxt.mk [] (i + 1, _) (by simp +decide -implicitDefEqProofs only [S0, simprocAttr, hw]) (by simp +decide -implicitDefEqProofs only [S0, simprocAttr]) ⟨by simp only; omega, nxt e3, hput⟩ (by simp only; omega)
   ·have e3 : stepE (l.take i) v = chkRec v.r := by rw [stepE, if_neg h1]
    rw [e3, if_neg h1] at hu
    simp +decide -implicitDefEqProofs only [S0, simprocAttr, h1]
    rw [hu]
  ·rename_i h
   rw [drop_all h, chkGo] at hu
   rw [← hu]
end Go.Proofs.YtonolfpnidaflaaGreatDoor.E

namespace Go.Proofs.YtonolfpnidaflaaGreatDoor.E
open Go
set_option linter.unusedSimpArgs false
set_option linter.unusedVariables false
set_option linter.unusedSectionVars false
set_option maxRecDepth 20000
def lensOk (l : List Vn) : Prop := ∀ v ∈ l, v.r.fields.length ≤ 1000000 ∧ v.r.refs.length ≤ 1000000
theorem chkGo_mem {p l : List Vn} (h : chkGo p l = 0) : ∀ v ∈ l, chkRec v.r = 0 := by
 induction l generalizing p with
 | nil => intro v hv; cases hv
 | cons x l ih =>
  simp only [chkGo] at h
  split at h
  ·rename_i h1
   intro v hv
   rcases List.mem_cons.1 hv with rfl | hv
   ·unfold stepE at h1
    split at h1
    ·assumption
    ·contradiction
   ·exact ih h v hv
  ·contradiction
theorem chkSt_len {l : List Vn} (h : chkSt l = 0) : l.length ≤ 5120 ∧ ∀ v ∈ l, chkRec v.r = 0 := by
 unfold chkSt at h
 split at h
 ·omega
 ·exact ⟨by omega, chkGo_mem h⟩
theorem chkSt_lens {l : List Vn} (h : chkSt l = 0) : lensOk l := fun v hv => by
 have := chkRec_len ((chkSt_len h).2 v hv)
 omega
theorem lens_add {l : List Vn} {r : Rc} {g : Bool} (h : lensOk l) (k : chkRec r = 0) : lensOk (l ++ [⟨r, g⟩]) := fun v hv => by
 rcases List.mem_append.1 hv with hv | hv
 ·exact h v hv
 ·rw [List.mem_singleton.1 hv]
  have := chkRec_len k
  show r.fields.length ≤ _ ∧ r.refs.length ≤ _
  omega
theorem cloneVersH_ok {l : List Vn} (h : l.length ≤ 1000000) : OkH Tryz.prog 81 [vers l] [] (.own (.e 0) 1 5 0 l.length) [(1, .row 104 5 none (l.map verC))] := by
 refine OkH.of_wpX (rs := [.tmp 2]) (n := 8) Tryz.func81 rfl rfl rfl (by simp) fo (by kernel_rfl) ?_
 simp +decide -implicitDefEqProofs only [S0, simprocAttr]
 refine ⟨fun e => ⟨[none], ?_⟩, by omega, ⟨[some (.l 5)], ?_⟩⟩
 ·obtain rfl := List.map_eq_nil_iff.1 e
  simp +decide -implicitDefEqProofs only [S0, simprocAttr]
 ·simp +decide -implicitDefEqProofs only [S0, simprocAttr]
theorem stCopied_ok {l : List Vn} (h : l.length ≤ 1000000) (hl : lensOk l) : Ok Tryz.prog 53 [vers l] (vers l) := by
 refine Ok.of_wp (rs := [.tmp 2]) (n := 23) Tryz.func53 rfl rfl rfl (by simp) fo (by kernel_rfl) ?_
 simp +decide -implicitDefEqProofs only [S0, simprocAttr]
 refine ALoop.st [3, 6, 7, 8] (fun (i : Nat) => [.own (.l 20) 0 5 0 i, vers l, I l.length, I i]) (fun i => [(.l 20, 0, .row 104 5 none ((l.take i).map verC))]) (fun i => i ≤ l.length) (fun i => l.length - i) [.l 20] 0 (by simp +decide -implicitDefEqProofs only [S0, simprocAttr]; try rfl) (by simp +decide -implicitDefEqProofs only [S0, simprocAttr]; try simp) (by omega) ?_
 intro i hi
 simp +decide -implicitDefEqProofs only [S0, simprocAttr]
 have e3 : List.take i (List.map verC (List.take i l)) = List.map verC (List.take i l) := List.take_of_length_le (by simp; omega)
 have e4 : (List.take i l).length = i := by simp; omega
 split
 ·rename_i h1
  obtain ⟨v, hv⟩ := get_lt h1
  have hw := wr_add1 h1 (by omega)
  have hv2 := hl v (List.mem_of_getElem? hv)
  simp +decide -implicitDefEqProofs only [S0, simprocAttr, hv]
  refine call_eq (recCopied_ok hv2.1 hv2.2) ?_
  simp +decide -implicitDefEqProofs only [S0, simprocAttr, e4, List.length_map, e3]
  refine ⟨by omega, Nxt.mk [] (i + 1) (by simp +decide -implicitDefEqProofs only [S0, simprocAttr, hw]) (by simp +decide -implicitDefEqProofs only [S0, simprocAttr]; rw [take_get hv, List.map_append]; rfl) (by omega) (by omega)⟩
 ·simp +decide -implicitDefEqProofs only [S0, simprocAttr, e4, e3]
  rw [List.take_of_length_le (by omega)]
def putE (l : List Vn) (r : Rc) : Int := if chkSt l = 0 then (if chkRec r = 0 then (if cnt l r.cats = 20 then 2 else 0) else chkRec r) else chkSt l
theorem app_vers (l : List Vn) (r : Rc) (g : Bool) : List.map verC l ++ [[S r.id, I r.cats, fds r.fields, strs r.refs, B g]] = List.map verC (l ++ [⟨r, g⟩]) := by simp
theorem tk_vers (l : List Vn) (v : Vn) : List.take (l.length + 1) (List.map verC (l ++ [v])) = List.map verC (l ++ [v]) := List.take_of_length_le (by simp)
theorem Put_ok (l : List Vn) (r : Rc) : Ok Tryz.prog 66 [vers l, recV r] (.tup [vers (if putE l r = 0 then l ++ [⟨r, false⟩] else []), I (putE l r)]) := by
 refine Ok.of_wp (rs := [.tmp 4, .tmp 5]) (n := 30) Tryz.func66 rfl rfl rfl (by simp) fo (by kernel_rfl) ?_
 simp +decide -implicitDefEqProofs only [S0, simprocAttr]
 refine call_eq (stCheck_ok l) ?_
 by_cases h1 : chkSt l = 0
 ·have hl := chkSt_len h1
  simp +decide -implicitDefEqProofs only [S0, simprocAttr, h1]
  refine call_eq (recCheck_ok r) ?_
  by_cases h2 : chkRec r = 0
  ·simp +decide -implicitDefEqProofs only [S0, simprocAttr, h2]
   refine call_eq (many_ok l r.cats (by omega)) ?_
   by_cases h3 : cnt l r.cats = 20
   ·have e0 : putE l r = 2 := by rw [putE, if_pos h1, if_pos h2, if_pos h3]
    simp +decide -implicitDefEqProofs only [S0, simprocAttr, h3, e0]
   ·have e0 : putE l r = 0 := by rw [putE, if_pos h1, if_pos h2, if_neg h3]
    simp +decide -implicitDefEqProofs only [S0, simprocAttr, show ¬ ((cnt l r.cats : Nat) : Int) = 20 by omega, e0]
    refine callH (cloneVersH_ok (l := l) (by omega)) [.l 24] ?_
    simp +decide -implicitDefEqProofs only [S0, simprocAttr, tk1, app_vers, tk_vers]
    refine ⟨by omega, ?_⟩
    refine call_eq (stCopied_ok (l := l ++ [⟨r, false⟩]) (by simp; omega) (lens_add (chkSt_lens h1) h2)) ?_
    simp +decide -implicitDefEqProofs only [S0, simprocAttr]
  ·have e0 : putE l r = chkRec r := by rw [putE, if_pos h1, if_neg h2]
   simp +decide -implicitDefEqProofs only [S0, simprocAttr, h2, e0]
 ·have e0 : putE l r = chkSt l := by rw [putE, if_neg h1]
  simp +decide -implicitDefEqProofs only [S0, simprocAttr, h1, e0]
def cutE (l : List Vn) (id : ByteArray) (c : Int) : Int :=
 if chkSt l = 0 then (if idOk id = true then (if 0 ≤ c ∧ c < 256 then (if lives l id c = true then (if cnt l c = 20 then 2 else 0) else 4) else 1) else 3) else chkSt l
theorem Cut_ok (l : List Vn) (id : ByteArray) (c : Int) : Ok Tryz.prog 73 [vers l, S id, I c] (.tup [vers (if cutE l id c = 0 then l ++ [⟨⟨id, c, [], []⟩, true⟩] else []), I (cutE l id c)]) := by
 refine Ok.of_wp (rs := [.tmp 6, .tmp 7]) (n := 38) Tryz.func73 rfl rfl rfl (by simp) fo (by kernel_rfl) ?_
 simp +decide -implicitDefEqProofs only [S0, simprocAttr]
 refine call_eq (stCheck_ok l) ?_
 by_cases h1 : chkSt l = 0
 ·have hl := chkSt_len h1
  simp +decide -implicitDefEqProofs only [S0, simprocAttr, h1]
  refine call_eq (Id_ok id) ?_
  by_cases h2 : idOk id = true
  ·simp +decide -implicitDefEqProofs only [S0, simprocAttr, h2]
   refine call_eq (Cats_ok c) ?_
   by_cases h3 : 0 ≤ c ∧ c < 256
   ·rw [decide_eq_true h3]
    simp +decide -implicitDefEqProofs only [S0, simprocAttr]
    refine call_eq (lives_ok l id c (by omega)) ?_
    by_cases h4 : lives l id c = true
    ·simp +decide -implicitDefEqProofs only [S0, simprocAttr, h4]
     refine call_eq (many_ok l c (by omega)) ?_
     by_cases h5 : cnt l c = 20
     ·have e0 : cutE l id c = 2 := by rw [cutE, if_pos h1, if_pos h2, if_pos h3, if_pos h4, if_pos h5]
      simp +decide -implicitDefEqProofs only [S0, simprocAttr, h5, e0]
     ·have e0 : cutE l id c = 0 := by rw [cutE, if_pos h1, if_pos h2, if_pos h3, if_pos h4, if_neg h5]
      simp +decide -implicitDefEqProofs only [S0, simprocAttr, show ¬ ((cnt l c : Nat) : Int) = 20 by omega, e0]
      refine callH (cloneVersH_ok (l := l) (by omega)) [.l 30] ?_
      have app : List.map verC l ++ [[S id, I c, .list 2 [], .list 1 [], B true]] = List.map verC (l ++ [⟨⟨id, c, [], []⟩, true⟩]) := by simp
      simp +decide -implicitDefEqProofs only [S0, simprocAttr, tk1, app, tk_vers]
      refine ⟨by omega, ?_⟩
      refine call_eq (stCopied_ok (l := l ++ [⟨⟨id, c, [], []⟩, true⟩]) (by simp; omega) (fun v hv => ?_)) ?_
      ·rcases List.mem_append.1 hv with hv | hv
       ·exact chkSt_lens h1 v hv
       ·rw [List.mem_singleton.1 hv]; exact ⟨by simp, by simp⟩
      simp +decide -implicitDefEqProofs only [S0, simprocAttr]
    ·have e0 : cutE l id c = 4 := by rw [cutE, if_pos h1, if_pos h2, if_pos h3, if_neg h4]
     simp +decide -implicitDefEqProofs only [S0, simprocAttr, h4, e0]
   ·have e0 : cutE l id c = 1 := by rw [cutE, if_pos h1, if_pos h2, if_neg h3]
    rw [decide_eq_false h3]
    simp +decide -implicitDefEqProofs only [S0, simprocAttr, e0]
  ·have e0 : cutE l id c = 3 := by rw [cutE, if_pos h1, if_neg h2]
   simp +decide -implicitDefEqProofs only [S0, simprocAttr, h2, e0]
 ·have e0 : cutE l id c = chkSt l := by rw [cutE, if_neg h1]
  simp +decide -implicitDefEqProofs only [S0, simprocAttr, h1, e0]
def getRev (id : ByteArray) : List Vn → (Int → Bool) → Option Rc
 | [], _ => none
 | v :: l, g => if v.r.id = id then (if v.gone = false ∧ g v.r.cats = false then some v.r else getRev id l (fun c => decide (v.r.cats = c) || g c)) else getRev id l g
def getN (l : List Vn) (id : ByteArray) : Option Rc := getRev id l.reverse fun _ => false
abbrev noRec : Rc := ⟨⟨#[]⟩, 0, [], []⟩
def getE (l : List Vn) (id : ByteArray) : Int := if chkSt l = 0 then (if (getN l id).isSome then 0 else 4) else chkSt l
theorem rev_take {α : Type} {l : List α} {i : Nat} {x : α} (h : l[i]? = some x) : (l.take (i + 1)).reverse = x :: (l.take i).reverse := by
 rw [take_get h]; simp
theorem Get_ok (l : List Vn) (id : ByteArray) : Ok Tryz.prog 78 [vers l, S id] (.tup [recV (if chkSt l = 0 then (getN l id).getD noRec else noRec), I (getE l id)]) := by
 refine Ok.of_wp (rs := [.cell 4 35, .tmp 5]) (n := 52) Tryz.func78 rfl rfl rfl (by simp) fo (by kernel_rfl) ?_
 simp +decide -implicitDefEqProofs only [S0, simprocAttr]
 refine call_eq (stCheck_ok l) ?_
 by_cases h1 : chkSt l = 0
 ·obtain ⟨hlen, hrec⟩ := chkSt_len h1
  have e0 : getE l id = if (getN l id).isSome then 0 else 4 := by rw [getE, if_pos h1]
  have ew : IntKind.i64.wrap ((l.length : Int) - 1) = (l.length : Int) - 1 := wr_i64 (by omega) (by omega)
  simp +decide -implicitDefEqProofs only [S0, simprocAttr, h1, e0, ew]
  refine ALoop.st [0, 1, 4, 7, 8] (fun (s : Nat × List (Value × Value) × (Int → Bool)) => [vers l, S id, .ptr (.l 4) 1 0, .map (.l 16) 1, I ((s.1 : Int) - 1)]) (fun s => [(.l 4, 1, .cells 35 [S ⟨#[]⟩, I 0, .val (.slice none 0 0), .val (.slice none 0 0)]), (.l 16, 1, .map (.i .i64) s.2.1)])
   (fun s => s.1 ≤ l.length ∧ getRev id (l.take s.1).reverse s.2.2 = getN l id ∧ ∀ c : Int, (mget s.2.1 (.int .i64 c)).getD (.bool false) = .bool (s.2.2 c)) (fun s => s.1) [] (l.length, [], fun _ => false) (by simp +decide -implicitDefEqProofs only [S0, simprocAttr]) (by simp +decide -implicitDefEqProofs only [S0, simprocAttr]) ⟨by simp, by simp only [List.take_length]; rfl, fun c => rfl⟩ ?_
  rintro ⟨k, es, g⟩ ⟨hk, hu, hm⟩
  simp only at hk hu hm
  rcases k with _ | k
  ·simp +decide -implicitDefEqProofs only [S0, simprocAttr]
   simp only [List.take_zero, List.reverse_nil, getRev] at hu
   rw [← hu]
   simp +decide -implicitDefEqProofs only [S0, simprocAttr]
   exact ⟨rfl, rfl⟩
  ·have e1 : ((k + 1 : Nat) : Int) - 1 = k := by omega
   have e2 : IntKind.i64.wrap ((k : Int) - 1) = (k : Int) - 1 := wr_i64 (by omega) (by omega)
   obtain ⟨v, hv⟩ := lt_get (l := l) (i := k) (by omega)
   rw [rev_take hv, getRev] at hu
   have hv3 := chkRec_len (hrec v (List.mem_of_getElem? hv))
   have hm1 := hm v.r.cats
   have hput : ∀ c, (mget (mput es (.int .i64 v.r.cats) (.bool true)) (.int .i64 c)).getD (.bool false) = .bool (decide (v.r.cats = c) || g c) := by
    intro c
    rw [mget_put_i]
    by_cases h2 : v.r.cats = c
    ·simp [h2]
    ·rw [if_neg h2, hm]; simp [h2]
   by_cases h2 : v.r.id = id
   ·rw [if_pos h2] at hu
    have h2' : decide (v.r.id = id) = true := decide_eq_true h2
    cases h3 : v.gone with
    | true =>
     rw [h3, if_neg (by simp)] at hu
     simp +decide -implicitDefEqProofs only [S0, simprocAttr, e1, hv, toList_beq, h2', h3, show (k : Int) ≥ 0 by omega]
     exact Nxt.mk [] (k, _, _) (by simp +decide -implicitDefEqProofs only [S0, simprocAttr, e2]) (by simp +decide -implicitDefEqProofs only [S0, simprocAttr]) ⟨by simp only; omega, hu, hput⟩ (by simp only; omega)
    | false =>
     cases h4 : g v.r.cats with
     | true =>
      rw [h4, if_neg (by simp)] at hu
      simp +decide -implicitDefEqProofs only [S0, simprocAttr, e1, hv, toList_beq, h2', h3, hm1, h4, show (k : Int) ≥ 0 by omega]
      exact Nxt.mk [] (k, _, _) (by simp +decide -implicitDefEqProofs only [S0, simprocAttr, e2]) (by simp +decide -implicitDefEqProofs only [S0, simprocAttr]) ⟨by simp only; omega, hu, hput⟩ (by simp only; omega)
     | false =>
      rw [if_pos ⟨h3, h4⟩] at hu
      simp +decide -implicitDefEqProofs only [S0, simprocAttr, e1, hv, toList_beq, h2', h3, hm1, h4, show (k : Int) ≥ 0 by omega]
      refine call_eq (recCopied_ok (r := v.r) (by omega) (by omega)) ?_
      rw [← hu]
      simp +decide -implicitDefEqProofs only [S0, simprocAttr]
      exact ⟨rfl, rfl, rfl, rfl⟩
   ·rw [if_neg h2] at hu
    simp +decide -implicitDefEqProofs only [S0, simprocAttr, e1, hv, toList_beq, h2, show (k : Int) ≥ 0 by omega]
    exact Nxt.mk [] (k, _, _) (by simp +decide -implicitDefEqProofs only [S0, simprocAttr, e2]) (by simp +decide -implicitDefEqProofs only [S0, simprocAttr]) ⟨by simp only; omega, hu, hm⟩ (by simp only; omega)
 ·have e0 : getE l id = chkSt l := by rw [getE, if_neg h1]
  simp +decide -implicitDefEqProofs only [S0, simprocAttr, h1, e0]
end Go.Proofs.YtonolfpnidaflaaGreatDoor.E

namespace Go.Proofs.YtonolfpnidaflaaGreatDoor.E
open Go
set_option linter.unusedSimpArgs false
set_option linter.unusedVariables false
set_option linter.unusedSectionVars false
set_option maxRecDepth 20000
end Go.Proofs.YtonolfpnidaflaaGreatDoor.E
