/- Walks: package record: what may be. No conditions. -/
import Derived.Test.YtljickachmdejaaTab
import Derived.Test.YtljickachmdejaaStr
import Derived.Test.YtljickachmdejaaLabelC
namespace Go.Proofs.Ytljickachmdejaa.E
open Go
set_option linter.unusedSimpArgs false
set_option linter.unusedVariables false
set_option linter.unusedSectionVars false
set_option maxRecDepth 20000
structure Fd where
  key : ByteArray
  val : ByteArray
  deriving DecidableEq
structure Rc where
  id : ByteArray
  cats : Int
  fields : List Fd
  refs : List ByteArray
  deriving DecidableEq
abbrev fdC (f : Fd) : List AV := [S f.key, S f.val]
abbrev fdV (f : Fd) : AV := .agg [S f.key, S f.val]
abbrev fds (l : List Fd) : AV := .list 2 (l.map fun f => [S f.key, S f.val])
abbrev strs (l : List ByteArray) : AV := .list 1 (l.map fun s => [S s])
abbrev recV (r : Rc) : AV := .agg [S r.id, I r.cats, fds r.fields, strs r.refs]
def idB (c : UInt8) : Bool := decide (97 ≤ c.toNat ∧ c.toNat ≤ 122) || decide (48 ≤ c.toNat ∧ c.toNat ≤ 57)
def idOk (s : ByteArray) : Bool := !decide (s.size = 0) && decide (s.size ≤ 8) && s.data.toList.all idB
def valB (c : UInt8) : Bool := decide (33 ≤ c.toNat ∧ c.toNat ≤ 126 ∧ c.toNat ≠ 44 ∧ c.toNat ≠ 59 ∧ c.toNat ≠ 61)
def valOk (s : ByteArray) : Bool := decide (s.size ≤ 12) && s.data.toList.all valB
theorem idB_iff (c : UInt8) : idB c = true ↔ (97 ≤ c.toNat ∧ c.toNat ≤ 122) ∨ (48 ≤ c.toNat ∧ c.toNat ≤ 57) := by
  rw [idB, Bool.or_eq_true, decide_eq_true_eq, decide_eq_true_eq]
theorem valB_iff (c : UInt8) : valB c = true ↔ 33 ≤ c.toNat ∧ c.toNat ≤ 126 ∧ c.toNat ≠ 44 ∧ c.toNat ≠ 59 ∧ c.toNat ≠ 61 := by
  rw [valB, decide_eq_true_eq]
theorem idB_not {c : UInt8} (h : ¬ ((97 ≤ c.toNat ∧ c.toNat ≤ 122) ∨ (48 ≤ c.toNat ∧ c.toNat ≤ 57))) : idB c = false := by
  rw [Bool.eq_false_iff, ne_eq, idB_iff]; exact h
theorem valB_not {c : UInt8} (h : ¬ (33 ≤ c.toNat ∧ c.toNat ≤ 126 ∧ c.toNat ≠ 44 ∧ c.toNat ≠ 59 ∧ c.toNat ≠ 61)) : valB c = false := by
  rw [Bool.eq_false_iff, ne_eq, valB_iff]; exact h
/-- Is a key behind another one? -/
def aft : Option ByteArray → ByteArray → Bool
  | none, _ => true
  | some q, k => sLt q k
/-- Fields in order, behind a key. -/
def fOk : Option ByteArray → List Fd → Bool
  | _, [] => true
  | p, f :: l => idOk f.key && (valOk f.val && (aft p f.key && fOk (some f.key) l))
def rOk : Option ByteArray → List ByteArray → Bool
  | _, [] => true
  | p, s :: l => idOk s && (aft p s && rOk (some s) l)
def chkRec (r : Rc) : Int :=
  if idOk r.id then (if 0 ≤ r.cats ∧ r.cats < 256 then (if 6 < r.fields.length ∨ 4 < r.refs.length then 2 else if fOk none r.fields && rOk none r.refs then 0 else 3) else 1) else 3
theorem prev_get {α : Type} {l : List α} {i : Nat} {x : α} (h : l[i]? = some x) : (l.take (i + 1)).getLast? = some x := by
  rw [take_get h]; simp
theorem lt_get {α : Type} {l : List α} {i : Nat} (h : i < l.length) : ∃ x, l[i]? = some x := ⟨_, List.getElem?_eq_getElem h⟩
end Go.Proofs.Ytljickachmdejaa.E
