/- Walks: an index's Keys, Same, Note. No conditions. -/
import Derived.Test.YtpdenloeacaadaaIdxG
namespace Go.Proofs.Ytpdenloeacaadaa.E
open Go
set_option linter.unusedSimpArgs false
set_option linter.unusedVariables false
set_option linter.unusedSectionVars false
set_option maxRecDepth 20000
set_option maxHeartbeats 2000000
def keysL (es : Es) : List ByteArray := es.map fun e => e.1.key
def eqE (a b : Fd × List ByteArray) : Bool := decide (a.1 = b.1) && decide (a.2 = b.2)
theorem eqE_iff (a b : Fd × List ByteArray) : eqE a b = true ↔ a = b := by
 unfold eqE
 rw [Bool.and_eq_true, decide_eq_true_eq, decide_eq_true_eq]
 constructor
 ·rintro ⟨h1, h2⟩; exact Prod.ext h1 h2
 ·rintro rfl; exact ⟨rfl, rfl⟩
theorem fd_ext (a b : Fd) : (a = b) ↔ (a.key = b.key ∧ a.val = b.val) := by
 constructor
 ·rintro rfl; exact ⟨rfl, rfl⟩
 ·rintro ⟨h1, h2⟩; cases a; cases b; simp only at h1 h2; rw [h1, h2]
def eqL : Es → Es → Bool
 | [], [] => true
 | a :: l, b :: m => eqE a b && eqL l m
 | _, _ => false
theorem eqL_iff : ∀ (a b : Es), eqL a b = true ↔ a = b
 | [], [] => by simp [eqL]
 | [], _ :: _ => by simp [eqL]
 | _ :: _, [] => by simp [eqL]
 | a :: l, b :: m => by rw [eqL, Bool.and_eq_true, eqE_iff, eqL_iff l m, List.cons.injEq]
theorem eqL_len {a b : Es} (h : a.length ≠ b.length) : eqL a b = false := by
 rw [Bool.eq_false_iff, Ne, eqL_iff]
 intro e
 exact h (by rw [e])
theorem eqL_drop {a b : Es} {i : Nat} {x y : Fd × List ByteArray} (hx : a[i]? = some x) (hy : b[i]? = some y) : eqL (a.drop i) (b.drop i) = (eqE x y && eqL (a.drop (i + 1)) (b.drop (i + 1))) := by
 obtain ⟨h1, h2⟩ := List.getElem?_eq_some_iff.1 hx
 obtain ⟨h3, h4⟩ := List.getElem?_eq_some_iff.1 hy
 rw [List.drop_eq_getElem_cons h1, List.drop_eq_getElem_cons h3, h2, h4, eqL]
def sameAll (l : List Vn) (es : Es) : Bool := es.all fun e => decide ((if byOk e.1 then byL l e.1 else []) = e.2)
theorem newL_B {l : List Vn} (h : chkSt l = 0) (hl : l.length ≤ 1000) : EsB 6000 6000 (newL l) := by
 have := newN_B h _ (idsL l) rfl
 have h2 := idsL_len l
 exact this.mono (by omega) (by omega)
end Go.Proofs.Ytpdenloeacaadaa.E
