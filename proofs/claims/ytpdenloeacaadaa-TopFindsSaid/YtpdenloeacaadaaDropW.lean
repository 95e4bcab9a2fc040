/- Walks: an index's drop. No conditions. -/
import Derived.Test.YtpdenloeacaadaaAddW
namespace Go.Proofs.Ytpdenloeacaadaa.E
open Go
set_option linter.unusedSimpArgs false
set_option linter.unusedVariables false
set_option linter.unusedSectionVars false
set_option maxRecDepth 20000
set_option maxHeartbeats 2000000
def flt (id : ByteArray) (e : Fd × List ByteArray) : Fd × List ByteArray := (e.1, e.2.filter fun x => !decide (x = id))
def dropN (id : ByteArray) (i : Nat) (es : Es) : Es := (es.take i).map (flt id) ++ es.drop i
theorem dropN_get {id : ByteArray} {i : Nat} {es : Es} {e : Fd × List ByteArray} (h : es[i]? = some e) : (dropN id i es)[i]? = some e ∧ dropN id (i + 1) es = (dropN id i es).set i (flt id e) := by
 obtain ⟨hi, he⟩ := List.getElem?_eq_some_iff.1 h
 have h1 : ((es.take i).map (flt id)).length = i := by rw [List.length_map, List.length_take]; omega
 have h2 : es.drop i = e :: es.drop (i + 1) := by rw [← he, List.drop_eq_getElem_cons hi]
 unfold dropN
 constructor
 ·rw [List.getElem?_append_right (by omega), h1, h2]; simp
 ·rw [List.set_append_right _ _ (by omega), h1, h2, take_get h, List.map_append]; simp
theorem filter_none {id : ByteArray} {l : List ByteArray} (h : (l.any fun f => decide (f = id)) = false) : l.filter (fun x => !decide (x = id)) = l := List.filter_eq_self.2 fun x hx => by
 rw [Bool.not_eq_true']
 rw [Bool.eq_false_iff] at h ⊢
 exact fun e => h (List.any_eq_true.2 ⟨x, hx, e⟩)
def full (p : PE) : Bool := !decide (p.1.n = 0)
theorem kept_full (l : List PE) : keptE (l.map (·.1)) = (l.filter full).map (·.1) := by
 unfold keptE
 rw [List.filter_map]
 rfl
theorem names_full {l : List PE} : ∀ x y w, NamesR l x y w → NamesR (l.filter full) x y w := fun x y w h =>
 ⟨h.1, fun p hp => h.2.1 p (List.mem_filter.1 hp).1, h.2.2.filter _⟩
theorem es_full {l : List PE} (h : ∀ p ∈ l, p.1.n = p.2.length) : esOf (l.filter full) = (esOf l).filter fun e => !e.2.isEmpty := by
 induction l with
 | nil => rfl
 | cons p l ih =>
  have ih := ih fun q hq => h q (List.mem_cons_of_mem _ hq)
  have hp := h p (by simp)
  have e1 : esOf (p :: l) = (p.1.fd, p.2) :: esOf l := rfl
  have e2 : full p = !p.2.isEmpty := by
   unfold full
   rw [hp]
   cases p.2 <;> simp
  rw [e1, List.filter_cons, List.filter_cons, e2]
  split
  ·rw [← ih]; rfl
  ·exact ih
end Go.Proofs.Ytpdenloeacaadaa.E
