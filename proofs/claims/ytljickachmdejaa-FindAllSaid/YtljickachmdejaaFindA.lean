/- Walks: find.By. No conditions. -/
import Derived.Test.YtljickachmdejaaSortedS
import Derived.Test.YtljickachmdejaaSlicesF
namespace Go.Proofs.Ytljickachmdejaa.E
open Go
set_option linter.unusedSimpArgs false
set_option linter.unusedVariables false
set_option linter.unusedSectionVars false
set_option maxRecDepth 20000
set_option maxHeartbeats 1000000
def byOk (f : Fd) : Bool := idOk f.key && valOk f.val
def hasF (l : List Vn) (f : Fd) (id : ByteArray) : Bool := decide (f ∈ ((getN l id).getD noRec).fields)
def byL (l : List Vn) (f : Fd) : List ByteArray := (idsL l).filter (hasF l f)
theorem sortL_pw (l : List ByteArray) : (sortL l).Pairwise fun x y => sLt y x = false := by
  have h := List.pairwise_mergeSort (le := fun x y : List UInt8 => decide (x ≤ y)) (fun a b c h k => decide_eq_true (List.le_trans (of_decide_eq_true h) (of_decide_eq_true k))) (fun a b => le_tot a b) (l.map fun s => s.data.toList)
  unfold sortL
  rw [List.pairwise_map]
  refine h.imp fun {a b} hab => ?_
  rw [Bool.eq_false_iff]
  intro hlt
  rw [sLt_iff] at hlt
  exact of_decide_eq_true hab hlt
theorem sorted_of_pw {l : List ByteArray} (h : l.Pairwise fun x y => sLt y x = false) : SortedB l := by
  intro i x y hx hy
  obtain ⟨ha1, ha2⟩ := List.getElem?_eq_some_iff.1 hx
  obtain ⟨hb1, hb2⟩ := List.getElem?_eq_some_iff.1 hy
  have := List.pairwise_iff_getElem.1 h i (i + 1) ha1 hb1 (by omega)
  rwa [ha2, hb2] at this
theorem byL_sorted (l : List Vn) (f : Fd) : SortedB (byL l f) := sorted_of_pw ((sortL_pw _).filter _)
theorem byL_mem {l : List Vn} {f : Fd} {id : ByteArray} : hasB (byL l f) id = ((getN l id).isSome && hasF l f id) := by
  rw [Bool.eq_iff_iff, hasB_iff, Bool.and_eq_true]
  unfold byL
  rw [List.mem_filter, ids_mem]
theorem byL_len (l : List Vn) (f : Fd) : (byL l f).length ≤ l.length := Nat.le_trans (List.length_filter_le _ _) (ids_len l)
theorem sortL_one (x : ByteArray) : sortL [x] = [x] := by
  unfold sortL
  simp
end Go.Proofs.Ytljickachmdejaa.E
