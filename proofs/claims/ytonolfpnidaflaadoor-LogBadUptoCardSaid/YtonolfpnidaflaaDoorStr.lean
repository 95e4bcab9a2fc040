/- Strings: equal, less. No conditions. -/
import Derived.Test.YtonolfpnidaflaaDoorBase
import Derived.Sort.Walk0
namespace Go.Proofs.YtonolfpnidaflaaDoor.E
open Go
set_option linter.unusedSimpArgs false
set_option linter.unusedVariables false
set_option linter.unusedSectionVars false
set_option maxRecDepth 20000
abbrev S (s : ByteArray) : AV := .val (.string s)
theorem S_eq {a b : ByteArray} (h : a = b) : S a = S b := h ▸ rfl
theorem bytes_ext {a b : ByteArray} (h : a.data.toList = b.data.toList) : a = b := by
  cases a; cases b; simp only [ByteArray.mk.injEq]; exact Array.toList_inj.1 h
theorem toList_beq (a b : ByteArray) : (a.toList == b.toList) = decide (a = b) := by
  rw [ByteArray.toList_eq, ByteArray.toList_eq, Bool.eq_iff_iff, beq_iff_eq, decide_eq_true_eq]
  exact ⟨bytes_ext, fun h => h ▸ rfl⟩
theorem size_eq (a : ByteArray) : a.size = a.data.toList.length := (Array.length_toList (xs := a.data)).symm
theorem beq_empty (a : ByteArray) : (a.toList == (⟨#[]⟩ : ByteArray).toList) = decide (a.size = 0) := by
  rw [toList_beq, Bool.eq_iff_iff, decide_eq_true_eq, decide_eq_true_eq, size_eq]
  exact ⟨fun h => by rw [h]; rfl, fun h => bytes_ext (by rw [List.eq_nil_of_length_eq_zero h])⟩
/-- Less, as Go has it. -/
def sLt (a b : ByteArray) : Bool := Op.bytesLess a.toList b.toList
theorem bl_eq (a b : ByteArray) : Op.bytesLess a.toList b.toList = sLt a b := rfl
theorem sLt_iff {a b : ByteArray} : sLt a b = true ↔ a.data.toList < b.data.toList := by
  rw [sLt, Proofs.bytesLess_eq, ByteArray.toList_eq, ByteArray.toList_eq, decide_eq_true_eq]
theorem sLt_irrefl (a : ByteArray) : sLt a a = false := by
  rw [Bool.eq_false_iff, ne_eq, sLt_iff]
  exact List.lt_irrefl _
theorem sLt_trans {a b c : ByteArray} (h : sLt a b = true) (k : sLt b c = true) : sLt a c = true := by
  rw [sLt_iff] at *
  exact List.lt_trans h k
theorem sLt_asymm {a b : ByteArray} (h : sLt a b = true) : sLt b a = false := by
  rw [Bool.eq_false_iff]
  intro k
  have := sLt_trans h k
  rw [sLt_irrefl] at this
  cases this
theorem sLt_total {a b : ByteArray} (h : sLt a b = false) (k : sLt b a = false) : a = b := by
  rw [Bool.eq_false_iff, ne_eq, sLt_iff] at h k
  exact bytes_ext (List.le_antisymm k h)
theorem sLt_ne {a b : ByteArray} (h : sLt a b = true) : a ≠ b := by
  rintro rfl
  rw [sLt_irrefl] at h; cases h
theorem sLt_tri (a b : ByteArray) : sLt a b = true ∨ a = b ∨ sLt b a = true := by
  cases h : sLt a b with
  | true => exact .inl rfl
  | false => cases k : sLt b a with
    | true => exact .inr (.inr rfl)
    | false => exact .inr (.inl (sLt_total h k))
end Go.Proofs.YtonolfpnidaflaaDoor.E
