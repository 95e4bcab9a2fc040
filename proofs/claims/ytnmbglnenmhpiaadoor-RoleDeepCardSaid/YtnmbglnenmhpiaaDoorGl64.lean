/- The table of the trailing zeros, as a row lists it. No conditions. -/
import Derived.Test.YtnmbglnenmhpiaaDoorLaid
import Derived.Test.YtnmbglnenmhpiaaDoorTab
import Derived.Test.YtnmbglnenmhpiaaDoorRows
namespace Go.Proofs.YtnmbglnenmhpiaaDoor.E
open Go
set_option linter.unusedSimpArgs false
set_option linter.unusedVariables false
set_option linter.unusedSectionVars false
set_option maxRecDepth 20000
theorem e64 : (Rows.laid_math_bits_deBruijn64tab : DataW Unit) = Lib.tabData .u8 (Lib.deBruijn64tab.map fun (z : Nat) => (z : Int)) := by kernel_rfl
theorem gl_laid {w : World} {l : List (String × DataW Unit)} (hp : (l.all fun x => x.2.handleName?.isNone) = true) (hm : ("math/bits.deBruijn64tab", Rows.laid_math_bits_deBruijn64tab) ∈ l) (h : laidMetH Tryd.prog l w) : Gl w (old w) := by
  rw [MakeChecks.laidMetH_plain _ _ _ hp] at h
  rw [e64] at hm
  obtain ⟨h1, h2⟩ := gc_tab (g := 1) (t := 81) (e := 5) (m := 64) h hm (by kernel_rfl) (by kernel_rfl) (by kernel_rfl) (by kernel_rfl) (by kernel_rfl) (by kernel_rfl)
  refine ⟨fun b hb => ?_, ?_⟩
  · simp only [GB, List.mem_singleton] at hb
    subst hb
    exact h2
  · unfold GP GB
    show (if 1 ∈ [1] then GC w 1 else none) = _
    rw [if_pos (by simp), h1, List.map_map]
    rfl
end Go.Proofs.YtnmbglnenmhpiaaDoor.E
