/- What the arguments of a law are, read as strings, records, lists of lists. No conditions. -/
import Derived.Test.YtonolfpnidaflaaGreatDoorGBa
import Derived.Test.YtonolfpnidaflaaGreatDoorGSt
namespace Go.Proofs.YtonolfpnidaflaaGreatDoor.E
open Go
set_option linter.unusedSimpArgs false
set_option linter.unusedVariables false
set_option linter.unusedSectionVars false
set_option maxRecDepth 20000
theorem has_str {x : AV} (h : Sh.hasV .str x) : ∃ s, x = S s := by
 simp only [Sh.hasV, Sh.has, List.cons.injEq, and_true] at h
 obtain ⟨n, rfl, _⟩ := h
 exact ⟨n, rfl⟩
end Go.Proofs.YtonolfpnidaflaaGreatDoor.E
