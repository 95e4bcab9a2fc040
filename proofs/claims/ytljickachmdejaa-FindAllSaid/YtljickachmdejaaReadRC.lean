/- What the arguments of a law are, and how large at most: views. No conditions. -/
import Derived.Test.YtljickachmdejaaReadR
import Derived.Test.YtljickachmdejaaReadC
namespace Go.Proofs.Ytljickachmdejaa.E
open Go
set_option linter.unusedSimpArgs false
set_option linter.unusedVariables false
set_option linter.unusedSectionVars false
set_option maxRecDepth 20000
theorem has_intR {x : AV} (h : Sh.hasRV (.int .i64) x) : ∃ n, x = I n := by
  simp only [Sh.hasRV, Sh.hasR, List.cons.injEq, and_true] at h
  obtain ⟨n, rfl, _⟩ := h
  exact ⟨n, rfl⟩
theorem has_strCR {zs : List AV} (h : Sh.hasR .str zs) : ∃ s : ByteArray, zs = [S s] ∧ s.size ≤ 140737488351232 := by
  simp only [Sh.hasR] at h
  obtain ⟨n, rfl, h⟩ := h
  exact ⟨n, rfl, h⟩
/-- What is so of a list of strings that was handed in. -/
def strsR (l : List ByteArray) : Prop := l.length * 16 ≤ 140737488351232 ∧ ∀ s ∈ l, s.size ≤ 140737488351232
theorem has_strsR {x : AV} (h : Sh.hasRV (.slice 1 .str) x) : ∃ l, x = E.strs l ∧ strsR l := by
  obtain ⟨l, e, h1, h2⟩ := has_sliceR (fun r hr => has_strCR hr) h
  exact ⟨l, by simpa using e, h1, h2⟩
def strR (s : ByteArray) : Prop := s.size ≤ 140737488351232
theorem has_strR {x : AV} (h : Sh.hasRV .str x) : ∃ s, x = S s ∧ strR s := by
  obtain ⟨s, e, h1⟩ := has_strCR (zs := [x]) h
  exact ⟨s, by simpa using e, h1⟩
end Go.Proofs.Ytljickachmdejaa.E
