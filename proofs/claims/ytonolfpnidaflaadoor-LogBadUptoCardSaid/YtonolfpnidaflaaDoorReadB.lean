/- What the arguments of a law are, read as numbers and lists of them. No conditions. -/
import Derived.Test.YtonolfpnidaflaaDoorRead
import Derived.Test.YtonolfpnidaflaaDoorBase
namespace Go.Proofs.YtonolfpnidaflaaDoor.E
open Go
set_option linter.unusedSimpArgs false
set_option linter.unusedVariables false
set_option linter.unusedSectionVars false
set_option maxRecDepth 20000
theorem has_int {x : AV} (h : Sh.hasV (.int .i64) x) : ∃ n, x = I n := by
  simp only [Sh.hasV, Sh.has, List.cons.injEq, and_true] at h
  obtain ⟨n, rfl, _⟩ := h
  exact ⟨n, rfl⟩
theorem has_bool {x : AV} (h : Sh.hasV .bool x) : ∃ n, x = B n := by
  simpa only [Sh.hasV, Sh.has, List.cons.injEq, and_true] using h
theorem rows_map {α : Type} {f : α → List AV} {e : Sh} (hf : ∀ r, e.has r → ∃ a, r = f a) : ∀ {rows : List (List AV)}, (∀ r ∈ rows, e.has r) → ∃ l : List α, rows = l.map f
  | [], _ => ⟨[], rfl⟩
  | r :: rows, h => by
    obtain ⟨a, rfl⟩ := hf r (h r (by simp))
    obtain ⟨l, rfl⟩ := rows_map hf (rows := rows) fun r hr => h r (by simp [hr])
    exact ⟨a :: l, rfl⟩
theorem has_slice {α : Type} {f : α → List AV} {e : Sh} {k : Nat} (hf : ∀ r, e.has r → ∃ a, r = f a) {as : List AV} (h : Sh.has (.slice k e) as) : ∃ l : List α, as = [.list k (l.map f)] ∧ l.length ≤ maxLen := by
  simp only [Sh.has] at h
  obtain ⟨rows, rfl, h1, h2⟩ := h
  obtain ⟨l, rfl⟩ := rows_map hf h2
  exact ⟨l, rfl, by simpa using h1⟩
theorem has_ints {x : AV} (h : Sh.hasV (.slice 1 (.int .i64)) x) : ∃ l, x = ints l := by
  obtain ⟨l, e, _⟩ := has_slice (f := fun n => [I n]) (fun r hr => by simp only [Sh.has] at hr; obtain ⟨n, rfl, _⟩ := hr; exact ⟨n, rfl⟩) h
  exact ⟨l, by simpa using e⟩
end Go.Proofs.YtonolfpnidaflaaDoor.E
