/- What the arguments of a law are, fields with the sizes of their texts. No conditions. -/
import Derived.Test.YtnmbglnenmhpiaaDoorLawRecordOrder
import Derived.Test.YtnmbglnenmhpiaaDoorReadC
namespace Go.Proofs.YtnmbglnenmhpiaaDoor.E
open Go
set_option linter.unusedSimpArgs false
set_option linter.unusedVariables false
set_option linter.unusedSectionVars false
set_option maxRecDepth 20000
theorem rows_mapQ {α : Type} {f : α → List AV} {e : Sh} {Q : α → Prop} (hf : ∀ r, e.has r → ∃ a, r = f a ∧ Q a) : ∀ {rows : List (List AV)}, (∀ r ∈ rows, e.has r) → ∃ l : List α, rows = l.map f ∧ ∀ a ∈ l, Q a
  | [], _ => ⟨[], rfl, by simp⟩
  | r :: rows, h => by
    obtain ⟨a, rfl, qa⟩ := hf r (h r (by simp))
    obtain ⟨l, rfl, hl⟩ := rows_mapQ hf (rows := rows) fun r hr => h r (by simp [hr])
    exact ⟨a :: l, rfl, fun b hb => by
      rcases List.mem_cons.1 hb with rfl | hb
      · exact qa
      · exact hl b hb⟩
theorem has_fieldM {zs : List AV} (h : Sh.hasL [.str, .str] zs) : ∃ f : Fd, zs = [S f.key, S f.val] ∧ (f.key.size ≤ 9223372036854775807 ∧ f.val.size ≤ 9223372036854775807) := by
  simp only [Sh.hasL, Sh.has] at h
  obtain ⟨_, _, rfl, ⟨a, rfl, ha⟩, _, _, rfl, ⟨b, rfl, hb⟩, rfl⟩ := h
  exact ⟨⟨a, b⟩, rfl, ha, hb⟩
theorem has_fieldsM {x : AV} (h : Sh.hasV (.slice 2 (.struct [.str, .str])) x) : ∃ l, x = fds l ∧ fdsM l := by
  have h : Sh.has (.slice 2 (.struct [.str, .str])) [x] := h
  simp only [Sh.has] at h
  obtain ⟨rows, e, h1, h2⟩ := h
  obtain ⟨l, rfl, hl⟩ := rows_mapQ (f := fun f : Fd => [S f.key, S f.val]) (e := .struct [.str, .str]) (fun r hr => has_fieldM (by simpa only [Sh.has] using hr)) (rows := rows) (fun r hr => by simpa only [Sh.has] using h2 r hr)
  exact ⟨l, by simpa using e, by simpa [maxLen] using h1, hl⟩
end Go.Proofs.YtnmbglnenmhpiaaDoor.E
