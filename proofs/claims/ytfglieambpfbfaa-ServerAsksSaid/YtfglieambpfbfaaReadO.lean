/- What the arguments of a law are, read as operations. No conditions. -/
import Derived.Test.YtfglieambpfbfaaReadC
import Derived.Test.YtfglieambpfbfaaSrv
namespace Go.Proofs.Ytfglieambpfbfaa.E
open Go
set_option linter.unusedSimpArgs false
set_option linter.unusedVariables false
set_option linter.unusedSectionVars false
set_option maxRecDepth 20000
theorem has_opC {zs : List AV} (h : Sh.hasL [.int .i64, .struct [.int .i64, .int .i64, .int .i64], .slice 6 (.struct [.int .i64, .int .i64, .int .i64, .int .i64, .int .i64, .bool]), .struct [.str, .int .i64, .slice 2 (.struct [.str, .str]), .slice 1 .str], .str, .struct [.str, .str]] zs) : ∃ o : OpS, zs = opC' o := by
  have hw : ∀ {bs : List AV}, Sh.has (.struct [.int .i64, .int .i64, .int .i64]) bs → ∃ w : Wh, bs = [I w.role, I w.why, I w.time] := by
    intro bs h
    obtain ⟨w, e⟩ := has_who (x := .agg bs) ⟨bs, rfl, by simpa only [Sh.has] using h⟩
    exact ⟨w, by simpa using e⟩
  have hr : ∀ {bs : List AV}, Sh.has (.slice 6 (.struct [.int .i64, .int .i64, .int .i64, .int .i64, .int .i64, .bool])) bs → ∃ l : List Rl, bs = [rules l] := by
    intro bs h
    obtain ⟨l, e, _⟩ := has_slice (f := fun r : Rl => [I r.role, I r.why, I r.fr, I r.to, I r.cats, B r.allow]) (fun r hr => has_ruleC (by simpa only [Sh.has] using hr)) h
    exact ⟨l, e⟩
  simp only [Sh.hasL] at h
  obtain ⟨_, _, rfl, h1, _, _, rfl, h2, _, _, rfl, h3, _, _, rfl, h4, _, _, rfl, h5, _, _, rfl, h6, rfl⟩ := h
  simp only [Sh.has] at h1
  obtain ⟨k, rfl, _⟩ := h1
  obtain ⟨w, rfl⟩ := hw h2
  obtain ⟨rs, rfl⟩ := hr h3
  obtain ⟨r, rfl⟩ := has_recordC (by simpa only [Sh.has] using h4)
  obtain ⟨id, rfl⟩ := has_strC h5
  obtain ⟨f, rfl⟩ := has_fieldC (by simpa only [Sh.has] using h6)
  exact ⟨⟨k, w, rs, r, id, f⟩, rfl⟩
theorem has_op {x : AV} (h : Sh.hasV (.struct [.int .i64, .struct [.int .i64, .int .i64, .int .i64], .slice 6 (.struct [.int .i64, .int .i64, .int .i64, .int .i64, .int .i64, .bool]), .struct [.str, .int .i64, .slice 2 (.struct [.str, .str]), .slice 1 .str], .str, .struct [.str, .str]]) x) : ∃ o : OpS, x = opV o := by
  obtain ⟨zs, rfl, h⟩ := h
  obtain ⟨o, rfl⟩ := has_opC h
  exact ⟨o, rfl⟩
end Go.Proofs.Ytfglieambpfbfaa.E
