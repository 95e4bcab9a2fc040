/- What the arguments of a law are, read as strings, records, lists of lists. No conditions. -/
import Derived.Test.YtpdenloeacaadaaGBa
import Derived.Test.YtpdenloeacaadaaGSt
namespace Go.Proofs.Ytpdenloeacaadaa.E
open Go
set_option linter.unusedSimpArgs false
set_option linter.unusedVariables false
set_option linter.unusedSectionVars false
set_option maxRecDepth 20000
abbrev intss (l : List (List Int)) : AV := .list 1 (l.map fun c => [ints c])
theorem has_intsC {zs : List AV} (h : Sh.has (.slice 1 (.int .i64)) zs) : ∃ l, zs = [ints l] := by
 obtain ⟨l, e, _⟩ := has_slice (f := fun n => [I n]) (fun r hr => by simp only [Sh.has] at hr; obtain ⟨n, rfl, _⟩ := hr; exact ⟨n, rfl⟩) h
 exact ⟨l, e⟩
theorem has_intss {x : AV} (h : Sh.hasV (.slice 1 (.slice 1 (.int .i64))) x) : ∃ l, x = intss l := by
 obtain ⟨l, e, _⟩ := has_slice (f := fun c => [ints c]) (fun r hr => has_intsC hr) h
 exact ⟨l, by simpa using e⟩
theorem has_str {x : AV} (h : Sh.hasV .str x) : ∃ s, x = S s := by
 simp only [Sh.hasV, Sh.has, List.cons.injEq, and_true] at h
 obtain ⟨n, rfl, _⟩ := h
 exact ⟨n, rfl⟩
theorem has_strC {zs : List AV} (h : Sh.has .str zs) : ∃ s, zs = [S s] := by
 simp only [Sh.has] at h
 obtain ⟨n, rfl, _⟩ := h
 exact ⟨n, rfl⟩
theorem has_strsC {zs : List AV} (h : Sh.has (.slice 1 .str) zs) : ∃ l, zs = [strs l] := by
 obtain ⟨l, e, _⟩ := has_slice (f := fun s => [S s]) (fun r hr => has_strC hr) h
 exact ⟨l, e⟩
theorem has_strs {x : AV} (h : Sh.hasV (.slice 1 .str) x) : ∃ l, x = strs l := by
 obtain ⟨l, e⟩ := has_strsC (zs := [x]) h
 exact ⟨l, by simpa using e⟩
theorem has_fieldC {zs : List AV} (h : Sh.hasL [.str, .str] zs) : ∃ f : Fd, zs = [S f.key, S f.val] := by
 simp only [Sh.hasL, Sh.has] at h
 obtain ⟨_, _, rfl, ⟨a, rfl, _⟩, _, _, rfl, ⟨b, rfl, _⟩, rfl⟩ := h
 exact ⟨⟨a, b⟩, rfl⟩
theorem has_field {x : AV} (h : Sh.hasV (.struct [.str, .str]) x) : ∃ f : Fd, x = fdV f := by
 obtain ⟨zs, rfl, h⟩ := h
 obtain ⟨f, rfl⟩ := has_fieldC h
 exact ⟨f, rfl⟩
theorem has_fdsC {zs : List AV} (h : Sh.has (.slice 2 (.struct [.str, .str])) zs) : ∃ l, zs = [fds l] := by
 obtain ⟨l, e, _⟩ := has_slice (f := fun f : Fd => [S f.key, S f.val]) (fun r hr => has_fieldC (by simpa only [Sh.has] using hr)) h
 exact ⟨l, e⟩
theorem has_fields {x : AV} (h : Sh.hasV (.slice 2 (.struct [.str, .str])) x) : ∃ l, x = fds l := by
 obtain ⟨l, e⟩ := has_fdsC (zs := [x]) h
 exact ⟨l, by simpa using e⟩
theorem has_recordC {zs : List AV} (h : Sh.hasL [.str, .int .i64, .slice 2 (.struct [.str, .str]), .slice 1 .str] zs) : ∃ r : Rc, zs = [S r.id, I r.cats, fds r.fields, strs r.refs] := by
 simp only [Sh.hasL] at h
 obtain ⟨_, _, rfl, h1, _, _, rfl, h2, _, _, rfl, h3, _, _, rfl, h4, rfl⟩ := h
 obtain ⟨a, rfl⟩ := has_strC h1
 obtain ⟨c, rfl⟩ := has_fdsC h3
 obtain ⟨d, rfl⟩ := has_strsC h4
 simp only [Sh.has] at h2
 obtain ⟨b, rfl, _⟩ := h2
 exact ⟨⟨a, b, c, d⟩, rfl⟩
theorem has_record {x : AV} (h : Sh.hasV (.struct [.str, .int .i64, .slice 2 (.struct [.str, .str]), .slice 1 .str]) x) : ∃ r : Rc, x = recV r := by
 obtain ⟨zs, rfl, h⟩ := h
 obtain ⟨r, rfl⟩ := has_recordC h
 exact ⟨r, rfl⟩
end Go.Proofs.Ytpdenloeacaadaa.E
