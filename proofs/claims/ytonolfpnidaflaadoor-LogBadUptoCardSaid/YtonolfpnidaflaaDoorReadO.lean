/- What the arguments of a law are, read as operations. No conditions. -/
import Derived.Test.YtonolfpnidaflaaDoorReadC
import Derived.Test.YtonolfpnidaflaaDoorOpS
import Derived.Test.YtonolfpnidaflaaDoorRuleP
namespace Go.Proofs.YtonolfpnidaflaaDoor.E
open Go
set_option linter.unusedSimpArgs false
set_option linter.unusedVariables false
set_option linter.unusedSectionVars false
set_option maxRecDepth 20000
abbrev byteV (b : UInt8) : AV := .val (.int .u8 b.toNat)
theorem has_byte {x : AV} (h : Sh.hasV (.int .u8) x) : ∃ b, x = byteV b := by
  simp only [Sh.hasV, Sh.has, List.cons.injEq, and_true] at h
  obtain ⟨n, rfl, hw⟩ := h
  simp only [Lit.wf, Bool.and_eq_true, decide_eq_true_eq] at hw
  have h0 : (0 : Int) ≤ n := hw.1
  have h1 : n ≤ 255 := hw.2
  refine ⟨UInt8.ofNat n.toNat, ?_⟩
  rw [byteV, UInt8.toNat_ofNat', Nat.mod_eq_of_lt (by omega), Int.toNat_of_nonneg h0]
theorem wf_inI {n : Int} (h : (Lit.int .i64 n).wf = true) : inI n := by
  simp only [Lit.wf, Bool.and_eq_true, decide_eq_true_eq] at h
  exact ⟨h.1, h.2⟩
theorem has_opC {zs : List AV} (h : Sh.hasL [.int .i64, .struct [.int .i64, .int .i64, .int .i64], .slice 6 (.struct [.int .i64, .int .i64, .int .i64, .int .i64, .int .i64, .bool]), .struct [.str, .int .i64, .slice 2 (.struct [.str, .str]), .slice 1 .str], .str, .struct [.str, .str]] zs) : ∃ o : OpS, zs = opC' o ∧ whoI o.who := by
  have hw : ∀ {bs : List AV}, Sh.has (.struct [.int .i64, .int .i64, .int .i64]) bs → ∃ w : Wh, bs = [I w.role, I w.why, I w.time] ∧ whoI w := by
    intro bs h
    simp only [Sh.has, Sh.hasL] at h
    obtain ⟨_, _, rfl, ⟨a, rfl, a1⟩, _, _, rfl, ⟨b, rfl, b1⟩, _, _, rfl, ⟨c, rfl, c1⟩, rfl⟩ := h
    exact ⟨⟨a, b, c⟩, rfl, wf_inI a1, wf_inI b1, wf_inI c1⟩
  have hr : ∀ {bs : List AV}, Sh.has (.slice 6 (.struct [.int .i64, .int .i64, .int .i64, .int .i64, .int .i64, .bool])) bs → ∃ l : List Rl, bs = [rules l] := by
    intro bs h
    obtain ⟨l, e, _⟩ := has_slice (f := fun r : Rl => [I r.role, I r.why, I r.fr, I r.to, I r.cats, B r.allow]) (fun r hr => has_ruleC (by simpa only [Sh.has] using hr)) h
    exact ⟨l, e⟩
  simp only [Sh.hasL] at h
  obtain ⟨_, _, rfl, h1, _, _, rfl, h2, _, _, rfl, h3, _, _, rfl, h4, _, _, rfl, h5, _, _, rfl, h6, rfl⟩ := h
  simp only [Sh.has] at h1
  obtain ⟨k, rfl, _⟩ := h1
  obtain ⟨w, rfl, hwi⟩ := hw h2
  obtain ⟨rs, rfl⟩ := hr h3
  obtain ⟨r, rfl⟩ := has_recordC (by simpa only [Sh.has] using h4)
  obtain ⟨id, rfl⟩ := has_strC h5
  obtain ⟨f, rfl⟩ := has_fieldC (by simpa only [Sh.has] using h6)
  exact ⟨⟨k, w, rs, r, id, f⟩, rfl, hwi⟩
theorem has_op {x : AV} (h : Sh.hasV (.struct [.int .i64, .struct [.int .i64, .int .i64, .int .i64], .slice 6 (.struct [.int .i64, .int .i64, .int .i64, .int .i64, .int .i64, .bool]), .struct [.str, .int .i64, .slice 2 (.struct [.str, .str]), .slice 1 .str], .str, .struct [.str, .str]]) x) : ∃ o : OpS, x = opV o := by
  obtain ⟨zs, rfl, h⟩ := h
  obtain ⟨o, rfl, _⟩ := has_opC h
  exact ⟨o, rfl⟩
theorem has_opI {x : AV} (h : Sh.hasV (.struct [.int .i64, .struct [.int .i64, .int .i64, .int .i64], .slice 6 (.struct [.int .i64, .int .i64, .int .i64, .int .i64, .int .i64, .bool]), .struct [.str, .int .i64, .slice 2 (.struct [.str, .str]), .slice 1 .str], .str, .struct [.str, .str]]) x) : ∃ o : OpS, x = opV o ∧ whoI o.who := by
  obtain ⟨zs, rfl, h⟩ := h
  obtain ⟨o, rfl, hw⟩ := has_opC h
  exact ⟨o, rfl, hw⟩
/-- A list of operations. -/
theorem has_opsI {x : AV} (h : Sh.hasV (.slice 12 (.struct [.int .i64, .struct [.int .i64, .int .i64, .int .i64], .slice 6 (.struct [.int .i64, .int .i64, .int .i64, .int .i64, .int .i64, .bool]), .struct [.str, .int .i64, .slice 2 (.struct [.str, .str]), .slice 1 .str], .str, .struct [.str, .str]])) x) : ∃ l : List OpS, x = .list 12 (l.map opC') ∧ (∀ o ∈ l, whoI o.who) ∧ l.length ≤ maxLen := by
  have h : Sh.has (.slice 12 (.struct [.int .i64, .struct [.int .i64, .int .i64, .int .i64], .slice 6 (.struct [.int .i64, .int .i64, .int .i64, .int .i64, .int .i64, .bool]), .struct [.str, .int .i64, .slice 2 (.struct [.str, .str]), .slice 1 .str], .str, .struct [.str, .str]])) [x] := h
  simp only [Sh.has] at h
  obtain ⟨rows, e, h1, h2⟩ := h
  have key : ∀ {rows : List (List AV)}, (∀ r ∈ rows, Sh.hasL [.int .i64, .struct [.int .i64, .int .i64, .int .i64], .slice 6 (.struct [.int .i64, .int .i64, .int .i64, .int .i64, .int .i64, .bool]), .struct [.str, .int .i64, .slice 2 (.struct [.str, .str]), .slice 1 .str], .str, .struct [.str, .str]] r) → ∃ l : List OpS, rows = l.map opC' ∧ ∀ o ∈ l, whoI o.who := by
    intro rows
    induction rows with
    | nil => exact fun _ => ⟨[], rfl, fun _ h => by cases h⟩
    | cons r rows ih =>
      intro h
      obtain ⟨o, rfl, hw⟩ := has_opC (h r (by simp))
      obtain ⟨l, rfl, hl⟩ := ih fun r hr => h r (List.mem_cons_of_mem _ hr)
      exact ⟨o :: l, rfl, fun y hy => by
        rcases List.mem_cons.1 hy with rfl | hy
        · exact hw
        · exact hl y hy⟩
  obtain ⟨l, rfl, hl⟩ := key h2
  exact ⟨l, by simpa using e, hl, by simpa using h1⟩
end Go.Proofs.YtonolfpnidaflaaDoor.E
