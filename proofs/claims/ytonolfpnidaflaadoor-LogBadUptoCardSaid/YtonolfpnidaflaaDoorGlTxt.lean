/- The package-level variables of strconv and strings, as a row lists them. No conditions. -/
import Derived.Test.YtonolfpnidaflaaDoorLaid
import Derived.Test.YtonolfpnidaflaaDoorTab
import Derived.Test.YtonolfpnidaflaaDoorRows
import Derived.Shelf.Vars
namespace Go.Proofs.YtonolfpnidaflaaDoor.E
open Go
set_option linter.unusedSimpArgs false
set_option linter.unusedVariables false
set_option linter.unusedSectionVars false
set_option maxRecDepth 20000
theorem ePow : (Rows.laid_internal_strconv_uint64pow10 : DataW Unit) = Lib.tabData .u64 Lib.pow10Tab := by kernel_rfl
theorem gl_txt {w : World} {l : List (String × DataW Unit)} (hp : (l.all fun x => x.2.handleName?.isNone) = true) (h1 : ("internal/strconv.uint64pow10", Rows.laid_internal_strconv_uint64pow10) ∈ l) (h2 : ("strconv.ErrSyntax", Rows.laid_strconv_ErrSyntax) ∈ l)
    (h3 : ("strconv.ErrRange", Rows.laid_strconv_ErrRange) ∈ l) (h : laidMetH Tryd.prog l w) (hs : w.ShapedOpen Tryd.prog) : Gl w (old w) := by
  rw [MakeChecks.laidMetH_plain _ _ _ hp] at h
  rw [ePow] at h1
  obtain ⟨a1, a2⟩ := gc_tab (g := 5) (t := 146) (e := 75) (m := 20) h h1 (by kernel_rfl) (by kernel_rfl) (by kernel_rfl) (by kernel_rfl) (by kernel_rfl) (by kernel_rfl)
  obtain ⟨b1, b2⟩ := gc_iface (g := 3) (t := 81) h h2 (by kernel_rfl) (by kernel_rfl) Tryd.underlying81
  obtain ⟨c1, c2⟩ := gc_iface (g := 4) (t := 81) h h3 (by kernel_rfl) (by kernel_rfl) Tryd.underlying81
  obtain ⟨m, hm⟩ := cell_of_shapedOpen_int (P := Tryd.prog) (g := 0) (zero := #[.int .i64 0]) (t := 3) hs (of_decide_eq_true (by kernel_rfl)) (by kernel_rfl) rfl (by kernel_rfl) (by kernel_rfl) Tryd.underlying3
  have d : ∃ cs, GC w 0 = some cs ∧ cs[0]? = some (.int .i64 m) := by
    unfold World.cell? at hm
    unfold GC
    split at hm
    · rename_i cs _ _ e
      simp only at e
      rw [e]
      exact ⟨_, rfl, by simpa using hm⟩
    · cases hm
  obtain ⟨cs, d1, d2⟩ := d
  have d3 : 0 < w.heap.size := by
    rcases Nat.lt_or_ge 0 w.heap.size with h1 | h1
    · exact h1
    · simp [World.cell?, h1] at hm
  refine ⟨fun b hb => ?_, ?_⟩
  · simp only [GB, List.mem_cons, List.not_mem_nil, or_false] at hb
    rcases hb with rfl | rfl | rfl | rfl
    · exact d3
    · exact b2
    · exact c2
    · exact a2
  · unfold GP GB
    have e : ∀ g, g ∈ [0, 3, 4, 5] → (fun b => if b ∈ [0, 3, 4, 5] then GC w b else none) g = GC w g := fun g hm => if_pos hm
    rw [e 5 (by decide), e 3 (by decide), e 4 (by decide), e 0 (by decide)]
    exact ⟨a1, b1, c1, cs, m, d1, d2⟩
end Go.Proofs.YtonolfpnidaflaaDoor.E
