/- A law that answers true, where package-level variables are listed, and how large the arguments are together. No conditions. -/
import Derived.Test.YtonolfpnidaflaaDoorLaid
import Derived.Test.YtonolfpnidaflaaDoorReadC
import Derived.Test.YtonolfpnidaflaaDoorRows
import Derived.Deep.DeepHandedRow
import Derived.JoinedCond
namespace Go.Proofs.YtonolfpnidaflaaDoor.E
open Go Go.ChangeShapes
set_option linter.unusedSimpArgs false
set_option linter.unusedVariables false
set_option linter.unusedSectionVars false
set_option maxRecDepth 20000
section
variable {H : Type} {enc : TypeId × Value → H}
/-- The witness. -/
theorem witness_row {C : Checked} {os : Os} {f : FuncId} {fn : Func} {s : OpenSpec} {conds : List PathCond} {apart : Bool} {laid : List (String × DataW Unit)} (modest : Bool) (w0 : World) (args : Array Value) (hos : w0.os = os)
    (hsh : (w0.forCall (fun _ _ => 0) ⟨#[], args, []⟩).Shaped C.prog) (hok : Input.okWideB C.prog (w0.forCall (fun _ _ => 0) ⟨#[], args, []⟩) f ⟨#[], args, []⟩ = true)
    (hrow : s.preRow enc C.prog fn conds apart laid (w0.forCall (fun _ _ => 0) ⟨#[], args, []⟩).memory args) :
    ∃ (w : World) (tape : Tape) (i : Input), w.os = os ∧ (w.forCall tape i).Shaped C.prog ∧ i.vars = [] ∧ Input.okWide C.prog (w.forCall tape i) .any w.heap.size f i ∧
      s.preRow enc C.prog fn conds apart laid (w.forCall tape i).memory i.args ∧ ({ modest := modest } : Assume).holds C.prog (lone (Frame.enter C.prog f i.args .normal) [] (w.forCall tape i)) :=
  ⟨w0, fun _ _ => 0, ⟨#[], args, []⟩, hos, hsh, (Input.okWide_of_okWideB (base := 0) hok).1, (Input.okWide_of_okWideB hok).2, hrow, by
    simp only [Assume.holds]
    exact ⟨by simp, by simp, fun _ => Modest.zero, by simp, by simp⟩⟩
/-- A text that was handed in stands in what is read. -/
theorem text_read {P : Program} {w : World} {S : Nat → Prop} {sp : Nat → Bool} {held : Bool} : ∀ {ts : List TypeId} {vs : List Value} {ds : List (DataW H)} {ps : List MemPlace} {xs : List AV}, DataW.TrodAll enc P w 0 sp held ts vs ds ps → RVL w S xs vs →
    ∀ (j : Nat) (t : TypeId) (s : ByteArray), ts[j]? = some t → P.underlying t = some .string → xs[j]? = some (.val (.string s)) → ds[j]? = some (.lit (.string s.data.toList))
  | [], vs, ds, ps, xs, h, hr, j, t, s, ht, hu, hx => by simp at ht
  | t0 :: ts, vs, ds, ps, xs, h, hr, j, t, s, ht, hu, hx => by
    obtain ⟨v, us, d, ds', p, q, rfl, rfl, rfl, h1, h2⟩ := trodAll_cons h
    cases xs with
    | nil => simp at hx
    | cons x xs =>
      simp only [RVL] at hr
      obtain ⟨v', us', e, h3, h4⟩ := hr
      cases e
      cases j with
      | zero =>
        simp at ht hx
        subst ht hx
        simp only [RV] at h3
        obtain ⟨rfl, _⟩ := h3
        obtain ⟨fuel, h1⟩ := h1
        obtain ⟨s', e1, e2, _⟩ := DataW.trod_string hu h1
        have e3 : s' = s := by simpa [Value.cells] using e1.symm
        rw [e3] at e2
        exact congrArg some (Prod.mk.inj e2).1
      | succ j =>
        simp at ht hx ⊢
        exact text_read h2 h4 j t s ht hu hx
theorem lift_row {C : Checked} {os : Os} {f : FuncId} {fn : Func} {s : OpenSpec} {F : Stop.Interp} {laid : List (String × DataW Unit)} {l : List Sh} {tb : TypeId} (own : ownKnob C.prog.godebug = none) (started : os.Started) (noInit : C.prog.inits.idxOf? f = none) (hfn : C.prog.funcs[f]? = some fn)
    (witness : ∃ (w : World) (tape : Tape) (i : Input), w.os = os ∧ (w.forCall tape i).Shaped C.prog ∧ i.vars = [] ∧ Input.okWide C.prog (w.forCall tape i) .any w.heap.size f i ∧
      s.preRow enc C.prog fn [] false laid (w.forCall tape i).memory i.args ∧ Assume.holds {} C.prog (lone (Frame.enter C.prog f i.args .normal) [] (w.forCall tape i)))
    (hv : s.vars = []) (hres : fn.resultTypes = #[tb]) (htb : C.prog.underlying tb = some .bool) (hl : laidOutB C.prog = true) (hfit : fitsAll C.prog l fn.params.toList = true)
    (hs : ∀ ds : List (DataW H), ds.length = l.length → s.fn F H ds = { results := [.lit (.bool true)], args := ds })
    (hok : ∀ (W : World) (args : Array Value) xs, laidMetH C.prog laid W → W.ShapedOpen C.prog → hasAll l xs →
      (∃ ds : List (DataW H), (∀ k, s.cond = some k → k H ds = true) ∧ ∀ (j : Nat) (t : TypeId) (x : ByteArray), fn.params.toList[j]? = some t → C.prog.underlying t = some .string → xs[j]? = some (.val (.string x)) → ds[j]? = some (.lit (.string x.data.toList))) →
      RVL W (old W) xs args.toList → Calls C.prog f args W fun e W' => e = .returned (.bool true) ∧ Go.RowKit.Below W.heap.size W W') :
    ReturnsInHanded {} C os f .any (s.preRow enc C.prog fn [] false laid) ((s.at F).post enc C.prog fn false true false false) := by
  refine returnsInHanded_of_row own started noInit hfn witness ?_
  intro W base args ds gs before hval hW _ hcond _ hL hsh _
  have hW' := hW
  obtain ⟨p, q, hA, hV, rfl, hfz, hnd⟩ := hW
  rw [hv] at hV
  obtain ⟨rfl, rfl⟩ := Go.ChangeShapes.trodVars_none hV
  obtain ⟨xs, hx, hr⟩ := readAll hfit (fun j t v a b => hval j t v (by rw [← Array.getElem?_toList]; exact a) (by rw [← Array.getElem?_toList]; exact b)) hA
  have := hok W args xs hL hsh hx ⟨ds, fun k hk => by have := hcond k hk; rwa [List.append_nil] at this, fun j t x h1 h2 h3 => text_read hA hr j t x h1 h2 h3⟩ hr
  refine this.mono fun e W' hh => ?_
  obtain ⟨he, bel⟩ := hh
  subst he
  have hlen : ds.length = l.length := lenAll hfit hA
  have hs' : (s.at F).fn H ds = { results := [.lit (.bool true)], args := ds } := hs ds hlen
  have hv' : (s.at F).vars = [] := hv
  refine ⟨_, rfl, ds, [], _, [], p, [], hW', ?_, ?_, ?_, bel.frame _, fun h => by cases h⟩
  · rw [hres, List.append_nil, hs']
    exact trodAll_mk1 (Go.RowKit.shut_bool htb _)
  · rw [List.append_nil, hs']
    exact keepAll hl bel hfit hA
  · rw [List.append_nil, hs', hv']
    exact rfl
theorem bulk_mem {d : DataW H} : ∀ {ds : List (DataW H)}, d ∈ ds → Rows.uptoBulk d ≤ Rows.uptoBulkAll ds
  | [], h => by cases h
  | x :: ds, h => by
    rw [Rows.uptoBulkAll]
    rcases List.mem_cons.1 h with rfl | h
    · omega
    · have := bulk_mem h; omega
theorem small_text {ds : List (DataW H)} {j : Nat} {x : ByteArray} (h : Rows.uptoSmall H ds = true) (hx : ds[j]? = some (.lit (.string x.data.toList))) : x.size ≤ 1048576 := by
  have h1 := of_decide_eq_true (show decide (Rows.uptoBulkAll ds ≤ 1048576) = true from h)
  have h2 := bulk_mem (List.mem_of_getElem? hx)
  rw [Rows.uptoBulk] at h2
  have h3 : x.size = x.data.toList.length := (Array.length_toList (xs := x.data)).symm
  omega
end
end Go.Proofs.YtonolfpnidaflaaDoor.E
