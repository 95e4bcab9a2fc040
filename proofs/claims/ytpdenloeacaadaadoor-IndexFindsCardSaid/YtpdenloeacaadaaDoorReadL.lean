/- A law that answers true, where package-level variables are listed. No conditions. -/
import Derived.Test.YtpdenloeacaadaaDoorGBa
import Derived.PinnedBridge
import Derived.Lay
import Derived.LaidOnce
import Derived.SevenTiedAt
namespace Go.Proofs.YtpdenloeacaadaaDoor.E
open Go Go.ChangeShapes
set_option linter.unusedSimpArgs false
set_option linter.unusedVariables false
set_option linter.unusedSectionVars false
set_option maxRecDepth 20000
section
variable {H : Type} {enc : TypeId × Value → H}
theorem lift_true_laid {C : Checked} {os : Os} {f : FuncId} {fn : Func} {s : ChangeSpec} {l : List Sh} {tb : TypeId} {X : World → Array Value → Prop} (hX : ∀ (w w' : World) (args : Array Value), w.heap = w'.heap → X w args → X w' args) (own : ownKnob C.prog.godebug = none) (started : os.Started) (noInit : C.prog.inits.idxOf? f = none) (hfn : C.prog.funcs[f]? = some fn)
  (witness : ∃ (w : World) (tape : Tape) (i : Input), w.os = os ∧ (w.forCall tape i).Shaped C.prog ∧ i.vars = [] ∧ Input.okWide C.prog (w.forCall tape i) .any w.heap.size f i ∧
   ((s.pre enc C.prog fn [] false (w.forCall tape i).memory i.args ∧ X (w.forCall tape i).memory i.args) ∧ sizedMet enc C.prog fn (OpenSpec.ofChange s) false (w.forCall tape i).memory i.args) ∧ Assume.holds {} C.prog (lone (Frame.enter C.prog f i.args .normal) [] (w.forCall tape i)))
  (hv : s.vars = []) (hres : fn.resultTypes = #[tb]) (htb : C.prog.underlying tb = some .bool) (hl : laidOutB C.prog = true) (hfit : fitsAll C.prog l fn.params.toList = true)
  (hs : ∀ ds : List (DataW H), ds.length = l.length → s.fn H ds = { results := [.lit (.bool true)], args := ds })
  (hok : ∀ (W : World) (args : Array Value) xs, X W args → hasAll l xs → RVL W (old W) xs args.toList → Calls C.prog f args W fun e W' => e = .returned (.bool true) ∧ Go.RowKit.Below W.heap.size W W') :
  ReturnsInHanded {} C os f .any (fun w args => (s.pre enc C.prog fn [] false w args ∧ X w args) ∧ sizedMet enc C.prog fn (OpenSpec.ofChange s) false w args) (s.post enc C.prog fn false true false false) := by
 refine returnsInHanded_of_change_and (C := C) (X := X) hX own started noInit hfn witness ?_
 intro W base args ds gs before hval hW _ _ hL _
 have hW' := hW
 obtain ⟨p, q, hA, hV, rfl, hfz, hnd⟩ := hW
 rw [hv] at hV
 obtain ⟨rfl, rfl⟩ := Go.ChangeShapes.trodVars_none hV
 obtain ⟨xs, hx, hr⟩ := readAll hfit (fun j t v a b => hval j t v (by rw [← Array.getElem?_toList]; exact a) (by rw [← Array.getElem?_toList]; exact b)) hA
 have := hok W args xs hL hx hr
 refine this.mono fun e W' hh => ?_
 obtain ⟨he, bel⟩ := hh
 subst he
 have hlen : ds.length = l.length := lenAll hfit hA
 refine ⟨_, rfl, ds, [], _, [], p, [], hW', ?_, ?_, ?_, bel.frame _, fun h => by cases h⟩
 ·rw [hres, List.append_nil, hs ds hlen]
  exact trodAll_mk1 (Go.RowKit.shut_bool htb _)
 ·rw [List.append_nil, hs ds hlen]
  exact keepAll hl bel hfit hA
 ·rw [List.append_nil, hs ds hlen, hv]
  exact rfl
theorem calls_true {P : Program} {f : FuncId} {xs : List AV} (h : Ok P f xs (.val (.bool true))) (W : World) (args : Array Value) (hgl : Gl W (old W)) (hr : RVL W (old W) xs args.toList) : Calls P f args W fun e W' => e = .returned (.bool true) ∧ Go.RowKit.Below W.heap.size W W' := by
 have := h W (old W) args.toList (fun _ h => h) hgl hr
 rw [Array.toArray_toList] at this
 refine this.mono fun e W' hh => ?_
 obtain ⟨v, he, bel, hv'⟩ := hh
 simp only [RV] at hv'
 obtain ⟨rfl, -⟩ := hv'
 exact ⟨he, bel⟩
end
end Go.Proofs.YtpdenloeacaadaaDoor.E
