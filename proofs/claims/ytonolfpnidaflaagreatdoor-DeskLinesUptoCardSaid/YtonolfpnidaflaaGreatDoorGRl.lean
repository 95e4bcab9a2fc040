/- Several texts in one: ReadL Laid ReadU GlTxt. No conditions. -/
import Derived.Test.YtonolfpnidaflaaGreatDoorGBa
import Derived.PinnedBridge
import Derived.Lay
import Derived.LaidOnce
import Derived.SevenTiedAt
import Derived.Lib.LaidTab
import Derived.LaidLaws
import Derived.MakeChecks
import Derived.Test.YtonolfpnidaflaaGreatDoorReadC
import Derived.Test.YtonolfpnidaflaaGreatDoorRows
import Derived.Deep.DeepHandedRow
import Derived.JoinedCond
import Derived.Test.YtonolfpnidaflaaGreatDoorTab
import Derived.Shelf.Vars
namespace Go.Proofs.YtonolfpnidaflaaGreatDoor.E
open Go Go.ChangeShapes
set_option linter.unusedSimpArgs false
set_option linter.unusedVariables false
set_option linter.unusedSectionVars false
set_option maxRecDepth 20000
section
variable {H : Type} {enc : TypeId × Value → H}
theorem calls_true {P : Program} {f : FuncId} {xs : List AV} (h : Ok P f xs (.val (.bool true))) (W : World) (args : Array Value) (hgl : Gl W (old W)) (hr : RVL W (old W) xs args.toList) : Calls P f args W fun e W' => e = .returned (.bool true) ∧ Go.RowKit.Below W.heap.size W W' := by
 have := h W (old W) args.toList (fun _ h => h) hgl hr
 rw [Array.toArray_toList] at this
 refine this.mono fun e W' hh => ?_
 obtain ⟨v, he, bel, hv'⟩ := hh
 simp only [RV] at hv'
 obtain ⟨rfl, -⟩ := hv'
 exact ⟨he, bel⟩
end
end Go.Proofs.YtonolfpnidaflaaGreatDoor.E

namespace Go.Proofs.YtonolfpnidaflaaGreatDoor.E
open Go
set_option linter.unusedSimpArgs false
set_option linter.unusedVariables false
set_option linter.unusedSectionVars false
set_option maxRecDepth 20000
theorem laid_mem {P : Program} {w : World} {n : String} {d : DataW Unit} : ∀ {l : List (String × DataW Unit)} {ps : List MemPlace}, DataW.LaidVars P w l ps → (n, d) ∈ l →
  ∃ g t cs fuel p, P.globalNamed n = some g ∧ (P.globals[g]?).map (·.type) = some t ∧ w.var? P n = some cs ∧ DataW.trod (fun _ => ()) P w 0 (fun _ => true) false fuel t cs.toList = some (d, p)
 | [], _, _, hm => by cases hm
 | (n', d') :: r, ps, h, hm => by
  obtain ⟨g, t, cs, fuel, p, q, h1, h2, h3, h4, h5, _⟩ := h
  rcases List.mem_cons.1 hm with e | hm
  ·cases e
   exact ⟨g, t, cs, fuel, p, h1, h2, h3, h4⟩
  ·exact laid_mem h5 hm
theorem gc_of_var {P : Program} {w : World} {n : String} {g : Nat} {cs : Array Value} (hg : P.globalNamed n = some g) (h : w.var? P n = some cs) : GC w g = some cs ∧ g < w.heap.size := by
 unfold World.var? at h
 rw [hg] at h
 refine ⟨h, ?_⟩
 rcases Nat.lt_or_ge g w.heap.size with h1 | h1
 ·exact h1
 ·simp [h1] at h
/-- A table. -/
theorem gc_tab {P : Program} {w : World} {l : List (String × DataW Unit)} {n : String} {k : IntKind} {zs : List Int} {g : Nat} {t e : TypeId} {m : Nat} (h : laidMet P l w) (hm : (n, Lib.tabData k zs) ∈ l)
  (hg : P.globalNamed n = some g) (hty : (P.globals[g]?).map (·.type) = some t) (ht : P.underlying t = some (.array m e)) (he : P.underlying e = some (.int k)) (hce : P.cellsOf e = 1) (hct : P.cellsOf t = m) :
  GC w g = some (zs.map fun z => Value.int k z).toArray ∧ g < w.heap.size := by
 obtain ⟨ps, hv, _⟩ := h
 obtain ⟨g', t', cs, fuel, p, h1, h2, h3, h4⟩ := laid_mem hv hm
 obtain rfl := Option.some.inj (hg.symm.trans h1)
 obtain rfl := Option.some.inj (hty.symm.trans h2)
 have := Lib.cells_of_tab ht he hce hct h4
 rw [← this]
 exact gc_of_var hg h3
/-- A variable of an interface's type that is not nil. -/
theorem gc_iface {P : Program} {w : World} {l : List (String × DataW Unit)} {n nm : String} {d : DataW Unit} {g : Nat} {t : TypeId} {ms : Array (String × TypeId)} (h : laidMet P l w) (hm : (n, DataW.iface nm d) ∈ l)
  (hg : P.globalNamed n = some g) (hty : (P.globals[g]?).map (·.type) = some t) (ht : P.underlying t = some (.interface ms)) :
  (∃ tp p, GC w g = some #[.iface tp p]) ∧ g < w.heap.size := by
 obtain ⟨ps, hv, _⟩ := h
 obtain ⟨g', t', cs, fuel, p, h1, h2, h3, h4⟩ := laid_mem hv hm
 obtain rfl := Option.some.inj (hg.symm.trans h1)
 obtain rfl := Option.some.inj (hty.symm.trans h2)
 obtain ⟨_, u, v, e, _⟩ := iface_of_trod ht h4
 have e2 : cs = #[.iface u v] := Array.toList_inj.1 e
 subst e2
 exact ⟨⟨u, v, (gc_of_var hg h3).1⟩, (gc_of_var hg h3).2⟩
end Go.Proofs.YtonolfpnidaflaaGreatDoor.E

namespace Go.Proofs.YtonolfpnidaflaaGreatDoor.E
open Go Go.ChangeShapes
set_option linter.unusedSimpArgs false
set_option linter.unusedVariables false
set_option linter.unusedSectionVars false
set_option maxRecDepth 20000
section
variable {H : Type} {enc : TypeId × Value → H}
/-- The witness. -/
theorem witness_row {C : Checked} {os : Os} {f : FuncId} {fn : Func} {s : OpenSpec} {conds : List PathCond} {apart : Bool} {laid : List (String × DataW Unit)} (modest : Bool) (w0 : World) (args : Array Value) (hos : w0.os = os)
  (hsh : (w0.forCall (fun _ _ => 0) ⟨#[], args, []⟩).Shaped C.prog) (hok : Input.okWideB C.prog (w0.forCall (fun _ _ => 0) ⟨#[], args, []⟩) f ⟨#[], args, []⟩ = true)
  (hrow : s.preRow enc C.prog fn conds apart laid (w0.forCall (fun _ _ => 0) ⟨#[], args, []⟩).memory args) :
  ∃ (w : World) (tape : Tape) (i : Input), w.os = os ∧ (w.forCall tape i).Shaped C.prog ∧ i.vars = [] ∧ Input.okWide C.prog (w.forCall tape i) .any w.heap.size f i ∧
   s.preRow enc C.prog fn conds apart laid (w.forCall tape i).memory i.args ∧ ({ modest := modest } : Assume).holds C.prog (lone (Frame.enter C.prog f i.args .normal) [] (w.forCall tape i)) :=
 ⟨w0, fun _ _ => 0, ⟨#[], args, []⟩, hos, hsh, (Input.okWide_of_okWideB (base := 0) hok).1, (Input.okWide_of_okWideB hok).2, hrow, by
  simp only [Assume.holds]
  exact ⟨by simp, by simp, fun _ => Modest.zero, by simp, by simp⟩⟩
/-- A text that was handed in stands in what is read. -/
theorem text_read {P : Program} {w : World} {S : Nat → Prop} {sp : Nat → Bool} {held : Bool} : ∀ {ts : List TypeId} {vs : List Value} {ds : List (DataW H)} {ps : List MemPlace} {xs : List AV}, DataW.TrodAll enc P w 0 sp held ts vs ds ps → RVL w S xs vs →
  ∀ (j : Nat) (t : TypeId) (s : ByteArray), ts[j]? = some t → P.underlying t = some .string → xs[j]? = some (.val (.string s)) → ds[j]? = some (.lit (.string s.data.toList))
 | [], vs, ds, ps, xs, h, hr, j, t, s, ht, hu, hx => by simp at ht
 | t0 :: ts, vs, ds, ps, xs, h, hr, j, t, s, ht, hu, hx => by
  obtain ⟨v, us, d, ds', p, q, rfl, rfl, rfl, h1, h2⟩ := trodAll_cons h
  cases xs with
  | nil => simp at hx
  | cons x xs =>
   simp only [RVL] at hr
   obtain ⟨v', us', e, h3, h4⟩ := hr
   cases e
   cases j with
   | zero =>
    simp at ht hx
    subst ht hx
    simp only [RV] at h3
    obtain ⟨rfl, _⟩ := h3
    obtain ⟨fuel, h1⟩ := h1
    obtain ⟨s', e1, e2, _⟩ := DataW.trod_string hu h1
    have e3 : s' = s := by simpa [Value.cells] using e1.symm
    rw [e3] at e2
    exact congrArg some (Prod.mk.inj e2).1
   | succ j =>
    simp at ht hx ⊢
    exact text_read h2 h4 j t s ht hu hx
theorem lift_row {C : Checked} {os : Os} {f : FuncId} {fn : Func} {s : OpenSpec} {F : Stop.Interp} {laid : List (String × DataW Unit)} {l : List Sh} {tb : TypeId} (own : ownKnob C.prog.godebug = none) (started : os.Started) (noInit : C.prog.inits.idxOf? f = none) (hfn : C.prog.funcs[f]? = some fn)
  (witness : ∃ (w : World) (tape : Tape) (i : Input), w.os = os ∧ (w.forCall tape i).Shaped C.prog ∧ i.vars = [] ∧ Input.okWide C.prog (w.forCall tape i) .any w.heap.size f i ∧
   s.preRow enc C.prog fn [] false laid (w.forCall tape i).memory i.args ∧ Assume.holds {} C.prog (lone (Frame.enter C.prog f i.args .normal) [] (w.forCall tape i)))
  (hv : s.vars = []) (hres : fn.resultTypes = #[tb]) (htb : C.prog.underlying tb = some .bool) (hl : laidOutB C.prog = true) (hfit : fitsAll C.prog l fn.params.toList = true)
  (hs : ∀ ds : List (DataW H), ds.length = l.length → s.fn F H ds = { results := [.lit (.bool true)], args := ds })
  (hok : ∀ (W : World) (args : Array Value) xs, laidMetH C.prog laid W → W.ShapedOpen C.prog → hasAll l xs →
   (∃ ds : List (DataW H), (∀ k, s.cond = some k → k H ds = true) ∧ ∀ (j : Nat) (t : TypeId) (x : ByteArray), fn.params.toList[j]? = some t → C.prog.underlying t = some .string → xs[j]? = some (.val (.string x)) → ds[j]? = some (.lit (.string x.data.toList))) →
   RVL W (old W) xs args.toList → Calls C.prog f args W fun e W' => e = .returned (.bool true) ∧ Go.RowKit.Below W.heap.size W W') :
  ReturnsInHanded {} C os f .any (s.preRow enc C.prog fn [] false laid) ((s.at F).post enc C.prog fn false true false false) := by
 refine returnsInHanded_of_row own started noInit hfn witness ?_
 intro W base args ds gs before hval hW _ hcond _ hL hsh _
 have hW' := hW
 obtain ⟨p, q, hA, hV, rfl, hfz, hnd⟩ := hW
 rw [hv] at hV
 obtain ⟨rfl, rfl⟩ := Go.ChangeShapes.trodVars_none hV
 obtain ⟨xs, hx, hr⟩ := readAll hfit (fun j t v a b => hval j t v (by rw [← Array.getElem?_toList]; exact a) (by rw [← Array.getElem?_toList]; exact b)) hA
 have := hok W args xs hL hsh hx ⟨ds, fun k hk => by have := hcond k hk; rwa [List.append_nil] at this, fun j t x h1 h2 h3 => text_read hA hr j t x h1 h2 h3⟩ hr
 refine this.mono fun e W' hh => ?_
 obtain ⟨he, bel⟩ := hh
 subst he
 have hlen : ds.length = l.length := lenAll hfit hA
 have hs' : (s.at F).fn H ds = { results := [.lit (.bool true)], args := ds } := hs ds hlen
 have hv' : (s.at F).vars = [] := hv
 refine ⟨_, rfl, ds, [], _, [], p, [], hW', ?_, ?_, ?_, bel.frame _, fun h => by cases h⟩
 ·rw [hres, List.append_nil, hs']
  exact trodAll_mk1 (Go.RowKit.shut_bool htb _)
 ·rw [List.append_nil, hs']
  exact keepAll hl bel hfit hA
 ·rw [List.append_nil, hs', hv']
  exact rfl
theorem bulk_mem {d : DataW H} : ∀ {ds : List (DataW H)}, d ∈ ds → Rows.uptoBulk d ≤ Rows.uptoBulkAll ds
 | [], h => by cases h
 | x :: ds, h => by
  rw [Rows.uptoBulkAll]
  rcases List.mem_cons.1 h with rfl | h
  ·omega
  ·have := bulk_mem h; omega
theorem small_text {ds : List (DataW H)} {j : Nat} {x : ByteArray} (h : Rows.uptoSmall H ds = true) (hx : ds[j]? = some (.lit (.string x.data.toList))) : x.size ≤ 1048576 := by
 have h1 := of_decide_eq_true (show decide (Rows.uptoBulkAll ds ≤ 1048576) = true from h)
 have h2 := bulk_mem (List.mem_of_getElem? hx)
 rw [Rows.uptoBulk] at h2
 have h3 : x.size = x.data.toList.length := (Array.length_toList (xs := x.data)).symm
 omega
end
end Go.Proofs.YtonolfpnidaflaaGreatDoor.E

namespace Go.Proofs.YtonolfpnidaflaaGreatDoor.E
open Go
set_option linter.unusedSimpArgs false
set_option linter.unusedVariables false
set_option linter.unusedSectionVars false
set_option maxRecDepth 20000
theorem ePow : (Rows.laid_internal_strconv_uint64pow10 : DataW Unit) = Lib.tabData .u64 Lib.pow10Tab := by kernel_rfl
theorem gl_txt {w : World} {l : List (String × DataW Unit)} (hp : (l.all fun x => x.2.handleName?.isNone) = true) (h1 : ("internal/strconv.uint64pow10", Rows.laid_internal_strconv_uint64pow10) ∈ l) (h2 : ("strconv.ErrSyntax", Rows.laid_strconv_ErrSyntax) ∈ l)
  (h3 : ("strconv.ErrRange", Rows.laid_strconv_ErrRange) ∈ l) (h : laidMetH Tryz.prog l w) (hs : w.ShapedOpen Tryz.prog) : Gl w (old w) := by
 rw [MakeChecks.laidMetH_plain _ _ _ hp] at h
 rw [ePow] at h1
 obtain ⟨a1, a2⟩ := gc_tab (g := 3) (t := 235) (e := 127) (m := 20) h h1 (by kernel_rfl) (by kernel_rfl) (by kernel_rfl) (by kernel_rfl) (by kernel_rfl) (by kernel_rfl)
 obtain ⟨b1, b2⟩ := gc_iface (g := 1) (t := 116) h h2 (by kernel_rfl) (by kernel_rfl) Tryz.underlying116
 obtain ⟨c1, c2⟩ := gc_iface (g := 2) (t := 116) h h3 (by kernel_rfl) (by kernel_rfl) Tryz.underlying116
 obtain ⟨m, hm⟩ := cell_of_shapedOpen_int (P := Tryz.prog) (g := 0) (zero := #[.int .i64 0]) (t := 3) hs (of_decide_eq_true (by kernel_rfl)) (by kernel_rfl) rfl (by kernel_rfl) (by kernel_rfl) Tryz.underlying3
 have d : ∃ cs, GC w 0 = some cs ∧ cs[0]? = some (.int .i64 m) := by
  unfold World.cell? at hm
  unfold GC
  split at hm
  ·rename_i cs _ _ e
   simp only at e
   rw [e]
   exact ⟨_, rfl, by simpa using hm⟩
  ·cases hm
 obtain ⟨cs, d1, d2⟩ := d
 have d3 : 0 < w.heap.size := by
  rcases Nat.lt_or_ge 0 w.heap.size with h1 | h1
  ·exact h1
  ·simp [World.cell?, h1] at hm
 refine ⟨fun b hb => ?_, ?_⟩
 ·simp only [GB, List.mem_cons, List.not_mem_nil, or_false] at hb
  rcases hb with rfl | rfl | rfl | rfl
  ·exact d3
  ·exact b2
  ·exact c2
  ·exact a2
 ·unfold GP GB
  have e : ∀ g, g ∈ [0, 1, 2, 3] → (fun b => if b ∈ [0, 1, 2, 3] then GC w b else none) g = GC w g := fun g hm => if_pos hm
  rw [e 3 (by decide), e 1 (by decide), e 2 (by decide), e 0 (by decide)]
  exact ⟨a1, b1, c1, cs, m, d1, d2⟩
end Go.Proofs.YtonolfpnidaflaaGreatDoor.E
