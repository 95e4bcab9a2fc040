/-
  No cell of these rows narrows 'for every input' (looked for: loops, veiled, ifaces, maps, wideKeys, modest, calm, conditions, laid).
  DERIVED. THE GIVEN ROWS OF THIS SEAT. 6 by the template 'for every input the law returns true; each argument reads behind the call as it read before'; 0 by the template 'total and deterministic' (their statements: YthpfjigkhbabnaaTotals.lean).
  GIVEN WITH THE SEED: the statements are not yours to turn. If you find one false, say at which input.
  Laid BY PROGRAM, IN A SANDBOX (cutbox-rows.mjs): the forced cells as the released guide's own fill.sh prints them over the translation f93003ac9930a078… (all of the seat's roots in one cut). By AI agents, Wed Nov 11 2026. No macro, syntax, notation, axiom, sorry.
-/
import Derived.Test.YthpfjigkhbabnaaChecked
import GoSem.Claim
import GoSem.ClaimJoined
import GoSem.ClaimMapViews
import Derived.JoinedTies
import Derived.KernelRfl
namespace Go.Proofs.Ythpfjigkhbabnaa
/- THE CELL 'sum', in the pinned program and in every row, IS THE sha256 OF THE DUMP (.gsa) THAT YthpfjigkhbabnaaProg.lean LOADS. Nothing in Lean hashes anything: it is a label: what it is worth is what the hold of that sum in a sandbox is worth. -/
noncomputable def Try.pinned : Pinned := { name := "ythpfjigkhbabnaa", sum := "f93003ac9930a07805239afd165374b40d4a6b4f43dbe1a78be189f28d8925d2", checked := Try.checked }
namespace Rows
def none {H : Type} : Left H := { results := [], args := [] }

/-- 'wykeep.LabelLattice': WHATEVER THE INPUT: true; the input reads as it did. -/
def labelLatticeSpec : ChangeSpec := { name := "labelLattice", fn := fun _ => fun
  | [d1, d2, d3] => { results := [.lit (.bool true)], args := [d1, d2, d3] }
  | _ => none }
def labelLatticeRow : OpenClaim := { program := "ythpfjigkhbabnaa", sum := "f93003ac9930a07805239afd165374b40d4a6b4f43dbe1a78be189f28d8925d2", func := "withy/wykeep.LabelLattice", spec := "labelLattice", apart := false }
def LabelLatticeSaid : Prop := labelLatticeRow.holds Try.pinned (OpenSpec.ofChange labelLatticeSpec)

/-- ITS FALSE NEIGHBOUR: 'it returns false'. Refute it at one input. -/
def labelLatticeWrong : ChangeSpec := { name := "labelLattice", fn := fun _ => fun
  | [d1, d2, d3] => { results := [.lit (.bool false)], args := [d1, d2, d3] }
  | _ => none }
def LabelLatticeWrongFalsely : Prop := labelLatticeRow.holds Try.pinned (OpenSpec.ofChange labelLatticeWrong)

/-- 'wykeep.LabelModular': WHATEVER THE INPUT: true; the input reads as it did. -/
def labelModularSpec : ChangeSpec := { name := "labelModular", fn := fun _ => fun
  | [d1, d2, d3] => { results := [.lit (.bool true)], args := [d1, d2, d3] }
  | _ => none }
def labelModularRow : OpenClaim := { program := "ythpfjigkhbabnaa", sum := "f93003ac9930a07805239afd165374b40d4a6b4f43dbe1a78be189f28d8925d2", func := "withy/wykeep.LabelModular", spec := "labelModular", apart := false }
def LabelModularSaid : Prop := labelModularRow.holds Try.pinned (OpenSpec.ofChange labelModularSpec)

/-- ITS FALSE NEIGHBOUR: 'it returns false'. Refute it at one input. -/
def labelModularWrong : ChangeSpec := { name := "labelModular", fn := fun _ => fun
  | [d1, d2, d3] => { results := [.lit (.bool false)], args := [d1, d2, d3] }
  | _ => none }
def LabelModularWrongFalsely : Prop := labelModularRow.holds Try.pinned (OpenSpec.ofChange labelModularWrong)

/-- 'wykeep.RoleUnion': WHATEVER THE INPUT: true; the input reads as it did. -/
def roleUnionSpec : ChangeSpec := { name := "roleUnion", fn := fun _ => fun
  | [d1, d2] => { results := [.lit (.bool true)], args := [d1, d2] }
  | _ => none }
def roleUnionRow : OpenClaim := { program := "ythpfjigkhbabnaa", sum := "f93003ac9930a07805239afd165374b40d4a6b4f43dbe1a78be189f28d8925d2", func := "withy/wykeep.RoleUnion", spec := "roleUnion", apart := false }
def RoleUnionSaid : Prop := roleUnionRow.holds Try.pinned (OpenSpec.ofChange roleUnionSpec)

/-- ITS FALSE NEIGHBOUR: 'it returns false'. Refute it at one input. -/
def roleUnionWrong : ChangeSpec := { name := "roleUnion", fn := fun _ => fun
  | [d1, d2] => { results := [.lit (.bool false)], args := [d1, d2] }
  | _ => none }
def RoleUnionWrongFalsely : Prop := roleUnionRow.holds Try.pinned (OpenSpec.ofChange roleUnionWrong)

/-- 'wykeep.LabelGalois': WHATEVER THE INPUT: true; the input reads as it did. -/
def labelGaloisSpec : ChangeSpec := { name := "labelGalois", fn := fun _ => fun
  | [d1, d2, d3] => { results := [.lit (.bool true)], args := [d1, d2, d3] }
  | _ => none }
def labelGaloisRow : OpenClaim := { program := "ythpfjigkhbabnaa", sum := "f93003ac9930a07805239afd165374b40d4a6b4f43dbe1a78be189f28d8925d2", func := "withy/wykeep.LabelGalois", spec := "labelGalois", apart := false }
def LabelGaloisSaid : Prop := labelGaloisRow.holds Try.pinned (OpenSpec.ofChange labelGaloisSpec)

/-- ITS FALSE NEIGHBOUR: 'it returns false'. Refute it at one input. -/
def labelGaloisWrong : ChangeSpec := { name := "labelGalois", fn := fun _ => fun
  | [d1, d2, d3] => { results := [.lit (.bool false)], args := [d1, d2, d3] }
  | _ => none }
def LabelGaloisWrongFalsely : Prop := labelGaloisRow.holds Try.pinned (OpenSpec.ofChange labelGaloisWrong)

/-- 'wykeep.LabelGrows': WHATEVER THE INPUT: true; the input reads as it did. -/
def labelGrowsSpec : ChangeSpec := { name := "labelGrows", fn := fun _ => fun
  | [d1, d2, d3] => { results := [.lit (.bool true)], args := [d1, d2, d3] }
  | _ => none }
def labelGrowsRow : OpenClaim := { program := "ythpfjigkhbabnaa", sum := "f93003ac9930a07805239afd165374b40d4a6b4f43dbe1a78be189f28d8925d2", func := "withy/wykeep.LabelGrows", spec := "labelGrows", apart := false }
def LabelGrowsSaid : Prop := labelGrowsRow.holds Try.pinned (OpenSpec.ofChange labelGrowsSpec)

/-- ITS FALSE NEIGHBOUR: 'it returns false'. Refute it at one input. -/
def labelGrowsWrong : ChangeSpec := { name := "labelGrows", fn := fun _ => fun
  | [d1, d2, d3] => { results := [.lit (.bool false)], args := [d1, d2, d3] }
  | _ => none }
def LabelGrowsWrongFalsely : Prop := labelGrowsRow.holds Try.pinned (OpenSpec.ofChange labelGrowsWrong)

/-- 'wykeep.RoleMore': WHATEVER THE INPUT: true; the input reads as it did. -/
def roleMoreSpec : ChangeSpec := { name := "roleMore", fn := fun _ => fun
  | [d1, d2, d3] => { results := [.lit (.bool true)], args := [d1, d2, d3] }
  | _ => none }
def roleMoreRow : OpenClaim := { program := "ythpfjigkhbabnaa", sum := "f93003ac9930a07805239afd165374b40d4a6b4f43dbe1a78be189f28d8925d2", func := "withy/wykeep.RoleMore", spec := "roleMore", apart := false }
def RoleMoreSaid : Prop := roleMoreRow.holds Try.pinned (OpenSpec.ofChange roleMoreSpec)

/-- ITS FALSE NEIGHBOUR: 'it returns false'. Refute it at one input. -/
def roleMoreWrong : ChangeSpec := { name := "roleMore", fn := fun _ => fun
  | [d1, d2, d3] => { results := [.lit (.bool false)], args := [d1, d2, d3] }
  | _ => none }
def RoleMoreWrongFalsely : Prop := roleMoreRow.holds Try.pinned (OpenSpec.ofChange roleMoreWrong)

/- THE SECOND FORM. 'bulk': how many values and letters a reading holds, each counted each time it is reached (what is shared counts as often as it is met; a slice's spare places count too). A statement '..UptoSaid' is the law's where the arguments, and the package variables that the reading takes, are together of bulk at most 1048576: NARROWER than '..Said'. Prove '..Said' where nothing that the law and all that it calls make is longer than what came in: it says more and counts as full. Else prove '..UptoSaid'. A law counts once. -/
mutual
def uptoBulk {H : Type} : DataW H → Nat
  | .lit (.string bytes) => bytes.length + 1
  | .lit _ => 1
  | .nil => 1
  | .ptr d => uptoBulk d + 1
  | .slice elems spare => uptoBulkAll elems + uptoBulkAll spare + 1
  | .agg parts => uptoBulkAll parts + 1
  | .iface _ d => uptoBulk d + 1
  | .map entries => uptoBulkEntries entries + 1
  | .held _ => 1
def uptoBulkAll {H : Type} : List (DataW H) → Nat
  | [] => 0
  | d :: r => uptoBulk d + uptoBulkAll r
def uptoBulkEntries {H : Type} : List (Lit × DataW H) → Nat
  | [] => 0
  | x :: r => uptoBulkEntry x + uptoBulkEntries r
def uptoBulkEntry {H : Type} : Lit × DataW H → Nat
  | (.string bytes, d) => bytes.length + uptoBulk d + 1
  | (_, d) => uptoBulk d + 1
 end
def uptoSmall : (H : Type) → List (DataW H) → Bool := fun _ ds => decide (uptoBulkAll ds ≤ 1048576)
def OpenSpec.upto (s : _root_.Go.ChangeSpec) : _root_.Go.OpenSpec := { _root_.Go.OpenSpec.ofChange s with cond := some uptoSmall }

/-- 'wykeep.LabelLattice', WHERE WHAT IT READS IS OF BULK AT MOST 1048576: true; the input reads as it did. -/
def labelLatticeUptoRow : OpenClaim := { program := "ythpfjigkhbabnaa", sum := "f93003ac9930a07805239afd165374b40d4a6b4f43dbe1a78be189f28d8925d2", func := "withy/wykeep.LabelLattice", spec := "labelLattice", apart := false, narrowed := true }
def LabelLatticeUptoSaid : Prop := labelLatticeUptoRow.holds Try.pinned (OpenSpec.upto labelLatticeSpec)

/-- 'wykeep.LabelModular', WHERE WHAT IT READS IS OF BULK AT MOST 1048576: true; the input reads as it did. -/
def labelModularUptoRow : OpenClaim := { program := "ythpfjigkhbabnaa", sum := "f93003ac9930a07805239afd165374b40d4a6b4f43dbe1a78be189f28d8925d2", func := "withy/wykeep.LabelModular", spec := "labelModular", apart := false, narrowed := true }
def LabelModularUptoSaid : Prop := labelModularUptoRow.holds Try.pinned (OpenSpec.upto labelModularSpec)

/-- 'wykeep.RoleUnion', WHERE WHAT IT READS IS OF BULK AT MOST 1048576: true; the input reads as it did. -/
def roleUnionUptoRow : OpenClaim := { program := "ythpfjigkhbabnaa", sum := "f93003ac9930a07805239afd165374b40d4a6b4f43dbe1a78be189f28d8925d2", func := "withy/wykeep.RoleUnion", spec := "roleUnion", apart := false, narrowed := true }
def RoleUnionUptoSaid : Prop := roleUnionUptoRow.holds Try.pinned (OpenSpec.upto roleUnionSpec)

/-- 'wykeep.LabelGalois', WHERE WHAT IT READS IS OF BULK AT MOST 1048576: true; the input reads as it did. -/
def labelGaloisUptoRow : OpenClaim := { program := "ythpfjigkhbabnaa", sum := "f93003ac9930a07805239afd165374b40d4a6b4f43dbe1a78be189f28d8925d2", func := "withy/wykeep.LabelGalois", spec := "labelGalois", apart := false, narrowed := true }
def LabelGaloisUptoSaid : Prop := labelGaloisUptoRow.holds Try.pinned (OpenSpec.upto labelGaloisSpec)

/-- 'wykeep.LabelGrows', WHERE WHAT IT READS IS OF BULK AT MOST 1048576: true; the input reads as it did. -/
def labelGrowsUptoRow : OpenClaim := { program := "ythpfjigkhbabnaa", sum := "f93003ac9930a07805239afd165374b40d4a6b4f43dbe1a78be189f28d8925d2", func := "withy/wykeep.LabelGrows", spec := "labelGrows", apart := false, narrowed := true }
def LabelGrowsUptoSaid : Prop := labelGrowsUptoRow.holds Try.pinned (OpenSpec.upto labelGrowsSpec)

/-- 'wykeep.RoleMore', WHERE WHAT IT READS IS OF BULK AT MOST 1048576: true; the input reads as it did. -/
def roleMoreUptoRow : OpenClaim := { program := "ythpfjigkhbabnaa", sum := "f93003ac9930a07805239afd165374b40d4a6b4f43dbe1a78be189f28d8925d2", func := "withy/wykeep.RoleMore", spec := "roleMore", apart := false, narrowed := true }
def RoleMoreUptoSaid : Prop := roleMoreUptoRow.holds Try.pinned (OpenSpec.upto roleMoreSpec)

end Rows
end Go.Proofs.Ythpfjigkhbabnaa
