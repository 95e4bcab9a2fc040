/-
  No cell of these rows narrows 'for every input' (looked for: loops, veiled, ifaces, maps, wideKeys, modest, calm, conditions, laid).
  DERIVED. THE GIVEN ROWS OF THIS SEAT. 6 by the template 'for every input the law returns true; each argument reads behind the call as it read before'; 0 by the template 'total and deterministic' (their statements: YthpfjigkhbabnacTotals.lean).
  GIVEN WITH THE SEED: the statements are not yours to turn. If you find one false, say at which input.
  Laid BY PROGRAM, IN A SANDBOX (cutbox-rows.mjs): the forced cells as the released guide's own fill.sh prints them over the translation 530fe6cacb488921… (all of the seat's roots in one cut). By AI agents, Wed Nov 11 2026. No macro, syntax, notation, axiom, sorry.
-/
import Derived.Test.YthpfjigkhbabnacChecked
import GoSem.Claim
import GoSem.ClaimJoined
import GoSem.ClaimMapViews
import Derived.JoinedTies
import Derived.KernelRfl
namespace Go.Proofs.Ythpfjigkhbabnac
/- THE CELL 'sum', in the pinned program and in every row, IS THE sha256 OF THE DUMP (.gsa) THAT YthpfjigkhbabnacProg.lean LOADS. Nothing in Lean hashes anything: it is a label: what it is worth is what the hold of that sum in a sandbox is worth. -/
noncomputable def Try.pinned : Pinned := { name := "ythpfjigkhbabnac", sum := "530fe6cacb488921d18f3eb8da600b37fa19a2fcf321e4ea018bffa39830c459", checked := Try.checked }
namespace Rows
def none {H : Type} : Left H := { results := [], args := [] }

/-- 'wykeep.RuleParts': WHATEVER THE INPUT: true; the input reads as it did. -/
def rulePartsSpec : ChangeSpec := { name := "ruleParts", fn := fun _ => fun
  | [d1, d2, d3, d4, d5] => { results := [.lit (.bool true)], args := [d1, d2, d3, d4, d5] }
  | _ => none }
def rulePartsRow : OpenClaim := { program := "ythpfjigkhbabnac", sum := "530fe6cacb488921d18f3eb8da600b37fa19a2fcf321e4ea018bffa39830c459", func := "withy/wykeep.RuleParts", spec := "ruleParts", apart := false }
def RulePartsSaid : Prop := rulePartsRow.holds Try.pinned (OpenSpec.ofChange rulePartsSpec)

/-- ITS FALSE NEIGHBOUR: 'it returns false'. Refute it at one input. -/
def rulePartsWrong : ChangeSpec := { name := "ruleParts", fn := fun _ => fun
  | [d1, d2, d3, d4, d5] => { results := [.lit (.bool false)], args := [d1, d2, d3, d4, d5] }
  | _ => none }
def RulePartsWrongFalsely : Prop := rulePartsRow.holds Try.pinned (OpenSpec.ofChange rulePartsWrong)

/-- 'wykeep.RuleRoles': WHATEVER THE INPUT: true; the input reads as it did. -/
def ruleRolesSpec : ChangeSpec := { name := "ruleRoles", fn := fun _ => fun
  | [d1, d2, d3, d4, d5, d6] => { results := [.lit (.bool true)], args := [d1, d2, d3, d4, d5, d6] }
  | _ => none }
def ruleRolesRow : OpenClaim := { program := "ythpfjigkhbabnac", sum := "530fe6cacb488921d18f3eb8da600b37fa19a2fcf321e4ea018bffa39830c459", func := "withy/wykeep.RuleRoles", spec := "ruleRoles", apart := false }
def RuleRolesSaid : Prop := ruleRolesRow.holds Try.pinned (OpenSpec.ofChange ruleRolesSpec)

/-- ITS FALSE NEIGHBOUR: 'it returns false'. Refute it at one input. -/
def ruleRolesWrong : ChangeSpec := { name := "ruleRoles", fn := fun _ => fun
  | [d1, d2, d3, d4, d5, d6] => { results := [.lit (.bool false)], args := [d1, d2, d3, d4, d5, d6] }
  | _ => none }
def RuleRolesWrongFalsely : Prop := ruleRolesRow.holds Try.pinned (OpenSpec.ofChange ruleRolesWrong)

/-- 'wykeep.RuleMore': WHATEVER THE INPUT: true; the input reads as it did. -/
def ruleMoreSpec : ChangeSpec := { name := "ruleMore", fn := fun _ => fun
  | [d1, d2, d3, d4, d5] => { results := [.lit (.bool true)], args := [d1, d2, d3, d4, d5] }
  | _ => none }
def ruleMoreRow : OpenClaim := { program := "ythpfjigkhbabnac", sum := "530fe6cacb488921d18f3eb8da600b37fa19a2fcf321e4ea018bffa39830c459", func := "withy/wykeep.RuleMore", spec := "ruleMore", apart := false }
def RuleMoreSaid : Prop := ruleMoreRow.holds Try.pinned (OpenSpec.ofChange ruleMoreSpec)

/-- ITS FALSE NEIGHBOUR: 'it returns false'. Refute it at one input. -/
def ruleMoreWrong : ChangeSpec := { name := "ruleMore", fn := fun _ => fun
  | [d1, d2, d3, d4, d5] => { results := [.lit (.bool false)], args := [d1, d2, d3, d4, d5] }
  | _ => none }
def RuleMoreWrongFalsely : Prop := ruleMoreRow.holds Try.pinned (OpenSpec.ofChange ruleMoreWrong)

/-- 'wykeep.StoreFull': WHATEVER THE INPUT: true; the input reads as it did. -/
def storeFullSpec : ChangeSpec := { name := "storeFull", fn := fun _ => fun
  | [d1, d2, d3, d4] => { results := [.lit (.bool true)], args := [d1, d2, d3, d4] }
  | _ => none }
def storeFullRow : OpenClaim := { program := "ythpfjigkhbabnac", sum := "530fe6cacb488921d18f3eb8da600b37fa19a2fcf321e4ea018bffa39830c459", func := "withy/wykeep.StoreFull", spec := "storeFull", apart := false }
def StoreFullSaid : Prop := storeFullRow.holds Try.pinned (OpenSpec.ofChange storeFullSpec)

/-- ITS FALSE NEIGHBOUR: 'it returns false'. Refute it at one input. -/
def storeFullWrong : ChangeSpec := { name := "storeFull", fn := fun _ => fun
  | [d1, d2, d3, d4] => { results := [.lit (.bool false)], args := [d1, d2, d3, d4] }
  | _ => none }
def StoreFullWrongFalsely : Prop := storeFullRow.holds Try.pinned (OpenSpec.ofChange storeFullWrong)

/-- 'wytop.TopLabels': WHATEVER THE INPUT: true; the input reads as it did. -/
def topLabelsSpec : ChangeSpec := { name := "topLabels", fn := fun _ => fun
  | [d1, d2, d3, d4] => { results := [.lit (.bool true)], args := [d1, d2, d3, d4] }
  | _ => none }
def topLabelsRow : OpenClaim := { program := "ythpfjigkhbabnac", sum := "530fe6cacb488921d18f3eb8da600b37fa19a2fcf321e4ea018bffa39830c459", func := "withy/wytop.TopLabels", spec := "topLabels", unfollowed := true, recurses := true, apart := false }
def TopLabelsSaid : Prop := topLabelsRow.holds Try.pinned (OpenSpec.ofChange topLabelsSpec)

/-- ITS FALSE NEIGHBOUR: 'it returns false'. Refute it at one input. -/
def topLabelsWrong : ChangeSpec := { name := "topLabels", fn := fun _ => fun
  | [d1, d2, d3, d4] => { results := [.lit (.bool false)], args := [d1, d2, d3, d4] }
  | _ => none }
def TopLabelsWrongFalsely : Prop := topLabelsRow.holds Try.pinned (OpenSpec.ofChange topLabelsWrong)

/-- 'wykeep.RecordSets': WHATEVER THE INPUT: true; the input reads as it did. -/
def recordSetsSpec : ChangeSpec := { name := "recordSets", fn := fun _ => fun
  | [d1, d2, d3] => { results := [.lit (.bool true)], args := [d1, d2, d3] }
  | _ => none }
def recordSetsRow : OpenClaim := { program := "ythpfjigkhbabnac", sum := "530fe6cacb488921d18f3eb8da600b37fa19a2fcf321e4ea018bffa39830c459", func := "withy/wykeep.RecordSets", spec := "recordSets", inPlace := ["internal/bytealg.abigen_runtime_cmpstring", "slices.overlaps[withy/api.Field]"], unfollowed := true, recurses := true, apart := false }
def RecordSetsSaid : Prop := recordSetsRow.holds Try.pinned (OpenSpec.ofChange recordSetsSpec)

/-- ITS FALSE NEIGHBOUR: 'it returns false'. Refute it at one input. -/
def recordSetsWrong : ChangeSpec := { name := "recordSets", fn := fun _ => fun
  | [d1, d2, d3] => { results := [.lit (.bool false)], args := [d1, d2, d3] }
  | _ => none }
def RecordSetsWrongFalsely : Prop := recordSetsRow.holds Try.pinned (OpenSpec.ofChange recordSetsWrong)

/- THE SECOND FORM. 'bulk': how many values and letters a reading holds, each counted each time it is reached (what is shared counts as often as it is met; a slice's spare places count too). A statement '..UptoSaid' is the law's where the arguments, and the package variables that the reading takes, are together of bulk at most 1048576: NARROWER than '..Said'. Prove '..Said' where nothing that the law and all that it calls make is longer than what came in: it says more and counts as full. Else prove '..UptoSaid'. A law counts once. -/
mutual
def uptoBulk {H : Type} : DataW H → Nat
  | .lit (.string bytes) => bytes.length + 1
  | .lit _ => 1
  | .nil => 1
  | .ptr d => uptoBulk d + 1
  | .slice elems spare => uptoBulkAll elems + uptoBulkAll spare + 1
  | .agg parts => uptoBulkAll parts + 1
  | .iface _ d => uptoBulk d + 1
  | .map entries => uptoBulkEntries entries + 1
  | .held _ => 1
def uptoBulkAll {H : Type} : List (DataW H) → Nat
  | [] => 0
  | d :: r => uptoBulk d + uptoBulkAll r
def uptoBulkEntries {H : Type} : List (Lit × DataW H) → Nat
  | [] => 0
  | x :: r => uptoBulkEntry x + uptoBulkEntries r
def uptoBulkEntry {H : Type} : Lit × DataW H → Nat
  | (.string bytes, d) => bytes.length + uptoBulk d + 1
  | (_, d) => uptoBulk d + 1
 end
def uptoSmall : (H : Type) → List (DataW H) → Bool := fun _ ds => decide (uptoBulkAll ds ≤ 1048576)
def OpenSpec.upto (s : _root_.Go.ChangeSpec) : _root_.Go.OpenSpec := { _root_.Go.OpenSpec.ofChange s with cond := some uptoSmall }

/-- 'wykeep.RuleParts', WHERE WHAT IT READS IS OF BULK AT MOST 1048576: true; the input reads as it did. -/
def rulePartsUptoRow : OpenClaim := { program := "ythpfjigkhbabnac", sum := "530fe6cacb488921d18f3eb8da600b37fa19a2fcf321e4ea018bffa39830c459", func := "withy/wykeep.RuleParts", spec := "ruleParts", apart := false, narrowed := true }
def RulePartsUptoSaid : Prop := rulePartsUptoRow.holds Try.pinned (OpenSpec.upto rulePartsSpec)

/-- 'wykeep.RuleRoles', WHERE WHAT IT READS IS OF BULK AT MOST 1048576: true; the input reads as it did. -/
def ruleRolesUptoRow : OpenClaim := { program := "ythpfjigkhbabnac", sum := "530fe6cacb488921d18f3eb8da600b37fa19a2fcf321e4ea018bffa39830c459", func := "withy/wykeep.RuleRoles", spec := "ruleRoles", apart := false, narrowed := true }
def RuleRolesUptoSaid : Prop := ruleRolesUptoRow.holds Try.pinned (OpenSpec.upto ruleRolesSpec)

/-- 'wykeep.RuleMore', WHERE WHAT IT READS IS OF BULK AT MOST 1048576: true; the input reads as it did. -/
def ruleMoreUptoRow : OpenClaim := { program := "ythpfjigkhbabnac", sum := "530fe6cacb488921d18f3eb8da600b37fa19a2fcf321e4ea018bffa39830c459", func := "withy/wykeep.RuleMore", spec := "ruleMore", apart := false, narrowed := true }
def RuleMoreUptoSaid : Prop := ruleMoreUptoRow.holds Try.pinned (OpenSpec.upto ruleMoreSpec)

/-- 'wykeep.StoreFull', WHERE WHAT IT READS IS OF BULK AT MOST 1048576: true; the input reads as it did. -/
def storeFullUptoRow : OpenClaim := { program := "ythpfjigkhbabnac", sum := "530fe6cacb488921d18f3eb8da600b37fa19a2fcf321e4ea018bffa39830c459", func := "withy/wykeep.StoreFull", spec := "storeFull", apart := false, narrowed := true }
def StoreFullUptoSaid : Prop := storeFullUptoRow.holds Try.pinned (OpenSpec.upto storeFullSpec)

/-- 'wytop.TopLabels', WHERE WHAT IT READS IS OF BULK AT MOST 1048576: true; the input reads as it did. -/
def topLabelsUptoRow : OpenClaim := { program := "ythpfjigkhbabnac", sum := "530fe6cacb488921d18f3eb8da600b37fa19a2fcf321e4ea018bffa39830c459", func := "withy/wytop.TopLabels", spec := "topLabels", unfollowed := true, recurses := true, apart := false, narrowed := true }
def TopLabelsUptoSaid : Prop := topLabelsUptoRow.holds Try.pinned (OpenSpec.upto topLabelsSpec)

/-- 'wykeep.RecordSets', WHERE WHAT IT READS IS OF BULK AT MOST 1048576: true; the input reads as it did. -/
def recordSetsUptoRow : OpenClaim := { program := "ythpfjigkhbabnac", sum := "530fe6cacb488921d18f3eb8da600b37fa19a2fcf321e4ea018bffa39830c459", func := "withy/wykeep.RecordSets", spec := "recordSets", inPlace := ["internal/bytealg.abigen_runtime_cmpstring", "slices.overlaps[withy/api.Field]"], unfollowed := true, recurses := true, apart := false, narrowed := true }
def RecordSetsUptoSaid : Prop := recordSetsUptoRow.holds Try.pinned (OpenSpec.upto recordSetsSpec)

end Rows
end Go.Proofs.Ythpfjigkhbabnac
