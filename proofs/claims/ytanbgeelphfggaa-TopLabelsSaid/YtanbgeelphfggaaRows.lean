/-
  No cell of these rows narrows 'for every input' (looked for: loops, veiled, ifaces, maps, wideKeys, modest, calm, conditions, laid).
  DERIVED. THE GIVEN ROWS OF THIS SEAT. 9 by the template 'for every input the law returns true; each argument reads behind the call as it read before'; 0 by the template 'total and deterministic' (their statements: YtanbgeelphfggaaTotals.lean).
  GIVEN WITH THE SEED: the statements are not yours to turn. If you find one false, say at which input.
  Laid BY PROGRAM, IN A SANDBOX (cutbox-rows.mjs): the forced cells as the released guide's own fill.sh prints them over the translation af92520b1264a919… (all of the seat's roots in one cut). By AI agents, Wed Nov 11 2026. No macro, syntax, notation, axiom, sorry.
-/
import Derived.Test.YtanbgeelphfggaaChecked
import GoSem.Claim
import GoSem.ClaimJoined
import GoSem.ClaimMapViews
import Derived.JoinedTies
import Derived.KernelRfl
namespace Go.Proofs.Ytanbgeelphfggaa
/- THE CELL 'sum', in the pinned program and in every row, IS THE sha256 OF THE DUMP (.gsa) THAT YtanbgeelphfggaaProg.lean LOADS. Nothing in Lean hashes anything: it is a label: what it is worth is what the hold of that sum in a sandbox is worth. -/
noncomputable def Try.pinned : Pinned := { name := "ytanbgeelphfggaa", sum := "af92520b1264a919ab4de9b5039729429b25a9f362f4380d3115c8911f2e51ce", checked := Try.checked }
namespace Rows
def none {H : Type} : Left H := { results := [], args := [] }

/-- 'wykeep.RecordGets': WHATEVER THE INPUT: true; the input reads as it did. -/
def recordGetsSpec : ChangeSpec := { name := "recordGets", fn := fun _ => fun
  | [d1, d2] => { results := [.lit (.bool true)], args := [d1, d2] }
  | _ => none }
def recordGetsRow : OpenClaim := { program := "ytanbgeelphfggaa", sum := "af92520b1264a919ab4de9b5039729429b25a9f362f4380d3115c8911f2e51ce", func := "withy/wykeep.RecordGets", spec := "recordGets", apart := false }
def RecordGetsSaid : Prop := recordGetsRow.holds Try.pinned (OpenSpec.ofChange recordGetsSpec)

/-- ITS FALSE NEIGHBOUR: 'it returns false'. Refute it at one input. -/
def recordGetsWrong : ChangeSpec := { name := "recordGets", fn := fun _ => fun
  | [d1, d2] => { results := [.lit (.bool false)], args := [d1, d2] }
  | _ => none }
def RecordGetsWrongFalsely : Prop := recordGetsRow.holds Try.pinned (OpenSpec.ofChange recordGetsWrong)

/-- 'wykeep.RuleParts': WHATEVER THE INPUT: true; the input reads as it did. -/
def rulePartsSpec : ChangeSpec := { name := "ruleParts", fn := fun _ => fun
  | [d1, d2, d3, d4, d5] => { results := [.lit (.bool true)], args := [d1, d2, d3, d4, d5] }
  | _ => none }
def rulePartsRow : OpenClaim := { program := "ytanbgeelphfggaa", sum := "af92520b1264a919ab4de9b5039729429b25a9f362f4380d3115c8911f2e51ce", func := "withy/wykeep.RuleParts", spec := "ruleParts", apart := false }
def RulePartsSaid : Prop := rulePartsRow.holds Try.pinned (OpenSpec.ofChange rulePartsSpec)

/-- ITS FALSE NEIGHBOUR: 'it returns false'. Refute it at one input. -/
def rulePartsWrong : ChangeSpec := { name := "ruleParts", fn := fun _ => fun
  | [d1, d2, d3, d4, d5] => { results := [.lit (.bool false)], args := [d1, d2, d3, d4, d5] }
  | _ => none }
def RulePartsWrongFalsely : Prop := rulePartsRow.holds Try.pinned (OpenSpec.ofChange rulePartsWrong)

/-- 'wykeep.RuleRoles': WHATEVER THE INPUT: true; the input reads as it did. -/
def ruleRolesSpec : ChangeSpec := { name := "ruleRoles", fn := fun _ => fun
  | [d1, d2, d3, d4, d5, d6] => { results := [.lit (.bool true)], args := [d1, d2, d3, d4, d5, d6] }
  | _ => none }
def ruleRolesRow : OpenClaim := { program := "ytanbgeelphfggaa", sum := "af92520b1264a919ab4de9b5039729429b25a9f362f4380d3115c8911f2e51ce", func := "withy/wykeep.RuleRoles", spec := "ruleRoles", apart := false }
def RuleRolesSaid : Prop := ruleRolesRow.holds Try.pinned (OpenSpec.ofChange ruleRolesSpec)

/-- ITS FALSE NEIGHBOUR: 'it returns false'. Refute it at one input. -/
def ruleRolesWrong : ChangeSpec := { name := "ruleRoles", fn := fun _ => fun
  | [d1, d2, d3, d4, d5, d6] => { results := [.lit (.bool false)], args := [d1, d2, d3, d4, d5, d6] }
  | _ => none }
def RuleRolesWrongFalsely : Prop := ruleRolesRow.holds Try.pinned (OpenSpec.ofChange ruleRolesWrong)

/-- 'wykeep.RuleMore': WHATEVER THE INPUT: true; the input reads as it did. -/
def ruleMoreSpec : ChangeSpec := { name := "ruleMore", fn := fun _ => fun
  | [d1, d2, d3, d4, d5] => { results := [.lit (.bool true)], args := [d1, d2, d3, d4, d5] }
  | _ => none }
def ruleMoreRow : OpenClaim := { program := "ytanbgeelphfggaa", sum := "af92520b1264a919ab4de9b5039729429b25a9f362f4380d3115c8911f2e51ce", func := "withy/wykeep.RuleMore", spec := "ruleMore", apart := false }
def RuleMoreSaid : Prop := ruleMoreRow.holds Try.pinned (OpenSpec.ofChange ruleMoreSpec)

/-- ITS FALSE NEIGHBOUR: 'it returns false'. Refute it at one input. -/
def ruleMoreWrong : ChangeSpec := { name := "ruleMore", fn := fun _ => fun
  | [d1, d2, d3, d4, d5] => { results := [.lit (.bool false)], args := [d1, d2, d3, d4, d5] }
  | _ => none }
def RuleMoreWrongFalsely : Prop := ruleMoreRow.holds Try.pinned (OpenSpec.ofChange ruleMoreWrong)

/-- 'wykeep.StoreFull': WHATEVER THE INPUT: true; the input reads as it did. -/
def storeFullSpec : ChangeSpec := { name := "storeFull", fn := fun _ => fun
  | [d1, d2, d3, d4] => { results := [.lit (.bool true)], args := [d1, d2, d3, d4] }
  | _ => none }
def storeFullRow : OpenClaim := { program := "ytanbgeelphfggaa", sum := "af92520b1264a919ab4de9b5039729429b25a9f362f4380d3115c8911f2e51ce", func := "withy/wykeep.StoreFull", spec := "storeFull", apart := false }
def StoreFullSaid : Prop := storeFullRow.holds Try.pinned (OpenSpec.ofChange storeFullSpec)

/-- ITS FALSE NEIGHBOUR: 'it returns false'. Refute it at one input. -/
def storeFullWrong : ChangeSpec := { name := "storeFull", fn := fun _ => fun
  | [d1, d2, d3, d4] => { results := [.lit (.bool false)], args := [d1, d2, d3, d4] }
  | _ => none }
def StoreFullWrongFalsely : Prop := storeFullRow.holds Try.pinned (OpenSpec.ofChange storeFullWrong)

/-- 'wytop.TopLabels': WHATEVER THE INPUT: true; the input reads as it did. -/
def topLabelsSpec : ChangeSpec := { name := "topLabels", fn := fun _ => fun
  | [d1, d2, d3, d4] => { results := [.lit (.bool true)], args := [d1, d2, d3, d4] }
  | _ => none }
def topLabelsRow : OpenClaim := { program := "ytanbgeelphfggaa", sum := "af92520b1264a919ab4de9b5039729429b25a9f362f4380d3115c8911f2e51ce", func := "withy/wytop.TopLabels", spec := "topLabels", unfollowed := true, recurses := true, apart := false }
def TopLabelsSaid : Prop := topLabelsRow.holds Try.pinned (OpenSpec.ofChange topLabelsSpec)

/-- ITS FALSE NEIGHBOUR: 'it returns false'. Refute it at one input. -/
def topLabelsWrong : ChangeSpec := { name := "topLabels", fn := fun _ => fun
  | [d1, d2, d3, d4] => { results := [.lit (.bool false)], args := [d1, d2, d3, d4] }
  | _ => none }
def TopLabelsWrongFalsely : Prop := topLabelsRow.holds Try.pinned (OpenSpec.ofChange topLabelsWrong)

/-- 'wykeep.RecordSets': WHATEVER THE INPUT: true; the input reads as it did. -/
def recordSetsSpec : ChangeSpec := { name := "recordSets", fn := fun _ => fun
  | [d1, d2, d3] => { results := [.lit (.bool true)], args := [d1, d2, d3] }
  | _ => none }
def recordSetsRow : OpenClaim := { program := "ytanbgeelphfggaa", sum := "af92520b1264a919ab4de9b5039729429b25a9f362f4380d3115c8911f2e51ce", func := "withy/wykeep.RecordSets", spec := "recordSets", inPlace := ["internal/bytealg.abigen_runtime_cmpstring", "slices.overlaps[withy/api.Field]"], unfollowed := true, recurses := true, apart := false }
def RecordSetsSaid : Prop := recordSetsRow.holds Try.pinned (OpenSpec.ofChange recordSetsSpec)

/-- ITS FALSE NEIGHBOUR: 'it returns false'. Refute it at one input. -/
def recordSetsWrong : ChangeSpec := { name := "recordSets", fn := fun _ => fun
  | [d1, d2, d3] => { results := [.lit (.bool false)], args := [d1, d2, d3] }
  | _ => none }
def RecordSetsWrongFalsely : Prop := recordSetsRow.holds Try.pinned (OpenSpec.ofChange recordSetsWrong)

/-- 'wykeep.GroupOne': WHATEVER THE INPUT: true; the input reads as it did. -/
def groupOneSpec : ChangeSpec := { name := "groupOne", fn := fun _ => fun
  | [d] => { results := [.lit (.bool true)], args := [d] }
  | _ => none }
def groupOneRow : OpenClaim := { program := "ytanbgeelphfggaa", sum := "af92520b1264a919ab4de9b5039729429b25a9f362f4380d3115c8911f2e51ce", func := "withy/wykeep.GroupOne", spec := "groupOne", unfollowed := true, recurses := true, apart := false }
def GroupOneSaid : Prop := groupOneRow.holds Try.pinned (OpenSpec.ofChange groupOneSpec)

/-- ITS FALSE NEIGHBOUR: 'it returns false'. Refute it at one input. -/
def groupOneWrong : ChangeSpec := { name := "groupOne", fn := fun _ => fun
  | [d] => { results := [.lit (.bool false)], args := [d] }
  | _ => none }
def GroupOneWrongFalsely : Prop := groupOneRow.holds Try.pinned (OpenSpec.ofChange groupOneWrong)

/-- 'wykeep.FindAll': WHATEVER THE INPUT: true; the input reads as it did. -/
def findAllSpec : ChangeSpec := { name := "findAll", fn := fun _ => fun
  | [d1, d2] => { results := [.lit (.bool true)], args := [d1, d2] }
  | _ => none }
def findAllRow : OpenClaim := { program := "ytanbgeelphfggaa", sum := "af92520b1264a919ab4de9b5039729429b25a9f362f4380d3115c8911f2e51ce", func := "withy/wykeep.FindAll", spec := "findAll", unfollowed := true, recurses := true, apart := false }
def FindAllSaid : Prop := findAllRow.holds Try.pinned (OpenSpec.ofChange findAllSpec)

/-- ITS FALSE NEIGHBOUR: 'it returns false'. Refute it at one input. -/
def findAllWrong : ChangeSpec := { name := "findAll", fn := fun _ => fun
  | [d1, d2] => { results := [.lit (.bool false)], args := [d1, d2] }
  | _ => none }
def FindAllWrongFalsely : Prop := findAllRow.holds Try.pinned (OpenSpec.ofChange findAllWrong)

/- THE SECOND FORM. 'bulk': how many values and letters a reading holds, each counted each time it is reached (what is shared counts as often as it is met; a slice's spare places count too). A statement '..UptoSaid' is the law's where the arguments, and the package variables that the reading takes, are together of bulk at most 1048576: NARROWER than '..Said'. Prove '..Said' where nothing that the law and all that it calls make is longer than what came in: it says more and counts as full. Else prove '..UptoSaid'. A law counts once. -/
mutual
def uptoBulk {H : Type} : DataW H → Nat
  | .lit (.string bytes) => bytes.length + 1
  | .lit _ => 1
  | .nil => 1
  | .ptr d => uptoBulk d + 1
  | .slice elems spare => uptoBulkAll elems + uptoBulkAll spare + 1
  | .agg parts => uptoBulkAll parts + 1
  | .iface _ d => uptoBulk d + 1
  | .map entries => uptoBulkEntries entries + 1
  | .held _ => 1
def uptoBulkAll {H : Type} : List (DataW H) → Nat
  | [] => 0
  | d :: r => uptoBulk d + uptoBulkAll r
def uptoBulkEntries {H : Type} : List (Lit × DataW H) → Nat
  | [] => 0
  | x :: r => uptoBulkEntry x + uptoBulkEntries r
def uptoBulkEntry {H : Type} : Lit × DataW H → Nat
  | (.string bytes, d) => bytes.length + uptoBulk d + 1
  | (_, d) => uptoBulk d + 1
 end
def uptoSmall : (H : Type) → List (DataW H) → Bool := fun _ ds => decide (uptoBulkAll ds ≤ 1048576)
def OpenSpec.upto (s : _root_.Go.ChangeSpec) : _root_.Go.OpenSpec := { _root_.Go.OpenSpec.ofChange s with cond := some uptoSmall }

/-- 'wykeep.RecordGets', WHERE WHAT IT READS IS OF BULK AT MOST 1048576: true; the input reads as it did. -/
def recordGetsUptoRow : OpenClaim := { program := "ytanbgeelphfggaa", sum := "af92520b1264a919ab4de9b5039729429b25a9f362f4380d3115c8911f2e51ce", func := "withy/wykeep.RecordGets", spec := "recordGets", apart := false, narrowed := true }
def RecordGetsUptoSaid : Prop := recordGetsUptoRow.holds Try.pinned (OpenSpec.upto recordGetsSpec)

/-- 'wykeep.RuleParts', WHERE WHAT IT READS IS OF BULK AT MOST 1048576: true; the input reads as it did. -/
def rulePartsUptoRow : OpenClaim := { program := "ytanbgeelphfggaa", sum := "af92520b1264a919ab4de9b5039729429b25a9f362f4380d3115c8911f2e51ce", func := "withy/wykeep.RuleParts", spec := "ruleParts", apart := false, narrowed := true }
def RulePartsUptoSaid : Prop := rulePartsUptoRow.holds Try.pinned (OpenSpec.upto rulePartsSpec)

/-- 'wykeep.RuleRoles', WHERE WHAT IT READS IS OF BULK AT MOST 1048576: true; the input reads as it did. -/
def ruleRolesUptoRow : OpenClaim := { program := "ytanbgeelphfggaa", sum := "af92520b1264a919ab4de9b5039729429b25a9f362f4380d3115c8911f2e51ce", func := "withy/wykeep.RuleRoles", spec := "ruleRoles", apart := false, narrowed := true }
def RuleRolesUptoSaid : Prop := ruleRolesUptoRow.holds Try.pinned (OpenSpec.upto ruleRolesSpec)

/-- 'wykeep.RuleMore', WHERE WHAT IT READS IS OF BULK AT MOST 1048576: true; the input reads as it did. -/
def ruleMoreUptoRow : OpenClaim := { program := "ytanbgeelphfggaa", sum := "af92520b1264a919ab4de9b5039729429b25a9f362f4380d3115c8911f2e51ce", func := "withy/wykeep.RuleMore", spec := "ruleMore", apart := false, narrowed := true }
def RuleMoreUptoSaid : Prop := ruleMoreUptoRow.holds Try.pinned (OpenSpec.upto ruleMoreSpec)

/-- 'wykeep.StoreFull', WHERE WHAT IT READS IS OF BULK AT MOST 1048576: true; the input reads as it did. -/
def storeFullUptoRow : OpenClaim := { program := "ytanbgeelphfggaa", sum := "af92520b1264a919ab4de9b5039729429b25a9f362f4380d3115c8911f2e51ce", func := "withy/wykeep.StoreFull", spec := "storeFull", apart := false, narrowed := true }
def StoreFullUptoSaid : Prop := storeFullUptoRow.holds Try.pinned (OpenSpec.upto storeFullSpec)

/-- 'wytop.TopLabels', WHERE WHAT IT READS IS OF BULK AT MOST 1048576: true; the input reads as it did. -/
def topLabelsUptoRow : OpenClaim := { program := "ytanbgeelphfggaa", sum := "af92520b1264a919ab4de9b5039729429b25a9f362f4380d3115c8911f2e51ce", func := "withy/wytop.TopLabels", spec := "topLabels", unfollowed := true, recurses := true, apart := false, narrowed := true }
def TopLabelsUptoSaid : Prop := topLabelsUptoRow.holds Try.pinned (OpenSpec.upto topLabelsSpec)

/-- 'wykeep.RecordSets', WHERE WHAT IT READS IS OF BULK AT MOST 1048576: true; the input reads as it did. -/
def recordSetsUptoRow : OpenClaim := { program := "ytanbgeelphfggaa", sum := "af92520b1264a919ab4de9b5039729429b25a9f362f4380d3115c8911f2e51ce", func := "withy/wykeep.RecordSets", spec := "recordSets", inPlace := ["internal/bytealg.abigen_runtime_cmpstring", "slices.overlaps[withy/api.Field]"], unfollowed := true, recurses := true, apart := false, narrowed := true }
def RecordSetsUptoSaid : Prop := recordSetsUptoRow.holds Try.pinned (OpenSpec.upto recordSetsSpec)

/-- 'wykeep.GroupOne', WHERE WHAT IT READS IS OF BULK AT MOST 1048576: true; the input reads as it did. -/
def groupOneUptoRow : OpenClaim := { program := "ytanbgeelphfggaa", sum := "af92520b1264a919ab4de9b5039729429b25a9f362f4380d3115c8911f2e51ce", func := "withy/wykeep.GroupOne", spec := "groupOne", unfollowed := true, recurses := true, apart := false, narrowed := true }
def GroupOneUptoSaid : Prop := groupOneUptoRow.holds Try.pinned (OpenSpec.upto groupOneSpec)

/-- 'wykeep.FindAll', WHERE WHAT IT READS IS OF BULK AT MOST 1048576: true; the input reads as it did. -/
def findAllUptoRow : OpenClaim := { program := "ytanbgeelphfggaa", sum := "af92520b1264a919ab4de9b5039729429b25a9f362f4380d3115c8911f2e51ce", func := "withy/wykeep.FindAll", spec := "findAll", unfollowed := true, recurses := true, apart := false, narrowed := true }
def FindAllUptoSaid : Prop := findAllUptoRow.holds Try.pinned (OpenSpec.upto findAllSpec)

end Rows
end Go.Proofs.Ytanbgeelphfggaa
