/-
  No cell of these rows narrows 'for every input' (looked for: loops, veiled, ifaces, maps, wideKeys, modest, calm, conditions, laid).
  DERIVED. THE GIVEN ROWS OF THIS SEAT. 4 by the template 'for every input the law returns true; each argument reads behind the call as it read before'; 0 by the template 'total and deterministic' (their statements: YtnmbglnenmhpiaaTotals.lean).
  GIVEN WITH THE SEED: the statements are not yours to turn. If you find one false, say at which input.
  Laid BY PROGRAM, IN A SANDBOX (cutbox-rows.mjs): the forced cells as the released guide's own fill.sh prints them over the translation c5155520b3183eb8… (all of the seat's roots in one cut). By AI agents, Wed Nov 11 2026. No macro, syntax, notation, axiom, sorry.
-/
import Derived.Test.YtnmbglnenmhpiaaChecked
import GoSem.Claim
import GoSem.ClaimJoined
import GoSem.ClaimMapViews
import Derived.JoinedTies
import Derived.KernelRfl
namespace Go.Proofs.Ytnmbglnenmhpiaa
/- THE CELL 'sum', in the pinned program and in every row, IS THE sha256 OF THE DUMP (.gsa) THAT YtnmbglnenmhpiaaProg.lean LOADS. Nothing in Lean hashes anything: it is a label: what it is worth is what the hold of that sum in a sandbox is worth. -/
noncomputable def Try.pinned : Pinned := { name := "ytnmbglnenmhpiaa", sum := "c5155520b3183eb8c36d2a3e045d93b1a6604c7e90379e7940f7c9dab85defc5", checked := Try.checked }
namespace Rows
def none {H : Type} : Left H := { results := [], args := [] }

/-- 'wykeep.RecordSets': WHATEVER THE INPUT: true; the input reads as it did. -/
def recordSetsSpec : ChangeSpec := { name := "recordSets", fn := fun _ => fun
  | [d1, d2, d3] => { results := [.lit (.bool true)], args := [d1, d2, d3] }
  | _ => none }
def recordSetsRow : OpenClaim := { program := "ytnmbglnenmhpiaa", sum := "c5155520b3183eb8c36d2a3e045d93b1a6604c7e90379e7940f7c9dab85defc5", func := "withy/wykeep.RecordSets", spec := "recordSets", inPlace := ["internal/bytealg.abigen_runtime_cmpstring", "slices.overlaps[withy/api.Field]"], unfollowed := true, recurses := true, apart := false }
def RecordSetsSaid : Prop := recordSetsRow.holds Try.pinned (OpenSpec.ofChange recordSetsSpec)

/-- ITS FALSE NEIGHBOUR: 'it returns false'. Refute it at one input. -/
def recordSetsWrong : ChangeSpec := { name := "recordSets", fn := fun _ => fun
  | [d1, d2, d3] => { results := [.lit (.bool false)], args := [d1, d2, d3] }
  | _ => none }
def RecordSetsWrongFalsely : Prop := recordSetsRow.holds Try.pinned (OpenSpec.ofChange recordSetsWrong)

/-- 'wykeep.FindAll': WHATEVER THE INPUT: true; the input reads as it did. -/
def findAllSpec : ChangeSpec := { name := "findAll", fn := fun _ => fun
  | [d1, d2] => { results := [.lit (.bool true)], args := [d1, d2] }
  | _ => none }
def findAllRow : OpenClaim := { program := "ytnmbglnenmhpiaa", sum := "c5155520b3183eb8c36d2a3e045d93b1a6604c7e90379e7940f7c9dab85defc5", func := "withy/wykeep.FindAll", spec := "findAll", unfollowed := true, recurses := true, apart := false }
def FindAllSaid : Prop := findAllRow.holds Try.pinned (OpenSpec.ofChange findAllSpec)

/-- ITS FALSE NEIGHBOUR: 'it returns false'. Refute it at one input. -/
def findAllWrong : ChangeSpec := { name := "findAll", fn := fun _ => fun
  | [d1, d2] => { results := [.lit (.bool false)], args := [d1, d2] }
  | _ => none }
def FindAllWrongFalsely : Prop := findAllRow.holds Try.pinned (OpenSpec.ofChange findAllWrong)

/-- 'wykeep.GroupOne': WHATEVER THE INPUT: true; the input reads as it did. -/
def groupOneSpec : ChangeSpec := { name := "groupOne", fn := fun _ => fun
  | [d] => { results := [.lit (.bool true)], args := [d] }
  | _ => none }
def groupOneRow : OpenClaim := { program := "ytnmbglnenmhpiaa", sum := "c5155520b3183eb8c36d2a3e045d93b1a6604c7e90379e7940f7c9dab85defc5", func := "withy/wykeep.GroupOne", spec := "groupOne", unfollowed := true, recurses := true, apart := false }
def GroupOneSaid : Prop := groupOneRow.holds Try.pinned (OpenSpec.ofChange groupOneSpec)

/-- ITS FALSE NEIGHBOUR: 'it returns false'. Refute it at one input. -/
def groupOneWrong : ChangeSpec := { name := "groupOne", fn := fun _ => fun
  | [d] => { results := [.lit (.bool false)], args := [d] }
  | _ => none }
def GroupOneWrongFalsely : Prop := groupOneRow.holds Try.pinned (OpenSpec.ofChange groupOneWrong)

/-- 'wykeep.FindOnce': WHATEVER THE INPUT: true; the input reads as it did. -/
def findOnceSpec : ChangeSpec := { name := "findOnce", fn := fun _ => fun
  | [d1, d2] => { results := [.lit (.bool true)], args := [d1, d2] }
  | _ => none }
def findOnceRow : OpenClaim := { program := "ytnmbglnenmhpiaa", sum := "c5155520b3183eb8c36d2a3e045d93b1a6604c7e90379e7940f7c9dab85defc5", func := "withy/wykeep.FindOnce", spec := "findOnce", unfollowed := true, recurses := true, apart := false }
def FindOnceSaid : Prop := findOnceRow.holds Try.pinned (OpenSpec.ofChange findOnceSpec)

/-- ITS FALSE NEIGHBOUR: 'it returns false'. Refute it at one input. -/
def findOnceWrong : ChangeSpec := { name := "findOnce", fn := fun _ => fun
  | [d1, d2] => { results := [.lit (.bool false)], args := [d1, d2] }
  | _ => none }
def FindOnceWrongFalsely : Prop := findOnceRow.holds Try.pinned (OpenSpec.ofChange findOnceWrong)

/- THE SECOND FORM. 'bulk': how many values and letters a reading holds, each counted each time it is reached (what is shared counts as often as it is met; a slice's spare places count too). A statement '..UptoSaid' is the law's where the arguments, and the package variables that the reading takes, are together of bulk at most 1048576: NARROWER than '..Said'. Prove '..Said' where nothing that the law and all that it calls make is longer than what came in: it says more and counts as full. Else prove '..UptoSaid'. A law counts once. -/
mutual
def uptoBulk {H : Type} : DataW H → Nat
  | .lit (.string bytes) => bytes.length + 1
  | .lit _ => 1
  | .nil => 1
  | .ptr d => uptoBulk d + 1
  | .slice elems spare => uptoBulkAll elems + uptoBulkAll spare + 1
  | .agg parts => uptoBulkAll parts + 1
  | .iface _ d => uptoBulk d + 1
  | .map entries => uptoBulkEntries entries + 1
  | .held _ => 1
def uptoBulkAll {H : Type} : List (DataW H) → Nat
  | [] => 0
  | d :: r => uptoBulk d + uptoBulkAll r
def uptoBulkEntries {H : Type} : List (Lit × DataW H) → Nat
  | [] => 0
  | x :: r => uptoBulkEntry x + uptoBulkEntries r
def uptoBulkEntry {H : Type} : Lit × DataW H → Nat
  | (.string bytes, d) => bytes.length + uptoBulk d + 1
  | (_, d) => uptoBulk d + 1
 end
def uptoSmall : (H : Type) → List (DataW H) → Bool := fun _ ds => decide (uptoBulkAll ds ≤ 1048576)
def OpenSpec.upto (s : _root_.Go.ChangeSpec) : _root_.Go.OpenSpec := { _root_.Go.OpenSpec.ofChange s with cond := some uptoSmall }

/-- 'wykeep.RecordSets', WHERE WHAT IT READS IS OF BULK AT MOST 1048576: true; the input reads as it did. -/
def recordSetsUptoRow : OpenClaim := { program := "ytnmbglnenmhpiaa", sum := "c5155520b3183eb8c36d2a3e045d93b1a6604c7e90379e7940f7c9dab85defc5", func := "withy/wykeep.RecordSets", spec := "recordSets", inPlace := ["internal/bytealg.abigen_runtime_cmpstring", "slices.overlaps[withy/api.Field]"], unfollowed := true, recurses := true, apart := false, narrowed := true }
def RecordSetsUptoSaid : Prop := recordSetsUptoRow.holds Try.pinned (OpenSpec.upto recordSetsSpec)

/-- 'wykeep.FindAll', WHERE WHAT IT READS IS OF BULK AT MOST 1048576: true; the input reads as it did. -/
def findAllUptoRow : OpenClaim := { program := "ytnmbglnenmhpiaa", sum := "c5155520b3183eb8c36d2a3e045d93b1a6604c7e90379e7940f7c9dab85defc5", func := "withy/wykeep.FindAll", spec := "findAll", unfollowed := true, recurses := true, apart := false, narrowed := true }
def FindAllUptoSaid : Prop := findAllUptoRow.holds Try.pinned (OpenSpec.upto findAllSpec)

/-- 'wykeep.GroupOne', WHERE WHAT IT READS IS OF BULK AT MOST 1048576: true; the input reads as it did. -/
def groupOneUptoRow : OpenClaim := { program := "ytnmbglnenmhpiaa", sum := "c5155520b3183eb8c36d2a3e045d93b1a6604c7e90379e7940f7c9dab85defc5", func := "withy/wykeep.GroupOne", spec := "groupOne", unfollowed := true, recurses := true, apart := false, narrowed := true }
def GroupOneUptoSaid : Prop := groupOneUptoRow.holds Try.pinned (OpenSpec.upto groupOneSpec)

/-- 'wykeep.FindOnce', WHERE WHAT IT READS IS OF BULK AT MOST 1048576: true; the input reads as it did. -/
def findOnceUptoRow : OpenClaim := { program := "ytnmbglnenmhpiaa", sum := "c5155520b3183eb8c36d2a3e045d93b1a6604c7e90379e7940f7c9dab85defc5", func := "withy/wykeep.FindOnce", spec := "findOnce", unfollowed := true, recurses := true, apart := false, narrowed := true }
def FindOnceUptoSaid : Prop := findOnceUptoRow.holds Try.pinned (OpenSpec.upto findOnceSpec)

end Rows
end Go.Proofs.Ytnmbglnenmhpiaa
