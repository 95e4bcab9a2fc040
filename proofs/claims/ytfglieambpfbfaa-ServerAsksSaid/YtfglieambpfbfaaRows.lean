/-
  No cell of these rows narrows 'for every input' (looked for: loops, veiled, ifaces, maps, wideKeys, modest, calm, conditions, laid).
  DERIVED. THE GIVEN ROWS OF THIS SEAT. 10 by the template 'for every input the law returns true; each argument reads behind the call as it read before'; 0 by the template 'total and deterministic' (their statements: YtfglieambpfbfaaTotals.lean).
  GIVEN WITH THE SEED: the statements are not yours to turn. If you find one false, say at which input.
  Laid BY PROGRAM, IN A SANDBOX (cutbox-rows.mjs): the forced cells as the released guide's own fill.sh prints them over the translation 52e2e6380a2d256d… (all of the seat's roots in one cut). By AI agents, Wed Nov 11 2026. No macro, syntax, notation, axiom, sorry.
-/
import Derived.Test.YtfglieambpfbfaaChecked
import GoSem.Claim
import GoSem.ClaimJoined
import GoSem.ClaimMapViews
import Derived.JoinedTies
import Derived.KernelRfl
namespace Go.Proofs.Ytfglieambpfbfaa
/- THE CELL 'sum', in the pinned program and in every row, IS THE sha256 OF THE DUMP (.gsa) THAT YtfglieambpfbfaaProg.lean LOADS. Nothing in Lean hashes anything: it is a label: what it is worth is what the hold of that sum in a sandbox is worth. -/
noncomputable def Try.pinned : Pinned := { name := "ytfglieambpfbfaa", sum := "52e2e6380a2d256d340b1b930a024f93d2833aa51fc7879b32e077a9b47f2fb9", checked := Try.checked }
namespace Rows
def none {H : Type} : Left H := { results := [], args := [] }

/-- 'wykeep.ServerRoles': WHATEVER THE INPUT: true; the input reads as it did. -/
def serverRolesSpec : ChangeSpec := { name := "serverRoles", fn := fun _ => fun
  | [d] => { results := [.lit (.bool true)], args := [d] }
  | _ => none }
def serverRolesRow : OpenClaim := { program := "ytfglieambpfbfaa", sum := "52e2e6380a2d256d340b1b930a024f93d2833aa51fc7879b32e077a9b47f2fb9", func := "withy/wykeep.ServerRoles", spec := "serverRoles", unfollowed := true, recurses := true, apart := false }
def ServerRolesSaid : Prop := serverRolesRow.holds Try.pinned (OpenSpec.ofChange serverRolesSpec)

/-- ITS FALSE NEIGHBOUR: 'it returns false'. Refute it at one input. -/
def serverRolesWrong : ChangeSpec := { name := "serverRoles", fn := fun _ => fun
  | [d] => { results := [.lit (.bool false)], args := [d] }
  | _ => none }
def ServerRolesWrongFalsely : Prop := serverRolesRow.holds Try.pinned (OpenSpec.ofChange serverRolesWrong)

/-- 'wykeep.ServerTells': WHATEVER THE INPUT: true; the input reads as it did. -/
def serverTellsSpec : ChangeSpec := { name := "serverTells", fn := fun _ => fun
  | [d] => { results := [.lit (.bool true)], args := [d] }
  | _ => none }
def serverTellsRow : OpenClaim := { program := "ytfglieambpfbfaa", sum := "52e2e6380a2d256d340b1b930a024f93d2833aa51fc7879b32e077a9b47f2fb9", func := "withy/wykeep.ServerTells", spec := "serverTells", unfollowed := true, recurses := true, apart := false }
def ServerTellsSaid : Prop := serverTellsRow.holds Try.pinned (OpenSpec.ofChange serverTellsSpec)

/-- ITS FALSE NEIGHBOUR: 'it returns false'. Refute it at one input. -/
def serverTellsWrong : ChangeSpec := { name := "serverTells", fn := fun _ => fun
  | [d] => { results := [.lit (.bool false)], args := [d] }
  | _ => none }
def ServerTellsWrongFalsely : Prop := serverTellsRow.holds Try.pinned (OpenSpec.ofChange serverTellsWrong)

/-- 'wykeep.ServerNeed': WHATEVER THE INPUT: true; the input reads as it did. -/
def serverNeedSpec : ChangeSpec := { name := "serverNeed", fn := fun _ => fun
  | [d] => { results := [.lit (.bool true)], args := [d] }
  | _ => none }
def serverNeedRow : OpenClaim := { program := "ytfglieambpfbfaa", sum := "52e2e6380a2d256d340b1b930a024f93d2833aa51fc7879b32e077a9b47f2fb9", func := "withy/wykeep.ServerNeed", spec := "serverNeed", unfollowed := true, recurses := true, apart := false }
def ServerNeedSaid : Prop := serverNeedRow.holds Try.pinned (OpenSpec.ofChange serverNeedSpec)

/-- ITS FALSE NEIGHBOUR: 'it returns false'. Refute it at one input. -/
def serverNeedWrong : ChangeSpec := { name := "serverNeed", fn := fun _ => fun
  | [d] => { results := [.lit (.bool false)], args := [d] }
  | _ => none }
def ServerNeedWrongFalsely : Prop := serverNeedRow.holds Try.pinned (OpenSpec.ofChange serverNeedWrong)

/-- 'wykeep.ServerReads': WHATEVER THE INPUT: true; the input reads as it did. -/
def serverReadsSpec : ChangeSpec := { name := "serverReads", fn := fun _ => fun
  | [d1, d2, d3] => { results := [.lit (.bool true)], args := [d1, d2, d3] }
  | _ => none }
def serverReadsRow : OpenClaim := { program := "ytfglieambpfbfaa", sum := "52e2e6380a2d256d340b1b930a024f93d2833aa51fc7879b32e077a9b47f2fb9", func := "withy/wykeep.ServerReads", spec := "serverReads", unfollowed := true, recurses := true, apart := false }
def ServerReadsSaid : Prop := serverReadsRow.holds Try.pinned (OpenSpec.ofChange serverReadsSpec)

/-- ITS FALSE NEIGHBOUR: 'it returns false'. Refute it at one input. -/
def serverReadsWrong : ChangeSpec := { name := "serverReads", fn := fun _ => fun
  | [d1, d2, d3] => { results := [.lit (.bool false)], args := [d1, d2, d3] }
  | _ => none }
def ServerReadsWrongFalsely : Prop := serverReadsRow.holds Try.pinned (OpenSpec.ofChange serverReadsWrong)

/-- 'wykeep.ServerDenies': WHATEVER THE INPUT: true; the input reads as it did. -/
def serverDeniesSpec : ChangeSpec := { name := "serverDenies", fn := fun _ => fun
  | [d1, d2] => { results := [.lit (.bool true)], args := [d1, d2] }
  | _ => none }
def serverDeniesRow : OpenClaim := { program := "ytfglieambpfbfaa", sum := "52e2e6380a2d256d340b1b930a024f93d2833aa51fc7879b32e077a9b47f2fb9", func := "withy/wykeep.ServerDenies", spec := "serverDenies", unfollowed := true, recurses := true, apart := false }
def ServerDeniesSaid : Prop := serverDeniesRow.holds Try.pinned (OpenSpec.ofChange serverDeniesSpec)

/-- ITS FALSE NEIGHBOUR: 'it returns false'. Refute it at one input. -/
def serverDeniesWrong : ChangeSpec := { name := "serverDenies", fn := fun _ => fun
  | [d1, d2] => { results := [.lit (.bool false)], args := [d1, d2] }
  | _ => none }
def ServerDeniesWrongFalsely : Prop := serverDeniesRow.holds Try.pinned (OpenSpec.ofChange serverDeniesWrong)

/-- 'wykeep.ServerApart': WHATEVER THE INPUT: true; the input reads as it did. -/
def serverApartSpec : ChangeSpec := { name := "serverApart", fn := fun _ => fun
  | [d1, d2, d3] => { results := [.lit (.bool true)], args := [d1, d2, d3] }
  | _ => none }
def serverApartRow : OpenClaim := { program := "ytfglieambpfbfaa", sum := "52e2e6380a2d256d340b1b930a024f93d2833aa51fc7879b32e077a9b47f2fb9", func := "withy/wykeep.ServerApart", spec := "serverApart", unfollowed := true, recurses := true, apart := false }
def ServerApartSaid : Prop := serverApartRow.holds Try.pinned (OpenSpec.ofChange serverApartSpec)

/-- ITS FALSE NEIGHBOUR: 'it returns false'. Refute it at one input. -/
def serverApartWrong : ChangeSpec := { name := "serverApart", fn := fun _ => fun
  | [d1, d2, d3] => { results := [.lit (.bool false)], args := [d1, d2, d3] }
  | _ => none }
def ServerApartWrongFalsely : Prop := serverApartRow.holds Try.pinned (OpenSpec.ofChange serverApartWrong)

/-- 'wykeep.ServerHides': WHATEVER THE INPUT: true; the input reads as it did. -/
def serverHidesSpec : ChangeSpec := { name := "serverHides", fn := fun _ => fun
  | [d1, d2] => { results := [.lit (.bool true)], args := [d1, d2] }
  | _ => none }
def serverHidesRow : OpenClaim := { program := "ytfglieambpfbfaa", sum := "52e2e6380a2d256d340b1b930a024f93d2833aa51fc7879b32e077a9b47f2fb9", func := "withy/wykeep.ServerHides", spec := "serverHides", unfollowed := true, recurses := true, apart := false }
def ServerHidesSaid : Prop := serverHidesRow.holds Try.pinned (OpenSpec.ofChange serverHidesSpec)

/-- ITS FALSE NEIGHBOUR: 'it returns false'. Refute it at one input. -/
def serverHidesWrong : ChangeSpec := { name := "serverHides", fn := fun _ => fun
  | [d1, d2] => { results := [.lit (.bool false)], args := [d1, d2] }
  | _ => none }
def ServerHidesWrongFalsely : Prop := serverHidesRow.holds Try.pinned (OpenSpec.ofChange serverHidesWrong)

/-- 'wykeep.ServerWrites': WHATEVER THE INPUT: true; the input reads as it did. -/
def serverWritesSpec : ChangeSpec := { name := "serverWrites", fn := fun _ => fun
  | [d] => { results := [.lit (.bool true)], args := [d] }
  | _ => none }
def serverWritesRow : OpenClaim := { program := "ytfglieambpfbfaa", sum := "52e2e6380a2d256d340b1b930a024f93d2833aa51fc7879b32e077a9b47f2fb9", func := "withy/wykeep.ServerWrites", spec := "serverWrites", unfollowed := true, recurses := true, apart := false }
def ServerWritesSaid : Prop := serverWritesRow.holds Try.pinned (OpenSpec.ofChange serverWritesSpec)

/-- ITS FALSE NEIGHBOUR: 'it returns false'. Refute it at one input. -/
def serverWritesWrong : ChangeSpec := { name := "serverWrites", fn := fun _ => fun
  | [d] => { results := [.lit (.bool false)], args := [d] }
  | _ => none }
def ServerWritesWrongFalsely : Prop := serverWritesRow.holds Try.pinned (OpenSpec.ofChange serverWritesWrong)

/-- 'wykeep.ServerAsks': WHATEVER THE INPUT: true; the input reads as it did. -/
def serverAsksSpec : ChangeSpec := { name := "serverAsks", fn := fun _ => fun
  | [d1, d2] => { results := [.lit (.bool true)], args := [d1, d2] }
  | _ => none }
def serverAsksRow : OpenClaim := { program := "ytfglieambpfbfaa", sum := "52e2e6380a2d256d340b1b930a024f93d2833aa51fc7879b32e077a9b47f2fb9", func := "withy/wykeep.ServerAsks", spec := "serverAsks", unfollowed := true, recurses := true, apart := false }
def ServerAsksSaid : Prop := serverAsksRow.holds Try.pinned (OpenSpec.ofChange serverAsksSpec)

/-- ITS FALSE NEIGHBOUR: 'it returns false'. Refute it at one input. -/
def serverAsksWrong : ChangeSpec := { name := "serverAsks", fn := fun _ => fun
  | [d1, d2] => { results := [.lit (.bool false)], args := [d1, d2] }
  | _ => none }
def ServerAsksWrongFalsely : Prop := serverAsksRow.holds Try.pinned (OpenSpec.ofChange serverAsksWrong)

/-- 'wykeep.ServerWrong': WHATEVER THE INPUT: true; the input reads as it did. -/
def serverWrongSpec : ChangeSpec := { name := "serverWrong", fn := fun _ => fun
  | [d1, d2] => { results := [.lit (.bool true)], args := [d1, d2] }
  | _ => none }
def serverWrongRow : OpenClaim := { program := "ytfglieambpfbfaa", sum := "52e2e6380a2d256d340b1b930a024f93d2833aa51fc7879b32e077a9b47f2fb9", func := "withy/wykeep.ServerWrong", spec := "serverWrong", unfollowed := true, recurses := true, apart := false }
def ServerWrongSaid : Prop := serverWrongRow.holds Try.pinned (OpenSpec.ofChange serverWrongSpec)

/-- ITS FALSE NEIGHBOUR: 'it returns false'. Refute it at one input. -/
def serverWrongWrong : ChangeSpec := { name := "serverWrong", fn := fun _ => fun
  | [d1, d2] => { results := [.lit (.bool false)], args := [d1, d2] }
  | _ => none }
def ServerWrongWrongFalsely : Prop := serverWrongRow.holds Try.pinned (OpenSpec.ofChange serverWrongWrong)

/- THE SECOND FORM. 'bulk': how many values and letters a reading holds, each counted each time it is reached (what is shared counts as often as it is met; a slice's spare places count too). A statement '..UptoSaid' is the law's where the arguments, and the package variables that the reading takes, are together of bulk at most 1048576: NARROWER than '..Said'. Prove '..Said' where nothing that the law and all that it calls make is longer than what came in: it says more and counts as full. Else prove '..UptoSaid'. A law counts once. -/
mutual
def uptoBulk {H : Type} : DataW H → Nat
  | .lit (.string bytes) => bytes.length + 1
  | .lit _ => 1
  | .nil => 1
  | .ptr d => uptoBulk d + 1
  | .slice elems spare => uptoBulkAll elems + uptoBulkAll spare + 1
  | .agg parts => uptoBulkAll parts + 1
  | .iface _ d => uptoBulk d + 1
  | .map entries => uptoBulkEntries entries + 1
  | .held _ => 1
def uptoBulkAll {H : Type} : List (DataW H) → Nat
  | [] => 0
  | d :: r => uptoBulk d + uptoBulkAll r
def uptoBulkEntries {H : Type} : List (Lit × DataW H) → Nat
  | [] => 0
  | x :: r => uptoBulkEntry x + uptoBulkEntries r
def uptoBulkEntry {H : Type} : Lit × DataW H → Nat
  | (.string bytes, d) => bytes.length + uptoBulk d + 1
  | (_, d) => uptoBulk d + 1
 end
def uptoSmall : (H : Type) → List (DataW H) → Bool := fun _ ds => decide (uptoBulkAll ds ≤ 1048576)
def OpenSpec.upto (s : _root_.Go.ChangeSpec) : _root_.Go.OpenSpec := { _root_.Go.OpenSpec.ofChange s with cond := some uptoSmall }

/-- 'wykeep.ServerRoles', WHERE WHAT IT READS IS OF BULK AT MOST 1048576: true; the input reads as it did. -/
def serverRolesUptoRow : OpenClaim := { program := "ytfglieambpfbfaa", sum := "52e2e6380a2d256d340b1b930a024f93d2833aa51fc7879b32e077a9b47f2fb9", func := "withy/wykeep.ServerRoles", spec := "serverRoles", unfollowed := true, recurses := true, apart := false, narrowed := true }
def ServerRolesUptoSaid : Prop := serverRolesUptoRow.holds Try.pinned (OpenSpec.upto serverRolesSpec)

/-- 'wykeep.ServerTells', WHERE WHAT IT READS IS OF BULK AT MOST 1048576: true; the input reads as it did. -/
def serverTellsUptoRow : OpenClaim := { program := "ytfglieambpfbfaa", sum := "52e2e6380a2d256d340b1b930a024f93d2833aa51fc7879b32e077a9b47f2fb9", func := "withy/wykeep.ServerTells", spec := "serverTells", unfollowed := true, recurses := true, apart := false, narrowed := true }
def ServerTellsUptoSaid : Prop := serverTellsUptoRow.holds Try.pinned (OpenSpec.upto serverTellsSpec)

/-- 'wykeep.ServerNeed', WHERE WHAT IT READS IS OF BULK AT MOST 1048576: true; the input reads as it did. -/
def serverNeedUptoRow : OpenClaim := { program := "ytfglieambpfbfaa", sum := "52e2e6380a2d256d340b1b930a024f93d2833aa51fc7879b32e077a9b47f2fb9", func := "withy/wykeep.ServerNeed", spec := "serverNeed", unfollowed := true, recurses := true, apart := false, narrowed := true }
def ServerNeedUptoSaid : Prop := serverNeedUptoRow.holds Try.pinned (OpenSpec.upto serverNeedSpec)

/-- 'wykeep.ServerReads', WHERE WHAT IT READS IS OF BULK AT MOST 1048576: true; the input reads as it did. -/
def serverReadsUptoRow : OpenClaim := { program := "ytfglieambpfbfaa", sum := "52e2e6380a2d256d340b1b930a024f93d2833aa51fc7879b32e077a9b47f2fb9", func := "withy/wykeep.ServerReads", spec := "serverReads", unfollowed := true, recurses := true, apart := false, narrowed := true }
def ServerReadsUptoSaid : Prop := serverReadsUptoRow.holds Try.pinned (OpenSpec.upto serverReadsSpec)

/-- 'wykeep.ServerDenies', WHERE WHAT IT READS IS OF BULK AT MOST 1048576: true; the input reads as it did. -/
def serverDeniesUptoRow : OpenClaim := { program := "ytfglieambpfbfaa", sum := "52e2e6380a2d256d340b1b930a024f93d2833aa51fc7879b32e077a9b47f2fb9", func := "withy/wykeep.ServerDenies", spec := "serverDenies", unfollowed := true, recurses := true, apart := false, narrowed := true }
def ServerDeniesUptoSaid : Prop := serverDeniesUptoRow.holds Try.pinned (OpenSpec.upto serverDeniesSpec)

/-- 'wykeep.ServerApart', WHERE WHAT IT READS IS OF BULK AT MOST 1048576: true; the input reads as it did. -/
def serverApartUptoRow : OpenClaim := { program := "ytfglieambpfbfaa", sum := "52e2e6380a2d256d340b1b930a024f93d2833aa51fc7879b32e077a9b47f2fb9", func := "withy/wykeep.ServerApart", spec := "serverApart", unfollowed := true, recurses := true, apart := false, narrowed := true }
def ServerApartUptoSaid : Prop := serverApartUptoRow.holds Try.pinned (OpenSpec.upto serverApartSpec)

/-- 'wykeep.ServerHides', WHERE WHAT IT READS IS OF BULK AT MOST 1048576: true; the input reads as it did. -/
def serverHidesUptoRow : OpenClaim := { program := "ytfglieambpfbfaa", sum := "52e2e6380a2d256d340b1b930a024f93d2833aa51fc7879b32e077a9b47f2fb9", func := "withy/wykeep.ServerHides", spec := "serverHides", unfollowed := true, recurses := true, apart := false, narrowed := true }
def ServerHidesUptoSaid : Prop := serverHidesUptoRow.holds Try.pinned (OpenSpec.upto serverHidesSpec)

/-- 'wykeep.ServerWrites', WHERE WHAT IT READS IS OF BULK AT MOST 1048576: true; the input reads as it did. -/
def serverWritesUptoRow : OpenClaim := { program := "ytfglieambpfbfaa", sum := "52e2e6380a2d256d340b1b930a024f93d2833aa51fc7879b32e077a9b47f2fb9", func := "withy/wykeep.ServerWrites", spec := "serverWrites", unfollowed := true, recurses := true, apart := false, narrowed := true }
def ServerWritesUptoSaid : Prop := serverWritesUptoRow.holds Try.pinned (OpenSpec.upto serverWritesSpec)

/-- 'wykeep.ServerAsks', WHERE WHAT IT READS IS OF BULK AT MOST 1048576: true; the input reads as it did. -/
def serverAsksUptoRow : OpenClaim := { program := "ytfglieambpfbfaa", sum := "52e2e6380a2d256d340b1b930a024f93d2833aa51fc7879b32e077a9b47f2fb9", func := "withy/wykeep.ServerAsks", spec := "serverAsks", unfollowed := true, recurses := true, apart := false, narrowed := true }
def ServerAsksUptoSaid : Prop := serverAsksUptoRow.holds Try.pinned (OpenSpec.upto serverAsksSpec)

/-- 'wykeep.ServerWrong', WHERE WHAT IT READS IS OF BULK AT MOST 1048576: true; the input reads as it did. -/
def serverWrongUptoRow : OpenClaim := { program := "ytfglieambpfbfaa", sum := "52e2e6380a2d256d340b1b930a024f93d2833aa51fc7879b32e077a9b47f2fb9", func := "withy/wykeep.ServerWrong", spec := "serverWrong", unfollowed := true, recurses := true, apart := false, narrowed := true }
def ServerWrongUptoSaid : Prop := serverWrongUptoRow.holds Try.pinned (OpenSpec.upto serverWrongSpec)

end Rows
end Go.Proofs.Ytfglieambpfbfaa
