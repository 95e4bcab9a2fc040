/-
  No cell of these rows narrows 'for every input' (looked for: loops, veiled, ifaces, maps, wideKeys, modest, calm, conditions, laid).
  DERIVED. THE GIVEN ROWS OF THIS SEAT. 5 by the template 'for every input the law returns true; each argument reads behind the call as it read before'; 0 by the template 'total and deterministic' (their statements: YthpfjigkhbabnabTotals.lean).
  GIVEN WITH THE SEED: the statements are not yours to turn. If you find one false, say at which input.
  Laid BY PROGRAM, IN A SANDBOX (cutbox-rows.mjs): the forced cells as the released guide's own fill.sh prints them over the translation df3330136ae2c69b… (all of the seat's roots in one cut). By AI agents, Wed Nov 11 2026. No macro, syntax, notation, axiom, sorry.
-/
import Derived.Test.YthpfjigkhbabnabChecked
import GoSem.Claim
import GoSem.ClaimJoined
import GoSem.ClaimMapViews
import Derived.JoinedTies
import Derived.KernelRfl
namespace Go.Proofs.Ythpfjigkhbabnab
/- THE CELL 'sum', in the pinned program and in every row, IS THE sha256 OF THE DUMP (.gsa) THAT YthpfjigkhbabnabProg.lean LOADS. Nothing in Lean hashes anything: it is a label: what it is worth is what the hold of that sum in a sandbox is worth. -/
noncomputable def Try.pinned : Pinned := { name := "ythpfjigkhbabnab", sum := "df3330136ae2c69b2f06678deb1d9e7430930fa8c6599b1eaafd0884806b6979", checked := Try.checked }
namespace Rows
def none {H : Type} : Left H := { results := [], args := [] }

/-- 'wykeep.RoleAll': WHATEVER THE INPUT: true; the input reads as it did. -/
def roleAllSpec : ChangeSpec := { name := "roleAll", fn := fun _ => fun
  | [d1, d2, d3, d4] => { results := [.lit (.bool true)], args := [d1, d2, d3, d4] }
  | _ => none }
def roleAllRow : OpenClaim := { program := "ythpfjigkhbabnab", sum := "df3330136ae2c69b2f06678deb1d9e7430930fa8c6599b1eaafd0884806b6979", func := "withy/wykeep.RoleAll", spec := "roleAll", apart := false }
def RoleAllSaid : Prop := roleAllRow.holds Try.pinned (OpenSpec.ofChange roleAllSpec)

/-- ITS FALSE NEIGHBOUR: 'it returns false'. Refute it at one input. -/
def roleAllWrong : ChangeSpec := { name := "roleAll", fn := fun _ => fun
  | [d1, d2, d3, d4] => { results := [.lit (.bool false)], args := [d1, d2, d3, d4] }
  | _ => none }
def RoleAllWrongFalsely : Prop := roleAllRow.holds Try.pinned (OpenSpec.ofChange roleAllWrong)

/-- 'wykeep.RecordGets': WHATEVER THE INPUT: true; the input reads as it did. -/
def recordGetsSpec : ChangeSpec := { name := "recordGets", fn := fun _ => fun
  | [d1, d2] => { results := [.lit (.bool true)], args := [d1, d2] }
  | _ => none }
def recordGetsRow : OpenClaim := { program := "ythpfjigkhbabnab", sum := "df3330136ae2c69b2f06678deb1d9e7430930fa8c6599b1eaafd0884806b6979", func := "withy/wykeep.RecordGets", spec := "recordGets", apart := false }
def RecordGetsSaid : Prop := recordGetsRow.holds Try.pinned (OpenSpec.ofChange recordGetsSpec)

/-- ITS FALSE NEIGHBOUR: 'it returns false'. Refute it at one input. -/
def recordGetsWrong : ChangeSpec := { name := "recordGets", fn := fun _ => fun
  | [d1, d2] => { results := [.lit (.bool false)], args := [d1, d2] }
  | _ => none }
def RecordGetsWrongFalsely : Prop := recordGetsRow.holds Try.pinned (OpenSpec.ofChange recordGetsWrong)

/-- 'wykeep.LabelRanks': WHATEVER THE INPUT: true; the input reads as it did. -/
def labelRanksSpec : ChangeSpec := { name := "labelRanks", fn := fun _ => fun
  | [d1, d2] => { results := [.lit (.bool true)], args := [d1, d2] }
  | _ => none }
def labelRanksRow : OpenClaim := { program := "ythpfjigkhbabnab", sum := "df3330136ae2c69b2f06678deb1d9e7430930fa8c6599b1eaafd0884806b6979", func := "withy/wykeep.LabelRanks", spec := "labelRanks", apart := false }
def LabelRanksSaid : Prop := labelRanksRow.holds Try.pinned (OpenSpec.ofChange labelRanksSpec)

/-- ITS FALSE NEIGHBOUR: 'it returns false'. Refute it at one input. -/
def labelRanksWrong : ChangeSpec := { name := "labelRanks", fn := fun _ => fun
  | [d1, d2] => { results := [.lit (.bool false)], args := [d1, d2] }
  | _ => none }
def LabelRanksWrongFalsely : Prop := labelRanksRow.holds Try.pinned (OpenSpec.ofChange labelRanksWrong)

/-- 'wykeep.RuleTimes': WHATEVER THE INPUT: true; the input reads as it did. -/
def ruleTimesSpec : ChangeSpec := { name := "ruleTimes", fn := fun _ => fun
  | [d1, d2, d3, d4, d5] => { results := [.lit (.bool true)], args := [d1, d2, d3, d4, d5] }
  | _ => none }
def ruleTimesRow : OpenClaim := { program := "ythpfjigkhbabnab", sum := "df3330136ae2c69b2f06678deb1d9e7430930fa8c6599b1eaafd0884806b6979", func := "withy/wykeep.RuleTimes", spec := "ruleTimes", apart := false }
def RuleTimesSaid : Prop := ruleTimesRow.holds Try.pinned (OpenSpec.ofChange ruleTimesSpec)

/-- ITS FALSE NEIGHBOUR: 'it returns false'. Refute it at one input. -/
def ruleTimesWrong : ChangeSpec := { name := "ruleTimes", fn := fun _ => fun
  | [d1, d2, d3, d4, d5] => { results := [.lit (.bool false)], args := [d1, d2, d3, d4, d5] }
  | _ => none }
def RuleTimesWrongFalsely : Prop := ruleTimesRow.holds Try.pinned (OpenSpec.ofChange ruleTimesWrong)

/-- 'wykeep.RuleKinds': WHATEVER THE INPUT: true; the input reads as it did. -/
def ruleKindsSpec : ChangeSpec := { name := "ruleKinds", fn := fun _ => fun
  | [d1, d2, d3, d4, d5, d6] => { results := [.lit (.bool true)], args := [d1, d2, d3, d4, d5, d6] }
  | _ => none }
def ruleKindsRow : OpenClaim := { program := "ythpfjigkhbabnab", sum := "df3330136ae2c69b2f06678deb1d9e7430930fa8c6599b1eaafd0884806b6979", func := "withy/wykeep.RuleKinds", spec := "ruleKinds", apart := false }
def RuleKindsSaid : Prop := ruleKindsRow.holds Try.pinned (OpenSpec.ofChange ruleKindsSpec)

/-- ITS FALSE NEIGHBOUR: 'it returns false'. Refute it at one input. -/
def ruleKindsWrong : ChangeSpec := { name := "ruleKinds", fn := fun _ => fun
  | [d1, d2, d3, d4, d5, d6] => { results := [.lit (.bool false)], args := [d1, d2, d3, d4, d5, d6] }
  | _ => none }
def RuleKindsWrongFalsely : Prop := ruleKindsRow.holds Try.pinned (OpenSpec.ofChange ruleKindsWrong)

/- THE SECOND FORM. 'bulk': how many values and letters a reading holds, each counted each time it is reached (what is shared counts as often as it is met; a slice's spare places count too). A statement '..UptoSaid' is the law's where the arguments, and the package variables that the reading takes, are together of bulk at most 1048576: NARROWER than '..Said'. Prove '..Said' where nothing that the law and all that it calls make is longer than what came in: it says more and counts as full. Else prove '..UptoSaid'. A law counts once. -/
mutual
def uptoBulk {H : Type} : DataW H → Nat
  | .lit (.string bytes) => bytes.length + 1
  | .lit _ => 1
  | .nil => 1
  | .ptr d => uptoBulk d + 1
  | .slice elems spare => uptoBulkAll elems + uptoBulkAll spare + 1
  | .agg parts => uptoBulkAll parts + 1
  | .iface _ d => uptoBulk d + 1
  | .map entries => uptoBulkEntries entries + 1
  | .held _ => 1
def uptoBulkAll {H : Type} : List (DataW H) → Nat
  | [] => 0
  | d :: r => uptoBulk d + uptoBulkAll r
def uptoBulkEntries {H : Type} : List (Lit × DataW H) → Nat
  | [] => 0
  | x :: r => uptoBulkEntry x + uptoBulkEntries r
def uptoBulkEntry {H : Type} : Lit × DataW H → Nat
  | (.string bytes, d) => bytes.length + uptoBulk d + 1
  | (_, d) => uptoBulk d + 1
 end
def uptoSmall : (H : Type) → List (DataW H) → Bool := fun _ ds => decide (uptoBulkAll ds ≤ 1048576)
def OpenSpec.upto (s : _root_.Go.ChangeSpec) : _root_.Go.OpenSpec := { _root_.Go.OpenSpec.ofChange s with cond := some uptoSmall }

/-- 'wykeep.RoleAll', WHERE WHAT IT READS IS OF BULK AT MOST 1048576: true; the input reads as it did. -/
def roleAllUptoRow : OpenClaim := { program := "ythpfjigkhbabnab", sum := "df3330136ae2c69b2f06678deb1d9e7430930fa8c6599b1eaafd0884806b6979", func := "withy/wykeep.RoleAll", spec := "roleAll", apart := false, narrowed := true }
def RoleAllUptoSaid : Prop := roleAllUptoRow.holds Try.pinned (OpenSpec.upto roleAllSpec)

/-- 'wykeep.RecordGets', WHERE WHAT IT READS IS OF BULK AT MOST 1048576: true; the input reads as it did. -/
def recordGetsUptoRow : OpenClaim := { program := "ythpfjigkhbabnab", sum := "df3330136ae2c69b2f06678deb1d9e7430930fa8c6599b1eaafd0884806b6979", func := "withy/wykeep.RecordGets", spec := "recordGets", apart := false, narrowed := true }
def RecordGetsUptoSaid : Prop := recordGetsUptoRow.holds Try.pinned (OpenSpec.upto recordGetsSpec)

/-- 'wykeep.LabelRanks', WHERE WHAT IT READS IS OF BULK AT MOST 1048576: true; the input reads as it did. -/
def labelRanksUptoRow : OpenClaim := { program := "ythpfjigkhbabnab", sum := "df3330136ae2c69b2f06678deb1d9e7430930fa8c6599b1eaafd0884806b6979", func := "withy/wykeep.LabelRanks", spec := "labelRanks", apart := false, narrowed := true }
def LabelRanksUptoSaid : Prop := labelRanksUptoRow.holds Try.pinned (OpenSpec.upto labelRanksSpec)

/-- 'wykeep.RuleTimes', WHERE WHAT IT READS IS OF BULK AT MOST 1048576: true; the input reads as it did. -/
def ruleTimesUptoRow : OpenClaim := { program := "ythpfjigkhbabnab", sum := "df3330136ae2c69b2f06678deb1d9e7430930fa8c6599b1eaafd0884806b6979", func := "withy/wykeep.RuleTimes", spec := "ruleTimes", apart := false, narrowed := true }
def RuleTimesUptoSaid : Prop := ruleTimesUptoRow.holds Try.pinned (OpenSpec.upto ruleTimesSpec)

/-- 'wykeep.RuleKinds', WHERE WHAT IT READS IS OF BULK AT MOST 1048576: true; the input reads as it did. -/
def ruleKindsUptoRow : OpenClaim := { program := "ythpfjigkhbabnab", sum := "df3330136ae2c69b2f06678deb1d9e7430930fa8c6599b1eaafd0884806b6979", func := "withy/wykeep.RuleKinds", spec := "ruleKinds", apart := false, narrowed := true }
def RuleKindsUptoSaid : Prop := ruleKindsUptoRow.holds Try.pinned (OpenSpec.upto ruleKindsSpec)

end Rows
end Go.Proofs.Ythpfjigkhbabnab
