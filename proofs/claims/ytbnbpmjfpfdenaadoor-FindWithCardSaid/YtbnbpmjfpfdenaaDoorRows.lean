/-
  NARROWER THAN 'FOR EVERY INPUT', by the rows' own cells (each row's printed sentence says how): StoreParts: laid · StoreWays: laid · StoreChanges: laid · StoreHist: laid · StoreMore: laid · FindBy: laid · FindWith: laid · FindHides: laid · RecordOrder: laid.
  DERIVED. THE GIVEN ROWS OF THIS SEAT. 9 by the template 'for every input the law returns true; each argument reads behind the call as it read before'; 0 by the template 'total and deterministic' (their statements: YtbnbpmjfpfdenaaDoorTotals.lean).
  GIVEN WITH THE SEED: the statements are not yours to turn. If you find one false, say at which input.
  Laid BY PROGRAM, IN A SANDBOX (cutbox-rows.mjs): the forced cells as the released guide's own fill.sh prints them over the translation 198051a2f7b24063… (all of the seat's roots in one cut). By AI agents, Wed Nov 11 2026. No macro, syntax, notation, axiom, sorry.
-/
import Derived.Test.YtbnbpmjfpfdenaaDoorChecked
import GoSem.PinnedTables
import GoSem.Claim
import GoSem.ClaimJoined
import GoSem.ClaimMapViews
import Derived.JoinedTies
import Derived.KernelRfl
namespace Go.Proofs.YtbnbpmjfpfdenaaDoor
/- THE CELL 'sum', in the pinned program and in every row, IS THE sha256 OF THE DUMP (.gsa) THAT YtbnbpmjfpfdenaaDoorProg.lean LOADS. Nothing in Lean hashes anything: it is a label: what it is worth is what the hold of that sum in a sandbox is worth. -/
noncomputable def Tryd.pinned : Pinned := { name := "ytbnbpmjfpfdenaadoor", sum := "198051a2f7b24063a90399bc6f185b6ccdaa9224d59f97cd5e1cbb50c038d579", checked := Tryd.checked }
namespace Rows
def none {H : Type} : Left H := { results := [], args := [] }

/- WHAT THE LISTED PACKAGE-LEVEL VARIABLES READ AS WHEN THE CALL BEGINS. Each datum BY PROGRAM (the guide's laid-datum.mjs) off the statement by which the dump's own 'gosem.cut.vars' lays the variable. In a bare row this is a premise. The card (YtbnbpmjfpfdenaaDoorCards.lean) ties it to the program's text. -/
def laid_unicode_utf8_acceptRanges {H : Type} : DataW H := .agg [.agg [.lit (.int .u8 128), .lit (.int .u8 191)], .agg [.lit (.int .u8 160), .lit (.int .u8 191)], .agg [.lit (.int .u8 128), .lit (.int .u8 159)], .agg [.lit (.int .u8 144), .lit (.int .u8 191)], .agg [.lit (.int .u8 128), .lit (.int .u8 143)], .agg [.lit (.int .u8 0), .lit (.int .u8 0)], .agg [.lit (.int .u8 0), .lit (.int .u8 0)], .agg [.lit (.int .u8 0), .lit (.int .u8 0)], .agg [.lit (.int .u8 0), .lit (.int .u8 0)], .agg [.lit (.int .u8 0), .lit (.int .u8 0)], .agg [.lit (.int .u8 0), .lit (.int .u8 0)], .agg [.lit (.int .u8 0), .lit (.int .u8 0)], .agg [.lit (.int .u8 0), .lit (.int .u8 0)], .agg [.lit (.int .u8 0), .lit (.int .u8 0)], .agg [.lit (.int .u8 0), .lit (.int .u8 0)], .agg [.lit (.int .u8 0), .lit (.int .u8 0)]]
/-- One of Go's own tables, pinned by name: the form's constant. -/
def laid_unicode_utf8_first : DataW Unit := Go.Pinned.utf8First

/-- 'wykeep.StoreParts': WHATEVER THE INPUT: true; the input reads as it did. -/
def storePartsSpec : ChangeSpec := { name := "storeParts", fn := fun _ => fun
  | [d1, d2, d3] => { results := [.lit (.bool true)], args := [d1, d2, d3] }
  | _ => none }
def storePartsRow : OpenClaim := { program := "ytbnbpmjfpfdenaadoor", sum := "198051a2f7b24063a90399bc6f185b6ccdaa9224d59f97cd5e1cbb50c038d579", func := "withy/wykeep.StoreParts", spec := "storeParts", inPlace := ["internal/bytealg.IndexByteString", "internal/bytealg.IndexString"], unfollowed := true, recurses := true, named := ["unicode/utf8.first", "unicode/utf8.acceptRanges", "internal/bytealg.MaxLen"], apart := false, laid := [("unicode/utf8.acceptRanges", laid_unicode_utf8_acceptRanges), ("unicode/utf8.first", laid_unicode_utf8_first)] }
def StorePartsSaid : Prop := storePartsRow.holds Tryd.pinned (OpenSpec.ofChange storePartsSpec)

/-- ITS FALSE NEIGHBOUR: 'it returns false'. Refute it at one input. -/
def storePartsWrong : ChangeSpec := { name := "storeParts", fn := fun _ => fun
  | [d1, d2, d3] => { results := [.lit (.bool false)], args := [d1, d2, d3] }
  | _ => none }
def StorePartsWrongFalsely : Prop := storePartsRow.holds Tryd.pinned (OpenSpec.ofChange storePartsWrong)

/-- 'wykeep.StoreWays': WHATEVER THE INPUT: true; the input reads as it did. -/
def storeWaysSpec : ChangeSpec := { name := "storeWays", fn := fun _ => fun
  | [d1, d2, d3] => { results := [.lit (.bool true)], args := [d1, d2, d3] }
  | _ => none }
def storeWaysRow : OpenClaim := { program := "ytbnbpmjfpfdenaadoor", sum := "198051a2f7b24063a90399bc6f185b6ccdaa9224d59f97cd5e1cbb50c038d579", func := "withy/wykeep.StoreWays", spec := "storeWays", inPlace := ["internal/bytealg.IndexByteString", "internal/bytealg.IndexString"], unfollowed := true, recurses := true, named := ["unicode/utf8.first", "unicode/utf8.acceptRanges", "internal/bytealg.MaxLen"], apart := false, laid := [("unicode/utf8.acceptRanges", laid_unicode_utf8_acceptRanges), ("unicode/utf8.first", laid_unicode_utf8_first)] }
def StoreWaysSaid : Prop := storeWaysRow.holds Tryd.pinned (OpenSpec.ofChange storeWaysSpec)

/-- ITS FALSE NEIGHBOUR: 'it returns false'. Refute it at one input. -/
def storeWaysWrong : ChangeSpec := { name := "storeWays", fn := fun _ => fun
  | [d1, d2, d3] => { results := [.lit (.bool false)], args := [d1, d2, d3] }
  | _ => none }
def StoreWaysWrongFalsely : Prop := storeWaysRow.holds Tryd.pinned (OpenSpec.ofChange storeWaysWrong)

/-- 'wykeep.StoreChanges': WHATEVER THE INPUT: true; the input reads as it did. -/
def storeChangesSpec : ChangeSpec := { name := "storeChanges", fn := fun _ => fun
  | [d1, d2, d3, d4, d5] => { results := [.lit (.bool true)], args := [d1, d2, d3, d4, d5] }
  | _ => none }
def storeChangesRow : OpenClaim := { program := "ytbnbpmjfpfdenaadoor", sum := "198051a2f7b24063a90399bc6f185b6ccdaa9224d59f97cd5e1cbb50c038d579", func := "withy/wykeep.StoreChanges", spec := "storeChanges", inPlace := ["internal/bytealg.IndexByteString", "internal/bytealg.IndexString"], unfollowed := true, recurses := true, named := ["unicode/utf8.first", "unicode/utf8.acceptRanges", "internal/bytealg.MaxLen"], apart := false, laid := [("unicode/utf8.acceptRanges", laid_unicode_utf8_acceptRanges), ("unicode/utf8.first", laid_unicode_utf8_first)] }
def StoreChangesSaid : Prop := storeChangesRow.holds Tryd.pinned (OpenSpec.ofChange storeChangesSpec)

/-- ITS FALSE NEIGHBOUR: 'it returns false'. Refute it at one input. -/
def storeChangesWrong : ChangeSpec := { name := "storeChanges", fn := fun _ => fun
  | [d1, d2, d3, d4, d5] => { results := [.lit (.bool false)], args := [d1, d2, d3, d4, d5] }
  | _ => none }
def StoreChangesWrongFalsely : Prop := storeChangesRow.holds Tryd.pinned (OpenSpec.ofChange storeChangesWrong)

/-- 'wykeep.StoreHist': WHATEVER THE INPUT: true; the input reads as it did. -/
def storeHistSpec : ChangeSpec := { name := "storeHist", fn := fun _ => fun
  | [d] => { results := [.lit (.bool true)], args := [d] }
  | _ => none }
def storeHistRow : OpenClaim := { program := "ytbnbpmjfpfdenaadoor", sum := "198051a2f7b24063a90399bc6f185b6ccdaa9224d59f97cd5e1cbb50c038d579", func := "withy/wykeep.StoreHist", spec := "storeHist", inPlace := ["internal/bytealg.IndexByteString", "internal/bytealg.IndexString"], unfollowed := true, recurses := true, named := ["unicode/utf8.first", "unicode/utf8.acceptRanges", "internal/bytealg.MaxLen"], apart := false, laid := [("unicode/utf8.acceptRanges", laid_unicode_utf8_acceptRanges), ("unicode/utf8.first", laid_unicode_utf8_first)] }
def StoreHistSaid : Prop := storeHistRow.holds Tryd.pinned (OpenSpec.ofChange storeHistSpec)

/-- ITS FALSE NEIGHBOUR: 'it returns false'. Refute it at one input. -/
def storeHistWrong : ChangeSpec := { name := "storeHist", fn := fun _ => fun
  | [d] => { results := [.lit (.bool false)], args := [d] }
  | _ => none }
def StoreHistWrongFalsely : Prop := storeHistRow.holds Tryd.pinned (OpenSpec.ofChange storeHistWrong)

/-- 'wykeep.StoreMore': WHATEVER THE INPUT: true; the input reads as it did. -/
def storeMoreSpec : ChangeSpec := { name := "storeMore", fn := fun _ => fun
  | [d1, d2, d3] => { results := [.lit (.bool true)], args := [d1, d2, d3] }
  | _ => none }
def storeMoreRow : OpenClaim := { program := "ytbnbpmjfpfdenaadoor", sum := "198051a2f7b24063a90399bc6f185b6ccdaa9224d59f97cd5e1cbb50c038d579", func := "withy/wykeep.StoreMore", spec := "storeMore", inPlace := ["internal/bytealg.IndexByteString", "internal/bytealg.IndexString"], unfollowed := true, recurses := true, named := ["unicode/utf8.first", "unicode/utf8.acceptRanges", "internal/bytealg.MaxLen"], apart := false, laid := [("unicode/utf8.acceptRanges", laid_unicode_utf8_acceptRanges), ("unicode/utf8.first", laid_unicode_utf8_first)] }
def StoreMoreSaid : Prop := storeMoreRow.holds Tryd.pinned (OpenSpec.ofChange storeMoreSpec)

/-- ITS FALSE NEIGHBOUR: 'it returns false'. Refute it at one input. -/
def storeMoreWrong : ChangeSpec := { name := "storeMore", fn := fun _ => fun
  | [d1, d2, d3] => { results := [.lit (.bool false)], args := [d1, d2, d3] }
  | _ => none }
def StoreMoreWrongFalsely : Prop := storeMoreRow.holds Tryd.pinned (OpenSpec.ofChange storeMoreWrong)

/-- 'wykeep.FindBy': WHATEVER THE INPUT: true; the input reads as it did. -/
def findBySpec : ChangeSpec := { name := "findBy", fn := fun _ => fun
  | [d1, d2] => { results := [.lit (.bool true)], args := [d1, d2] }
  | _ => none }
def findByRow : OpenClaim := { program := "ytbnbpmjfpfdenaadoor", sum := "198051a2f7b24063a90399bc6f185b6ccdaa9224d59f97cd5e1cbb50c038d579", func := "withy/wykeep.FindBy", spec := "findBy", inPlace := ["internal/bytealg.IndexByteString", "internal/bytealg.IndexString"], recurses := true, named := ["unicode/utf8.first", "unicode/utf8.acceptRanges", "internal/bytealg.MaxLen"], apart := false, laid := [("unicode/utf8.acceptRanges", laid_unicode_utf8_acceptRanges), ("unicode/utf8.first", laid_unicode_utf8_first)] }
def FindBySaid : Prop := findByRow.holds Tryd.pinned (OpenSpec.ofChange findBySpec)

/-- ITS FALSE NEIGHBOUR: 'it returns false'. Refute it at one input. -/
def findByWrong : ChangeSpec := { name := "findBy", fn := fun _ => fun
  | [d1, d2] => { results := [.lit (.bool false)], args := [d1, d2] }
  | _ => none }
def FindByWrongFalsely : Prop := findByRow.holds Tryd.pinned (OpenSpec.ofChange findByWrong)

/-- 'wykeep.FindWith': WHATEVER THE INPUT: true; the input reads as it did. -/
def findWithSpec : ChangeSpec := { name := "findWith", fn := fun _ => fun
  | [d1, d2, d3] => { results := [.lit (.bool true)], args := [d1, d2, d3] }
  | _ => none }
def findWithRow : OpenClaim := { program := "ytbnbpmjfpfdenaadoor", sum := "198051a2f7b24063a90399bc6f185b6ccdaa9224d59f97cd5e1cbb50c038d579", func := "withy/wykeep.FindWith", spec := "findWith", inPlace := ["internal/bytealg.IndexByteString", "internal/bytealg.IndexString"], unfollowed := true, recurses := true, named := ["unicode/utf8.first", "unicode/utf8.acceptRanges", "internal/bytealg.MaxLen"], apart := false, laid := [("unicode/utf8.acceptRanges", laid_unicode_utf8_acceptRanges), ("unicode/utf8.first", laid_unicode_utf8_first)] }
def FindWithSaid : Prop := findWithRow.holds Tryd.pinned (OpenSpec.ofChange findWithSpec)

/-- ITS FALSE NEIGHBOUR: 'it returns false'. Refute it at one input. -/
def findWithWrong : ChangeSpec := { name := "findWith", fn := fun _ => fun
  | [d1, d2, d3] => { results := [.lit (.bool false)], args := [d1, d2, d3] }
  | _ => none }
def FindWithWrongFalsely : Prop := findWithRow.holds Tryd.pinned (OpenSpec.ofChange findWithWrong)

/-- 'wykeep.FindHides': WHATEVER THE INPUT: true; the input reads as it did. -/
def findHidesSpec : ChangeSpec := { name := "findHides", fn := fun _ => fun
  | [d1, d2, d3, d4] => { results := [.lit (.bool true)], args := [d1, d2, d3, d4] }
  | _ => none }
def findHidesRow : OpenClaim := { program := "ytbnbpmjfpfdenaadoor", sum := "198051a2f7b24063a90399bc6f185b6ccdaa9224d59f97cd5e1cbb50c038d579", func := "withy/wykeep.FindHides", spec := "findHides", inPlace := ["internal/bytealg.IndexByteString", "internal/bytealg.IndexString"], unfollowed := true, recurses := true, named := ["unicode/utf8.first", "unicode/utf8.acceptRanges", "internal/bytealg.MaxLen"], apart := false, laid := [("unicode/utf8.acceptRanges", laid_unicode_utf8_acceptRanges), ("unicode/utf8.first", laid_unicode_utf8_first)] }
def FindHidesSaid : Prop := findHidesRow.holds Tryd.pinned (OpenSpec.ofChange findHidesSpec)

/-- ITS FALSE NEIGHBOUR: 'it returns false'. Refute it at one input. -/
def findHidesWrong : ChangeSpec := { name := "findHides", fn := fun _ => fun
  | [d1, d2, d3, d4] => { results := [.lit (.bool false)], args := [d1, d2, d3, d4] }
  | _ => none }
def FindHidesWrongFalsely : Prop := findHidesRow.holds Tryd.pinned (OpenSpec.ofChange findHidesWrong)

/-- 'wykeep.RecordOrder': WHATEVER THE INPUT: true; the input reads as it did. -/
def recordOrderSpec : ChangeSpec := { name := "recordOrder", fn := fun _ => fun
  | [d1, d2] => { results := [.lit (.bool true)], args := [d1, d2] }
  | _ => none }
def recordOrderRow : OpenClaim := { program := "ytbnbpmjfpfdenaadoor", sum := "198051a2f7b24063a90399bc6f185b6ccdaa9224d59f97cd5e1cbb50c038d579", func := "withy/wykeep.RecordOrder", spec := "recordOrder", inPlace := ["internal/bytealg.abigen_runtime_cmpstring", "slices.overlaps[withy/api.Field]", "internal/bytealg.IndexByteString", "internal/bytealg.IndexString"], unfollowed := true, recurses := true, named := ["unicode/utf8.first", "unicode/utf8.acceptRanges", "internal/bytealg.MaxLen"], apart := false, laid := [("unicode/utf8.acceptRanges", laid_unicode_utf8_acceptRanges), ("unicode/utf8.first", laid_unicode_utf8_first)] }
def RecordOrderSaid : Prop := recordOrderRow.holds Tryd.pinned (OpenSpec.ofChange recordOrderSpec)

/-- ITS FALSE NEIGHBOUR: 'it returns false'. Refute it at one input. -/
def recordOrderWrong : ChangeSpec := { name := "recordOrder", fn := fun _ => fun
  | [d1, d2] => { results := [.lit (.bool false)], args := [d1, d2] }
  | _ => none }
def RecordOrderWrongFalsely : Prop := recordOrderRow.holds Tryd.pinned (OpenSpec.ofChange recordOrderWrong)

/- THE SECOND FORM. 'bulk': how many values and letters a reading holds, each counted each time it is reached (what is shared counts as often as it is met; a slice's spare places count too). A statement '..UptoSaid' is the law's where the arguments, and the package variables that the reading takes, are together of bulk at most 1048576: NARROWER than '..Said'. Prove '..Said' where nothing that the law and all that it calls make is longer than what came in: it says more and counts as full. Else prove '..UptoSaid'. A law counts once. -/
mutual
def uptoBulk {H : Type} : DataW H → Nat
  | .lit (.string bytes) => bytes.length + 1
  | .lit _ => 1
  | .nil => 1
  | .ptr d => uptoBulk d + 1
  | .slice elems spare => uptoBulkAll elems + uptoBulkAll spare + 1
  | .agg parts => uptoBulkAll parts + 1
  | .iface _ d => uptoBulk d + 1
  | .map entries => uptoBulkEntries entries + 1
  | .held _ => 1
def uptoBulkAll {H : Type} : List (DataW H) → Nat
  | [] => 0
  | d :: r => uptoBulk d + uptoBulkAll r
def uptoBulkEntries {H : Type} : List (Lit × DataW H) → Nat
  | [] => 0
  | x :: r => uptoBulkEntry x + uptoBulkEntries r
def uptoBulkEntry {H : Type} : Lit × DataW H → Nat
  | (.string bytes, d) => bytes.length + uptoBulk d + 1
  | (_, d) => uptoBulk d + 1
 end
def uptoSmall : (H : Type) → List (DataW H) → Bool := fun _ ds => decide (uptoBulkAll ds ≤ 1048576)
def OpenSpec.upto (s : _root_.Go.ChangeSpec) : _root_.Go.OpenSpec := { _root_.Go.OpenSpec.ofChange s with cond := some uptoSmall }

/-- 'wykeep.StoreParts', WHERE WHAT IT READS IS OF BULK AT MOST 1048576: true; the input reads as it did. -/
def storePartsUptoRow : OpenClaim := { program := "ytbnbpmjfpfdenaadoor", sum := "198051a2f7b24063a90399bc6f185b6ccdaa9224d59f97cd5e1cbb50c038d579", func := "withy/wykeep.StoreParts", spec := "storeParts", inPlace := ["internal/bytealg.IndexByteString", "internal/bytealg.IndexString"], unfollowed := true, recurses := true, named := ["unicode/utf8.first", "unicode/utf8.acceptRanges", "internal/bytealg.MaxLen"], apart := false, laid := [("unicode/utf8.acceptRanges", laid_unicode_utf8_acceptRanges), ("unicode/utf8.first", laid_unicode_utf8_first)], narrowed := true }
def StorePartsUptoSaid : Prop := storePartsUptoRow.holds Tryd.pinned (OpenSpec.upto storePartsSpec)

/-- 'wykeep.StoreWays', WHERE WHAT IT READS IS OF BULK AT MOST 1048576: true; the input reads as it did. -/
def storeWaysUptoRow : OpenClaim := { program := "ytbnbpmjfpfdenaadoor", sum := "198051a2f7b24063a90399bc6f185b6ccdaa9224d59f97cd5e1cbb50c038d579", func := "withy/wykeep.StoreWays", spec := "storeWays", inPlace := ["internal/bytealg.IndexByteString", "internal/bytealg.IndexString"], unfollowed := true, recurses := true, named := ["unicode/utf8.first", "unicode/utf8.acceptRanges", "internal/bytealg.MaxLen"], apart := false, laid := [("unicode/utf8.acceptRanges", laid_unicode_utf8_acceptRanges), ("unicode/utf8.first", laid_unicode_utf8_first)], narrowed := true }
def StoreWaysUptoSaid : Prop := storeWaysUptoRow.holds Tryd.pinned (OpenSpec.upto storeWaysSpec)

/-- 'wykeep.StoreChanges', WHERE WHAT IT READS IS OF BULK AT MOST 1048576: true; the input reads as it did. -/
def storeChangesUptoRow : OpenClaim := { program := "ytbnbpmjfpfdenaadoor", sum := "198051a2f7b24063a90399bc6f185b6ccdaa9224d59f97cd5e1cbb50c038d579", func := "withy/wykeep.StoreChanges", spec := "storeChanges", inPlace := ["internal/bytealg.IndexByteString", "internal/bytealg.IndexString"], unfollowed := true, recurses := true, named := ["unicode/utf8.first", "unicode/utf8.acceptRanges", "internal/bytealg.MaxLen"], apart := false, laid := [("unicode/utf8.acceptRanges", laid_unicode_utf8_acceptRanges), ("unicode/utf8.first", laid_unicode_utf8_first)], narrowed := true }
def StoreChangesUptoSaid : Prop := storeChangesUptoRow.holds Tryd.pinned (OpenSpec.upto storeChangesSpec)

/-- 'wykeep.StoreHist', WHERE WHAT IT READS IS OF BULK AT MOST 1048576: true; the input reads as it did. -/
def storeHistUptoRow : OpenClaim := { program := "ytbnbpmjfpfdenaadoor", sum := "198051a2f7b24063a90399bc6f185b6ccdaa9224d59f97cd5e1cbb50c038d579", func := "withy/wykeep.StoreHist", spec := "storeHist", inPlace := ["internal/bytealg.IndexByteString", "internal/bytealg.IndexString"], unfollowed := true, recurses := true, named := ["unicode/utf8.first", "unicode/utf8.acceptRanges", "internal/bytealg.MaxLen"], apart := false, laid := [("unicode/utf8.acceptRanges", laid_unicode_utf8_acceptRanges), ("unicode/utf8.first", laid_unicode_utf8_first)], narrowed := true }
def StoreHistUptoSaid : Prop := storeHistUptoRow.holds Tryd.pinned (OpenSpec.upto storeHistSpec)

/-- 'wykeep.StoreMore', WHERE WHAT IT READS IS OF BULK AT MOST 1048576: true; the input reads as it did. -/
def storeMoreUptoRow : OpenClaim := { program := "ytbnbpmjfpfdenaadoor", sum := "198051a2f7b24063a90399bc6f185b6ccdaa9224d59f97cd5e1cbb50c038d579", func := "withy/wykeep.StoreMore", spec := "storeMore", inPlace := ["internal/bytealg.IndexByteString", "internal/bytealg.IndexString"], unfollowed := true, recurses := true, named := ["unicode/utf8.first", "unicode/utf8.acceptRanges", "internal/bytealg.MaxLen"], apart := false, laid := [("unicode/utf8.acceptRanges", laid_unicode_utf8_acceptRanges), ("unicode/utf8.first", laid_unicode_utf8_first)], narrowed := true }
def StoreMoreUptoSaid : Prop := storeMoreUptoRow.holds Tryd.pinned (OpenSpec.upto storeMoreSpec)

/-- 'wykeep.FindBy', WHERE WHAT IT READS IS OF BULK AT MOST 1048576: true; the input reads as it did. -/
def findByUptoRow : OpenClaim := { program := "ytbnbpmjfpfdenaadoor", sum := "198051a2f7b24063a90399bc6f185b6ccdaa9224d59f97cd5e1cbb50c038d579", func := "withy/wykeep.FindBy", spec := "findBy", inPlace := ["internal/bytealg.IndexByteString", "internal/bytealg.IndexString"], recurses := true, named := ["unicode/utf8.first", "unicode/utf8.acceptRanges", "internal/bytealg.MaxLen"], apart := false, laid := [("unicode/utf8.acceptRanges", laid_unicode_utf8_acceptRanges), ("unicode/utf8.first", laid_unicode_utf8_first)], narrowed := true }
def FindByUptoSaid : Prop := findByUptoRow.holds Tryd.pinned (OpenSpec.upto findBySpec)

/-- 'wykeep.FindWith', WHERE WHAT IT READS IS OF BULK AT MOST 1048576: true; the input reads as it did. -/
def findWithUptoRow : OpenClaim := { program := "ytbnbpmjfpfdenaadoor", sum := "198051a2f7b24063a90399bc6f185b6ccdaa9224d59f97cd5e1cbb50c038d579", func := "withy/wykeep.FindWith", spec := "findWith", inPlace := ["internal/bytealg.IndexByteString", "internal/bytealg.IndexString"], unfollowed := true, recurses := true, named := ["unicode/utf8.first", "unicode/utf8.acceptRanges", "internal/bytealg.MaxLen"], apart := false, laid := [("unicode/utf8.acceptRanges", laid_unicode_utf8_acceptRanges), ("unicode/utf8.first", laid_unicode_utf8_first)], narrowed := true }
def FindWithUptoSaid : Prop := findWithUptoRow.holds Tryd.pinned (OpenSpec.upto findWithSpec)

/-- 'wykeep.FindHides', WHERE WHAT IT READS IS OF BULK AT MOST 1048576: true; the input reads as it did. -/
def findHidesUptoRow : OpenClaim := { program := "ytbnbpmjfpfdenaadoor", sum := "198051a2f7b24063a90399bc6f185b6ccdaa9224d59f97cd5e1cbb50c038d579", func := "withy/wykeep.FindHides", spec := "findHides", inPlace := ["internal/bytealg.IndexByteString", "internal/bytealg.IndexString"], unfollowed := true, recurses := true, named := ["unicode/utf8.first", "unicode/utf8.acceptRanges", "internal/bytealg.MaxLen"], apart := false, laid := [("unicode/utf8.acceptRanges", laid_unicode_utf8_acceptRanges), ("unicode/utf8.first", laid_unicode_utf8_first)], narrowed := true }
def FindHidesUptoSaid : Prop := findHidesUptoRow.holds Tryd.pinned (OpenSpec.upto findHidesSpec)

/-- 'wykeep.RecordOrder', WHERE WHAT IT READS IS OF BULK AT MOST 1048576: true; the input reads as it did. -/
def recordOrderUptoRow : OpenClaim := { program := "ytbnbpmjfpfdenaadoor", sum := "198051a2f7b24063a90399bc6f185b6ccdaa9224d59f97cd5e1cbb50c038d579", func := "withy/wykeep.RecordOrder", spec := "recordOrder", inPlace := ["internal/bytealg.abigen_runtime_cmpstring", "slices.overlaps[withy/api.Field]", "internal/bytealg.IndexByteString", "internal/bytealg.IndexString"], unfollowed := true, recurses := true, named := ["unicode/utf8.first", "unicode/utf8.acceptRanges", "internal/bytealg.MaxLen"], apart := false, laid := [("unicode/utf8.acceptRanges", laid_unicode_utf8_acceptRanges), ("unicode/utf8.first", laid_unicode_utf8_first)], narrowed := true }
def RecordOrderUptoSaid : Prop := recordOrderUptoRow.holds Tryd.pinned (OpenSpec.upto recordOrderSpec)

end Rows
end Go.Proofs.YtbnbpmjfpfdenaaDoor
