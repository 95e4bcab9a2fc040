/-
  DERIVED. GIVEN WITH THE SEED: THE CARDS: each row of YtbnbpmjfpfdenaaDoorRows.lean that lists a variable, with what it lists TIED to the program's text (the seventh form; the later family's looks); each row that meets fmt, with fmt's text TOLD by the authors' own Lean function (tested against real Go, not proved from fmt's source: count such statements apart). THE CARD IS WHAT COUNTS. Prove the row's statement (the work); the ties are given (YtbnbpmjfpfdenaaDoorTie.lean); close each card by the builder's one call (the guide's Derived/Test/ToyasCard.lean, 'card_holds'). Laid BY PROGRAM, IN A SANDBOX (cutbox-door.mjs). By AI agents, Wed Nov 11 2026. No macro, syntax, notation, axiom, sorry.
-/
import Derived.Test.YtbnbpmjfpfdenaaDoorRows
import GoSem.ClaimSeven
namespace Go.Proofs.YtbnbpmjfpfdenaaDoor
namespace Rows

/-- THE TIED CARD OF 'wykeep.StoreParts'. -/
def storePartsCard : Claim7 := { stood := { row := storePartsRow, standIns := [], harness := (true, "9c96432229f4bc117768ebbdaccd8b3303f7cb548093f6a044a79f0aa5d36ee4"), looks := false }, kinds := [], alts := [], laidByText := true, laidKinds := [.data, .pinned], laidTests := true, laidLooks := .later }
def StorePartsCardSaid : Prop := Claim7.holds Tryd.pinned (.plain (OpenSpec.ofChange storePartsSpec)) storePartsCard

/-- THE TIED CARD OF 'wykeep.StoreWays'. -/
def storeWaysCard : Claim7 := { stood := { row := storeWaysRow, standIns := [], harness := (true, "9c96432229f4bc117768ebbdaccd8b3303f7cb548093f6a044a79f0aa5d36ee4"), looks := false }, kinds := [], alts := [], laidByText := true, laidKinds := [.data, .pinned], laidTests := true, laidLooks := .later }
def StoreWaysCardSaid : Prop := Claim7.holds Tryd.pinned (.plain (OpenSpec.ofChange storeWaysSpec)) storeWaysCard

/-- THE TIED CARD OF 'wykeep.StoreChanges'. -/
def storeChangesCard : Claim7 := { stood := { row := storeChangesRow, standIns := [], harness := (true, "9c96432229f4bc117768ebbdaccd8b3303f7cb548093f6a044a79f0aa5d36ee4"), looks := false }, kinds := [], alts := [], laidByText := true, laidKinds := [.data, .pinned], laidTests := true, laidLooks := .later }
def StoreChangesCardSaid : Prop := Claim7.holds Tryd.pinned (.plain (OpenSpec.ofChange storeChangesSpec)) storeChangesCard

/-- THE TIED CARD OF 'wykeep.StoreHist'. -/
def storeHistCard : Claim7 := { stood := { row := storeHistRow, standIns := [], harness := (true, "9c96432229f4bc117768ebbdaccd8b3303f7cb548093f6a044a79f0aa5d36ee4"), looks := false }, kinds := [], alts := [], laidByText := true, laidKinds := [.data, .pinned], laidTests := true, laidLooks := .later }
def StoreHistCardSaid : Prop := Claim7.holds Tryd.pinned (.plain (OpenSpec.ofChange storeHistSpec)) storeHistCard

/-- THE TIED CARD OF 'wykeep.StoreMore'. -/
def storeMoreCard : Claim7 := { stood := { row := storeMoreRow, standIns := [], harness := (true, "9c96432229f4bc117768ebbdaccd8b3303f7cb548093f6a044a79f0aa5d36ee4"), looks := false }, kinds := [], alts := [], laidByText := true, laidKinds := [.data, .pinned], laidTests := true, laidLooks := .later }
def StoreMoreCardSaid : Prop := Claim7.holds Tryd.pinned (.plain (OpenSpec.ofChange storeMoreSpec)) storeMoreCard

/-- THE TIED CARD OF 'wykeep.FindBy'. -/
def findByCard : Claim7 := { stood := { row := findByRow, standIns := [], harness := (true, "9c96432229f4bc117768ebbdaccd8b3303f7cb548093f6a044a79f0aa5d36ee4"), looks := false }, kinds := [], alts := [], laidByText := true, laidKinds := [.data, .pinned], laidTests := true, laidLooks := .later }
def FindByCardSaid : Prop := Claim7.holds Tryd.pinned (.plain (OpenSpec.ofChange findBySpec)) findByCard

/-- THE TIED CARD OF 'wykeep.FindWith'. -/
def findWithCard : Claim7 := { stood := { row := findWithRow, standIns := [], harness := (true, "9c96432229f4bc117768ebbdaccd8b3303f7cb548093f6a044a79f0aa5d36ee4"), looks := false }, kinds := [], alts := [], laidByText := true, laidKinds := [.data, .pinned], laidTests := true, laidLooks := .later }
def FindWithCardSaid : Prop := Claim7.holds Tryd.pinned (.plain (OpenSpec.ofChange findWithSpec)) findWithCard

/-- THE TIED CARD OF 'wykeep.FindHides'. -/
def findHidesCard : Claim7 := { stood := { row := findHidesRow, standIns := [], harness := (true, "9c96432229f4bc117768ebbdaccd8b3303f7cb548093f6a044a79f0aa5d36ee4"), looks := false }, kinds := [], alts := [], laidByText := true, laidKinds := [.data, .pinned], laidTests := true, laidLooks := .later }
def FindHidesCardSaid : Prop := Claim7.holds Tryd.pinned (.plain (OpenSpec.ofChange findHidesSpec)) findHidesCard

/-- THE TIED CARD OF 'wykeep.RecordOrder'. -/
def recordOrderCard : Claim7 := { stood := { row := recordOrderRow, standIns := [], harness := (true, "9c96432229f4bc117768ebbdaccd8b3303f7cb548093f6a044a79f0aa5d36ee4"), looks := false }, kinds := [], alts := [], laidByText := true, laidKinds := [.data, .pinned], laidTests := true, laidLooks := .later }
def RecordOrderCardSaid : Prop := Claim7.holds Tryd.pinned (.plain (OpenSpec.ofChange recordOrderSpec)) recordOrderCard

/-- THE SECOND FORM's CARD OF 'wykeep.StoreParts'. -/
def storePartsUptoCard : Claim7 := { stood := { row := storePartsUptoRow, standIns := [], harness := (true, "9c96432229f4bc117768ebbdaccd8b3303f7cb548093f6a044a79f0aa5d36ee4"), looks := false }, kinds := [], alts := [], laidByText := true, laidKinds := [.data, .pinned], laidTests := true, laidLooks := .later }
def StorePartsUptoCardSaid : Prop := Claim7.holds Tryd.pinned (.plain (OpenSpec.upto storePartsSpec)) storePartsUptoCard

/-- THE SECOND FORM's CARD OF 'wykeep.StoreWays'. -/
def storeWaysUptoCard : Claim7 := { stood := { row := storeWaysUptoRow, standIns := [], harness := (true, "9c96432229f4bc117768ebbdaccd8b3303f7cb548093f6a044a79f0aa5d36ee4"), looks := false }, kinds := [], alts := [], laidByText := true, laidKinds := [.data, .pinned], laidTests := true, laidLooks := .later }
def StoreWaysUptoCardSaid : Prop := Claim7.holds Tryd.pinned (.plain (OpenSpec.upto storeWaysSpec)) storeWaysUptoCard

/-- THE SECOND FORM's CARD OF 'wykeep.StoreChanges'. -/
def storeChangesUptoCard : Claim7 := { stood := { row := storeChangesUptoRow, standIns := [], harness := (true, "9c96432229f4bc117768ebbdaccd8b3303f7cb548093f6a044a79f0aa5d36ee4"), looks := false }, kinds := [], alts := [], laidByText := true, laidKinds := [.data, .pinned], laidTests := true, laidLooks := .later }
def StoreChangesUptoCardSaid : Prop := Claim7.holds Tryd.pinned (.plain (OpenSpec.upto storeChangesSpec)) storeChangesUptoCard

/-- THE SECOND FORM's CARD OF 'wykeep.StoreHist'. -/
def storeHistUptoCard : Claim7 := { stood := { row := storeHistUptoRow, standIns := [], harness := (true, "9c96432229f4bc117768ebbdaccd8b3303f7cb548093f6a044a79f0aa5d36ee4"), looks := false }, kinds := [], alts := [], laidByText := true, laidKinds := [.data, .pinned], laidTests := true, laidLooks := .later }
def StoreHistUptoCardSaid : Prop := Claim7.holds Tryd.pinned (.plain (OpenSpec.upto storeHistSpec)) storeHistUptoCard

/-- THE SECOND FORM's CARD OF 'wykeep.StoreMore'. -/
def storeMoreUptoCard : Claim7 := { stood := { row := storeMoreUptoRow, standIns := [], harness := (true, "9c96432229f4bc117768ebbdaccd8b3303f7cb548093f6a044a79f0aa5d36ee4"), looks := false }, kinds := [], alts := [], laidByText := true, laidKinds := [.data, .pinned], laidTests := true, laidLooks := .later }
def StoreMoreUptoCardSaid : Prop := Claim7.holds Tryd.pinned (.plain (OpenSpec.upto storeMoreSpec)) storeMoreUptoCard

/-- THE SECOND FORM's CARD OF 'wykeep.FindBy'. -/
def findByUptoCard : Claim7 := { stood := { row := findByUptoRow, standIns := [], harness := (true, "9c96432229f4bc117768ebbdaccd8b3303f7cb548093f6a044a79f0aa5d36ee4"), looks := false }, kinds := [], alts := [], laidByText := true, laidKinds := [.data, .pinned], laidTests := true, laidLooks := .later }
def FindByUptoCardSaid : Prop := Claim7.holds Tryd.pinned (.plain (OpenSpec.upto findBySpec)) findByUptoCard

/-- THE SECOND FORM's CARD OF 'wykeep.FindWith'. -/
def findWithUptoCard : Claim7 := { stood := { row := findWithUptoRow, standIns := [], harness := (true, "9c96432229f4bc117768ebbdaccd8b3303f7cb548093f6a044a79f0aa5d36ee4"), looks := false }, kinds := [], alts := [], laidByText := true, laidKinds := [.data, .pinned], laidTests := true, laidLooks := .later }
def FindWithUptoCardSaid : Prop := Claim7.holds Tryd.pinned (.plain (OpenSpec.upto findWithSpec)) findWithUptoCard

/-- THE SECOND FORM's CARD OF 'wykeep.FindHides'. -/
def findHidesUptoCard : Claim7 := { stood := { row := findHidesUptoRow, standIns := [], harness := (true, "9c96432229f4bc117768ebbdaccd8b3303f7cb548093f6a044a79f0aa5d36ee4"), looks := false }, kinds := [], alts := [], laidByText := true, laidKinds := [.data, .pinned], laidTests := true, laidLooks := .later }
def FindHidesUptoCardSaid : Prop := Claim7.holds Tryd.pinned (.plain (OpenSpec.upto findHidesSpec)) findHidesUptoCard

/-- THE SECOND FORM's CARD OF 'wykeep.RecordOrder'. -/
def recordOrderUptoCard : Claim7 := { stood := { row := recordOrderUptoRow, standIns := [], harness := (true, "9c96432229f4bc117768ebbdaccd8b3303f7cb548093f6a044a79f0aa5d36ee4"), looks := false }, kinds := [], alts := [], laidByText := true, laidKinds := [.data, .pinned], laidTests := true, laidLooks := .later }
def RecordOrderUptoCardSaid : Prop := Claim7.holds Tryd.pinned (.plain (OpenSpec.upto recordOrderSpec)) recordOrderUptoCard
end Rows
end Go.Proofs.YtbnbpmjfpfdenaaDoor
