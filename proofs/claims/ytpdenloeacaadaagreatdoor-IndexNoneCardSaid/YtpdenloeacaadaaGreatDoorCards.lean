/-
  DERIVED. GIVEN WITH THE SEED: THE CARDS: each row of YtpdenloeacaadaaGreatDoorRows.lean that lists a variable, with what it lists TIED to the program's text (the seventh form; the later family's looks); each row that meets fmt, with fmt's text TOLD by the authors' own Lean function (tested against real Go, not proved from fmt's source: count such statements apart). THE CARD IS WHAT COUNTS. Prove the row's statement (the work); the ties are given (YtpdenloeacaadaaGreatDoorTie.lean); close each card by the builder's one call (the guide's Derived/Test/ToyasCard.lean, 'card_holds'). Laid BY PROGRAM, IN A SANDBOX (cutbox-door.mjs). By AI agents, Wed Nov 11 2026. No macro, syntax, notation, axiom, sorry.
-/
import Derived.Test.YtpdenloeacaadaaGreatDoorRows
import GoSem.ClaimSeven
namespace Go.Proofs.YtpdenloeacaadaaGreatDoor
namespace Rows

/-- THE TIED CARD OF 'wykeep.IndexNone'. -/
def indexNoneCard : Claim7 := { stood := { row := indexNoneRow, standIns := [], harness := (true, "2ca40c71ef77279907edbc2f107f28756776158ac3127e96aa40b2dc4a962bfb"), looks := false }, kinds := [], alts := [], laidByText := true, laidKinds := [.data, .pinned], laidTests := true, laidLooks := .later }
def IndexNoneCardSaid : Prop := Claim7.holds Tryz.pinned (.plain (OpenSpec.ofChange indexNoneSpec)) indexNoneCard

/-- THE TIED CARD OF 'wykeep.IndexNotes'. -/
def indexNotesCard : Claim7 := { stood := { row := indexNotesRow, standIns := [], harness := (true, "2ca40c71ef77279907edbc2f107f28756776158ac3127e96aa40b2dc4a962bfb"), looks := false }, kinds := [], alts := [], laidByText := true, laidKinds := [.data, .pinned], laidTests := true, laidLooks := .later }
def IndexNotesCardSaid : Prop := Claim7.holds Tryz.pinned (.plain (OpenSpec.ofChange indexNotesSpec)) indexNotesCard

/-- THE TIED CARD OF 'wykeep.IndexOther'. -/
def indexOtherCard : Claim7 := { stood := { row := indexOtherRow, standIns := [], harness := (true, "2ca40c71ef77279907edbc2f107f28756776158ac3127e96aa40b2dc4a962bfb"), looks := false }, kinds := [], alts := [], laidByText := true, laidKinds := [.data, .pinned], laidTests := true, laidLooks := .later }
def IndexOtherCardSaid : Prop := Claim7.holds Tryz.pinned (.plain (OpenSpec.ofChange indexOtherSpec)) indexOtherCard

/-- THE SECOND FORM's CARD OF 'wykeep.IndexNone'. -/
def indexNoneUptoCard : Claim7 := { stood := { row := indexNoneUptoRow, standIns := [], harness := (true, "2ca40c71ef77279907edbc2f107f28756776158ac3127e96aa40b2dc4a962bfb"), looks := false }, kinds := [], alts := [], laidByText := true, laidKinds := [.data, .pinned], laidTests := true, laidLooks := .later }
def IndexNoneUptoCardSaid : Prop := Claim7.holds Tryz.pinned (.plain (OpenSpec.upto indexNoneSpec)) indexNoneUptoCard

/-- THE SECOND FORM's CARD OF 'wykeep.IndexNotes'. -/
def indexNotesUptoCard : Claim7 := { stood := { row := indexNotesUptoRow, standIns := [], harness := (true, "2ca40c71ef77279907edbc2f107f28756776158ac3127e96aa40b2dc4a962bfb"), looks := false }, kinds := [], alts := [], laidByText := true, laidKinds := [.data, .pinned], laidTests := true, laidLooks := .later }
def IndexNotesUptoCardSaid : Prop := Claim7.holds Tryz.pinned (.plain (OpenSpec.upto indexNotesSpec)) indexNotesUptoCard

/-- THE SECOND FORM's CARD OF 'wykeep.IndexOther'. -/
def indexOtherUptoCard : Claim7 := { stood := { row := indexOtherUptoRow, standIns := [], harness := (true, "2ca40c71ef77279907edbc2f107f28756776158ac3127e96aa40b2dc4a962bfb"), looks := false }, kinds := [], alts := [], laidByText := true, laidKinds := [.data, .pinned], laidTests := true, laidLooks := .later }
def IndexOtherUptoCardSaid : Prop := Claim7.holds Tryz.pinned (.plain (OpenSpec.upto indexOtherSpec)) indexOtherUptoCard
end Rows
end Go.Proofs.YtpdenloeacaadaaGreatDoor
