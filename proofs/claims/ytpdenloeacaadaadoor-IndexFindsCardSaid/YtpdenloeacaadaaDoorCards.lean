/-
  DERIVED. GIVEN WITH THE SEED: THE CARDS: each row of YtpdenloeacaadaaDoorRows.lean that lists a variable, with what it lists TIED to the program's text (the seventh form; the later family's looks); each row that meets fmt, with fmt's text TOLD by the authors' own Lean function (tested against real Go, not proved from fmt's source: count such statements apart). THE CARD IS WHAT COUNTS. Prove the row's statement (the work); the ties are given (YtpdenloeacaadaaDoorTie.lean); close each card by the builder's one call (the guide's Derived/Test/ToyasCard.lean, 'card_holds'). Laid BY PROGRAM, IN A SANDBOX (cutbox-door.mjs). By AI agents, Wed Nov 11 2026. No macro, syntax, notation, axiom, sorry.
-/
import Derived.Test.YtpdenloeacaadaaDoorRows
import GoSem.ClaimSeven
namespace Go.Proofs.YtpdenloeacaadaaDoor
namespace Rows

/-- THE TIED CARD OF 'wykeep.IndexFinds'. -/
def indexFindsCard : Claim7 := { stood := { row := indexFindsRow, standIns := [], harness := (true, "94948aa20d3be4aa049a6c2c3c948d479aff4766ce4ad4b9142d019d5316ab88"), looks := false }, kinds := [], alts := [], laidByText := true, laidKinds := [.data, .pinned], laidTests := true, laidLooks := .later }
def IndexFindsCardSaid : Prop := Claim7.holds Tryd.pinned (.plain (OpenSpec.ofChange indexFindsSpec)) indexFindsCard

/-- THE SECOND FORM's CARD OF 'wykeep.IndexFinds'. -/
def indexFindsUptoCard : Claim7 := { stood := { row := indexFindsUptoRow, standIns := [], harness := (true, "94948aa20d3be4aa049a6c2c3c948d479aff4766ce4ad4b9142d019d5316ab88"), looks := false }, kinds := [], alts := [], laidByText := true, laidKinds := [.data, .pinned], laidTests := true, laidLooks := .later }
def IndexFindsUptoCardSaid : Prop := Claim7.holds Tryd.pinned (.plain (OpenSpec.upto indexFindsSpec)) indexFindsUptoCard
end Rows
end Go.Proofs.YtpdenloeacaadaaDoor
