/-
  DERIVED. GIVEN WITH THE SEED: THE CARDS: each row of YtonolfpnidaflaaGreatDoorRows.lean that lists a variable, with what it lists TIED to the program's text (the seventh form; the later family's looks); each row that meets fmt, with fmt's text TOLD by the authors' own Lean function (tested against real Go, not proved from fmt's source: count such statements apart). THE CARD IS WHAT COUNTS. Prove the row's statement (the work); the ties are given (YtonolfpnidaflaaGreatDoorTie.lean); close each card by the builder's one call (the guide's Derived/Test/ToyasCard.lean, 'card_holds'). Laid BY PROGRAM, IN A SANDBOX (cutbox-door.mjs). By AI agents, Wed Nov 11 2026. No macro, syntax, notation, axiom, sorry.
-/
import Derived.Test.YtonolfpnidaflaaGreatDoorRows
import GoSem.ClaimSeven
namespace Go.Proofs.YtonolfpnidaflaaGreatDoor
namespace Rows

/-- THE TIED CARD OF 'wykeep.ServerLog'. -/
def serverLogCard : Claim7 := { stood := { row := serverLogRow, standIns := [], harness := (true, "f19b0f3b791bc847946333f865216859db50390b3a4d77f76627e1afec1785bd"), looks := true }, kinds := [], alts := [], laidByText := true, laidKinds := [.data, .data, .data, .data, .sentinel, .sentinel, .pinned], laidTests := true, laidLooks := .later }
def ServerLogCardSaid : Prop := Claim7.holds Tryz.pinned (.plain (OpenSpec.ofChange serverLogSpec)) serverLogCard

/-- THE TIED CARD OF 'wykeep.DeskPuts'. -/
def deskPutsCard : Claim7 := { stood := { row := deskPutsRow, standIns := [], harness := (true, "f19b0f3b791bc847946333f865216859db50390b3a4d77f76627e1afec1785bd"), looks := true }, kinds := [], alts := [], laidByText := true, laidKinds := [.data, .data, .data, .data, .sentinel, .sentinel, .pinned], laidTests := true, laidLooks := .later }
def DeskPutsCardSaid : Prop := Claim7.holds Tryz.pinned (.plain (OpenSpec.ofChange deskPutsSpec)) deskPutsCard

/-- THE TIED CARD OF 'wykeep.DeskBegins'. -/
def deskBeginsCard : Claim7 := { stood := { row := deskBeginsRow, standIns := [], harness := (true, "f19b0f3b791bc847946333f865216859db50390b3a4d77f76627e1afec1785bd"), looks := true }, kinds := [], alts := [], laidByText := true, laidKinds := [.data, .data, .data, .data, .sentinel, .sentinel, .pinned], laidTests := true, laidLooks := .later }
def DeskBeginsCardSaid : Prop := Claim7.holds Tryz.pinned (.plain (OpenSpec.ofChange deskBeginsSpec)) deskBeginsCard

/-- THE TIED CARD OF 'wykeep.DeskLines'. -/
def deskLinesCard : Claim7 := { stood := { row := deskLinesRow, standIns := [], harness := (true, "f19b0f3b791bc847946333f865216859db50390b3a4d77f76627e1afec1785bd"), looks := true }, kinds := [], alts := [], laidByText := true, laidKinds := [.data, .data, .data, .data, .sentinel, .sentinel, .pinned], laidTests := true, laidLooks := .later }
def DeskLinesCardSaid : Prop := Claim7.holds Tryz.pinned (.plain (OpenSpec.ofChange deskLinesSpec)) deskLinesCard

/-- THE TIED CARD OF 'wytop.TopShips'. -/
def topShipsCard : Claim7 := { stood := { row := topShipsRow, standIns := [], harness := (true, "f19b0f3b791bc847946333f865216859db50390b3a4d77f76627e1afec1785bd"), looks := true }, kinds := [], alts := [], laidByText := true, laidKinds := [.data, .data, .data, .data, .sentinel, .sentinel, .pinned], laidTests := true, laidLooks := .later }
def TopShipsCardSaid : Prop := Claim7.holds Tryz.pinned (.plain (OpenSpec.ofChange topShipsSpec)) topShipsCard

/-- THE SECOND FORM's CARD OF 'wykeep.ServerLog'. -/
def serverLogUptoCard : Claim7 := { stood := { row := serverLogUptoRow, standIns := [], harness := (true, "f19b0f3b791bc847946333f865216859db50390b3a4d77f76627e1afec1785bd"), looks := true }, kinds := [], alts := [], laidByText := true, laidKinds := [.data, .data, .data, .data, .sentinel, .sentinel, .pinned], laidTests := true, laidLooks := .later }
def ServerLogUptoCardSaid : Prop := Claim7.holds Tryz.pinned (.plain (OpenSpec.upto serverLogSpec)) serverLogUptoCard

/-- THE SECOND FORM's CARD OF 'wykeep.DeskPuts'. -/
def deskPutsUptoCard : Claim7 := { stood := { row := deskPutsUptoRow, standIns := [], harness := (true, "f19b0f3b791bc847946333f865216859db50390b3a4d77f76627e1afec1785bd"), looks := true }, kinds := [], alts := [], laidByText := true, laidKinds := [.data, .data, .data, .data, .sentinel, .sentinel, .pinned], laidTests := true, laidLooks := .later }
def DeskPutsUptoCardSaid : Prop := Claim7.holds Tryz.pinned (.plain (OpenSpec.upto deskPutsSpec)) deskPutsUptoCard

/-- THE SECOND FORM's CARD OF 'wykeep.DeskBegins'. -/
def deskBeginsUptoCard : Claim7 := { stood := { row := deskBeginsUptoRow, standIns := [], harness := (true, "f19b0f3b791bc847946333f865216859db50390b3a4d77f76627e1afec1785bd"), looks := true }, kinds := [], alts := [], laidByText := true, laidKinds := [.data, .data, .data, .data, .sentinel, .sentinel, .pinned], laidTests := true, laidLooks := .later }
def DeskBeginsUptoCardSaid : Prop := Claim7.holds Tryz.pinned (.plain (OpenSpec.upto deskBeginsSpec)) deskBeginsUptoCard

/-- THE SECOND FORM's CARD OF 'wykeep.DeskLines'. -/
def deskLinesUptoCard : Claim7 := { stood := { row := deskLinesUptoRow, standIns := [], harness := (true, "f19b0f3b791bc847946333f865216859db50390b3a4d77f76627e1afec1785bd"), looks := true }, kinds := [], alts := [], laidByText := true, laidKinds := [.data, .data, .data, .data, .sentinel, .sentinel, .pinned], laidTests := true, laidLooks := .later }
def DeskLinesUptoCardSaid : Prop := Claim7.holds Tryz.pinned (.plain (OpenSpec.upto deskLinesSpec)) deskLinesUptoCard

/-- THE SECOND FORM's CARD OF 'wytop.TopShips'. -/
def topShipsUptoCard : Claim7 := { stood := { row := topShipsUptoRow, standIns := [], harness := (true, "f19b0f3b791bc847946333f865216859db50390b3a4d77f76627e1afec1785bd"), looks := true }, kinds := [], alts := [], laidByText := true, laidKinds := [.data, .data, .data, .data, .sentinel, .sentinel, .pinned], laidTests := true, laidLooks := .later }
def TopShipsUptoCardSaid : Prop := Claim7.holds Tryz.pinned (.plain (OpenSpec.upto topShipsSpec)) topShipsUptoCard
end Rows
end Go.Proofs.YtonolfpnidaflaaGreatDoor
