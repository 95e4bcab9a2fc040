/-
  DERIVED. GIVEN WITH THE SEED: THE CARDS: each row of YtanbgeelphfggaaDoorRows.lean that lists a variable, with what it lists TIED to the program's text (the seventh form; the later family's looks); each row that meets fmt, with fmt's text TOLD by the authors' own Lean function (tested against real Go, not proved from fmt's source: count such statements apart). THE CARD IS WHAT COUNTS. Prove the row's statement (the work); the ties are given (YtanbgeelphfggaaDoorTie.lean); close each card by the builder's one call (the guide's Derived/Test/ToyasCard.lean, 'card_holds'). Laid BY PROGRAM, IN A SANDBOX (cutbox-door.mjs). By AI agents, Wed Nov 11 2026. No macro, syntax, notation, axiom, sorry.
-/
import Derived.Test.YtanbgeelphfggaaDoorRows
import GoSem.ClaimSeven
namespace Go.Proofs.YtanbgeelphfggaaDoor
namespace Rows

/-- THE TIED CARD OF 'wykeep.RoleDeep'. -/
def roleDeepCard : Claim7 := { stood := { row := roleDeepRow, standIns := [], harness := (true, "69cba9f4e0ca9af407a54bf915cd509640b2fee70f695c96468acd99df0862f2"), looks := false }, kinds := [], alts := [], laidByText := true, laidKinds := [.data, .data], laidTests := true, laidLooks := .later }
def RoleDeepCardSaid : Prop := Claim7.holds Tryd.pinned (.plain (OpenSpec.ofChange roleDeepSpec)) roleDeepCard

/-- THE TIED CARD OF 'wykeep.StoreReads'. -/
def storeReadsCard : Claim7 := { stood := { row := storeReadsRow, standIns := [], harness := (true, "69cba9f4e0ca9af407a54bf915cd509640b2fee70f695c96468acd99df0862f2"), looks := false }, kinds := [], alts := [], laidByText := true, laidKinds := [.data, .pinned], laidTests := true, laidLooks := .later }
def StoreReadsCardSaid : Prop := Claim7.holds Tryd.pinned (.plain (OpenSpec.ofChange storeReadsSpec)) storeReadsCard

/-- THE TIED CARD OF 'wykeep.StoreLife'. -/
def storeLifeCard : Claim7 := { stood := { row := storeLifeRow, standIns := [], harness := (true, "69cba9f4e0ca9af407a54bf915cd509640b2fee70f695c96468acd99df0862f2"), looks := false }, kinds := [], alts := [], laidByText := true, laidKinds := [.data, .pinned], laidTests := true, laidLooks := .later }
def StoreLifeCardSaid : Prop := Claim7.holds Tryd.pinned (.plain (OpenSpec.ofChange storeLifeSpec)) storeLifeCard

/-- THE SECOND FORM's CARD OF 'wykeep.RoleDeep'. -/
def roleDeepUptoCard : Claim7 := { stood := { row := roleDeepUptoRow, standIns := [], harness := (true, "69cba9f4e0ca9af407a54bf915cd509640b2fee70f695c96468acd99df0862f2"), looks := false }, kinds := [], alts := [], laidByText := true, laidKinds := [.data, .data], laidTests := true, laidLooks := .later }
def RoleDeepUptoCardSaid : Prop := Claim7.holds Tryd.pinned (.plain (OpenSpec.upto roleDeepSpec)) roleDeepUptoCard

/-- THE SECOND FORM's CARD OF 'wykeep.StoreReads'. -/
def storeReadsUptoCard : Claim7 := { stood := { row := storeReadsUptoRow, standIns := [], harness := (true, "69cba9f4e0ca9af407a54bf915cd509640b2fee70f695c96468acd99df0862f2"), looks := false }, kinds := [], alts := [], laidByText := true, laidKinds := [.data, .pinned], laidTests := true, laidLooks := .later }
def StoreReadsUptoCardSaid : Prop := Claim7.holds Tryd.pinned (.plain (OpenSpec.upto storeReadsSpec)) storeReadsUptoCard

/-- THE SECOND FORM's CARD OF 'wykeep.StoreLife'. -/
def storeLifeUptoCard : Claim7 := { stood := { row := storeLifeUptoRow, standIns := [], harness := (true, "69cba9f4e0ca9af407a54bf915cd509640b2fee70f695c96468acd99df0862f2"), looks := false }, kinds := [], alts := [], laidByText := true, laidKinds := [.data, .pinned], laidTests := true, laidLooks := .later }
def StoreLifeUptoCardSaid : Prop := Claim7.holds Tryd.pinned (.plain (OpenSpec.upto storeLifeSpec)) storeLifeUptoCard
end Rows
end Go.Proofs.YtanbgeelphfggaaDoor
