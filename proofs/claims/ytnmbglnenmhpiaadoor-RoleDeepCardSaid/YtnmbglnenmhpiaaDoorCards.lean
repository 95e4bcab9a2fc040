/-
  DERIVED. GIVEN WITH THE SEED: THE CARDS: each row of YtnmbglnenmhpiaaDoorRows.lean that lists a variable, with what it lists TIED to the program's text (the seventh form; the later family's looks); each row that meets fmt, with fmt's text TOLD by the authors' own Lean function (tested against real Go, not proved from fmt's source: count such statements apart). THE CARD IS WHAT COUNTS. Prove the row's statement (the work); the ties are given (YtnmbglnenmhpiaaDoorTie.lean); close each card by the builder's one call (the guide's Derived/Test/ToyasCard.lean, 'card_holds'). Laid BY PROGRAM, IN A SANDBOX (cutbox-door.mjs). By AI agents, Wed Nov 11 2026. No macro, syntax, notation, axiom, sorry.
-/
import Derived.Test.YtnmbglnenmhpiaaDoorRows
import GoSem.ClaimSeven
namespace Go.Proofs.YtnmbglnenmhpiaaDoor
namespace Rows

/-- THE TIED CARD OF 'wykeep.RoleDeep'. -/
def roleDeepCard : Claim7 := { stood := { row := roleDeepRow, standIns := [], harness := (true, "b569f1b15d56e7716b7e3498349ff75d88793c3f918325c3270cba104a7b21a9"), looks := false }, kinds := [], alts := [], laidByText := true, laidKinds := [.data, .data], laidTests := true, laidLooks := .later }
def RoleDeepCardSaid : Prop := Claim7.holds Tryd.pinned (.plain (OpenSpec.ofChange roleDeepSpec)) roleDeepCard

/-- THE TIED CARD OF 'wykeep.RecordOrder'. -/
def recordOrderCard : Claim7 := { stood := { row := recordOrderRow, standIns := [], harness := (true, "b569f1b15d56e7716b7e3498349ff75d88793c3f918325c3270cba104a7b21a9"), looks := false }, kinds := [], alts := [], laidByText := true, laidKinds := [.data, .pinned], laidTests := true, laidLooks := .later }
def RecordOrderCardSaid : Prop := Claim7.holds Tryd.pinned (.plain (OpenSpec.ofChange recordOrderSpec)) recordOrderCard

/-- THE SECOND FORM's CARD OF 'wykeep.RoleDeep'. -/
def roleDeepUptoCard : Claim7 := { stood := { row := roleDeepUptoRow, standIns := [], harness := (true, "b569f1b15d56e7716b7e3498349ff75d88793c3f918325c3270cba104a7b21a9"), looks := false }, kinds := [], alts := [], laidByText := true, laidKinds := [.data, .data], laidTests := true, laidLooks := .later }
def RoleDeepUptoCardSaid : Prop := Claim7.holds Tryd.pinned (.plain (OpenSpec.upto roleDeepSpec)) roleDeepUptoCard

/-- THE SECOND FORM's CARD OF 'wykeep.RecordOrder'. -/
def recordOrderUptoCard : Claim7 := { stood := { row := recordOrderUptoRow, standIns := [], harness := (true, "b569f1b15d56e7716b7e3498349ff75d88793c3f918325c3270cba104a7b21a9"), looks := false }, kinds := [], alts := [], laidByText := true, laidKinds := [.data, .pinned], laidTests := true, laidLooks := .later }
def RecordOrderUptoCardSaid : Prop := Claim7.holds Tryd.pinned (.plain (OpenSpec.upto recordOrderSpec)) recordOrderUptoCard
end Rows
end Go.Proofs.YtnmbglnenmhpiaaDoor
