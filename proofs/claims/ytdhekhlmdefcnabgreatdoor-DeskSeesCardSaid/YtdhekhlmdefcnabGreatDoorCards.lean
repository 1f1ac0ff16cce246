/-
  DERIVED. GIVEN WITH THE SEED: THE CARDS: each row of YtdhekhlmdefcnabGreatDoorRows.lean that lists a variable, with what it lists TIED to the program's text (the seventh form; the later family's looks); each row that meets fmt, with fmt's text TOLD by the authors' own Lean function (tested against real Go, not proved from fmt's source: count such statements apart). THE CARD IS WHAT COUNTS. Prove the row's statement (the work); the ties are given (YtdhekhlmdefcnabGreatDoorTie.lean); close each card by the builder's one call (the guide's Derived/Test/ToyasCard.lean, 'card_holds'). Laid BY PROGRAM, IN A SANDBOX (cutbox-door.mjs). By AI agents, Wed Nov 11 2026. No macro, syntax, notation, axiom, sorry.
-/
import Derived.Test.YtdhekhlmdefcnabGreatDoorRows
import GoSem.ClaimSeven
namespace Go.Proofs.YtdhekhlmdefcnabGreatDoor
namespace Rows

/-- THE TIED CARD OF 'triumvirkeep.DeskPieces'. -/
def deskPiecesCard : Claim7 := { stood := { row := deskPiecesRow, standIns := [], harness := (true, "98476576ce3c8679ae0e44db646febfcfb8bd86ddfaebe9602d378e4a207f7a9"), looks := true }, kinds := [], alts := [], laidByText := true, laidKinds := [.data, .data, .data, .data, .handle, .sentinel, .sentinel, .pinned], laidTests := true, laidLooks := .later }
def DeskPiecesCardSaid : Prop := Claim7.holds Tryz.pinned (.plain (OpenSpec.ofChange deskPiecesSpec)) deskPiecesCard

/-- THE TIED CARD OF 'triumvirkeep.DeskSees'. -/
def deskSeesCard : Claim7 := { stood := { row := deskSeesRow, standIns := [], harness := (true, "98476576ce3c8679ae0e44db646febfcfb8bd86ddfaebe9602d378e4a207f7a9"), looks := true }, kinds := [], alts := [], laidByText := true, laidKinds := [.data, .data, .data, .data, .handle, .sentinel, .sentinel, .pinned], laidTests := true, laidLooks := .later }
def DeskSeesCardSaid : Prop := Claim7.holds Tryz.pinned (.plain (OpenSpec.ofChange deskSeesSpec)) deskSeesCard

/-- THE SECOND FORM's CARD OF 'triumvirkeep.DeskPieces'. -/
def deskPiecesUptoCard : Claim7 := { stood := { row := deskPiecesUptoRow, standIns := [], harness := (true, "98476576ce3c8679ae0e44db646febfcfb8bd86ddfaebe9602d378e4a207f7a9"), looks := true }, kinds := [], alts := [], laidByText := true, laidKinds := [.data, .data, .data, .data, .handle, .sentinel, .sentinel, .pinned], laidTests := true, laidLooks := .later }
def DeskPiecesUptoCardSaid : Prop := Claim7.holds Tryz.pinned (.plain (OpenSpec.upto deskPiecesSpec)) deskPiecesUptoCard

/-- THE SECOND FORM's CARD OF 'triumvirkeep.DeskSees'. -/
def deskSeesUptoCard : Claim7 := { stood := { row := deskSeesUptoRow, standIns := [], harness := (true, "98476576ce3c8679ae0e44db646febfcfb8bd86ddfaebe9602d378e4a207f7a9"), looks := true }, kinds := [], alts := [], laidByText := true, laidKinds := [.data, .data, .data, .data, .handle, .sentinel, .sentinel, .pinned], laidTests := true, laidLooks := .later }
def DeskSeesUptoCardSaid : Prop := Claim7.holds Tryz.pinned (.plain (OpenSpec.upto deskSeesSpec)) deskSeesUptoCard
end Rows
end Go.Proofs.YtdhekhlmdefcnabGreatDoor
