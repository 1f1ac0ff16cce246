/-
  DERIVED. GIVEN WITH THE SEED: THE CARDS: each row of YtdhekhlmdefcnaaGreatDoorRows.lean that lists a variable, with what it lists TIED to the program's text (the seventh form; the later family's looks); each row that meets fmt, with fmt's text TOLD by the authors' own Lean function (tested against real Go, not proved from fmt's source: count such statements apart). THE CARD IS WHAT COUNTS. Prove the row's statement (the work); the ties are given (YtdhekhlmdefcnaaGreatDoorTie.lean); close each card by the builder's one call (the guide's Derived/Test/ToyasCard.lean, 'card_holds'). Laid BY PROGRAM, IN A SANDBOX (cutbox-door.mjs). By AI agents, Wed Nov 11 2026. No macro, syntax, notation, axiom, sorry.
-/
import Derived.Test.YtdhekhlmdefcnaaGreatDoorRows
import GoSem.ClaimSeven
namespace Go.Proofs.YtdhekhlmdefcnaaGreatDoor
namespace Rows

/-- THE TIED CARD OF 'triumvirkeep.ManyWorkers'. -/
def manyWorkersCard : Claim7 := { stood := { row := manyWorkersRow, standIns := [], harness := (true, "c057b193c053e36c0d3006adf72c44fce056a86c1f7f477554012abd37e4a607"), looks := true }, kinds := [], alts := [], goes := true, laidByText := true, laidKinds := [.data, .data, .data, .data, .handle, .sentinel, .sentinel, .pinned], laidTests := true, laidLooks := .later }
def ManyWorkersCardSaid : Prop := Claim7.holds Tryz.pinned (.plain (OpenSpec.ofChange manyWorkersSpec)) manyWorkersCard

/-- THE TIED CARD OF 'triumvirkeep.ManyLimits'. -/
def manyLimitsCard : Claim7 := { stood := { row := manyLimitsRow, standIns := [], harness := (true, "c057b193c053e36c0d3006adf72c44fce056a86c1f7f477554012abd37e4a607"), looks := true }, kinds := [], alts := [], goes := true, laidByText := true, laidKinds := [.data, .data, .data, .data, .handle, .sentinel, .sentinel, .pinned], laidTests := true, laidLooks := .later }
def ManyLimitsCardSaid : Prop := Claim7.holds Tryz.pinned (.plain (OpenSpec.ofChange manyLimitsSpec)) manyLimitsCard

/-- THE SECOND FORM's CARD OF 'triumvirkeep.ManyWorkers'. -/
def manyWorkersUptoCard : Claim7 := { stood := { row := manyWorkersUptoRow, standIns := [], harness := (true, "c057b193c053e36c0d3006adf72c44fce056a86c1f7f477554012abd37e4a607"), looks := true }, kinds := [], alts := [], goes := true, laidByText := true, laidKinds := [.data, .data, .data, .data, .handle, .sentinel, .sentinel, .pinned], laidTests := true, laidLooks := .later }
def ManyWorkersUptoCardSaid : Prop := Claim7.holds Tryz.pinned (.plain (OpenSpec.upto manyWorkersSpec)) manyWorkersUptoCard

/-- THE SECOND FORM's CARD OF 'triumvirkeep.ManyLimits'. -/
def manyLimitsUptoCard : Claim7 := { stood := { row := manyLimitsUptoRow, standIns := [], harness := (true, "c057b193c053e36c0d3006adf72c44fce056a86c1f7f477554012abd37e4a607"), looks := true }, kinds := [], alts := [], goes := true, laidByText := true, laidKinds := [.data, .data, .data, .data, .handle, .sentinel, .sentinel, .pinned], laidTests := true, laidLooks := .later }
def ManyLimitsUptoCardSaid : Prop := Claim7.holds Tryz.pinned (.plain (OpenSpec.upto manyLimitsSpec)) manyLimitsUptoCard
end Rows
end Go.Proofs.YtdhekhlmdefcnaaGreatDoor
