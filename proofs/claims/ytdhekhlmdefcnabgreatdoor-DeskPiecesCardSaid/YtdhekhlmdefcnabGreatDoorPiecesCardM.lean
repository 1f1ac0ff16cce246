/- DeskPieces: The answers to the first lines of a session are the beginning of the answers to all: for every two texts the law returns true; the listed variables (tables of math/bits, strconv and utf8, two errors of strconv, errors.errorType) read as they are listed, which the card ties to the program's text. -/
import Derived.Test.YtdhekhlmdefcnabGreatDoorPart46
import Derived.Test.YtdhekhlmdefcnabGreatDoorTie
import Derived.Test.YtdhekhlmdefcnabGreatDoorCards
import Derived.SevenTiedAt
namespace Go.Proofs.YtdhekhlmdefcnabGreatDoor
open Go
theorem deskPieces_card : Rows.DeskPiecesCardSaid :=
  Claim7.holds_tied_plain_at .later [] [.data, .data, .data, .data, .handle, .sentinel, .sentinel, .pinned] true _ true
    deskPieces_holds (fun _ h => by cases h) (by kernel_rfl) (fun _ h => by cases h) deskPieces_row_tie rfl ⟨rfl, rfl⟩ (by kernel_rfl) rfl
    (fun f fn hf hfn => by
      obtain rfl : f = 3 := Option.some.inj ((show Tryz.prog.funcNamed "triumvir/triumvirkeep.DeskPieces" = some 3 by kernel_rfl).symm.trans hf) |>.symm
      obtain rfl : fn = Tryz.f3 := (Option.some.inj (Tryz.func3.symm.trans hfn)).symm
      exact ⟨by kernel_rfl, fun j t ht => by
        rw [Tryz.params3] at ht
        have hm : t ∈ [9, 9] := by simpa using Array.mem_of_getElem? ht
        have hall : ([9, 9].all fun u => !Tryz.prog.wantsStandIn u) = true := by kernel_rfl
        exact (show Tryz.prog.wantsStandIn t = false by simpa using List.all_eq_true.1 hall t hm)⟩)
    (by kernel_rfl)
#print axioms deskPieces_card
end Go.Proofs.YtdhekhlmdefcnabGreatDoor
