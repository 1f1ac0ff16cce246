/- DeskSees: What all three see is committed by a session as it is by a system: for every input and number of rounds the law returns true; the listed variables (tables of math/bits, strconv and utf8, two errors of strconv, errors.errorType) read as they are listed, which the card ties to the program's text. -/
import Derived.Test.YtdhekhlmdefcnabGreatDoorPart48
import Derived.Test.YtdhekhlmdefcnabGreatDoorTie
import Derived.Test.YtdhekhlmdefcnabGreatDoorCards
import Derived.SevenTiedAt
namespace Go.Proofs.YtdhekhlmdefcnabGreatDoor
open Go
theorem deskSees_card : Rows.DeskSeesCardSaid :=
  Claim7.holds_tied_plain_at .later [] [.data, .data, .data, .data, .handle, .sentinel, .sentinel, .pinned] true _ true
    deskSees_holds (fun _ h => by cases h) (by kernel_rfl) (fun _ h => by cases h) deskSees_row_tie rfl ⟨rfl, rfl⟩ (by kernel_rfl) rfl
    (fun f fn hf hfn => by
      obtain rfl : f = 4 := Option.some.inj ((show Tryz.prog.funcNamed "triumvir/triumvirkeep.DeskSees" = some 4 by kernel_rfl).symm.trans hf) |>.symm
      obtain rfl : fn = Tryz.f4 := (Option.some.inj (Tryz.func4.symm.trans hfn)).symm
      exact ⟨by kernel_rfl, fun j t ht => by
        rw [Tryz.params4] at ht
        have hm : t ∈ [26, 3] := by simpa using Array.mem_of_getElem? ht
        have hall : ([26, 3].all fun u => !Tryz.prog.wantsStandIn u) = true := by kernel_rfl
        exact (show Tryz.prog.wantsStandIn t = false by simpa using List.all_eq_true.1 hall t hm)⟩)
    (by kernel_rfl)
#print axioms deskSees_card
end Go.Proofs.YtdhekhlmdefcnabGreatDoor
