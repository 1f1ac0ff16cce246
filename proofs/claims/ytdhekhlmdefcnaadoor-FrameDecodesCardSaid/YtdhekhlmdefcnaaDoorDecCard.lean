/- FrameDecodes: The frame that any bytes are, as they stand, and with the sum that they should have, is the document's: for all bytes the law returns true; errors.errorType reads as it is listed, which the card ties to the program's text. -/
import Derived.Test.YtdhekhlmdefcnaaDoorDecTop
import Derived.Test.YtdhekhlmdefcnaaDoorTie
import Derived.Test.YtdhekhlmdefcnaaDoorCards
import Derived.SevenTiedAt
namespace Go.Proofs.YtdhekhlmdefcnaaDoor
open Go
theorem frameDecodes_card : Rows.FrameDecodesCardSaid :=
  Claim7.holds_tied_plain_at .later [] [.handle] true _ true
    frameDecodes_holds (fun _ h => by cases h) (by kernel_rfl) (fun _ h => by cases h) frameDecodes_row_tie rfl ⟨rfl, rfl⟩ (by kernel_rfl) rfl
    (fun f fn hf hfn => by
      obtain rfl : f = 7 := Option.some.inj ((show Tryd.prog.funcNamed "triumvir/triumvirlaw.FrameDecodes" = some 7 by kernel_rfl).symm.trans hf) |>.symm
      obtain rfl : fn = Tryd.f7 := (Option.some.inj (Tryd.func7.symm.trans hfn)).symm
      exact ⟨by kernel_rfl, fun j t ht => by
        rw [Tryd.params7] at ht
        have hm : t ∈ [41] := by simpa using Array.mem_of_getElem? ht
        have hall : ([41].all fun u => !Tryd.prog.wantsStandIn u) = true := by kernel_rfl
        exact (show Tryd.prog.wantsStandIn t = false by simpa using List.all_eq_true.1 hall t hm)⟩)
    (by kernel_rfl)
#print axioms frameDecodes_card
end Go.Proofs.YtdhekhlmdefcnaaDoor
