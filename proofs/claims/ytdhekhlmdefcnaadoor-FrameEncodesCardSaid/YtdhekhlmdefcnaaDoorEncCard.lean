/- FrameEncodes: A frame's bytes, or that it may not be, and the sum of any bytes, are the document's: for every frame and bytes the law returns true; errors.errorType reads as it is listed, which the card ties to the program's text. -/
import Derived.Test.YtdhekhlmdefcnaaDoorEncTop
import Derived.Test.YtdhekhlmdefcnaaDoorTie
import Derived.Test.YtdhekhlmdefcnaaDoorCards
import Derived.SevenTiedAt
namespace Go.Proofs.YtdhekhlmdefcnaaDoor
open Go
theorem frameEncodes_card : Rows.FrameEncodesCardSaid :=
  Claim7.holds_tied_plain_at .later [] [.handle] true _ true
    frameEncodes_holds (fun _ h => by cases h) (by kernel_rfl) (fun _ h => by cases h) frameEncodes_row_tie rfl ⟨rfl, rfl⟩ (by kernel_rfl) rfl
    (fun f fn hf hfn => by
      obtain rfl : f = 4 := Option.some.inj ((show Tryd.prog.funcNamed "triumvir/triumvirlaw.FrameEncodes" = some 4 by kernel_rfl).symm.trans hf) |>.symm
      obtain rfl : fn = Tryd.f4 := (Option.some.inj (Tryd.func4.symm.trans hfn)).symm
      exact ⟨by kernel_rfl, fun j t ht => by
        rw [Tryd.params4] at ht
        have hm : t ∈ [40, 41] := by simpa using Array.mem_of_getElem? ht
        have hall : ([40, 41].all fun u => !Tryd.prog.wantsStandIn u) = true := by kernel_rfl
        exact (show Tryd.prog.wantsStandIn t = false by simpa using List.all_eq_true.1 hall t hm)⟩)
    (by kernel_rfl)
#print axioms frameEncodes_card
end Go.Proofs.YtdhekhlmdefcnaaDoor
