/- VoterPlays: Whatever is told to it, what a voter commits, who is out, and when it is latched, is the document's: for every window, list of what is told and number the law returns true; errors.errorType reads as it is listed, which the card ties to the program's text. -/
import Derived.Test.YtdhekhlmdefcnaaDoorPart29
import Derived.Test.YtdhekhlmdefcnaaDoorTie
import Derived.Test.YtdhekhlmdefcnaaDoorCards
import Derived.SevenTiedAt
namespace Go.Proofs.YtdhekhlmdefcnaaDoor
open Go
theorem voterPlays_card : Rows.VoterPlaysCardSaid :=
  Claim7.holds_tied_plain_at .later [] [.handle] true _ true
    voterPlays_holds (fun _ h => by cases h) (by kernel_rfl) (fun _ h => by cases h) voterPlays_row_tie rfl ⟨rfl, rfl⟩ (by kernel_rfl) rfl
    (fun f fn hf hfn => by
      obtain rfl : f = 8 := Option.some.inj ((show Tryd.prog.funcNamed "triumvir/triumvirlaw.VoterPlays" = some 8 by kernel_rfl).symm.trans hf) |>.symm
      obtain rfl : fn = Tryd.f8 := (Option.some.inj (Tryd.func8.symm.trans hfn)).symm
      exact ⟨by kernel_rfl, fun j t ht => by
        rw [Tryd.params8] at ht
        have hm : t ∈ [3, 63, 3] := by simpa using Array.mem_of_getElem? ht
        have hall : ([3, 63, 3].all fun u => !Tryd.prog.wantsStandIn u) = true := by kernel_rfl
        exact (show Tryd.prog.wantsStandIn t = false by simpa using List.all_eq_true.1 hall t hm)⟩)
    (by kernel_rfl)
#print axioms voterPlays_card
end Go.Proofs.YtdhekhlmdefcnaaDoor
