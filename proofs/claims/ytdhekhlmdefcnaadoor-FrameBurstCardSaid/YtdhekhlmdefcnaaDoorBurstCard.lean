/- FrameBurst: A BURST IS SEEN: for every frame, place and bits the law returns true; errors.errorType reads as it is listed, which the card ties to the program's text. -/
import Derived.Test.YtdhekhlmdefcnaaDoorBurstTop
import Derived.Test.YtdhekhlmdefcnaaDoorTie
import Derived.Test.YtdhekhlmdefcnaaDoorCards
import Derived.SevenTiedAt
namespace Go.Proofs.YtdhekhlmdefcnaaDoor
open Go
theorem frameBurst_card : Rows.FrameBurstCardSaid :=
  Claim7.holds_tied_plain_at .later [] [.handle] true _ true
    frameBurst_holds (fun _ h => by cases h) (by kernel_rfl) (fun _ h => by cases h) frameBurst_row_tie rfl ⟨rfl, rfl⟩ (by kernel_rfl) rfl
    (fun f fn hf hfn => by
      obtain rfl : f = 6 := Option.some.inj ((show Tryd.prog.funcNamed "triumvir/triumvirkeep.FrameBurst" = some 6 by kernel_rfl).symm.trans hf) |>.symm
      obtain rfl : fn = Tryd.f6 := (Option.some.inj (Tryd.func6.symm.trans hfn)).symm
      exact ⟨by kernel_rfl, fun j t ht => by
        rw [Tryd.params6] at ht
        have hm : t ∈ [40, 3, 50] := by simpa using Array.mem_of_getElem? ht
        have hall : ([40, 3, 50].all fun u => !Tryd.prog.wantsStandIn u) = true := by kernel_rfl
        exact (show Tryd.prog.wantsStandIn t = false by simpa using List.all_eq_true.1 hall t hm)⟩)
    (by kernel_rfl)
#print axioms frameBurst_card
end Go.Proofs.YtdhekhlmdefcnaaDoor
