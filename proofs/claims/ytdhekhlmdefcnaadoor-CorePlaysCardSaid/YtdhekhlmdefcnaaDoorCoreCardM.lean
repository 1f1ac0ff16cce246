/- CorePlays: Whatever is seen, step by step, which signals show proceed, and what is known, is the document's: for every layout, list of inputs and state the law returns true; errors.errorType reads as it is listed, which the card ties to the program's text. -/
import Derived.Test.YtdhekhlmdefcnaaDoorPart37
import Derived.Test.YtdhekhlmdefcnaaDoorTie
import Derived.Test.YtdhekhlmdefcnaaDoorCards
import Derived.SevenTiedAt
namespace Go.Proofs.YtdhekhlmdefcnaaDoor
open Go
theorem corePlays_card : Rows.CorePlaysCardSaid :=
  Claim7.holds_tied_plain_at .later [] [.handle] true _ true
    corePlays_holds (fun _ h => by cases h) (by kernel_rfl) (fun _ h => by cases h) corePlays_row_tie rfl ⟨rfl, rfl⟩ (by kernel_rfl) rfl
    (fun f fn hf hfn => by
      obtain rfl : f = 9 := Option.some.inj ((show Tryd.prog.funcNamed "triumvir/triumvirlaw.CorePlays" = some 9 by kernel_rfl).symm.trans hf) |>.symm
      obtain rfl : fn = Tryd.f9 := (Option.some.inj (Tryd.func9.symm.trans hfn)).symm
      exact ⟨by kernel_rfl, fun j t ht => by
        rw [Tryd.params9] at ht
        have hm : t ∈ [25, 90, 38] := by simpa using Array.mem_of_getElem? ht
        have hall : ([25, 90, 38].all fun u => !Tryd.prog.wantsStandIn u) = true := by kernel_rfl
        exact (show Tryd.prog.wantsStandIn t = false by simpa using List.all_eq_true.1 hall t hm)⟩)
    (by kernel_rfl)
#print axioms corePlays_card
end Go.Proofs.YtdhekhlmdefcnaaDoor
