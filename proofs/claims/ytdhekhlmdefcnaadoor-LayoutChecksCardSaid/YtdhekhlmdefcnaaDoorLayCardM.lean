/- LayoutChecks: What is wrong with a layout, its conflicts, how many routes may be set at once, and what of an input counts, is the document's: for every layout and input the law returns true; the two tables of math/bits and errors.errorType read as they are listed, which the card ties to the program's text. -/
import Derived.Test.YtdhekhlmdefcnaaDoorPart19
import Derived.Test.YtdhekhlmdefcnaaDoorTie
import Derived.Test.YtdhekhlmdefcnaaDoorCards
import Derived.SevenTiedAt
namespace Go.Proofs.YtdhekhlmdefcnaaDoor
open Go
theorem layoutChecks_card : Rows.LayoutChecksCardSaid :=
  Claim7.holds_tied_plain_at .later [] [.data, .data, .handle] true _ true
    layoutChecks_holds (fun _ h => by cases h) (by kernel_rfl) (fun _ h => by cases h) layoutChecks_row_tie rfl ⟨rfl, rfl⟩ (by kernel_rfl) rfl
    (fun f fn hf hfn => by
      obtain rfl : f = 10 := Option.some.inj ((show Tryd.prog.funcNamed "triumvir/triumvirlaw.LayoutChecks" = some 10 by kernel_rfl).symm.trans hf) |>.symm
      obtain rfl : fn = Tryd.f10 := (Option.some.inj (Tryd.func10.symm.trans hfn)).symm
      exact ⟨by kernel_rfl, fun j t ht => by
        rw [Tryd.params10] at ht
        have hm : t ∈ [25, 35] := by simpa using Array.mem_of_getElem? ht
        have hall : ([25, 35].all fun u => !Tryd.prog.wantsStandIn u) = true := by kernel_rfl
        exact (show Tryd.prog.wantsStandIn t = false by simpa using List.all_eq_true.1 hall t hm)⟩)
    (by kernel_rfl)
#print axioms layoutChecks_card
end Go.Proofs.YtdhekhlmdefcnaaDoor
