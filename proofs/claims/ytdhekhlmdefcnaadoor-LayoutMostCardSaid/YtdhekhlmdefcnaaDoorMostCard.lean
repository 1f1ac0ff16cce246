/- LayoutMost: A ROUTE IS ITS OWN: for every number of sections, list of routes and set the law returns true; the two tables of math/bits read as they are listed, which the card ties to the program's text. -/
import Derived.Test.YtdhekhlmdefcnaaDoorMostTop
import Derived.Test.YtdhekhlmdefcnaaDoorTie
import Derived.Test.YtdhekhlmdefcnaaDoorCards
import Derived.SevenTiedAt
namespace Go.Proofs.YtdhekhlmdefcnaaDoor
open Go
theorem layoutMost_card : Rows.LayoutMostCardSaid :=
  Claim7.holds_tied_plain_at .later [] [.data, .data] true _ true
    layoutMost_holds (fun _ h => by cases h) (by kernel_rfl) (fun _ h => by cases h) layoutMost_row_tie rfl ⟨rfl, rfl⟩ (by kernel_rfl) rfl
    (fun f fn hf hfn => by
      obtain rfl : f = 3 := Option.some.inj ((show Tryd.prog.funcNamed "triumvir/triumvirkeep.LayoutMost" = some 3 by kernel_rfl).symm.trans hf) |>.symm
      obtain rfl : fn = Tryd.f3 := (Option.some.inj (Tryd.func3.symm.trans hfn)).symm
      exact ⟨by kernel_rfl, fun j t ht => by
        rw [Tryd.params3] at ht
        have hm : t ∈ [3, 22, 3] := by simpa using Array.mem_of_getElem? ht
        have hall : ([3, 22, 3].all fun u => !Tryd.prog.wantsStandIn u) = true := by kernel_rfl
        exact (show Tryd.prog.wantsStandIn t = false by simpa using List.all_eq_true.1 hall t hm)⟩)
    (by kernel_rfl)
#print axioms layoutMost_card
end Go.Proofs.YtdhekhlmdefcnaaDoor
