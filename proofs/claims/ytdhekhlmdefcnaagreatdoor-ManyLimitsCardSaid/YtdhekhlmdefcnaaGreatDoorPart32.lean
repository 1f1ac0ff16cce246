/- Part 32 of the proof: DkMust. -/
import Derived.Test.YtdhekhlmdefcnaaGreatDoorPart30
import Derived.Test.YtdhekhlmdefcnaaGreatDoorPart31
import Derived.WalkLawsBesides
namespace Go.Proofs.YtdhekhlmdefcnaaGreatDoor
open Go.RowKit
def pan (n : Int) : List PanicEntry := [{ v := .iface 89 (.agg #[I n]), recovered := false }]
theorem must_nil (w : World) : Calls Tryz.prog 41 #[.nilIface] w fun e w' => e = .returned (.tuple #[]) ∧ w = w' := by
 go_enter Tryz.func41, Tryz.ntmps41
 go_wp2
 go_end0
 exact ⟨rfl, rfl⟩
set_option maxHeartbeats 1000000 in
theorem must_errno (n : Int) (w : World) (hg : Hid (EType w)) : Calls Tryz.prog 41 #[.iface 31 (I n)] w fun e w' => e = .panicked (pan n) ∧ Below w.heap.size w w' := by
 go_enter Tryz.func41, Tryz.ntmps41
 go_wp2_with (go_at_call 9; refine (tell_errno n w hg).mono ?_; rintro e w' ⟨rfl, hb⟩)
 exact ⟨rfl, rfl, hb⟩
end Go.Proofs.YtdhekhlmdefcnaaGreatDoor
