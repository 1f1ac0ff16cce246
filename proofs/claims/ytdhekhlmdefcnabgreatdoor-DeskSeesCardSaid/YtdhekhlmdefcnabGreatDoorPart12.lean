/- Part 12 of the proof: DkMust. -/
import Derived.Test.YtdhekhlmdefcnabGreatDoorPart6
import Derived.Test.YtdhekhlmdefcnabGreatDoorPart11
import Derived.WalkLawsBesides
namespace Go.Proofs.YtdhekhlmdefcnabGreatDoor
open Go.RowKit
def pan (n : Int) : List PanicEntry := [{ v := .iface 80 (.agg #[I n]), recovered := false }]
theorem must_nil (w : World) : Calls Tryz.prog 28 #[.nilIface] w fun e w' => e = .returned (.tuple #[]) ∧ w = w' := by
 go_enter Tryz.func28, Tryz.ntmps28
 go_wp2
 go_end0
 exact ⟨rfl, rfl⟩
set_option maxHeartbeats 1000000 in
theorem must_errno (n : Int) (w : World) (hg : Hid (EType w)) : Calls Tryz.prog 28 #[.iface 73 (I n)] w fun e w' => e = .panicked (pan n) ∧ Below w.heap.size w w' := by
 go_enter Tryz.func28, Tryz.ntmps28
 go_wp2_with (go_at_call 45; refine (tell_errno n w hg).mono ?_; rintro e w' ⟨rfl, hb⟩)
 exact ⟨rfl, rfl, hb⟩
set_option maxHeartbeats 1000000 in
theorem must_at (n p : Int) (b : Nat) (w : World) (hg : Hid (EType w)) (ka : Has w b 88 #[I n, I p]) : Calls Tryz.prog 28 #[.iface 86 (.pointer (some ⟨b, 0, none⟩))] w fun e w' => e = .panicked (pan n) ∧ Below w.heap.size w w' := by
 go_enter Tryz.func28, Tryz.ntmps28
 go_wp2_with (go_at_call 45; refine (tell_at n p b w hg ka).mono ?_; rintro e w' ⟨rfl, hb⟩)
 exact ⟨rfl, rfl, hb⟩
end Go.Proofs.YtdhekhlmdefcnabGreatDoor
