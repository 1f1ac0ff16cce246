/- Part 23 of the proof: ReTick. -/
import Derived.Test.YtdhekhlmdefcnaaGreatDoorPart22
import Derived.Test.YtdhekhlmdefcnaaGreatDoorPart15
import Derived.Test.YtdhekhlmdefcnaaGreatDoorPart19
namespace Go.Proofs.YtdhekhlmdefcnaaGreatDoor
open Go.RowKit
theorem eval_at {a : Act} {s : Nat} {v : Value} (h : a.tmps[s]?.getD undef = v) : a.eval (.tmp s) = v := by
 show a.tmps.getD s undef = v
 rw [Array.getD_eq_getD_getElem?]
 exact h
section
variable {w : World} {g gc : Nat} {L : Lay} {r : Re}
end
end Go.Proofs.YtdhekhlmdefcnaaGreatDoor
