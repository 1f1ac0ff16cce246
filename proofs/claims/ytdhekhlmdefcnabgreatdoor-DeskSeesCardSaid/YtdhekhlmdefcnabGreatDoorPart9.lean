/- Part 9 of the proof: Safe. -/
import Derived.Test.YtdhekhlmdefcnabGreatDoorPart8
namespace Go.Proofs.YtdhekhlmdefcnabGreatDoor
end Go.Proofs.YtdhekhlmdefcnabGreatDoor
