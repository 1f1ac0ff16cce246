/- Part 10 of the proof: Safe. -/
import Derived.Test.YtdhekhlmdefcnabGreatDoorPart9
namespace Go.Proofs.YtdhekhlmdefcnabGreatDoor
end Go.Proofs.YtdhekhlmdefcnabGreatDoor
