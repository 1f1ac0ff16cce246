/- Part 31 of the proof: LayBad. -/
import Derived.Test.YtdhekhlmdefcnaaGreatDoorPart19
import Derived.Test.YtdhekhlmdefcnaaGreatDoorPart16
import Derived.Deep.DeepCutAuto
import Derived.StillTailTactics
namespace Go.Proofs.YtdhekhlmdefcnaaGreatDoor
open Go.RowKit
end Go.Proofs.YtdhekhlmdefcnaaGreatDoor
