/- Part 21 of the proof: Step. -/
import Derived.Test.YtdhekhlmdefcnaaGreatDoorPart19
import Derived.Deep.RegionWith
import Derived.Deep.DeepCutAuto
namespace Go.Proofs.YtdhekhlmdefcnaaGreatDoor
open Go.RowKit
end Go.Proofs.YtdhekhlmdefcnaaGreatDoor
