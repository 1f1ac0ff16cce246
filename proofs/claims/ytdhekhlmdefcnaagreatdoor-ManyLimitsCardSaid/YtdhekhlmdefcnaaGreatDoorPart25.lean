/- Part 25 of the proof: CoreRight, ReTakeP, ReTakeQ, ReTakeA, ReTakeS, ReTakeD. -/
import Derived.Test.YtdhekhlmdefcnaaGreatDoorPart22
import Derived.Test.YtdhekhlmdefcnaaGreatDoorPart21
import Derived.Test.YtdhekhlmdefcnaaGreatDoorPart14
import Derived.Test.YtdhekhlmdefcnaaGreatDoorPart23
import Derived.Test.YtdhekhlmdefcnaaGreatDoorPart24
import Derived.Test.YtdhekhlmdefcnaaGreatDoorPart18
import Derived.BigQuiet
namespace Go.Proofs.YtdhekhlmdefcnaaGreatDoor
open Go.RowKit
end Go.Proofs.YtdhekhlmdefcnaaGreatDoor
namespace Go.Proofs.YtdhekhlmdefcnaaGreatDoor
open Go.RowKit
end Go.Proofs.YtdhekhlmdefcnaaGreatDoor
namespace Go.Proofs.YtdhekhlmdefcnaaGreatDoor
open Go.RowKit
end Go.Proofs.YtdhekhlmdefcnaaGreatDoor
namespace Go.Proofs.YtdhekhlmdefcnaaGreatDoor
open Go.RowKit
section
variable {w : World} {g gc : Nat} {L : Lay} {r : Re} {f : List Int} {kd fr cy c d : Nat} {s : St}
end
end Go.Proofs.YtdhekhlmdefcnaaGreatDoor
namespace Go.Proofs.YtdhekhlmdefcnaaGreatDoor
open Go.RowKit
section
variable {w : World} {g gc : Nat} {L : Lay} {r : Re} {f : List Int} {kd fr cy c d : Nat} {s : St}
end
end Go.Proofs.YtdhekhlmdefcnaaGreatDoor
namespace Go.Proofs.YtdhekhlmdefcnaaGreatDoor
open Go.RowKit
section
variable {w : World} {g gc : Nat} {L : Lay} {r : Re} {f : List Int} {kd fr cy c d : Nat} {s : St}
end
end Go.Proofs.YtdhekhlmdefcnaaGreatDoor
