/- Part 17 of the proof: FrameSpec, Sig, TabOps. -/
import Derived.Test.YtdhekhlmdefcnaaGreatDoorPart15
import Derived.Test.YtdhekhlmdefcnaaGreatDoorPart14
import Derived.Test.YtdhekhlmdefcnaaGreatDoorRows
import Derived.DeepKeys
import Derived.Laws.StructEq
namespace Go.Proofs.YtdhekhlmdefcnaaGreatDoor
open Go.RowKit
def idx (k : Int) : List Nat :=
 if k = 1 then [0, 1, 2, 3, 4] else if k = 2 ∨ k = 3 then [0, 1, 2, 3, 4, 5] else
 if k = 5 then [0, 1, 2, 6, 7, 15, 8, 16, 9, 17, 10, 18, 11, 19, 12, 20, 13, 21, 14, 22] else [0, 1, 2]
def zeroF : List Int := List.replicate 23 0
def cpTo (f : List Int) (n : Nat) : List Int := ((idx (f.getD 0 0)).take n).foldl (fun g i => g.set i (f.getD i 0)) (zeroF.set 0 (f.getD 0 0))
def inB (x : Int) : Bool := decide (0 ≤ x) && decide (x ≤ 1048576)
def headB (f : List Int) : Bool := decide (1 ≤ f.getD 0 0) && decide (f.getD 0 0 ≤ 5) && decide (0 ≤ f.getD 1 0) && decide (f.getD 1 0 ≤ 3)
def mayB (f : List Int) : Bool := headB f && (idx (f.getD 0 0)).all (fun i => inB (f.getD i 0)) && decide (f = cpTo f (idx (f.getD 0 0)).length)
end Go.Proofs.YtdhekhlmdefcnaaGreatDoor
namespace Go.Proofs.YtdhekhlmdefcnaaGreatDoor
open Go.RowKit
section
variable {P : Program}
end
end Go.Proofs.YtdhekhlmdefcnaaGreatDoor
namespace Go.Proofs.YtdhekhlmdefcnaaGreatDoor
open Go.RowKit
section
variable {P : Program} {ops : Array Oper} {Q : Exit → Act → World → Prop}
end
section
variable {ty : TypeId} {ps : String} {af : Array Edge} {g : Option (Nat × Bool)} {a : Act} {w : World} {K : Act → World → Prop} {Q : Exit → Act → World → Prop}
end
end Go.Proofs.YtdhekhlmdefcnaaGreatDoor
