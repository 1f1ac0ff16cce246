/- Part 22 of the proof: ReMem, ReWalk, ReFuse, ReFits. -/
import Derived.Test.YtdhekhlmdefcnaaGreatDoorPart16
import Derived.Test.YtdhekhlmdefcnaaGreatDoorPart20
import Derived.Test.YtdhekhlmdefcnaaGreatDoorPart19
import Derived.Test.YtdhekhlmdefcnaaGreatDoorPart14
import Derived.Test.YtdhekhlmdefcnaaGreatDoorPart18
import Derived.Test.YtdhekhlmdefcnaaGreatDoorPart21
import Derived.Deep.MidRow
namespace Go.Proofs.YtdhekhlmdefcnaaGreatDoor
open Go.RowKit
def cellsOf (n : Nat) (f : Nat → Value) : Array Value := ((List.range n).map f).toArray
section
variable {w : World} {g n : Nat} {t : TypeId} {f : Nat → Value}
end
def kn0 : Nat × St × Bool := (0, St.zero, false)
def knL (k : Nat × St × Bool) : List Value := I k.1 :: (stL k.2.1 ++ [.bool k.2.2])
def seenV (l : List (Nat × Nat)) (m : Nat) : Value := if m % 2 = 0 then I (l.getD (m / 2) (0, 0)).1 else I (l.getD (m / 2) (0, 0)).2
def reF (r : Re) (gc : Nat) (j : Nat) : Value :=
 if j < 20 then (if j = 0 then I r.id else if j = 1 then .pointer (some ⟨gc, 0, none⟩) else if j = 2 then I r.cycle else (stL r.state).getD (j - 3) undef)
 else if j < 28 then (if j = 20 then I r.field.1 else if j = 21 then I r.field.2 else seenV r.seen (j - 22))
 else if j < 34 then (if j < 31 then .bool (r.some.getD (j - 28) false) else I (r.came.getD (j - 31) 0 : Nat))
 else if j < 91 then (knL (r.told.getD ((j - 34) / 19) kn0)).getD ((j - 34) % 19) undef
 else if j = 91 then I r.ticks else I r.ahead
section
variable {r : Re} {gc : Nat}
end
end Go.Proofs.YtdhekhlmdefcnaaGreatDoor
namespace Go.Proofs.YtdhekhlmdefcnaaGreatDoor
open Go.RowKit
structure RepAt (w : World) (g gc : Nat) (L : Lay) (r : Re) : Prop where
 has : Has w g 176 (cellsOf 93 (reF r gc))
 core : CoreAt w gc L
theorem RepAt.after {w w' : World} {g gc : Nat} {L : Lay} {r : Re} (h : RepAt w g gc L r) (hb : Below w.heap.size w w') : RepAt w' g gc L r := ⟨h.has.after hb, h.core.after hb⟩
section
variable {w : World} {g gc : Nat} {L : Lay} {r : Re}
end
end Go.Proofs.YtdhekhlmdefcnaaGreatDoor
namespace Go.Proofs.YtdhekhlmdefcnaaGreatDoor
open Go.RowKit
def Small2 (p : Nat × Nat) : Prop := p.1 < 4096 ∧ p.2 < 4096
section
variable {w : World} {g gc : Nat} {L : Lay} {r : Re}
end
end Go.Proofs.YtdhekhlmdefcnaaGreatDoor
namespace Go.Proofs.YtdhekhlmdefcnaaGreatDoor
open Go.RowKit
structure Re.Fits (r : Re) (T : Nat) : Prop where
 id : r.id < 3
 nseen : r.seen.length = 3
 nsome : r.some.length = 3
 ncame : r.came.length = 3
 ntold : r.told.length = 3
 seen : ∀ k, Small2 (r.seen.getD k (0, 0))
 came : ∀ k, r.came.getD k 0 ≤ T
 ticks : r.ticks ≤ T
 cycle : r.cycle ≤ 2000000
 ahead : r.ahead ≤ 2000000
 state : r.state.Fits (2000 + T)
 told : ∀ k, (r.told.getD k kn0).2.1.Fits 2000 ∧ (r.told.getD k kn0).1 ≤ 2000000
 field : (-9223372036854775808 ≤ r.field.1 ∧ r.field.1 < 9223372036854775808) ∧ -9223372036854775808 ≤ r.field.2 ∧ r.field.2 < 9223372036854775808
end Go.Proofs.YtdhekhlmdefcnaaGreatDoor
