/- Part 33 of the proof: DkSpec. -/
import Derived.Test.YtdhekhlmdefcnaaGreatDoorPart27
import Derived.Test.YtdhekhlmdefcnaaGreatDoorPart19
import Derived.Lib.AtoiAll
import Derived.Lib.ItoaNum
import Derived.Lib.FieldsP
import Derived.Lib.Strings
import Derived.Lib.Join
import Derived.Lib.Small
namespace Go.Proofs.YtdhekhlmdefcnaaGreatDoor
open Go.RowKit
abbrev By := List UInt8
def isBl (r : Nat) : Bool := r == 32
def fieldsB (s : ByteArray) : List ByteArray := Lib.goFieldsP isBl s
def numOf (s : ByteArray) : Option Int :=
 match Lib.atoiAll s.data.toList with
 | .ok v => if Lib.itoa v = s.data.toList then some v else none
 | _ => none
def numsTo : List ByteArray → Option (List Int)
 | [] => some []
 | s :: l => match numOf s with
  | none => none
  | some v => (numsTo l).map (v :: ·)
def lenBad (n : Int) (k : Nat) : Bool := if 0 ≤ n then decide ((k : Int) ≠ n) else decide ((k : Int) < -n)
def numsOf (l : List ByteArray) (n : Int) : Option (List Int) := if lenBad n l.length then none else numsTo l
inductive An where
 | txt (l : By)
 | err (n : Int)
structure Dk where
 L : Lay
 s : Sys
def joinI (l : List Int) : By := Lib.join (l.map Lib.itoa) [32]
def errNo : Err → Int
 | .ok => 0
 | .bare e => e
 | .place e _ => e
def layOf (n : List Int) : Lay := ⟨(n.getD 2 0).toNat, (n.drop 3).map Int.toNat, (n.getD 1 0).toNat⟩
def chkOf (n : List Int) : Err := chk (n.getD 2 0) (n.drop 3) (n.getD 1 0)
def at0 (n : List Int) : Int := n.getD 0 0
def inWay (d : Dk) (i : Int) : Bool := decide (0 ≤ i) && decide (i < d.s.way.length)
def isRep (i : Int) : Bool := decide (0 ≤ i) && decide (i < 3)
inductive Cmd where
 | ask | begin | calm | conflicts | crash | deliver | help | latch | lose | many | most | replica | see | show | tick | trace | twice
def doBegin (d : Dk) (n : List Int) : Dk × An :=
 match chkOf n with
 | .ok => if 1 ≤ at0 n ∧ at0 n ≤ 20 then (⟨layOf n, Sys.new (at0 n)⟩, .txt [98, 101, 103, 105, 110]) else (d, .err 2)
 | e => (d, .err (errNo e))
def dOne (d : Dk) (ok : Bool) (s : Sys) (t : By) : Dk × An := if ok then ({ d with s := s }, .txt t) else (d, .err 2)
def cmText (c : Cm) : By := joinI [c.1, c.2.1, c.2.2]
def does' (c : Cmd) (d : Dk) (w : List ByteArray) : Dk × An :=
 let num (k : Int) (f : List Int → Dk × An) : Dk × An := match numsOf w k with | none => (d, .err 3) | some n => f n
 match c with
 | .ask => num 1 fun n => dOne d (isRep (at0 n)) (sysAsks d.s (at0 n).toNat) [97, 115, 107]
 | .begin => num (-4) (doBegin d)
 | .calm => num 1 fun n => dOne d (decide (0 ≤ at0 n) && decide (at0 n ≤ 100)) (calm d.L 1200 d.s (at0 n).toNat) [99, 97, 108, 109]
 | .conflicts => num 0 fun _ => (d, .txt (joinI (zs (confs d.L.routes))))
 | .crash => num 1 fun n => dOne d (isRep (at0 n)) (sysCrash d.s (at0 n).toNat) [99, 114, 97, 115, 104]
 | .deliver => num 1 fun n => dOne d (inWay d (at0 n)) (deliver d.L d.s (at0 n).toNat) [100, 101, 108, 105, 118, 101, 114]
 | .help => num 0 fun _ => (d, .txt helpT)
 | .latch => num 0 fun _ => (⟨d.L, sysLatch d.s⟩, .txt [108, 97, 116, 99, 104])
 | .lose => num 1 fun n => dOne d (inWay d (at0 n)) (sysLose d.s (at0 n).toNat) [108, 111, 115, 101]
 | .many => num 0 fun _ => (d, .txt (joinI [(d.s.way.length : Int), (d.s.lost : Int)]))
 | .most => num 0 fun _ => (d, .txt (Lib.itoa (bestTo (confs d.L.routes) (2 ^ d.L.routes.length) : Nat)))
 | .replica => num 1 fun n => if isRep (at0 n) then (d, .txt (joinI [((re d.s (at0 n).toNat).cycle : Int), ((re d.s (at0 n).toNat).state.set : Int)])) else (d, .err 2)
 | .see => num 3 fun n => dOne d (isRep (at0 n)) (sysSee d.s (at0 n).toNat (n.getD 1 0, n.getD 2 0)) [115, 101, 101]
 | .show => num 0 fun _ => (d, .txt (joinI [voShown d.s.v, (d.s.v.out : Int)] ++ [32] ++ Lib.formatBool d.s.v.latched))
 | .tick => num 1 fun n => dOne d (isRep (at0 n) || decide (at0 n = 3)) (sysTick d.L d.s (at0 n).toNat) [116, 105, 99, 107]
 | .trace => num 0 fun _ => (d, .txt (Lib.join (d.s.v.trace.map cmText) [44, 32]))
 | .twice => num 1 fun n => dOne d (inWay d (at0 n)) (sysTwice d.s (at0 n).toNat) [116, 119, 105, 99, 101]
where helpT : By := [97, 115, 107, 32, 98, 101, 103, 105, 110, 32, 99, 97, 108, 109, 32, 99, 111, 110, 102, 108, 105, 99, 116, 115, 32, 99, 114, 97, 115, 104, 32, 100, 101, 108, 105, 118, 101, 114, 32, 104, 101, 108, 112, 32, 108, 97, 116, 99, 104, 32, 108, 111, 115, 101, 32, 109, 97, 110, 121, 32, 109, 111, 115, 116, 32, 114, 101, 112, 108, 105, 99, 97, 32, 115, 101, 101, 32, 115, 104, 111, 119, 32, 116, 105, 99, 107, 32, 116, 114, 97, 99, 101, 32, 116, 119, 105, 99, 101]
end Go.Proofs.YtdhekhlmdefcnaaGreatDoor
