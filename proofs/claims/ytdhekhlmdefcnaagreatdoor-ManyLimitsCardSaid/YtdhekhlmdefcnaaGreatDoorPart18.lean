/- Part 18 of the proof: Numbers, FrRight, Sum, Encode, Equal, DecSpec, BackLaw, BurstLaw, Decode, Frames. -/
import Derived.Test.YtdhekhlmdefcnaaGreatDoorPart17
import Derived.Test.YtdhekhlmdefcnaaGreatDoorPart12
import Derived.Test.YtdhekhlmdefcnaaGreatDoorPart14
import Derived.Lib.Hide
import Derived.RegionTactic
import Derived.BigRegion
import Derived.LoopTactic
import Derived.StillTailTactics
import Derived.Deep.QuietTactic
import Derived.BigQuiet
import Derived.Outline
import Derived.Deep.DeepFit
import Derived.Deep.DeepCutAuto
import Derived.Deep.RegionLaw
namespace Go.Proofs.YtdhekhlmdefcnaaGreatDoor
open Go.RowKit
section
variable {P : Program} {w : World}
end
end Go.Proofs.YtdhekhlmdefcnaaGreatDoor
namespace Go.Proofs.YtdhekhlmdefcnaaGreatDoor
open Go.RowKit
end Go.Proofs.YtdhekhlmdefcnaaGreatDoor
namespace Go.Proofs.YtdhekhlmdefcnaaGreatDoor
open Go.RowKit
abbrev U8 (c : UInt8) : Value := .int .u8 (c.toNat : Int)
def bytes (l : List UInt8) : List Value := l.map U8
end Go.Proofs.YtdhekhlmdefcnaaGreatDoor
namespace Go.Proofs.YtdhekhlmdefcnaaGreatDoor
open Go.RowKit
def three (x : Int) : List UInt8 := [UInt8.ofNat (x.toNat / 65536), UInt8.ofNat (x.toNat / 256), UInt8.ofNat x.toNat]
def four (s : Crc.B32) : List UInt8 := [UInt8.ofNat (s.toNat / 16777216), UInt8.ofNat (s.toNat / 65536), UInt8.ofNat (s.toNat / 256), UInt8.ofNat s.toNat]
def bodyTo (f : List Int) (n : Nat) : List UInt8 := ((idx (f.getD 0 0)).take n).flatMap fun i => three (f.getD i 0)
def body (f : List Int) : List UInt8 := bodyTo f (idx (f.getD 0 0)).length
def encB (f : List Int) : List UInt8 := body f ++ four (Crc.sum (body f))
theorem infoU8 : (Tryz.prog.info? 5).map (fun i => (i.zero, i.size, i.bytes)) = some (some (.int .u8 0), 1, 1) := by kernel_rfl
end Go.Proofs.YtdhekhlmdefcnaaGreatDoor
namespace Go.Proofs.YtdhekhlmdefcnaaGreatDoor
open Go.RowKit
end Go.Proofs.YtdhekhlmdefcnaaGreatDoor
namespace Go.Proofs.YtdhekhlmdefcnaaGreatDoor
open Go.RowKit
def n3 (x y z : UInt8) : Nat := x.toNat * 65536 + y.toNat * 256 + z.toNat
def num3 (b : List UInt8) (j : Nat) : Nat := n3 (b.getD (3 * j) 0) (b.getD (3 * j + 1) 0) (b.getD (3 * j + 2) 0)
def decTo (b : List UInt8) : Nat → List Int
 | 0 => zeroF.set 0 (num3 b 0)
 | n + 1 => (decTo b n).set ((idx (num3 b 0)).getD n 0) (num3 b n)
def decF (b : List UInt8) : List Int := decTo b (idx (num3 b 0)).length
def dec (b : List UInt8) : Int × List Int :=
 if b.length < 7 ∨ 80 < b.length then (3, zeroF) else
 if ¬ b.drop (b.length - 4) = four (Crc.sum (b.take (b.length - 4))) then (15, zeroF) else
 if ¬ (b.length - 4) % 3 = 0 then (3, zeroF) else
 if ¬ (idx (num3 b 0)).length * 3 = b.length - 4 then (3, zeroF) else
 if mayB (decF b) then (0, decF b) else (3, zeroF)
end Go.Proofs.YtdhekhlmdefcnaaGreatDoor
namespace Go.Proofs.YtdhekhlmdefcnaaGreatDoor
open Go.RowKit
section
variable {f : List Int} (hm : mayB f = true)
include hm
omit hm in
omit hm in
omit hm in
omit hm in
end
end Go.Proofs.YtdhekhlmdefcnaaGreatDoor
namespace Go.Proofs.YtdhekhlmdefcnaaGreatDoor
open Go.RowKit
end Go.Proofs.YtdhekhlmdefcnaaGreatDoor
namespace Go.Proofs.YtdhekhlmdefcnaaGreatDoor
open Go.RowKit
end Go.Proofs.YtdhekhlmdefcnaaGreatDoor
namespace Go.Proofs.YtdhekhlmdefcnaaGreatDoor
open Go.RowKit
section
variable {o : Oper} {a : Act} {w : World} {ops : Array Oper} {rest : List Oper} {Q : Exit → Act → World → Prop}
end
end Go.Proofs.YtdhekhlmdefcnaaGreatDoor
