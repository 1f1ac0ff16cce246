/- Part 12 of the proof: Crc. -/
namespace Go.Proofs.YtdhekhlmdefcnaaGreatDoor.Crc
abbrev B32 := BitVec 32
def poly : B32 := 0x04c11db7#32
def T (s : B32) : B32 := if s.msb then (s <<< 1) ^^^ poly else s <<< 1
def Tn : Nat → B32 → B32
 | 0, s => s
 | n + 1, s => Tn n (T s)
def byte (s : B32) (c : UInt8) : B32 := Tn 8 (s ^^^ (BitVec.ofNat 32 c.toNat <<< 24))
def run (s : B32) : List UInt8 → B32
 | [] => s
 | c :: l => run (byte s c) l
def sum (l : List UInt8) : B32 := run (~~~ 0#32) l
end Go.Proofs.YtdhekhlmdefcnaaGreatDoor.Crc
