/- Part 2 of the proof: Crc. -/
namespace Go.Proofs.YtdhekhlmdefcnabGreatDoor.Crc
abbrev B32 := BitVec 32
def poly : B32 := 0x04c11db7#32
def T (s : B32) : B32 := if s.msb then (s <<< 1) ^^^ poly else s <<< 1
def Tn : Nat → B32 → B32
 | 0, s => s
 | n + 1, s => Tn n (T s)
def byte (s : B32) (c : UInt8) : B32 := Tn 8 (s ^^^ (BitVec.ofNat 32 c.toNat <<< 24))
def run (s : B32) : List UInt8 → B32
 | [] => s
 | c :: l => run (byte s c) l
def sum (l : List UInt8) : B32 := run (~~~ 0#32) l
theorem run_append (s : B32) (a b : List UInt8) : run s (a ++ b) = run (run s a) b := by
 induction a generalizing s with
 | nil => rfl
 | cons c a ih => exact ih _
end Go.Proofs.YtdhekhlmdefcnabGreatDoor.Crc
