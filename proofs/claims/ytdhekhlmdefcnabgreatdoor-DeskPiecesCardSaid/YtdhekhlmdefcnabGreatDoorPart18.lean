/- Part 18 of the proof: SysLaw3, SysLaw4. -/
import Derived.Test.YtdhekhlmdefcnabGreatDoorPart17
namespace Go.Proofs.YtdhekhlmdefcnabGreatDoor
section
variable {L : Lay} {ℓ : Nat} {σ : List Sight} {s : Sys}
end
section
variable {L : Lay} {ℓ : Nat} {σ : List Sight} {s : Sys}
end
theorem re_rs {s s' : Sys} (h : s'.rs = s.rs) (k : Nat) : re s' k = re s k := by unfold re; rw [h]
end Go.Proofs.YtdhekhlmdefcnabGreatDoor
namespace Go.Proofs.YtdhekhlmdefcnabGreatDoor
end Go.Proofs.YtdhekhlmdefcnabGreatDoor
