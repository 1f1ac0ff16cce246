/- Part 18 of the proof: SysLaw3, SysLaw4. -/
import Derived.Test.YtdhekhlmdefcnabGreatDoorPart17
namespace Go.Proofs.YtdhekhlmdefcnabGreatDoor
section
variable {L : Lay} {ℓ : Nat} {σ : List Sight} {s : Sys}
end
section
variable {L : Lay} {ℓ : Nat} {σ : List Sight} {s : Sys}
end
theorem re_rs {s s' : Sys} (h : s'.rs = s.rs) (k : Nat) : re s' k = re s k := by unfold re; rw [h]
end Go.Proofs.YtdhekhlmdefcnabGreatDoor
namespace Go.Proofs.YtdhekhlmdefcnabGreatDoor
theorem foldl_send_v (a b : Nat) : ∀ (l : List (List Int)) (s : Sys), (l.foldl (fun s x => sysSend s a b x) s).v = s.v
 | [], _ => rfl
 | x :: l, s => by rw [List.foldl_cons, foldl_send_v a b l, (send_rest s a b x).2]
theorem foldl_all_v (all : Bool) (b : Nat) : ∀ (l : List (List Int)) (s : Sys), (l.foldl (fun s x => toAll s all b x) s).v = s.v
 | [], _ => rfl
 | x :: l, s => by rw [List.foldl_cons, foldl_all_v all b l, (toAll_rest s all b x).2]
theorem tickR_v (L : Lay) (s : Sys) (k : Nat) : (tickR L s k).v = s.v := by
 unfold tickR
 dsimp only
 split
 ·rw [(send_rest _ _ _ _).2, (sendAll_rest _ _ _ _).2]
 ·rw [(sendAll_rest _ _ _ _).2]
end Go.Proofs.YtdhekhlmdefcnabGreatDoor
