/- Part 11 of the proof: LayBad. -/
import Derived.Test.YtdhekhlmdefcnabGreatDoorPart8
import Derived.Test.YtdhekhlmdefcnabGreatDoorPart10
import Derived.Deep.DeepCutAuto
import Derived.StillTailTactics
namespace Go.Proofs.YtdhekhlmdefcnabGreatDoor
open Go.RowKit
theorem err_ne {w w' : World} {r : Err} {v : Value} (h : ErrV w w' r v) (hr : r ≠ .ok) : (∃ e, v = .iface 73 (I e)) ∨ ∃ g, v = .iface 86 (.pointer (some ⟨g, 0, none⟩)) := by
 cases r with
 | ok => exact absurd rfl hr
 | bare e => exact .inl ⟨e, h⟩
 | place e p => obtain ⟨g, _, h, _⟩ := h; exact .inr ⟨g, h⟩
theorem ErrV.base {w0 w1 w : World} {r : Err} {v : Value} (h : ErrV w1 w r v) (hb : w0.heap.size ≤ w1.heap.size) : ErrV w0 w r v := by
 cases r with
 | ok => exact h
 | bare e => exact h
 | place e p => obtain ⟨g, h1, h2, h3⟩ := h; exact ⟨g, by omega, h2, h3⟩
end Go.Proofs.YtdhekhlmdefcnabGreatDoor
