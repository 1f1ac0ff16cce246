/- Part 5 of the proof: Args. -/
import Derived.Test.YtdhekhlmdefcnaaDoorPart4
import Derived.Test.YtdhekhlmdefcnaaDoorRows
import Derived.ProofKit
import Derived.LaidMore
import Derived.LaidHandle
import Derived.OpenShut
import Derived.Deep.Slices
import Derived.Deep.Fields
import Derived.ChangeOld
import Derived.Stop.Joined
import Derived.Stop.LaidErr
import Derived.Lib.LaidTab
/- What every row's proof of this seat shares: arguments read as lists; the listed variables' cells. -/
namespace Go.Proofs.YtdhekhlmdefcnaaDoor
open Go.ChangeShapes Go.WideShapes Go.ChangeAt Go.RowKit Go.Deep

theorem own : ownKnob Tryd.prog.godebug = none := by kernel_rfl
theorem laidOut : laidOutB Tryd.prog = true := by kernel_rfl
theorem spot_none {w : World} {x : Addr} {v : Value} (h : w.cell? (x.add 0) = some v) : ∃ b o, x = ⟨b, o, none⟩ := by
  obtain ⟨b, o, s⟩ := x
  have : s = none := by simpa [Addr.add] using World.cell?_spot h
  exact ⟨b, o, by rw [this]⟩
section
variable {H : Type} {enc : TypeId × Value → H} {w : World}
/-- a slice of ints that came in -/
theorem ints_in {t e : TypeId} {a : Option Addr} {n c : Nat} {d : DataW H} {p : List MemPlace} (ht : Tryd.prog.underlying t = some (.slice e)) (he : Tryd.prog.underlying e = some (.int .i64)) (hC : Tryd.prog.cellsOf e = 1)
    (h : DataW.Trod enc Tryd.prog w 0 (fun _ => true) true t (.slice a n c) d p) : ∃ xs : List Int, xs.length = n ∧ n ≤ c ∧ Reads w w.heap.size a (ints xs) := by
  obtain ⟨fuel, hf⟩ := h
  rcases open_ints ht he hC hf with ⟨hcs, _⟩ | ⟨x, l, c', zs', hcs, _, hl, hm, hz, _, hcell, hwz⟩
  · simp [Value.cells] at hcs
    obtain ⟨rfl, rfl, rfl⟩ := hcs
    exact ⟨[], rfl, Nat.le_refl _, fun h => absurd rfl h⟩
  · simp [Value.cells] at hcs
    obtain ⟨rfl, rfl, rfl⟩ := hcs
    have hz' : zs'.length = c := by simpa using hz
    refine ⟨zs'.take n, by simp; omega, hl, fun hne => ?_⟩
    have hn0 : 0 < n := by
      rcases Nat.eq_zero_or_pos n with h0 | h0
      · subst h0; simp [ints] at hne
      · exact h0
    have h0 := hcell 0 (by omega)
    obtain ⟨b, o, rfl⟩ := spot_none h0
    rw [add_at] at h0
    refine ⟨b, o, rfl, World.block_lt_of_cell? w ⟨b, o + 0, none⟩ h0, fun j u hu => ?_⟩
    rw [ints_get, List.getElem?_take] at hu
    split at hu
    · rename_i hj
      have := hcell j (by omega)
      rw [add_at] at this
      rw [this, ← hu, List.getD_eq_getElem?_getD, List.getElem?_eq_getElem (by omega)]
      rfl
    · cases hu
end
end Go.Proofs.YtdhekhlmdefcnaaDoor
