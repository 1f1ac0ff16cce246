/- A slice of bytes that came in, as a list of bytes. -/
import Derived.Test.YtdhekhlmdefcnaaDoorHandle
import Derived.Test.YtdhekhlmdefcnaaDoorSum
namespace Go.Proofs.YtdhekhlmdefcnaaDoor
open Go.ChangeShapes Go.WideShapes Go.ChangeAt Go.RowKit Go.Deep
def toU8 (l : List Int) : List UInt8 := l.map fun x => UInt8.ofNat x.toNat
theorem toU8_val {x : Int} (h : (Lit.int .u8 x).wf = true) : U8 (UInt8.ofNat x.toNat) = .int .u8 x := by
  have e1 : IntKind.u8.min = 0 := by decide
  have e2 : IntKind.u8.max = 255 := by decide
  unfold Lit.wf at h
  simp at h
  have : ((UInt8.ofNat x.toNat).toNat : Int) = x := by
    rw [UInt8.toNat_ofNat']
    omega
  show Value.int .u8 _ = _
  rw [this]
section
variable {H : Type} {enc : TypeId × Value → H} {w : World}
/-- a slice of bytes that came in -/
theorem bytes_in {a : Option Addr} {n c : Nat} {d : DataW H} {p : List MemPlace}
    (h : DataW.Trod enc Tryd.prog w 0 (fun _ => true) true 41 (.slice a n c) d p) : ∃ xs : List UInt8, xs.length = n ∧ n ≤ c ∧ (a = none → n = 0 ∧ c = 0) ∧ Reads w w.heap.size a (bytes xs) := by
  obtain ⟨fuel, hf⟩ := h
  rcases open_ints Tryd.underlying41 Tryd.underlying5 (by kernel_rfl) hf with ⟨hcs, _⟩ | ⟨x, l, c', zs', hcs, _, hl, hm, hz, _, hcell, hwz⟩
  · simp [Value.cells] at hcs
    obtain ⟨rfl, rfl, rfl⟩ := hcs
    exact ⟨[], rfl, Nat.le_refl _, fun _ => ⟨rfl, rfl⟩, fun h => absurd rfl h⟩
  · simp [Value.cells] at hcs
    obtain ⟨rfl, rfl, rfl⟩ := hcs
    have hz' : zs'.length = c := by simpa using hz
    refine ⟨toU8 (zs'.take n), by simp [toU8]; omega, hl, (fun h => by cases h), fun hne => ?_⟩
    have hn0 : 0 < n := by
      rcases Nat.eq_zero_or_pos n with h0 | h0
      · subst h0; simp [toU8, bytes] at hne
      · exact h0
    have h0 := hcell 0 (by omega)
    obtain ⟨b, o, rfl⟩ := spot_none h0
    rw [add_at] at h0
    refine ⟨b, o, rfl, World.block_lt_of_cell? w ⟨b, o + 0, none⟩ h0, fun j u hu => ?_⟩
    rw [bytes_get, toU8, List.getElem?_map, List.getElem?_take] at hu
    split at hu
    · rename_i hj
      have := hcell j (by omega)
      rw [add_at] at this
      rw [List.getElem?_eq_getElem (by omega)] at hu
      simp only [Option.map_some, Option.some.injEq] at hu
      rw [this, ← hu, List.getD_eq_getElem?_getD, List.getElem?_eq_getElem (by omega)]
      rw [toU8_val (hwz _ (List.getElem_mem _))]
      rfl
    · cases hu
end
end Go.Proofs.YtdhekhlmdefcnaaDoor
