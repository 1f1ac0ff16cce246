/- What frame.Decode computes. -/
import Derived.Test.YtdhekhlmdefcnaaDoorEqual
import Derived.Test.YtdhekhlmdefcnaaDoorBits
namespace Go.Proofs.YtdhekhlmdefcnaaDoor
open Go.RowKit
def n3 (x y z : UInt8) : Nat := x.toNat * 65536 + y.toNat * 256 + z.toNat
def num3 (b : List UInt8) (j : Nat) : Nat := n3 (b.getD (3 * j) 0) (b.getD (3 * j + 1) 0) (b.getD (3 * j + 2) 0)
def decTo (b : List UInt8) : Nat → List Int
  | 0 => zeroF.set 0 (num3 b 0)
  | n + 1 => (decTo b n).set ((idx (num3 b 0)).getD n 0) (num3 b n)
def decF (b : List UInt8) : List Int := decTo b (idx (num3 b 0)).length
def dec (b : List UInt8) : Int × List Int :=
  if b.length < 7 ∨ 80 < b.length then (3, zeroF) else
  if ¬ b.drop (b.length - 4) = four (Crc.sum (b.take (b.length - 4))) then (15, zeroF) else
  if ¬ (b.length - 4) % 3 = 0 then (3, zeroF) else
  if ¬ (idx (num3 b 0)).length * 3 = b.length - 4 then (3, zeroF) else
  if mayB (decF b) then (0, decF b) else (3, zeroF)
def errV (e : Int) : Value := if e = 0 then .nilIface else .iface 42 (I e)
theorem n3_lt (x y z : UInt8) : n3 x y z < 16777216 := by
  have := x.toNat_lt
  have := y.toNat_lt
  have := z.toNat_lt
  unfold n3
  omega
theorem n3_or (x y z : UInt8) : bits .or .i64 (bits .or .i64 ((x.toNat : Int) * 65536) ((y.toNat : Int) * 256)) (z.toNat : Int) = ((n3 x y z : Nat) : Int) := by
  have hx := x.toNat_lt
  have hy := y.toNat_lt
  have hz := z.toNat_lt
  have e1 : (x.toNat : Int) * 65536 = ((x.toNat * 65536 : Nat) : Int) := by omega
  have e2 : (y.toNat : Int) * 256 = ((y.toNat * 256 : Nat) : Int) := by omega
  have o1 : x.toNat * 65536 ||| y.toNat * 256 = x.toNat * 65536 + y.toNat * 256 := by
    have := Nat.two_pow_add_eq_or_of_lt (i := 16) (b := y.toNat * 256) (by omega) x.toNat
    rw [show 2 ^ 16 * x.toNat = x.toNat * 65536 by omega] at this
    exact this.symm
  have o2 : (x.toNat * 65536 + y.toNat * 256) ||| z.toNat = x.toNat * 65536 + y.toNat * 256 + z.toNat := by
    have := Nat.two_pow_add_eq_or_of_lt (i := 8) (b := z.toNat) (by omega) (x.toNat * 256 + y.toNat)
    have e : 2 ^ 8 * (x.toNat * 256 + y.toNat) = x.toNat * 65536 + y.toNat * 256 := by omega
    rw [e] at this
    exact this.symm
  rw [e1, e2, or_i64 _ _ (by omega) (by omega), o1, or_i64 _ _ (by omega) (by omega), o2]
  rfl
theorem decTo_length (b : List UInt8) : ∀ n, (decTo b n).length = 23
  | 0 => by simp [decTo, zeroF]
  | n + 1 => by rw [decTo, List.length_set, decTo_length b n]
theorem decTo_wf (b : List UInt8) : ∀ n, Wf (decTo b n)
  | 0 => ⟨decTo_length b 0, fun x hx => by
    unfold decTo at hx
    rcases List.mem_or_eq_of_mem_set hx with hx | rfl
    · have := List.eq_of_mem_replicate hx
      omega
    · have := n3_lt (b.getD (3 * 0) 0) (b.getD (3 * 0 + 1) 0) (b.getD (3 * 0 + 2) 0)
      unfold num3
      omega⟩
  | n + 1 => ⟨decTo_length b _, fun x hx => by
    unfold decTo at hx
    rcases List.mem_or_eq_of_mem_set hx with hx | rfl
    · exact (decTo_wf b n).2 x hx
    · have := n3_lt (b.getD (3 * n) 0) (b.getD (3 * n + 1) 0) (b.getD (3 * n + 2) 0)
      unfold num3
      omega⟩
theorem Reads.drop {w : World} {B b o : Nat} {xs : List Value} (h : Reads w B (some ⟨b, o, none⟩) xs) (k : Nat) : Reads w B (some ⟨b, o + k, none⟩) (xs.drop k) := fun hn => by
  have h0 : xs ≠ [] := by rintro rfl; simp at hn
  obtain ⟨b', o', e, hb, hc⟩ := h h0
  injection e with e
  injection e with e1 e2
  subst e1
  subst e2
  refine ⟨b, o + k, rfl, hb, fun j u hu => ?_⟩
  rw [List.getElem?_drop] at hu
  have := hc _ u hu
  rw [show o + k + j = o + (k + j) by omega]
  exact this
theorem bytes_take (l : List UInt8) (k : Nat) : bytes (l.take k) = (bytes l).take k := by simp [bytes, List.map_take]
theorem bytes_drop (l : List UInt8) (k : Nat) : bytes (l.drop k) = (bytes l).drop k := by simp [bytes, List.map_drop]
end Go.Proofs.YtdhekhlmdefcnaaDoor
