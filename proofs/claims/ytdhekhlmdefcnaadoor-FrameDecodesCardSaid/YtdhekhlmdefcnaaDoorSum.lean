/- The walk over frame.Sum. -/
import Derived.Test.YtdhekhlmdefcnaaDoorFrRight
import Derived.Test.YtdhekhlmdefcnaaDoorCrc
namespace Go.Proofs.YtdhekhlmdefcnaaDoor
open Go.RowKit
abbrev U8 (c : UInt8) : Value := .int .u8 (c.toNat : Int)
def bytes (l : List UInt8) : List Value := l.map U8
theorem bytes_length (l : List UInt8) : (bytes l).length = l.length := by simp [bytes]
theorem bytes_get (l : List UInt8) (i : Nat) : (bytes l)[i]? = (l[i]?).map U8 := by simp [bytes]
theorem Reads.byte_ {w : World} {B : Nat} {A : Option Addr} {xs : List UInt8} (h : Reads w B A (bytes xs)) {k : Nat} {x : UInt8} (hx : xs[k]? = some x) :
    ∃ b o, A = some ⟨b, o, none⟩ ∧ b < B ∧ w.cell? ⟨b, o + k, none⟩ = some (U8 x) := by
  have hk : (bytes xs)[k]? = some (U8 x) := by rw [bytes_get, hx]; rfl
  obtain ⟨b, o, hA, hb, hc⟩ := h (by rintro h0; rw [h0] at hk; simp at hk)
  exact ⟨b, o, hA, hb, hc _ _ hk⟩
theorem u32_shl1 (s : Crc.B32) : IntKind.u32.wrap ((s.toNat : Int) * 2) = ((s <<< 1).toNat : Int) := by
  have h := s.isLt
  rw [BitVec.toNat_shiftLeft, Nat.shiftLeft_eq]
  show (s.toNat : Int) * 2 % 4294967296 = _
  omega
theorem u32_shl1' (s : Crc.B32) : (s.toNat : Int) * (2 : Int) % (4294967296 : Int) = ((s <<< 1).toNat : Int) := u32_shl1 s
theorem u32_top (s : Crc.B32) : ((s.toNat : Int) / 2147483648 == 1) = s.msb := by
  have h := s.isLt
  rw [BitVec.msb_eq_decide]
  rw [Bool.eq_iff_iff]
  simp
  omega
theorem u32_xor (s t : Crc.B32) : bits .xor .u32 (s.toNat : Int) (t.toNat : Int) = ((s ^^^ t).toNat : Int) := by
  have e1 : BitVec.ofInt IntKind.u32.bits (s.toNat : Int) = s := by simp [IntKind.bits]
  have e2 : BitVec.ofInt IntKind.u32.bits (t.toNat : Int) = t := by simp [IntKind.bits]
  show IntKind.u32.wrap (((BitVec.ofInt IntKind.u32.bits (s.toNat : Int) ^^^ BitVec.ofInt IntKind.u32.bits (t.toNat : Int)).toNat : Nat) : Int) = _
  rw [e1, e2]
  have h := (s ^^^ t).isLt
  show (((s ^^^ t).toNat : Nat) : Int) % 4294967296 = _
  omega
theorem u8_shl (c : UInt8) : IntKind.u32.wrap ((c.toNat : Int) * 16777216) = ((BitVec.ofNat 32 c.toNat <<< 24).toNat : Int) := by
  have h := c.toNat_lt
  rw [BitVec.toNat_shiftLeft, Nat.shiftLeft_eq, BitVec.toNat_ofNat]
  show (c.toNat : Int) * 16777216 % 4294967296 = _
  omega
theorem u8_shl' (c : UInt8) : (c.toNat : Int) * (16777216 : Int) = ((BitVec.ofNat 32 c.toNat <<< 24).toNat : Int) := by
  have h := c.toNat_lt
  rw [BitVec.toNat_shiftLeft, Nat.shiftLeft_eq, BitVec.toNat_ofNat]
  omega
theorem take_byte {l : List UInt8} {k : Nat} {x : UInt8} (hx : l[k]? = some x) : Crc.sum (l.take (k + 1)) = Crc.byte (Crc.sum (l.take k)) x := by
  have hk := (List.getElem?_eq_some_iff.1 hx).1
  have he := (List.getElem?_eq_some_iff.1 hx).2
  unfold Crc.sum
  rw [List.take_succ_eq_append_getElem hk, Crc.run_append, he]
  rfl
theorem U_eq {k : IntKind} {a b : Int} (h : a = b) : Value.int k a = Value.int k b := by rw [h]
theorem Tn_succ (n : Nat) (s : Crc.B32) : Crc.Tn (n + 1) s = Crc.T (Crc.Tn n s) := by
  induction n generalizing s with
  | zero => rfl
  | succ n ih => rw [Crc.Tn, ih]; rfl
set_option maxHeartbeats 2000000 in
theorem sum_ok (A : Option Addr) (n c : Nat) (l : List UInt8) (w : World) (hl : Hid (l.length = n)) (hn : n ≤ 1000) (hr : Reads w w.heap.size A (bytes l)) :
    Calls Tryd.prog 20 #[.slice A n c] w fun e w' => e = .returned (.int .u32 ((Crc.sum l).toNat : Int)) ∧ w = w' := by
  go_enter Tryd.func20, Tryd.ntmps20
  go_wp2
  go_loop [3, 9] (fun v i => ∃ k : Nat, k ≤ n ∧ i = I k ∧ v = .int .u32 ((Crc.sum (l.take k)).toNat : Int)) (fun _ i => n - (intOf i).toNat)
  case atStart => exact ⟨0, by omega, rfl, rfl⟩
  case round =>
    obtain ⟨k, hk, rfl, rfl⟩ := hrel
    by_cases hlt : k < n
    · obtain ⟨x, hx⟩ := some_at l k (by rw [hl.out]; exact hlt)
      obtain ⟨b, o, rfl, hb, hcell⟩ := hr.byte_ hx
      have hx8 := x.toNat_lt
      have HX := Lib.hid (take_byte hx)
      clear hx
      go_wp2
      have HB : Hid (Crc.byte (Crc.sum (l.take k)) x = Crc.Tn 8 (Crc.sum (l.take k) ^^^ (BitVec.ofNat 32 x.toNat <<< 24))) := rfl
      have H0 : Hid (bits .xor .u32 ((Crc.sum (l.take k)).toNat : Int) ((x.toNat : Int) * 16777216) = ((Crc.sum (l.take k) ^^^ (BitVec.ofNat 32 x.toNat <<< 24)).toNat : Int)) := Lib.hid (by rw [u8_shl', u32_xor])
      generalize Crc.sum (l.take k) ^^^ (BitVec.ofNat 32 x.toNat <<< 24) = s0 at *
      go_loop [3, 18] (fun v i => ∃ j : Nat, j ≤ 8 ∧ i = I j ∧ v = .int .u32 ((Crc.Tn j s0).toNat : Int)) (fun _ i => 8 - (intOf i).toNat)
      case atStart => exact ⟨0, by omega, rfl, U_eq H0.out⟩
      case round =>
        obtain ⟨j, hj, rfl, rfl⟩ := hrel
        by_cases hlt2 : j < 8
        · have HT := Lib.hid (Tn_succ j s0)
          generalize Crc.Tn j s0 = S at *
          have hm := u32_top S
          have HS := Lib.hid (u32_shl1' S)
          have hlt3 := S.isLt
          cases hb : S.msb with
          | true =>
            rw [hb] at hm
            have HT' : Hid (Crc.Tn (j + 1) s0 = (S <<< 1) ^^^ Crc.poly) := Lib.hid (by rw [HT.out]; unfold Crc.T; rw [hb]; rfl)
            clear hb HT
            go_wp2
            go_round
            case rel => exact ⟨j + 1, by omega, by go_num, U_eq (by rw [HT'.out, HS.out]; exact u32_xor (S <<< 1) Crc.poly)⟩
            case measure => simp [intOf]; omega
          | false =>
            rw [hb] at hm
            have HT' : Hid (Crc.Tn (j + 1) s0 = S <<< 1) := Lib.hid (by rw [HT.out]; unfold Crc.T; rw [hb]; rfl)
            clear hb HT
            go_wp2
            go_round
            case rel => exact ⟨j + 1, by omega, by go_num, U_eq (by rw [HT'.out, HS.out])⟩
            case measure => simp [intOf]; omega
        · have hj8 : j = 8 := by omega
          subst hj8
          go_wp2
          go_round
          case rel => exact ⟨k + 1, by omega, by go_num, U_eq (by rw [HX.out, HB.out])⟩
          case measure => simp [intOf]; omega
    · have hkn : l.take k = l := List.take_of_length_le (by rw [hl.out]; omega)
      rw [hkn]
      clear hkn
      go_wp2
      go_ret
      exact ⟨rfl, rfl⟩
end Go.Proofs.YtdhekhlmdefcnaaDoor
