/- Part 10 of the proof: RefSum. -/
import Derived.Test.YtdhekhlmdefcnaaDoorPart8
/- The walk over the reference's Sum. -/
namespace Go.Proofs.YtdhekhlmdefcnaaDoor
open Go.RowKit
theorem u64_xor (s t : Crc.B32) : bits .xor .u64 (s.toNat : Int) (t.toNat : Int) = ((s ^^^ t).toNat : Int) := by
  have h := (s ^^^ t).isLt
  have h1 := s.isLt
  have h2 := t.isLt
  show IntKind.u64.wrap (((BitVec.ofInt 64 (s.toNat : Int) ^^^ BitVec.ofInt 64 (t.toNat : Int)).toNat : Nat) : Int) = _
  rw [BitVec.ofInt_natCast, BitVec.ofInt_natCast, BitVec.toNat_xor, BitVec.toNat_ofNat, BitVec.toNat_ofNat, Nat.mod_eq_of_lt (by omega), Nat.mod_eq_of_lt (by omega)]
  rw [BitVec.toNat_xor] at h ⊢
  show ((s.toNat ^^^ t.toNat : Nat) : Int) % 18446744073709551616 = _
  omega
theorem u64_top (s : Crc.B32) : decide ((4294967296 : Int) ≤ (s.toNat : Int) * (2 : Int)) = s.msb := by
  have h := s.isLt
  rw [BitVec.msb_eq_decide]
  rw [Bool.eq_iff_iff]
  simp
  omega
theorem u64_low (s : Crc.B32) (h : s.msb = false) : (s.toNat : Int) * (2 : Int) = ((s <<< 1).toNat : Int) := by
  have hl := s.isLt
  rw [BitVec.msb_eq_decide] at h
  rw [BitVec.toNat_shiftLeft, Nat.shiftLeft_eq]
  simp at h
  omega
theorem u64_high (s : Crc.B32) (h : s.msb = true) : (s.toNat : Int) * (2 : Int) - (4294967296 : Int) = ((s <<< 1).toNat : Int) := by
  have hl := s.isLt
  rw [BitVec.msb_eq_decide] at h
  rw [BitVec.toNat_shiftLeft, Nat.shiftLeft_eq]
  simp at h
  omega
set_option maxHeartbeats 2000000 in
theorem refSum_ok (A : Option Addr) (n c : Nat) (l : List UInt8) (w : World) (hl : Hid (l.length = n)) (hn : n ≤ 1000) (hr : Reads w w.heap.size A (bytes l)) :
    Calls Tryd.prog 21 #[.slice A n c] w fun e w' => e = .returned (.int .u32 ((Crc.sum l).toNat : Int)) ∧ w = w' := by
  go_enter Tryd.func21, Tryd.ntmps21
  go_wp2
  go_loop [3, 8] (fun v i => ∃ k : Nat, k ≤ n ∧ i = I k ∧ v = .int .u64 ((Crc.sum (l.take k)).toNat : Int)) (fun _ i => n - (intOf i).toNat)
  case atStart => exact ⟨0, by omega, rfl, rfl⟩
  case round =>
    obtain ⟨k, hk, rfl, rfl⟩ := hrel
    by_cases hlt : k < n
    · obtain ⟨x, hx⟩ := some_at l k (by rw [hl.out]; exact hlt)
      obtain ⟨b, o, rfl, hb, hcell⟩ := hr.byte_ hx
      have hx8 := x.toNat_lt
      have HX := Lib.hid (take_byte hx)
      clear hx
      go_wp2
      have HB : Hid (Crc.byte (Crc.sum (l.take k)) x = Crc.Tn 8 (Crc.sum (l.take k) ^^^ (BitVec.ofNat 32 x.toNat <<< 24))) := rfl
      have H0 : Hid (bits .xor .u64 ((Crc.sum (l.take k)).toNat : Int) ((x.toNat : Int) * 16777216) = ((Crc.sum (l.take k) ^^^ (BitVec.ofNat 32 x.toNat <<< 24)).toNat : Int)) := Lib.hid (by rw [u8_shl', u64_xor])
      generalize Crc.sum (l.take k) ^^^ (BitVec.ofNat 32 x.toNat <<< 24) = s0 at *
      go_loop [3, 17] (fun v i => ∃ j : Nat, j ≤ 8 ∧ i = I j ∧ v = .int .u64 ((Crc.Tn j s0).toNat : Int)) (fun _ i => 8 - (intOf i).toNat)
      case atStart => exact ⟨0, by omega, rfl, U_eq H0.out⟩
      case round =>
        obtain ⟨j, hj, rfl, rfl⟩ := hrel
        by_cases hlt2 : j < 8
        · have HT := Lib.hid (Tn_succ j s0)
          generalize Crc.Tn j s0 = S at *
          have hm := u64_top S
          have hlt3 := S.isLt
          cases hb : S.msb with
          | true =>
            rw [hb] at hm
            have HS := Lib.hid (u64_high S hb)
            have HT' : Hid (Crc.Tn (j + 1) s0 = (S <<< 1) ^^^ Crc.poly) := Lib.hid (by rw [HT.out]; unfold Crc.T; rw [hb]; rfl)
            have hge : (4294967296 : Int) ≤ (S.toNat : Int) * 2 := by simpa using hm
            clear hb HT
            go_wp2
            go_round
            case rel => exact ⟨j + 1, by omega, by go_num, U_eq (by rw [HT'.out, HS.out]; exact u64_xor (S <<< 1) Crc.poly)⟩
            case measure => simp [intOf]; omega
          | false =>
            rw [hb] at hm
            have HS := Lib.hid (u64_low S hb)
            have HT' : Hid (Crc.Tn (j + 1) s0 = S <<< 1) := Lib.hid (by rw [HT.out]; unfold Crc.T; rw [hb]; rfl)
            have hge : ¬ (4294967296 : Int) ≤ (S.toNat : Int) * 2 := by simpa using hm
            clear hb HT
            go_wp2
            go_round
            case rel => exact ⟨j + 1, by omega, by go_num, U_eq (by rw [HT'.out, HS.out])⟩
            case measure => simp [intOf]; omega
        · have hj8 : j = 8 := by omega
          subst hj8
          go_wp2
          go_round
          case rel => exact ⟨k + 1, by omega, by go_num, U_eq (by rw [HX.out, HB.out])⟩
          case measure => simp [intOf]; omega
    · have hkn : l.take k = l := List.take_of_length_le (by rw [hl.out]; omega)
      rw [hkn]
      clear hkn
      have hs := (Crc.sum l).isLt
      go_wp2
      go_ret
      exact ⟨rfl, rfl⟩
end Go.Proofs.YtdhekhlmdefcnaaDoor
