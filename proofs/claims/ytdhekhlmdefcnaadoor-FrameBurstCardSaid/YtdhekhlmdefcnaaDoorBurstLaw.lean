/- A BURST IS SEEN: the plain law: the sum of a frame's bytes with a burst is another one. -/
import Derived.Test.YtdhekhlmdefcnaaDoorBackLaw
namespace Go.Proofs.YtdhekhlmdefcnaaDoor
open Go.RowKit
theorem half8 (y : Crc.B32) (h : ∀ i, i < 8 → y.getLsbD i = false) : Crc.Tn 8 (y >>> 8) = y := by
  have step : ∀ k, k < 8 → Crc.T (y >>> (k + 1)) = y >>> k := by
    intro k hk
    have e : y >>> (k + 1) = (y >>> k) >>> 1 := by
      apply BitVec.eq_of_getLsbD_eq
      intro i _
      simp only [BitVec.getLsbD_ushiftRight]
      congr 1
      omega
    rw [e]
    exact Crc.T_half _ (by rw [BitVec.getLsbD_ushiftRight]; exact h k hk)
  show Crc.T (Crc.T (Crc.T (Crc.T (Crc.T (Crc.T (Crc.T (Crc.T (y >>> 8)))))))) = y
  rw [step 7 (by decide), step 6 (by decide), step 5 (by decide), step 4 (by decide), step 3 (by decide), step 2 (by decide), step 1 (by decide), step 0 (by decide)]
  rfl
theorem top_byte (s : Crc.B32) : s ^^^ (BitVec.ofNat 32 (UInt8.ofNat (s.toNat / 16777216)).toNat <<< 24) = (s <<< 8) >>> 8 := by
  have h := s.isLt
  have e : (UInt8.ofNat (s.toNat / 16777216)).toNat = s.toNat / 16777216 := by rw [UInt8.toNat_ofNat']; omega
  rw [e]
  have e2 : BitVec.ofNat 32 (s.toNat / 16777216) = s >>> 24 := by
    apply BitVec.eq_of_toNat_eq
    rw [BitVec.toNat_ofNat, BitVec.toNat_ushiftRight, Nat.shiftRight_eq_div_pow]
    omega
  rw [e2]
  apply BitVec.eq_of_getLsbD_eq
  intro i hi
  simp only [BitVec.getLsbD_xor, BitVec.getLsbD_shiftLeft, BitVec.getLsbD_ushiftRight]
  by_cases h24 : i < 24
  · simp [h24, show 8 + i < 32 by omega, show ¬ 8 + i < 8 by omega, show 8 + i - 8 = i by omega]
  · simp [h24, hi, show ¬ 8 + i < 32 by omega, show 24 + (i - 24) = i by omega]
theorem byte_top (s : Crc.B32) : Crc.byte s (UInt8.ofNat (s.toNat / 16777216)) = s <<< 8 := by
  unfold Crc.byte
  rw [top_byte]
  exact half8 _ (fun i hi => by rw [BitVec.getLsbD_shiftLeft]; simp [hi])
theorem top_shl (s : Crc.B32) (a b : Nat) (h : (s.toNat * 2 ^ a % 4294967296) / 16777216 % 256 = s.toNat / b % 256) : UInt8.ofNat (s.toNat / b) = UInt8.ofNat ((s <<< a).toNat / 16777216) := by
  apply UInt8.toNat_inj.1
  rw [UInt8.toNat_ofNat', UInt8.toNat_ofNat', BitVec.toNat_shiftLeft, Nat.shiftLeft_eq]
  exact h.symm
theorem run_own (s : Crc.B32) : Crc.run s (four s) = 0#32 := by
  have h := s.isLt
  have e1 : UInt8.ofNat (s.toNat / 65536) = UInt8.ofNat ((s <<< 8).toNat / 16777216) := top_shl s 8 65536 (by omega)
  have e2 : UInt8.ofNat (s.toNat / 256) = UInt8.ofNat ((s <<< 8 <<< 8).toNat / 16777216) := by
    have e : s <<< 8 <<< 8 = s <<< 16 := by rw [← BitVec.shiftLeft_add]
    rw [e]
    exact top_shl s 16 256 (by omega)
  have e3 : UInt8.ofNat s.toNat = UInt8.ofNat ((s <<< 8 <<< 8 <<< 8).toNat / 16777216) := by
    have e : s <<< 8 <<< 8 <<< 8 = s <<< 24 := by rw [← BitVec.shiftLeft_add, ← BitVec.shiftLeft_add]
    rw [e]
    have := top_shl s 24 1 (by omega)
    simpa using this
  unfold four
  rw [e1, e2, e3]
  show Crc.byte (Crc.byte (Crc.byte (Crc.byte s _) _) _) _ = _
  rw [byte_top, byte_top, byte_top, byte_top, ← BitVec.shiftLeft_add, ← BitVec.shiftLeft_add, ← BitVec.shiftLeft_add]
  apply BitVec.eq_of_getLsbD_eq
  intro i hi
  rw [BitVec.getLsbD_shiftLeft]
  simp [hi]
theorem enc_run (f : List Int) : Crc.run (~~~ 0#32) (encB f) = 0#32 := by
  unfold encB
  rw [Crc.run_append]
  exact run_own _
theorem burst_dec {f : List Int} (p what : Nat) (hp : p < 8 * (encB f).length) (hs : ∃ i, i < 32 ∧ what.testBit (31 - i) = true ∧ p + i < 8 * (encB f).length) :
    dec (Crc.flips (encB f) p what 32) = (15, zeroF) := by
  have hne := Crc.burst (encB f) (~~~ 0#32) p what hp (enc_run f) hs
  have hl := enc_len (f := f)
  have h3 := idx_three (f.getD 0 0)
  have h20 := idx_len (f.getD 0 0)
  have hlf := Crc.flips_length (encB f) p what 32
  unfold dec
  rw [if_neg (by rw [hlf, hl]; omega), if_pos]
  intro he
  apply hne
  have hcat : Crc.flips (encB f) p what 32 = (Crc.flips (encB f) p what 32).take ((Crc.flips (encB f) p what 32).length - 4) ++ (Crc.flips (encB f) p what 32).drop ((Crc.flips (encB f) p what 32).length - 4) := (List.take_append_drop _ _).symm
  rw [hcat, he, Crc.run_append]
  exact run_own _
end Go.Proofs.YtdhekhlmdefcnaaDoor
