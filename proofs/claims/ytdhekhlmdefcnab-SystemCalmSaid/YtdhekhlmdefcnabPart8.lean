/- Part 8 of the proof: BackLaw, BurstLaw, Decode, Frames, SyBits. -/
import Derived.Test.YtdhekhlmdefcnabPart7
import Derived.Test.YtdhekhlmdefcnabPart1
import Derived.Test.YtdhekhlmdefcnabPart3
namespace Go.Proofs.Ytdhekhlmdefcnab
open Go.RowKit
theorem flat3 {α : Type} (g : Nat → List α) (hg : ∀ i, (g i).length = 3) : ∀ (L : List Nat) (j i r : Nat), L[j]? = some i → r < 3 → (L.flatMap g)[3 * j + r]? = (g i)[r]?
 | [], j, i, r, h, _ => by simp at h
 | a :: L, j, i, r, h, hr => by
  rw [List.flatMap_cons]
  cases j with
  | zero =>
   simp at h
   subst h
   rw [List.getElem?_append_left (by rw [hg]; omega)]
   simp
  | succ j =>
   rw [List.getElem?_cons_succ] at h
   rw [List.getElem?_append_right (by rw [hg]; omega), hg, show 3 * (j + 1) + r - 3 = 3 * j + r by omega]
   exact flat3 g hg L j i r h hr
theorem three_len (x : Int) : (three x).length = 3 := rfl
theorem n3_three (x : Int) (h0 : 0 ≤ x) (h1 : x ≤ 1048576) : ((n3 (UInt8.ofNat (x.toNat / 65536)) (UInt8.ofNat (x.toNat / 256)) (UInt8.ofNat x.toNat) : Nat) : Int) = x := by
 unfold n3
 rw [UInt8.toNat_ofNat', UInt8.toNat_ofNat', UInt8.toNat_ofNat']
 omega
section
variable {f : List Int} (hm : mayB f = true)
include hm
theorem may_all : ∀ i, i ∈ idx (f.getD 0 0) → 0 ≤ f.getD i 0 ∧ f.getD i 0 ≤ 1048576 := by
 intro i hi
 unfold mayB at hm
 simp only [Bool.and_eq_true, List.all_eq_true] at hm
 have := hm.1.2 i hi
 unfold inB at this
 simpa using this
theorem may_cp : f = cpTo f (idx (f.getD 0 0)).length := by
 unfold mayB at hm
 simp only [Bool.and_eq_true, decide_eq_true_eq] at hm
 exact hm.2
omit hm in
theorem enc_len : (encB f).length = 3 * (idx (f.getD 0 0)).length + 4 := by
 unfold encB body
 rw [List.length_append, bodyTo_length f _ (Nat.le_refl _)]
 rfl
omit hm in
theorem enc_at (j i r : Nat) (h : (idx (f.getD 0 0))[j]? = some i) (hr : r < 3) : (encB f)[3 * j + r]? = (three (f.getD i 0))[r]? := by
 have hj := (List.getElem?_eq_some_iff.1 h).1
 unfold encB
 rw [List.getElem?_append_left (by unfold body; rw [bodyTo_length f _ (Nat.le_refl _)]; omega)]
 unfold body bodyTo
 rw [List.take_of_length_le (Nat.le_refl _)]
 exact flat3 _ (fun i => three_len _) _ j i r h hr
theorem enc_num (l : List UInt8) (j i : Nat) (h : (idx (f.getD 0 0))[j]? = some i) (hl : ∀ r, r < 3 → l[3 * j + r]? = (encB f)[3 * j + r]?) : ((num3 l j : Nat) : Int) = f.getD i 0 := by
 obtain ⟨a, b⟩ := may_all hm i (List.mem_of_getElem? h)
 have e0 := (hl 0 (by decide)).trans (enc_at j i 0 h (by decide))
 have e1 := (hl 1 (by decide)).trans (enc_at j i 1 h (by decide))
 have e2 := (hl 2 (by decide)).trans (enc_at j i 2 h (by decide))
 rw [Nat.add_zero] at e0
 unfold num3
 rw [List.getD_eq_getElem?_getD, List.getD_eq_getElem?_getD, List.getD_eq_getElem?_getD, e0, e1, e2]
 exact n3_three _ a b
omit hm in
theorem idx_zero (k : Int) : (idx k)[0]? = some 0 := by
 rcases idx_cases k with ⟨_, e⟩ | ⟨_, e⟩ | ⟨_, e⟩ | ⟨_, e⟩ | ⟨_, _, _, _, e⟩ <;> rw [e] <;> rfl
omit hm in
theorem idx_three (k : Int) : 3 ≤ (idx k).length := by
 rcases idx_cases k with ⟨_, e⟩ | ⟨_, e⟩ | ⟨_, e⟩ | ⟨_, e⟩ | ⟨_, _, _, _, e⟩ <;> rw [e] <;> decide
theorem dec_cp : ∀ n, n ≤ (idx (f.getD 0 0)).length → decTo (encB f) n = cpTo f n
 | 0, _ => by
  have h0 := enc_num hm (encB f) 0 0 (idx_zero _) (fun _ _ => rfl)
  unfold decTo cpTo
  rw [h0]
  rfl
 | n + 1, h => by
  obtain ⟨i, hi⟩ := some_at (idx (f.getD 0 0)) n (by omega)
  have h0 := enc_num hm (encB f) 0 0 (idx_zero _) (fun _ _ => rfl)
  have hn := enc_num hm (encB f) n i hi (fun _ _ => rfl)
  rw [decTo, dec_cp n (by omega), h0, hn, cpTo_succ f n i hi, List.getD_eq_getElem?_getD, hi]
  rfl
theorem dec_enc : dec (encB f) = (0, f) := by
 have hl := enc_len (f := f)
 have h3 := idx_three (f.getD 0 0)
 have h20 := idx_len (f.getD 0 0)
 have h0 := enc_num hm (encB f) 0 0 (idx_zero _) (fun _ _ => rfl)
 have hb : (body f).length = 3 * (idx (f.getD 0 0)).length := by unfold body; exact bodyTo_length f _ (Nat.le_refl _)
 have e1 : (encB f).drop ((encB f).length - 4) = four (Crc.sum (body f)) := by
  rw [hl, show 3 * (idx (f.getD 0 0)).length + 4 - 4 = (body f).length by omega]
  unfold encB
  rw [List.drop_left]
 have e2 : (encB f).take ((encB f).length - 4) = body f := by
  rw [hl, show 3 * (idx (f.getD 0 0)).length + 4 - 4 = (body f).length by omega]
  unfold encB
  rw [List.take_left]
 have e3 : decF (encB f) = f := by
  unfold decF
  rw [h0, dec_cp hm _ (Nat.le_refl _)]
  exact (may_cp hm).symm
 unfold dec
 rw [if_neg (by rw [hl]; omega), if_neg (by rw [e1, e2]; simp), if_neg (by rw [hl]; omega), if_neg (by rw [h0, hl]; omega), e3, if_pos hm]
theorem dec_cut (k : Nat) (hk : k < (encB f).length) : ∃ e, (e = 3 ∨ e = 15) ∧ dec ((encB f).take k) = (e, zeroF) := by
 have hl := enc_len (f := f)
 have hlen : ((encB f).take k).length = k := by rw [List.length_take]; omega
 unfold dec
 split
 ·exact ⟨3, .inl rfl, rfl⟩
 ·rename_i h7
  rw [hlen] at h7
  split
  ·exact ⟨15, .inr rfl, rfl⟩
  ·split
   ·exact ⟨3, .inl rfl, rfl⟩
   ·have h0 := enc_num hm ((encB f).take k) 0 0 (idx_zero _) (fun r hr => by rw [List.getElem?_take, if_pos (by omega)])
    rw [if_pos (by rw [h0, hlen]; omega)]
    exact ⟨3, .inl rfl, rfl⟩
end
end Go.Proofs.Ytdhekhlmdefcnab
namespace Go.Proofs.Ytdhekhlmdefcnab
open Go.RowKit
theorem half8 (y : Crc.B32) (h : ∀ i, i < 8 → y.getLsbD i = false) : Crc.Tn 8 (y >>> 8) = y := by
 have step : ∀ k, k < 8 → Crc.T (y >>> (k + 1)) = y >>> k := by
  intro k hk
  have e : y >>> (k + 1) = (y >>> k) >>> 1 := by
   apply BitVec.eq_of_getLsbD_eq
   intro i _
   simp only [BitVec.getLsbD_ushiftRight]
   congr 1
   omega
  rw [e]
  exact Crc.T_half _ (by rw [BitVec.getLsbD_ushiftRight]; exact h k hk)
 show Crc.T (Crc.T (Crc.T (Crc.T (Crc.T (Crc.T (Crc.T (Crc.T (y >>> 8)))))))) = y
 rw [step 7 (by decide), step 6 (by decide), step 5 (by decide), step 4 (by decide), step 3 (by decide), step 2 (by decide), step 1 (by decide), step 0 (by decide)]
 rfl
theorem top_byte (s : Crc.B32) : s ^^^ (BitVec.ofNat 32 (UInt8.ofNat (s.toNat / 16777216)).toNat <<< 24) = (s <<< 8) >>> 8 := by
 have h := s.isLt
 have e : (UInt8.ofNat (s.toNat / 16777216)).toNat = s.toNat / 16777216 := by rw [UInt8.toNat_ofNat']; omega
 rw [e]
 have e2 : BitVec.ofNat 32 (s.toNat / 16777216) = s >>> 24 := by
  apply BitVec.eq_of_toNat_eq
  rw [BitVec.toNat_ofNat, BitVec.toNat_ushiftRight, Nat.shiftRight_eq_div_pow]
  omega
 rw [e2]
 apply BitVec.eq_of_getLsbD_eq
 intro i hi
 simp only [BitVec.getLsbD_xor, BitVec.getLsbD_shiftLeft, BitVec.getLsbD_ushiftRight]
 by_cases h24 : i < 24
 ·simp [h24, show 8 + i < 32 by omega, show ¬ 8 + i < 8 by omega, show 8 + i - 8 = i by omega]
 ·simp [h24, hi, show ¬ 8 + i < 32 by omega, show 24 + (i - 24) = i by omega]
theorem byte_top (s : Crc.B32) : Crc.byte s (UInt8.ofNat (s.toNat / 16777216)) = s <<< 8 := by
 unfold Crc.byte
 rw [top_byte]
 exact half8 _ (fun i hi => by rw [BitVec.getLsbD_shiftLeft]; simp [hi])
theorem top_shl (s : Crc.B32) (a b : Nat) (h : (s.toNat * 2 ^ a % 4294967296) / 16777216 % 256 = s.toNat / b % 256) : UInt8.ofNat (s.toNat / b) = UInt8.ofNat ((s <<< a).toNat / 16777216) := by
 apply UInt8.toNat_inj.1
 rw [UInt8.toNat_ofNat', UInt8.toNat_ofNat', BitVec.toNat_shiftLeft, Nat.shiftLeft_eq]
 exact h.symm
theorem run_own (s : Crc.B32) : Crc.run s (four s) = 0#32 := by
 have h := s.isLt
 have e1 : UInt8.ofNat (s.toNat / 65536) = UInt8.ofNat ((s <<< 8).toNat / 16777216) := top_shl s 8 65536 (by omega)
 have e2 : UInt8.ofNat (s.toNat / 256) = UInt8.ofNat ((s <<< 8 <<< 8).toNat / 16777216) := by
  have e : s <<< 8 <<< 8 = s <<< 16 := by rw [← BitVec.shiftLeft_add]
  rw [e]
  exact top_shl s 16 256 (by omega)
 have e3 : UInt8.ofNat s.toNat = UInt8.ofNat ((s <<< 8 <<< 8 <<< 8).toNat / 16777216) := by
  have e : s <<< 8 <<< 8 <<< 8 = s <<< 24 := by rw [← BitVec.shiftLeft_add, ← BitVec.shiftLeft_add]
  rw [e]
  have := top_shl s 24 1 (by omega)
  simpa using this
 unfold four
 rw [e1, e2, e3]
 show Crc.byte (Crc.byte (Crc.byte (Crc.byte s _) _) _) _ = _
 rw [byte_top, byte_top, byte_top, byte_top, ← BitVec.shiftLeft_add, ← BitVec.shiftLeft_add, ← BitVec.shiftLeft_add]
 apply BitVec.eq_of_getLsbD_eq
 intro i hi
 rw [BitVec.getLsbD_shiftLeft]
 simp [hi]
theorem enc_run (f : List Int) : Crc.run (~~~ 0#32) (encB f) = 0#32 := by
 unfold encB
 rw [Crc.run_append]
 exact run_own _
theorem burst_dec {f : List Int} (p what : Nat) (hp : p < 8 * (encB f).length) (hs : ∃ i, i < 32 ∧ what.testBit (31 - i) = true ∧ p + i < 8 * (encB f).length) :
  dec (Crc.flips (encB f) p what 32) = (15, zeroF) := by
 have hne := Crc.burst (encB f) (~~~ 0#32) p what hp (enc_run f) hs
 have hl := enc_len (f := f)
 have h3 := idx_three (f.getD 0 0)
 have h20 := idx_len (f.getD 0 0)
 have hlf := Crc.flips_length (encB f) p what 32
 unfold dec
 rw [if_neg (by rw [hlf, hl]; omega), if_pos]
 intro he
 apply hne
 have hcat : Crc.flips (encB f) p what 32 = (Crc.flips (encB f) p what 32).take ((Crc.flips (encB f) p what 32).length - 4) ++ (Crc.flips (encB f) p what 32).drop ((Crc.flips (encB f) p what 32).length - 4) := (List.take_append_drop _ _).symm
 rw [hcat, he, Crc.run_append]
 exact run_own _
end Go.Proofs.Ytdhekhlmdefcnab
namespace Go.Proofs.Ytdhekhlmdefcnab
open Go.RowKit
theorem frC_one (f : List Int) : (frC f).all (·.oneCell') = true := by
 rw [Array.all_eq_true_iff_forall_mem]
 intro u hu
 simp [frC, ints] at hu
 obtain ⟨x, _, rfl⟩ := hu
 rfl
theorem zeroSize : (Try.prog.info? 35).map (·.size) = some (frC zeroF).size := by rw [frC_size _ rfl]; exact infoFrame
set_option maxHeartbeats 2000000 in
set_option maxRecDepth 100000 in
theorem decode_size (A : Option Addr) (n c : Nat) (w : World) (h : n < 7 ∨ 80 < n) :
  Calls Try.prog 60 #[.slice A n c] w fun e w' => e = .returned (.tuple #[.agg (frC zeroF), .iface 88 (I 3)]) ∧ Below w.heap.size w w' := by
 rcases h with h | h
 all_goals
  go_enter Try.func60, Try.ntmps60
  go_upto_region 1 with (fail)
  have k2 : Has (w.alloc (.cells #[I 0, I 0, I 0, I 0, I 0, I 0, I 0, I 0, I 0, I 0, I 0, I 0, I 0, I 0, I 0, I 0, I 0, I 0, I 0, I 0, I 0, I 0, I 0] 35)) w.heap.size 35 (frC zeroF) := by rw [zeroFrame]; exact Has.new _ _ _
  have hb : Below w.heap.size w (w.alloc (.cells #[I 0, I 0, I 0, I 0, I 0, I 0, I 0, I 0, I 0, I 0, I 0, I 0, I 0, I 0, I 0, I 0, I 0, I 0, I 0, I 0, I 0, I 0, I 0] 35)) := (Below.refl _ _).alloc (Nat.le_refl _) _
  generalize w.alloc (.cells #[I 0, I 0, I 0, I 0, I 0, I 0, I 0, I 0, I 0, I 0, I 0, I 0, I 0, I 0, I 0, I 0, I 0, I 0, I 0, I 0, I 0, I 0, I 0] 35) = w1 at *
  generalize hG : w.heap.size = g2 at *
  have HG := Lib.hid hG
  clear hG
  go_wp2_with (refine wpList_store_row rfl 35 (.tmp 2) (.tmp 18) rfl g2 (frC zeroF) rfl rfl 35 _ k2 zeroSize rfl (frC_one _) ?_)
  exact bodyPost_ret (ret_cell_tmp rfl _ _ _ _ (frC zeroF) _ rfl (k2.setRow _) Try.underlying35 rfl zeroSize) rfl ⟨rfl, HG.out ▸ below_setRow hb (Nat.le_refl _) _⟩
set_option maxHeartbeats 4000000 in
set_option maxRecDepth 100000 in
theorem decode_in (bb oo m c : Nat) (l : List UInt8) (w : World) (hl : Hid (l.length = m + 4)) (h1 : 3 ≤ m) (h2 : m ≤ 76) (hc : m + 4 ≤ c) (hr : Reads w w.heap.size (some ⟨bb, oo, none⟩) (bytes l)) :
  Calls Try.prog 60 #[.slice (some ⟨bb, oo, none⟩) (m + 4) c] w fun e w' => e = .returned (.tuple #[.agg (frC (dec l).2), errV (dec l).1]) ∧ Below w.heap.size w w' := by
 have HR := Lib.hid hr
 clear hr
 go_enter Try.func60, Try.ntmps60
 go_upto_region 1 with (fail)
 have k2 : Has (w.alloc (.cells #[I 0, I 0, I 0, I 0, I 0, I 0, I 0, I 0, I 0, I 0, I 0, I 0, I 0, I 0, I 0, I 0, I 0, I 0, I 0, I 0, I 0, I 0, I 0] 35)) w.heap.size 35 (frC zeroF) := by rw [zeroFrame]; exact Has.new _ _ _
 have hb : Below w.heap.size w (w.alloc (.cells #[I 0, I 0, I 0, I 0, I 0, I 0, I 0, I 0, I 0, I 0, I 0, I 0, I 0, I 0, I 0, I 0, I 0, I 0, I 0, I 0, I 0, I 0, I 0] 35)) := (Below.refl _ _).alloc (Nat.le_refl _) _
 have HR1 : Hid (Reads (w.alloc (.cells #[I 0, I 0, I 0, I 0, I 0, I 0, I 0, I 0, I 0, I 0, I 0, I 0, I 0, I 0, I 0, I 0, I 0, I 0, I 0, I 0, I 0, I 0, I 0] 35)) w.heap.size (some ⟨bb, oo, none⟩) (bytes l)) := Lib.hid (HR.out.below hb)
 generalize w.alloc (.cells #[I 0, I 0, I 0, I 0, I 0, I 0, I 0, I 0, I 0, I 0, I 0, I 0, I 0, I 0, I 0, I 0, I 0, I 0, I 0, I 0, I 0, I 0, I 0] 35) = w1 at *
 generalize hG : w.heap.size = g2 at *
 have HG := Lib.hid hG
 have hg2 := k2.lt
 clear hG HR
 have HD : Hid (dec l = (if ¬ l.drop m = four (Crc.sum (l.take m)) then (15, zeroF) else if ¬ m % 3 = 0 then (3, zeroF) else if ¬ (idx (num3 l 0)).length * 3 = m then (3, zeroF) else if mayB (decF l) then (0, decF l) else (3, zeroF))) := Lib.hid (by
  unfold dec
  rw [if_neg (by rw [hl.out]; omega), hl.out, show m + 4 - 4 = m by omega])
 have HT : Hid ((l.take m).length = m) := Lib.hid (by rw [List.length_take, hl.out]; omega)
 have HDr : Hid ((l.drop m).length = 4) := Lib.hid (by rw [List.length_drop, hl.out]; omega)
 have hrt : Reads w1 w1.heap.size (some ⟨bb, oo, none⟩) (bytes (l.take m)) := by rw [bytes_take]; exact (HR1.out.take m).more (Nat.le_of_lt hg2)
 have HRt := Lib.hid hrt
 clear hrt
 go_wp2_with (go_at_call 67; refine (sum_ok (some ⟨bb, oo, none⟩) m _ (l.take m) _ HT (by omega) HRt.out).mono ?_; rintro e w2 ⟨rfl, rfl⟩)
 have hr4 : Reads (w1.alloc (.cells #[.int .u8 (((Crc.sum (l.take m)).toNat : Int) / 16777216), .int .u8 (((Crc.sum (l.take m)).toNat : Int) / 65536 % 256), .int .u8 (((Crc.sum (l.take m)).toNat : Int) / 256 % 256), .int .u8 (((Crc.sum (l.take m)).toNat : Int) % 256)] 5)) (w1.heap.size + 1) (some ⟨w1.heap.size, 0, none⟩) (bytes (four (Crc.sum (l.take m)))) := by
  rw [← four_vals]
  exact Reads.of_has (Has.new _ _ _) (by omega)
 have hsz : (w1.alloc (.cells #[.int .u8 (((Crc.sum (l.take m)).toNat : Int) / 16777216), .int .u8 (((Crc.sum (l.take m)).toNat : Int) / 65536 % 256), .int .u8 (((Crc.sum (l.take m)).toNat : Int) / 256 % 256), .int .u8 (((Crc.sum (l.take m)).toNat : Int) % 256)] 5)).heap.size = w1.heap.size + 1 := by simp
 have hbx : Below w1.heap.size w1 (w1.alloc (.cells #[.int .u8 (((Crc.sum (l.take m)).toNat : Int) / 16777216), .int .u8 (((Crc.sum (l.take m)).toNat : Int) / 65536 % 256), .int .u8 (((Crc.sum (l.take m)).toNat : Int) / 256 % 256), .int .u8 (((Crc.sum (l.take m)).toNat : Int) % 256)] 5)) := (Below.refl _ _).alloc (Nat.le_refl _) _
 rw [← hsz] at hr4
 generalize w1.alloc (.cells #[.int .u8 (((Crc.sum (l.take m)).toNat : Int) / 16777216), .int .u8 (((Crc.sum (l.take m)).toNat : Int) / 65536 % 256), .int .u8 (((Crc.sum (l.take m)).toNat : Int) / 256 % 256), .int .u8 (((Crc.sum (l.take m)).toNat : Int) % 256)] 5) = w3 at *
 have k3 := k2.after hbx
 have hb3 := hb.trans (hbx.mono (Nat.le_of_lt hg2))
 have HR3 : Hid (Reads w3 g2 (some ⟨bb, oo, none⟩) (bytes l)) := Lib.hid ((HR1.out.more (Nat.le_of_lt hg2)).below hbx |>.keep (fun _ _ _ => rfl) |> fun h => fun hn => by
  obtain ⟨b', o', e, _, hc⟩ := h hn
  obtain ⟨b2, o2, e', hlt, _⟩ := HR1.out hn
  rw [e] at e'
  injection e' with e'
  injection e' with e1 e2
  exact ⟨b', o', e, by rw [e1]; exact hlt, hc⟩)
 have hg3 := k3.lt
 have hrd : Reads w3 w3.heap.size (some ⟨bb, oo + m, none⟩) (bytes (l.drop m)) := by rw [bytes_drop]; exact ((HR3.out.drop m).more (Nat.le_of_lt hg3))
 clear hbx hsz k2 hb HR1 HRt
 refine (equal_ok _ _ 4 (c - m) 4 4 (l.drop m) (four (Crc.sum (l.take m))) w3 HDr (Lib.hid rfl) (by decide) (by decide) hrd hr4).mono ?_
 rintro e w4 ⟨rfl, q, rfl⟩
 clear hrd hr4
 have k4 := k3.drewN q
 have hb4 := below_drewN hb3 q
 have HR4 : Hid (Reads (w3.drewN q) g2 (some ⟨bb, oo, none⟩) (bytes l)) := HR3
 have hg4 := k4.lt
 clear k3 hb3 HR3 hg3
 generalize w3.drewN q = w4 at *
 by_cases he : l.drop m = four (Crc.sum (l.take m))
 ·have hde : decide (l.drop m = four (Crc.sum (l.take m))) = true := by simpa using he
  have HD1 : Hid (dec l = (if ¬ m % 3 = 0 then (3, zeroF) else if ¬ (idx (num3 l 0)).length * 3 = m then (3, zeroF) else if mayB (decF l) then (0, decF l) else (3, zeroF))) := Lib.hid (by rw [HD.out, if_neg (by simpa using he)])
  rw [hde]
  clear hde he HD
  go_upto_region 8 with (fail)
  have k6 : Has (w4.alloc (.cells #[I 0, I 0, I 0, I 0, I 0, I 0, I 0, I 0, I 0, I 0, I 0, I 0, I 0, I 0, I 0, I 0, I 0, I 0, I 0, I 0, I 0, I 0, I 0] 35)) w4.heap.size 35 (frC zeroF) := by rw [zeroFrame]; exact Has.new _ _ _
  have k5 := k4.alloc (.cells #[I 0, I 0, I 0, I 0, I 0, I 0, I 0, I 0, I 0, I 0, I 0, I 0, I 0, I 0, I 0, I 0, I 0, I 0, I 0, I 0, I 0, I 0, I 0] 35)
  have hbx : Below w4.heap.size w4 (w4.alloc (.cells #[I 0, I 0, I 0, I 0, I 0, I 0, I 0, I 0, I 0, I 0, I 0, I 0, I 0, I 0, I 0, I 0, I 0, I 0, I 0, I 0, I 0, I 0, I 0] 35)) := (Below.refl _ _).alloc (Nat.le_refl _) _
  have hb5 := hb4.trans (hbx.mono (Nat.le_of_lt hg4))
  have HR5 : Hid (Reads (w4.alloc (.cells #[I 0, I 0, I 0, I 0, I 0, I 0, I 0, I 0, I 0, I 0, I 0, I 0, I 0, I 0, I 0, I 0, I 0, I 0, I 0, I 0, I 0, I 0, I 0] 35)) g2 (some ⟨bb, oo, none⟩) (bytes l)) := Lib.hid (HR4.out.below (hbx.mono (Nat.le_of_lt hg4)))
  clear hbx k4 hb4 HR4
  generalize w4.alloc (.cells #[I 0, I 0, I 0, I 0, I 0, I 0, I 0, I 0, I 0, I 0, I 0, I 0, I 0, I 0, I 0, I 0, I 0, I 0, I 0, I 0, I 0, I 0, I 0] 35) = w5 at *
  generalize w4.heap.size = g6 at *
  have hg5 := k5.lt
  have hg6 := k6.lt
  by_cases he3 : m % 3 = 0
  ·have hde : ((m : Int) % 3 != 0) = false := by simp; omega
   have HD2 : Hid (dec l = (if ¬ (idx (num3 l 0)).length * 3 = m then (3, zeroF) else if mayB (decF l) then (0, decF l) else (3, zeroF))) := Lib.hid (by rw [HD1.out, if_neg (by simpa using he3)])
   clear he3 HD1
   go_upto_region 10 with (fail)
   obtain ⟨x0, hx0⟩ := some_at l 0 (by rw [hl.out]; omega)
   obtain ⟨x1, hx1⟩ := some_at l 1 (by rw [hl.out]; omega)
   obtain ⟨x2, hx2⟩ := some_at l 2 (by rw [hl.out]; omega)
   have HN : Hid (num3 l 0 = n3 x0 x1 x2) := Lib.hid (by unfold num3; simp [List.getD_eq_getElem?_getD, hx0, hx1, hx2])
   have c0 : w5.cell? ⟨bb, oo, none⟩ = some (U8 x0) := by obtain ⟨_, _, e, _, h⟩ := HR5.out.byte_ hx0; cases e; exact h
   have c1 : w5.cell? ⟨bb, oo + 1, none⟩ = some (U8 x1) := by obtain ⟨_, _, e, _, h⟩ := HR5.out.byte_ hx1; cases e; exact h
   have c2 : w5.cell? ⟨bb, oo + 2, none⟩ = some (U8 x2) := by obtain ⟨_, _, e, _, h⟩ := HR5.out.byte_ hx2; cases e; exact h
   have z0 := k6.cellv 0 (I 0) rfl
   have zf := k6.free 0
   have y0 := x0.toNat_lt
   have y1 := x1.toNat_lt
   have y2 := x2.toNat_lt
   clear hx0 hx1 hx2
   go_cut [] (fun wx => Hid (wx = w5.drew.setCell ⟨g6, 0, none⟩ (I (num3 l 0))))
   case first =>
    go_region
    all_goals
     go_wp2_with fail
     go_meet
     case rel => exact Lib.hid (by rw [HN.out, ← n3_or]; rfl)
   case rest =>
    have hb6 : Below g2 w (w5.drew.setCell ⟨g6, 0, none⟩ (I (num3 l 0))) := (hb5.drew).setCell (Nat.le_of_lt hg4) _
    have k6c : Has (w5.drew.setCell ⟨g6, 0, none⟩ (I (num3 l 0))) g6 35 (frC (decTo l 0)) := by
     have h := k6.drew.set 0 (I (num3 l 0))
     rw [frC_set] at h
     exact h
    have k5c : Has (w5.drew.setCell ⟨g6, 0, none⟩ (I (num3 l 0))) g2 35 (frC zeroF) := k5.drew.far (by simp; omega) _
    have HRc : Hid (Reads (w5.drew.setCell ⟨g6, 0, none⟩ (I (num3 l 0))) g2 (some ⟨bb, oo, none⟩) (bytes l)) := Lib.hid (HR5.out.drew.setCell (Nat.le_of_lt hg4) _)
    rw [← hcut.out] at hb6 k6c k5c HRc
    clear hcut c0 c1 c2 z0 zf y0 y1 y2 HN x0 x1 x2 k5 k6 hb5 HR5 hg5 hg6 hde
    clear w5
    have hk3 := n3_lt (l.getD (3 * 0) 0) (l.getD (3 * 0 + 1) 0) (l.getD (3 * 0 + 2) 0)
    have ck := k6c.cellv 0 (I (num3 l 0)) (frC_get _ 0 _ (by simp [decTo, zeroF]))
    have hk4 : num3 l 0 < 16777216 := hk3
    clear hk3
    have HF : Hid (decF l = decTo l (idx (num3 l 0)).length) := rfl
    have HDS : Hid (∀ n i, (idx (num3 l 0))[n]? = some i → decTo l (n + 1) = (decTo l n).set i (num3 l n)) := Lib.hid (fun n i h => by rw [decTo, List.getD_eq_getElem?_getD, h]; rfl)
    generalize hkk : ((num3 l 0 : Nat) : Int) = k at *
    clear hkk hk4
    have hid20 := idx_len k
    go_wp2_with fail
    refine (numbers_ok g6 _ k _ k6c ck).mono ?_
    rintro e w7 ⟨⟨A7, n7, rfl, own7⟩, hb7⟩
    have k67 := k6c.after hb7
    have k57 := k5c.after hb7
    have HR7 : Hid (Reads w7 g2 (some ⟨bb, oo, none⟩) (bytes l)) := Lib.hid (HRc.out.below (hb7.mono (Nat.le_of_lt k5c.lt)))
    have hbw7 := hb6.trans (hb7.mono (Nat.le_of_lt k5c.lt))
    have HO7 := Lib.hid (own_base own7 (Nat.zero_le _))
    clear own7 hb7 k6c k5c HRc hb6 ck
    by_cases he4 : (idx k).length * 3 = m
    ·have hde : (((idx k).length : Int) * 3 != (m : Int)) = false := by simp; omega
     have HD3 : Hid (dec l = (if mayB (decF l) then (0, decF l) else (3, zeroF))) := Lib.hid (by rw [HD2.out, if_neg (by simpa using he4)])
     have HE := Lib.hid he4
     clear he4 HD2
     go_wp2_with fail
     go_loopw [78] (fun i wr => ∃ j : Nat, j ≤ (idx k).length ∧ i = I j ∧ Has wr g6 35 (frC (decTo l j)) ∧ Has wr g2 35 (frC zeroF) ∧ Hid (Reads wr g2 (some ⟨bb, oo, none⟩) (bytes l)) ∧
      Hid (wr.ownsRow 0 123 1 (.slice A7 (idx k).length n7) (idx k).length (ptrs g6 (idx k))) ∧ Below g2 w wr) (fun i _ => (idx k).length - (intOf i).toNat)
     case atStart => exact ⟨0, by omega, rfl, k67, k57, HR7, HO7, hbw7⟩
     case round =>
      clear k67 k57 HR7 HO7 hbw7
      obtain ⟨j, hj, rfl, ka, kb, HR, HO, hbr⟩ := hrel
      by_cases hlt : j < (idx k).length
      ·have hjm : 3 * j + 2 < m := by have := HE.out; omega
       obtain ⟨i, hi⟩ := some_at (idx k) j hlt
       have hi23 : i < 23 := idx_lt k i (List.mem_of_getElem? hi)
       obtain ⟨y, hy⟩ := some_at (decTo l j) i (by rw [decTo_length]; exact hi23)
       obtain ⟨x0, hx0⟩ := some_at l (3 * j) (by rw [hl.out]; omega)
       obtain ⟨x1, hx1⟩ := some_at l (3 * j + 1) (by rw [hl.out]; omega)
       obtain ⟨x2, hx2⟩ := some_at l (3 * j + 2) (by rw [hl.out]; omega)
       have HN : Hid (num3 l j = n3 x0 x1 x2) := Lib.hid (by unfold num3; simp [List.getD_eq_getElem?_getD, hx0, hx1, hx2])
       have c0 : wr.cell? ⟨bb, oo + 3 * j, none⟩ = some (U8 x0) := by obtain ⟨_, _, e, _, h⟩ := HR.out.byte_ hx0; cases e; exact h
       have c1 : wr.cell? ⟨bb, oo + (3 * j + 1), none⟩ = some (U8 x1) := by obtain ⟨_, _, e, _, h⟩ := HR.out.byte_ hx1; cases e; exact h
       have c2 : wr.cell? ⟨bb, oo + (3 * j + 2), none⟩ = some (U8 x2) := by obtain ⟨_, _, e, _, h⟩ := HR.out.byte_ hx2; cases e; exact h
       obtain ⟨hc7, hr7⟩ := own_slice HO.out
       obtain ⟨b7, o7, rfl, _, e7⟩ := ptr_at hr7 hi
       have z0 := ka.cellv i _ (frC_get _ i y hy)
       have zf := ka.free i
       have y0 := x0.toNat_lt
       have y1 := x1.toNat_lt
       have y2 := x2.toNat_lt
       have HDj : Hid (decTo l (j + 1) = (decTo l j).set i (num3 l j)) := Lib.hid (HDS.out j i hi)
       clear hx0 hx1 hx2 hy hi hr7 hc7
       go_wp2_with fail
       go_region
       all_goals
        go_wp2_with fail
        go_roundw
        case rel =>
         refine ⟨j + 1, by omega, by go_num, ?_, kb.drew.far (by simp; omega) _, Lib.hid (HR.out.drew.setCell (Nat.le_of_lt hg4) _), Lib.hid (own_far (w := wr.drew) HO.out ka (by decide) _ _), hbr.drew.setCell (Nat.le_of_lt hg4) _⟩
         have h := ka.drew.set i (I (num3 l j))
         rw [frC_set, ← HDj.out, HN.out, ← n3_or] at h
         exact h
        case measure => simp [intOf]; omega
      ·have hjn : j = (idx k).length := by omega
       have HJ : Hid (decTo l j = decF l) := Lib.hid (by rw [HF.out, hjn])
       have hw := decTo_wf l j
       rw [HJ.out] at ka hw
       have HW := Lib.hid hw
       have hs6 : Hid ((Try.prog.info? 35).map (·.size) = some (frC (decF l)).size) := Lib.hid (by rw [frC_size _ hw.1]; exact infoFrame)
       have hs2 : Hid ((frC zeroF).size = (frC (decF l)).size) := Lib.hid (by rw [frC_size _ hw.1]; rfl)
       clear hw hjn HJ
       cases hm : mayB (decF l) with
       | true =>
        have HM := Lib.hid hm
        have HDD : Hid (dec l = (0, decF l)) := Lib.hid (by rw [HD3.out, hm]; rfl)
        clear hm HD3
        go_wp2_with (first
         | (refine wpList_load_row rfl 35 (.tmp 6) rfl g6 rfl 35 (frC (decF l)) (0, 0) _ (by assumption) Try.underlying35 rfl hs6.out ?_)
         | (go_at_call 65; refine (right_ok (decF l) HW.out _).mono ?_; rintro e w8 ⟨rfl, hb8⟩; rw [HM.out]; have ka8 := ka.after hb8; have kb8 := kb.after hb8; have hb9 := hbr.trans (hb8.mono (Nat.le_of_lt kb.lt)); clear hb8)
         | (refine wpList_store_row rfl 35 (.tmp 2) _ rfl g2 (frC (decF l)) rfl rfl 35 _ kb8 hs6.out hs2.out (frC_one _) ?_))
        exact bodyPost_ret (ret_cell_tmp rfl _ _ _ _ (frC (decF l)) _ rfl (kb8.setRow _) Try.underlying35 rfl hs6.out) rfl ⟨by rw [HDD.out]; rfl, HG.out ▸ below_setRow hb9 (Nat.le_refl _) _⟩
       | false =>
        have HM := Lib.hid hm
        have HD' : Hid (dec l = (3, zeroF)) := Lib.hid (by rw [HD3.out, hm]; rfl)
        clear hm HD3
        go_wp2_with (first
         | (refine wpList_load_row rfl 35 (.tmp 6) rfl g6 rfl 35 (frC (decF l)) (0, 0) _ (by assumption) Try.underlying35 rfl hs6.out ?_)
         | (go_at_call 65; refine (right_ok (decF l) HW.out _).mono ?_; rintro e w8 ⟨rfl, hb8⟩; rw [HM.out]; have kb8 := kb.after hb8; have hb9 := hbr.trans (hb8.mono (Nat.le_of_lt kb.lt)); clear hb8)
         | (refine wpList_store_row rfl 35 (.tmp 2) _ rfl g2 (frC zeroF) rfl rfl 35 _ kb8 zeroSize rfl (frC_one _) ?_))
        exact bodyPost_ret (ret_cell_tmp rfl _ _ _ _ (frC zeroF) _ rfl (kb8.setRow _) Try.underlying35 rfl zeroSize) rfl ⟨by rw [HD'.out]; rfl, HG.out ▸ below_setRow hb9 (Nat.le_refl _) _⟩
    ·have hde : (((idx k).length : Int) * 3 != (m : Int)) = true := by simp; omega
     have HD' : Hid (dec l = (3, zeroF)) := Lib.hid (by rw [HD2.out, if_pos he4])
     clear he4 HD2
     go_wp2_with (refine wpList_store_row rfl 35 (.tmp 2) _ rfl g2 (frC zeroF) rfl rfl 35 _ k57 zeroSize rfl (frC_one _) ?_)
     exact bodyPost_ret (ret_cell_tmp rfl _ _ _ _ (frC zeroF) _ rfl (k57.setRow _) Try.underlying35 rfl zeroSize) rfl ⟨by rw [HD'.out]; rfl, HG.out ▸ below_setRow hbw7 (Nat.le_refl _) _⟩
  ·have hde : ((m : Int) % 3 != 0) = true := by simp; omega
   have HD' : Hid (dec l = (3, zeroF)) := Lib.hid (by rw [HD1.out, if_pos he3])
   clear he3 HD1
   go_wp2_with (refine wpList_store_row rfl 35 (.tmp 2) _ rfl g2 (frC zeroF) rfl rfl 35 _ k5 zeroSize rfl (frC_one _) ?_)
   exact bodyPost_ret (ret_cell_tmp rfl _ _ _ _ (frC zeroF) _ rfl (k5.setRow _) Try.underlying35 rfl zeroSize) rfl ⟨by rw [HD'.out]; rfl, HG.out ▸ below_setRow hb5 (Nat.le_refl _) _⟩
 ·have hde : decide (l.drop m = four (Crc.sum (l.take m))) = false := by simpa using he
  have HD' : Hid (dec l = (15, zeroF)) := Lib.hid (by rw [HD.out, if_pos he])
  rw [hde]
  clear hde he HD
  go_wp2_with (refine wpList_store_row rfl 35 (.tmp 2) _ rfl g2 (frC zeroF) rfl rfl 35 _ k4 zeroSize rfl (frC_one _) ?_)
  exact bodyPost_ret (ret_cell_tmp rfl _ _ _ _ (frC zeroF) _ rfl (k4.setRow _) Try.underlying35 rfl zeroSize) rfl ⟨by rw [HD'.out]; rfl, HG.out ▸ below_setRow hb4 (Nat.le_refl _) _⟩
theorem decode_ok (A : Option Addr) (n c : Nat) (l : List UInt8) (w : World) (hl : l.length = n) (hc : n ≤ c) (hr : Reads w w.heap.size A (bytes l)) :
  Calls Try.prog 60 #[.slice A n c] w fun e w' => e = .returned (.tuple #[.agg (frC (dec l).2), errV (dec l).1]) ∧ Below w.heap.size w w' := by
 by_cases h : n < 7 ∨ 80 < n
 ·have hd : dec l = (3, zeroF) := by unfold dec; rw [if_pos (by rw [hl]; exact h)]
  rw [hd]
  exact decode_size A n c w h
 ·obtain ⟨b, o, rfl, _, _⟩ := hr (by rintro h0; have := congrArg List.length h0; rw [bytes_length, hl] at this; simp at this; omega)
  obtain ⟨m, rfl⟩ : ∃ m, n = m + 4 := ⟨n - 4, by omega⟩
  exact decode_in b o m c l w hl (by omega) (by omega) hc hr
end Go.Proofs.Ytdhekhlmdefcnab
namespace Go.Proofs.Ytdhekhlmdefcnab
open Go.RowKit
theorem arr23 (cs : Array Value) (h : cs.size = 23) : ∃ a0 a1 a2 a3 a4 a5 a6 a7 a8 a9 a10 a11 a12 a13 a14 a15 a16 a17 a18 a19 a20 a21 a22, cs = #[a0, a1, a2, a3, a4, a5, a6, a7, a8, a9, a10, a11, a12, a13, a14, a15, a16, a17, a18, a19, a20, a21, a22] := by
 obtain ⟨l⟩ := cs
 match l, h with
 | [a0, a1, a2, a3, a4, a5, a6, a7, a8, a9, a10, a11, a12, a13, a14, a15, a16, a17, a18, a19, a20, a21, a22], _ => exact ⟨a0, a1, a2, a3, a4, a5, a6, a7, a8, a9, a10, a11, a12, a13, a14, a15, a16, a17, a18, a19, a20, a21, a22, rfl⟩
theorem run_frames1' (a0 a1 a2 a3 a4 a5 a6 a7 a8 a9 a10 a11 a12 a13 a14 a15 a16 a17 a18 a19 a20 a21 a22 : Value) (w : World) : (Instr.buildSlice 113 1 #[(0, .agg #[a0, a1, a2, a3, a4, a5, a6, a7, a8, a9, a10, a11, a12, a13, a14, a15, a16, a17, a18, a19, a20, a21, a22])]).run Try.prog w = .ok (.slice (some ⟨w.heap.size, 0, none⟩) 1 1) (w.alloc (.cells #[a0, a1, a2, a3, a4, a5, a6, a7, a8, a9, a10, a11, a12, a13, a14, a15, a16, a17, a18, a19, a20, a21, a22] 35)) := by kernel_rfl
theorem run_frames2' (a0 a1 a2 a3 a4 a5 a6 a7 a8 a9 a10 a11 a12 a13 a14 a15 a16 a17 a18 a19 a20 a21 a22 : Value) (b0 b1 b2 b3 b4 b5 b6 b7 b8 b9 b10 b11 b12 b13 b14 b15 b16 b17 b18 b19 b20 b21 b22 : Value) (w : World) : (Instr.buildSlice 113 2 #[(0, .agg #[a0, a1, a2, a3, a4, a5, a6, a7, a8, a9, a10, a11, a12, a13, a14, a15, a16, a17, a18, a19, a20, a21, a22]), (1, .agg #[b0, b1, b2, b3, b4, b5, b6, b7, b8, b9, b10, b11, b12, b13, b14, b15, b16, b17, b18, b19, b20, b21, b22])]).run Try.prog w = .ok (.slice (some ⟨w.heap.size, 0, none⟩) 2 2) (w.alloc (.cells #[a0, a1, a2, a3, a4, a5, a6, a7, a8, a9, a10, a11, a12, a13, a14, a15, a16, a17, a18, a19, a20, a21, a22, b0, b1, b2, b3, b4, b5, b6, b7, b8, b9, b10, b11, b12, b13, b14, b15, b16, b17, b18, b19, b20, b21, b22] 35)) := by kernel_rfl
theorem run_frames1 (cs : Array Value) (h : cs.size = 23) (w : World) : (Instr.buildSlice 113 1 #[(0, .agg cs)]).run Try.prog w = .ok (.slice (some ⟨w.heap.size, 0, none⟩) 1 1) (w.alloc (.cells cs 35)) := by
 obtain ⟨a0, a1, a2, a3, a4, a5, a6, a7, a8, a9, a10, a11, a12, a13, a14, a15, a16, a17, a18, a19, a20, a21, a22, rfl⟩ := arr23 cs h
 exact run_frames1' _ _ _ _ _ _ _ _ _ _ _ _ _ _ _ _ _ _ _ _ _ _ _ w
theorem run_frames2 (cs ds : Array Value) (h : cs.size = 23) (h' : ds.size = 23) (w : World) : (Instr.buildSlice 113 2 #[(0, .agg cs), (1, .agg ds)]).run Try.prog w = .ok (.slice (some ⟨w.heap.size, 0, none⟩) 2 2) (w.alloc (.cells (cs ++ ds) 35)) := by
 obtain ⟨a0, a1, a2, a3, a4, a5, a6, a7, a8, a9, a10, a11, a12, a13, a14, a15, a16, a17, a18, a19, a20, a21, a22, rfl⟩ := arr23 cs h
 obtain ⟨b0, b1, b2, b3, b4, b5, b6, b7, b8, b9, b10, b11, b12, b13, b14, b15, b16, b17, b18, b19, b20, b21, b22, rfl⟩ := arr23 ds h'
 have e : (#[a0, a1, a2, a3, a4, a5, a6, a7, a8, a9, a10, a11, a12, a13, a14, a15, a16, a17, a18, a19, a20, a21, a22] ++ #[b0, b1, b2, b3, b4, b5, b6, b7, b8, b9, b10, b11, b12, b13, b14, b15, b16, b17, b18, b19, b20, b21, b22] : Array Value) = #[a0, a1, a2, a3, a4, a5, a6, a7, a8, a9, a10, a11, a12, a13, a14, a15, a16, a17, a18, a19, a20, a21, a22, b0, b1, b2, b3, b4, b5, b6, b7, b8, b9, b10, b11, b12, b13, b14, b15, b16, b17, b18, b19, b20, b21, b22] := by simp only [List.append_toArray, List.cons_append, List.nil_append]
 rw [e]
 exact run_frames2' _ _ _ _ _ _ _ _ _ _ _ _ _ _ _ _ _ _ _ _ _ _ _ _ _ _ _ _ _ _ _ _ _ _ _ _ _ _ _ _ _ _ _ _ _ _ w
section
variable {o : Oper} {a : Act} {w : World} {ops : Array Oper} {rest : List Oper} {Q : Exit → Act → World → Prop}
theorem wpList_frames1 (hg : o.guard = none) (x : Operand) (ho : o.op = .buildSlice 113 1 #[(0, x)]) (cs : Array Value) (hs : a.eval x = .agg cs) (h : cs.size = 23)
  (hk : wpList Try.prog ops Q rest (a.put o.dst (.slice (some ⟨w.heap.size, 0, none⟩) 1 1)) (w.alloc (.cells cs 35))) : wpList Try.prog ops Q (o :: rest) a w :=
 wpList_plain hg fun K hK => by
  unfold Oper.wp execOp
  simp only [ho, List.map_toArray, List.map_cons, List.map_nil, hs, Sem.run_bind, run_frames1 cs h, Result.andThen_ok]
  exact hK _ _ hk
theorem wpList_frames2 (hg : o.guard = none) (x y : Operand) (ho : o.op = .buildSlice 113 2 #[(0, x), (1, y)]) (cs ds : Array Value) (hs : a.eval x = .agg cs) (hs' : a.eval y = .agg ds) (h : cs.size = 23) (h' : ds.size = 23)
  (hk : wpList Try.prog ops Q rest (a.put o.dst (.slice (some ⟨w.heap.size, 0, none⟩) 2 2)) (w.alloc (.cells (cs ++ ds) 35))) : wpList Try.prog ops Q (o :: rest) a w :=
 wpList_plain hg fun K hK => by
  unfold Oper.wp execOp
  simp only [ho, List.map_toArray, List.map_cons, List.map_nil, hs, hs', Sem.run_bind, run_frames2 cs ds h h', Result.andThen_ok]
  exact hK _ _ hk
end
end Go.Proofs.Ytdhekhlmdefcnab
namespace Go.Proofs.Ytdhekhlmdefcnab
open Go.RowKit
theorem own_open {w : World} {base : Nat} {e : TypeId} {A : Option Addr} {n c : Nat} {xs : List Value} (h : w.ownsRow base e 1 (.slice A n c) n xs) (hn : 0 < n) :
  ∃ g cur, A = some ⟨g, 0, none⟩ ∧ base ≤ g ∧ Has w g e cur ∧ n ≤ c ∧ c ≤ maxLen ∧ cur.size = c ∧ cur.toList.take n = xs := by
 obtain ⟨_, h2⟩ := h
 rcases h2 with ⟨_, h0⟩ | ⟨g, cap, cur, he, hg, hh, h3, h4, h5, h6⟩
 ·omega
 ·injection he with e1 _ e3
  subst e3
  exact ⟨g, cur, e1, hg, hh, h3, h4, by omega, by simpa using h6⟩
theorem own_set {w : World} {base : Nat} {e : TypeId} {g n c : Nat} {xs : List Value} (h : w.ownsRow base e 1 (.slice (some ⟨g, 0, none⟩) n c) n xs) (i : Nat) (v : Value) :
  (w.setCell ⟨g, i, none⟩ v).ownsRow base e 1 (.slice (some ⟨g, 0, none⟩) n c) n (xs.set i v) := by
 obtain ⟨h1, h2⟩ := h
 refine ⟨by simpa using h1, ?_⟩
 rcases h2 with ⟨h0, _⟩ | ⟨g', cap, cur, he, hg, hh, h3, h4, h5, h6⟩
 ·cases h0
 ·injection he with e1 _ e3
  injection e1 with e1
  injection e1 with e1
  subst e1
  subst e3
  have hs : Has w g e cur := hh
  refine .inr ⟨g, c, cur.setIfInBounds i v, rfl, hg, hs.set i v, h3, h4, by simpa using h5, ?_⟩
  rw [← h6]
  simp only [Array.toList_setIfInBounds, Nat.mul_one]
  rw [List.take_set]
theorem own_byte {w : World} {base : Nat} {g n c : Nat} {l : List UInt8} (h : w.ownsRow base 5 1 (.slice (some ⟨g, 0, none⟩) n c) n (bytes l)) {i : Nat} {x : UInt8} (hx : l[i]? = some x) :
  w.cell? ⟨g, i, none⟩ = some (U8 x) ∧ w.frozen? ⟨g, i, none⟩ = false := by
 have hl : i < l.length := (List.getElem?_eq_some_iff.1 hx).1
 have hn : (bytes l).length = n * 1 := h.1
 rw [bytes_length] at hn
 obtain ⟨_, hr⟩ := own_slice h
 obtain ⟨b, o, e, _, hc⟩ := hr.byte_ hx
 cases e
 obtain ⟨g', cur, e', _, hh, _⟩ := own_open h (by omega)
 cases e'
 rw [Nat.zero_add] at hc
 exact ⟨hc, hh.free i⟩
theorem bytes_set (l : List UInt8) (i : Nat) (x : UInt8) : (bytes l).set i (U8 x) = bytes (l.set i x) := by simp [bytes, List.map_set]
theorem mod32 (a : Nat) (h : a < 4294967296) : a % 2 ^ IntKind.u32.bits = a := Nat.mod_eq_of_lt (by simp only [IntKind.bits]; omega)
theorem and_u32 (a b : Nat) (ha : a < 4294967296) (hb : b < 4294967296) : bits .and .u32 (a : Int) (b : Int) = ((a &&& b : Nat) : Int) := by
 unfold bits
 simp only [BitVec.ofInt_natCast, BitVec.toNat_and, BitVec.toNat_ofNat]
 rw [mod32 a ha, mod32 b hb]
 have : a &&& b ≤ a := Nat.and_le_left
 show ((a &&& b : Nat) : Int) % 4294967296 = _
 omega
theorem u32_bit (a k : Nat) (ha : a < 4294967296) : (bits .and .u32 ((a : Int) / 2 ^ k) 1 == 1) = a.testBit k := by
 rw [shr_cast]
 have h1 : a >>> k < 4294967296 := Nat.lt_of_le_of_lt (by rw [Nat.shiftRight_eq_div_pow]; exact Nat.div_le_self _ _) ha
 have e3 := and_u32 (a >>> k) 1 h1 (by decide)
 rw [show ((1 : Nat) : Int) = 1 from rfl] at e3
 rw [e3, Nat.and_one_is_mod]
 have : a.testBit k = decide ((a >>> k) % 2 = 1) := by
  rw [Nat.testBit, Nat.and_comm, Nat.and_one_is_mod]
  have : a >>> k % 2 = 0 ∨ a >>> k % 2 = 1 := by omega
  rcases this with h | h <;> simp [h]
 rw [this]
 have : a >>> k % 2 = 0 ∨ a >>> k % 2 = 1 := by omega
 rcases this with h | h <;> simp [h]
theorem u8_xorp (c : UInt8) : ∀ r, r < 8 → bits .xor .u8 (c.toNat : Int) (128 / 2 ^ r) = ((c ^^^ UInt8.ofNat (128 >>> r)).toNat : Int) := by
 have h := c.toNat_lt
 have all : ∀ n : Fin 256, ∀ r : Fin 8, bits .xor .u8 (n.val : Int) (128 / 2 ^ r.val) = ((UInt8.ofNat n.val ^^^ UInt8.ofNat (128 >>> r.val)).toNat : Int) := by decide +kernel
 intro r hr
 have := all ⟨c.toNat, h⟩ ⟨r, hr⟩
 simp only [UInt8.ofNat_toNat] at this
 exact this
theorem flips_byte (l : List UInt8) (g : Nat) (x : UInt8) (hx : l[g / 8]? = some x) : Crc.flipBit l g = l.set (g / 8) (x ^^^ UInt8.ofNat (128 >>> (g % 8))) := by
 unfold Crc.flipBit
 have h1 := (List.getElem?_eq_some_iff.1 hx).1
 have h2 := (List.getElem?_eq_some_iff.1 hx).2
 apply List.ext_getElem?
 intro j
 rw [List.getElem?_modify, List.getElem?_set]
 by_cases e : g / 8 = j
 ·subst e
  simp [h1, h2]
 ·simp [e]
end Go.Proofs.Ytdhekhlmdefcnab
