/- The walk over FrameBurst. -/
import Derived.Test.YtdhekhlmdefcnaaDoorSent
import Derived.Test.YtdhekhlmdefcnaaDoorFrameBack
import Derived.Test.YtdhekhlmdefcnaaDoorBurstLaw
import Derived.Test.YtdhekhlmdefcnaaDoorLine
namespace Go.Proofs.YtdhekhlmdefcnaaDoor
open Go.RowKit
/-- whether one of the first i bits is another one -/
def someTo (what p n : Nat) : Nat → Bool
  | 0 => false
  | i + 1 => if what.testBit (31 - i) && decide (p + i < 8 * n) then true else someTo what p n i
theorem someTo_ex (what p n : Nat) : ∀ i, i ≤ 32 → someTo what p n i = true → ∃ j, j < 32 ∧ what.testBit (31 - j) = true ∧ p + j < 8 * n
  | 0, _, h => by cases h
  | i + 1, hi, h => by
    rw [someTo] at h
    split at h
    · rename_i hc
      simp only [Bool.and_eq_true, decide_eq_true_eq] at hc
      exact ⟨i, by omega, hc.1, hc.2⟩
    · exact someTo_ex what p n i (by omega) h
theorem mod32 (a : Nat) (h : a < 4294967296) : a % 2 ^ IntKind.u32.bits = a := Nat.mod_eq_of_lt (by simp only [IntKind.bits]; omega)
theorem and_u32 (a b : Nat) (ha : a < 4294967296) (hb : b < 4294967296) : bits .and .u32 (a : Int) (b : Int) = ((a &&& b : Nat) : Int) := by
  unfold bits
  simp only [BitVec.ofInt_natCast, BitVec.toNat_and, BitVec.toNat_ofNat]
  rw [mod32 a ha, mod32 b hb]
  have : a &&& b ≤ a := Nat.and_le_left
  show ((a &&& b : Nat) : Int) % 4294967296 = _
  omega
theorem u32_bit (a k : Nat) (ha : a < 4294967296) : (bits .and .u32 ((a : Int) / 2 ^ k) 1 == 1) = a.testBit k := by
  rw [shr_cast]
  have h1 : a >>> k < 4294967296 := Nat.lt_of_le_of_lt (by rw [Nat.shiftRight_eq_div_pow]; exact Nat.div_le_self _ _) ha
  have e3 := and_u32 (a >>> k) 1 h1 (by decide)
  rw [show ((1 : Nat) : Int) = 1 from rfl] at e3
  rw [e3, Nat.and_one_is_mod]
  have : a.testBit k = decide ((a >>> k) % 2 = 1) := by
    rw [Nat.testBit, Nat.and_comm, Nat.and_one_is_mod]
    have : a >>> k % 2 = 0 ∨ a >>> k % 2 = 1 := by omega
    rcases this with h | h <;> simp [h]
  rw [this]
  have : a >>> k % 2 = 0 ∨ a >>> k % 2 = 1 := by omega
  rcases this with h | h <;> simp [h]
theorem u8_xorp (c : UInt8) : ∀ r, r < 8 → bits .xor .u8 (c.toNat : Int) (128 / 2 ^ r) = ((c ^^^ UInt8.ofNat (128 >>> r)).toNat : Int) := by
  have h := c.toNat_lt
  have all : ∀ n : Fin 256, ∀ r : Fin 8, bits .xor .u8 (n.val : Int) (128 / 2 ^ r.val) = ((UInt8.ofNat n.val ^^^ UInt8.ofNat (128 >>> r.val)).toNat : Int) := by decide +kernel
  intro r hr
  have := all ⟨c.toNat, h⟩ ⟨r, hr⟩
  simp only [UInt8.ofNat_toNat] at this
  exact this
theorem flips_byte (l : List UInt8) (g : Nat) (x : UInt8) (hx : l[g / 8]? = some x) : Crc.flipBit l g = l.set (g / 8) (x ^^^ UInt8.ofNat (128 >>> (g % 8))) := by
  unfold Crc.flipBit
  have h1 := (List.getElem?_eq_some_iff.1 hx).1
  have h2 := (List.getElem?_eq_some_iff.1 hx).2
  apply List.ext_getElem?
  intro j
  rw [List.getElem?_modify, List.getElem?_set]
  by_cases e : g / 8 = j
  · subst e
    simp [h1, h2]
  · simp [e]
theorem Below.size_le {w wr : World} {g : Nat} (h : Below g w wr) (e : w.heap.size = g) : g ≤ wr.heap.size := by rw [← e]; exact h.size
set_option maxHeartbeats 4000000 in
set_option maxRecDepth 100000 in
theorem burst_no (f : List Int) (hf : Wf f) (hm : mayB f = false) (a wh : Int) (w : World) (hg : Hid (EType w)) :
    Calls Tryd.prog 6 #[.agg (frC f), I a, .int .u32 wh] w fun e w' => e = .returned (.bool true) ∧ Below w.heap.size w w' := by
  have hb : Below w.heap.size w (w.alloc (.cells (frC f) 40)) := (Below.refl _ _).alloc (Nat.le_refl _) _
  have k0 := Has.new w 40 (frC f)
  have hs1 : Hid ((Tryd.prog.info? 40).map (·.size) = some (frC f).size) := Lib.hid (by rw [frC_size _ hf.1]; exact infoFrame)
  have HF := Lib.hid hf
  have HM := Lib.hid hm
  have hg0 := Lib.hid (hg.out.after hb)
  clear hf hm
  go_enter Tryd.func6, Tryd.ntmps6
  go_upto_region 1 with (fail)
  generalize w.alloc (.cells (frC f) 40) = w1 at *
  have hl := k0.lt
  generalize hG : w.heap.size = g0 at *
  have HG := Lib.hid hG
  clear hG
  go_wp2_with fail
  refine (sent_any _ hg0).mono ?_
  rintro e w2 ⟨rfl, hb2⟩
  have k2 := k0.after hb2
  have hbw2 := hb.trans (hb2.mono (Nat.le_of_lt hl))
  have hl2 := k2.lt
  clear k0 hb hb2 hl hg0
  go_wp2_with (first
    | (refine wpList_load_row rfl 40 (.tmp 3) rfl g0 rfl 40 (frC f) (0, 0) _ k2 Tryd.underlying40 rfl hs1.out ?_)
    | (go_at_call 18; refine (encode_no f HF.out HM.out w2).mono ?_; rintro e w3 ⟨rfl, hb3⟩))
  go_ret
  exact ⟨rfl, HG.out ▸ hbw2.trans (hb3.mono (Nat.le_of_lt k2.lt))⟩
set_option maxHeartbeats 4000000 in
set_option maxRecDepth 100000 in
theorem burst_zero (f : List Int) (n : Nat) (hf : Wf f) (hm : mayB f = true) (hn : Hid ((encB f).length = n)) (h0 : 7 ≤ n) (a : Int) (w : World) (hg : Hid (EType w)) :
    Calls Tryd.prog 6 #[.agg (frC f), I a, .int .u32 0] w fun e w' => e = .returned (.bool true) ∧ Below w.heap.size w w' := by
  have hb : Below w.heap.size w (w.alloc (.cells (frC f) 40)) := (Below.refl _ _).alloc (Nat.le_refl _) _
  have k0 := Has.new w 40 (frC f)
  have hs1 : Hid ((Tryd.prog.info? 40).map (·.size) = some (frC f).size) := Lib.hid (by rw [frC_size _ hf.1]; exact infoFrame)
  have HF := Lib.hid hf
  have HM := Lib.hid hm
  have hg0 := Lib.hid (hg.out.after hb)
  clear hf hm
  go_enter Tryd.func6, Tryd.ntmps6
  go_upto_region 1 with (fail)
  generalize w.alloc (.cells (frC f) 40) = w1 at *
  have hl := k0.lt
  generalize hG : w.heap.size = g0 at *
  have HG := Lib.hid hG
  clear hG
  go_wp2_with fail
  refine (sent_any _ hg0).mono ?_
  rintro e w2 ⟨rfl, hb2⟩
  have k2 := k0.after hb2
  have hbw2 := hb.trans (hb2.mono (Nat.le_of_lt hl))
  have hl2 := k2.lt
  clear k0 hb hb2 hl hg0
  go_wp2_with (first
    | (refine wpList_load_row rfl 40 (.tmp 3) rfl g0 rfl 40 (frC f) (0, 0) _ k2 Tryd.underlying40 rfl hs1.out ?_)
    | (go_at_call 18; refine (encode_at f n HF.out HM.out hn (by omega) w2).mono ?_; rintro e w3 ⟨gb, c, rfl, hgb, hc, HO, hb3⟩))
  go_ret
  exact ⟨rfl, HG.out ▸ hbw2.trans (hb3.mono (Nat.le_of_lt hl2))⟩
set_option maxHeartbeats 8000000 in
set_option maxRecDepth 100000 in
theorem burst_yes (f : List Int) (n wn : Nat) (hf : Wf f) (hm : mayB f = true) (hn : Hid ((encB f).length = n)) (h0 : 7 ≤ n) (h80 : n ≤ 80) (hw0 : 0 < wn) (hw1 : wn < 4294967296) (a : Int) (w : World) (hg : Hid (EType w)) :
    Calls Tryd.prog 6 #[.agg (frC f), I a, .int .u32 (wn : Int)] w fun e w' => e = .returned (.bool true) ∧ Below w.heap.size w w' := by
  have tz : ((wn : Int) == 0) = false := by simp; omega
  obtain ⟨p1, p2⟩ := pk_in a (8 * (n : Int)) (by omega)
  obtain ⟨p, hp⟩ := Int.eq_ofNat_of_zero_le p1
  have hpn : p < 8 * n := by omega
  have HP := Lib.hid hp
  clear hp p1 p2
  have hb : Below w.heap.size w (w.alloc (.cells (frC f) 40)) := (Below.refl _ _).alloc (Nat.le_refl _) _
  have k0 := Has.new w 40 (frC f)
  have hs1 : Hid ((Tryd.prog.info? 40).map (·.size) = some (frC f).size) := Lib.hid (by rw [frC_size _ hf.1]; exact infoFrame)
  have HF := Lib.hid hf
  have HM := Lib.hid hm
  have hg0 := Lib.hid (hg.out.after hb)
  clear hf hm
  go_enter Tryd.func6, Tryd.ntmps6
  go_upto_region 1 with (fail)
  generalize w.alloc (.cells (frC f) 40) = w1 at *
  have hl := k0.lt
  generalize hG : w.heap.size = g0 at *
  have HG := Lib.hid hG
  clear hG
  go_wp2_with fail
  refine (sent_any _ hg0).mono ?_
  rintro e w2 ⟨rfl, hb2⟩
  have k2 := k0.after hb2
  have hbw2 := hb.trans (hb2.mono (Nat.le_of_lt hl))
  have hl2 := k2.lt
  clear k0 hb hb2 hl hg0
  go_wp2_with (first
    | (refine wpList_load_row rfl 40 (.tmp 3) rfl g0 rfl 40 (frC f) (0, 0) _ k2 Tryd.underlying40 rfl hs1.out ?_)
    | (go_at_call 18; refine (encode_at f n HF.out HM.out hn (by omega) w2).mono ?_; rintro e w3 ⟨gb, c, rfl, hgb, hc, HO, hb3⟩)
    | (go_at_call 24; refine (pick_any _ _ (by omega) (by omega) _).mono ?_; rintro e w6 ⟨rfl, rfl⟩; rw [HP.out]))
  have hbw3 := hbw2.trans (hb3.mono (Nat.le_of_lt hl2))
  have HO3 := Lib.hid (own_base HO.out (Nat.le_of_lt hl2))
  have hgb0 : g0 ≤ gb := by omega
  have hl3 : g0 < w3.heap.size := Nat.lt_of_lt_of_le hl2 hb3.size
  clear HO k2 hbw2 hl2 hb3 hgb tz
  go_loopw [9, 10] (fun sm i wr => ∃ j : Nat, j ≤ 32 ∧ i = I j ∧ sm = .bool (someTo wn p n j) ∧ Hid (wr.ownsRow g0 5 1 (.slice (some ⟨gb, 0, none⟩) n c) n (bytes (Crc.flips (encB f) p wn j))) ∧ Below g0 w wr) (fun _ i _ => 32 - (intOf i).toNat)
  case atStart => exact ⟨0, by omega, rfl, rfl, HO3, hbw3⟩
  case round =>
    clear HO3 hbw3 hl3
    obtain ⟨j, hj, rfl, rfl, HO, hbr⟩ := hrel
    by_cases hlt : j < 32
    · have hsub : (31 : Int) - (j : Int) = ((31 - j : Nat) : Int) := by omega
      have tB := u32_bit wn (31 - j) hw1
      have HS : Hid (someTo wn p n (j + 1) = if wn.testBit (31 - j) && decide (p + j < 8 * n) then true else someTo wn p n j) := rfl
      have HL : Hid (Crc.flips (encB f) p wn (j + 1) = if wn.testBit (31 - j) && decide (p + j < 8 * n) then Crc.flipBit (Crc.flips (encB f) p wn j) (p + j) else Crc.flips (encB f) p wn j) := Lib.hid (by rw [Crc.flips, hn.out])
      have hj31 : 31 - j ≤ 31 := by omega
      cases hb1 : wn.testBit (31 - j) with
      | false =>
        rw [hb1] at tB
        have HS' : Hid (someTo wn p n (j + 1) = someTo wn p n j) := Lib.hid (by rw [HS.out, hb1]; rfl)
        have HL' : Hid (Crc.flips (encB f) p wn (j + 1) = Crc.flips (encB f) p wn j) := Lib.hid (by rw [HL.out, hb1]; rfl)
        clear hb1 HS HL
        go_wp2_with fail
        go_roundw
        case rel => exact ⟨j + 1, by omega, by go_num, by rw [HS'.out], by rw [HL'.out]; exact HO, hbr⟩
        case measure => simp [intOf]; omega
      | true =>
        rw [hb1] at tB
        by_cases hr : p + j < 8 * n
        · have tR : decide ((p : Int) + (j : Int) < 8 * (n : Int)) = true := by simp; omega
          have HS' : Hid (someTo wn p n (j + 1) = true) := Lib.hid (by rw [HS.out, hb1, decide_eq_true hr]; rfl)
          obtain ⟨x, hx⟩ := some_at (Crc.flips (encB f) p wn j) ((p + j) / 8) (by rw [Crc.flips_length, hn.out]; omega)
          have HL' : Hid (Crc.flips (encB f) p wn (j + 1) = (Crc.flips (encB f) p wn j).set ((p + j) / 8) (x ^^^ UInt8.ofNat (128 >>> ((p + j) % 8)))) := Lib.hid (by rw [HL.out, hb1, decide_eq_true hr]; exact flips_byte _ _ _ hx)
          obtain ⟨c1, f1⟩ := own_byte HO.out hx
          have hq : ((p : Int) + (j : Int)) / 8 = (((p + j) / 8 : Nat) : Int) := by omega
          have hm8 : ((p : Int) + (j : Int)) % 8 = (((p + j) % 8 : Nat) : Int) := by omega
          have hqn : (p + j) / 8 < n := by omega
          have HX := Lib.hid (u8_xorp x ((p + j) % 8) (by omega))
          have hx8 := x.toNat_lt
          have hr8 : (p + j) % 8 < 8 := Nat.mod_lt _ (by decide)
          clear hb1 HS HL hx hr
          generalize (p + j) / 8 = q at *
          generalize (p + j) % 8 = r at *
          go_wp2_with fail
          go_region
          go_wp2_with fail
          go_roundw
          case rel =>
            refine ⟨j + 1, by omega, by go_num, by rw [HS'.out], ?_, (hbr.setCell hgb0 _).drew⟩
            have h := own_set HO.out q (U8 (x ^^^ UInt8.ofNat (128 >>> r)))
            rw [bytes_set, ← HL'.out] at h
            have e : Value.int .u8 (bits .xor .u8 (x.toNat : Int) (128 / 2 ^ r)) = U8 (x ^^^ UInt8.ofNat (128 >>> r)) := U_eq HX.out
            rw [e]
            exact h
          case measure => simp [intOf]; omega
        · have tR : decide ((p : Int) + (j : Int) < 8 * (n : Int)) = false := by simp; omega
          have HS' : Hid (someTo wn p n (j + 1) = someTo wn p n j) := Lib.hid (by rw [HS.out, hb1, decide_eq_false hr]; rfl)
          have HL' : Hid (Crc.flips (encB f) p wn (j + 1) = Crc.flips (encB f) p wn j) := Lib.hid (by rw [HL.out, hb1, decide_eq_false hr]; rfl)
          clear hb1 HS HL hr
          go_wp2_with fail
          go_roundw
          case rel => exact ⟨j + 1, by omega, by go_num, by rw [HS'.out], by rw [HL'.out]; exact HO, hbr⟩
          case measure => simp [intOf]; omega
    · have hj32 : j = 32 := by omega
      subst hj32
      have hlf : Hid ((Crc.flips (encB f) p wn 32).length = n) := Lib.hid (by rw [Crc.flips_length]; exact hn.out)
      cases hsm : someTo wn p n 32 with
      | false =>
        clear hsm
        go_wp2_with fail
        go_ret
        exact ⟨rfl, HG.out ▸ hbr⟩
      | true =>
        have HDD : Hid (dec (Crc.flips (encB f) p wn 32) = (15, zeroF)) := Lib.hid (by
          obtain ⟨i, h1, h2, h3⟩ := someTo_ex wn p n 32 (by decide) hsm
          exact burst_dec p wn (by rw [hn.out]; exact hpn) ⟨i, h1, h2, by rw [hn.out]; exact h3⟩)
        obtain ⟨_, hr⟩ := own_slice HO.out
        have hgl : g0 ≤ wr.heap.size := Below.size_le hbr HG.out
        clear hsm
        go_wp2_with fail
        refine (decode_ok (some ⟨gb, 0, none⟩) n c (Crc.flips (encB f) p wn 32) wr hlf.out hc hr).mono ?_
        rintro e w6 ⟨rfl, hb6⟩
        rw [HDD.out, errV_fifteen]
        have hbw6 := hbr.trans (hb6.mono hgl)
        have hl6 : g0 ≤ w6.heap.size := Nat.le_trans hgl hb6.size
        have kz : Has (w6.alloc (.cells #[I 0, I 0, I 0, I 0, I 0, I 0, I 0, I 0, I 0, I 0, I 0, I 0, I 0, I 0, I 0, I 0, I 0, I 0, I 0, I 0, I 0, I 0, I 0] 40)) w6.heap.size 40 (frC zeroF) := by rw [zeroFrame]; exact Has.new _ _ _
        have hbz : Below w6.heap.size w6 (w6.alloc (.cells #[I 0, I 0, I 0, I 0, I 0, I 0, I 0, I 0, I 0, I 0, I 0, I 0, I 0, I 0, I 0, I 0, I 0, I 0, I 0, I 0, I 0, I 0, I 0] 40)) := (Below.refl _ _).alloc (Nat.le_refl _) _
        have k9 := kz.setRow (frC zeroF)
        have hb7 := below_setRow hbz (Nat.le_refl _) (frC zeroF)
        clear hbz hbr hb6 hr hgl HO
        go_upto_region 17 with (refine wpList_store_row rfl 40 (.tmp 11) _ rfl w6.heap.size (frC zeroF) rfl rfl 40 _ kz zeroSize rfl (frC_one _) ?_)
        clear kz
        generalize World.setRow _ w6.heap.size (frC zeroF) = w7 at *
        have hbw7 := hbw6.trans (hb7.mono hl6)
        clear hbw6 hb7 hl6
        generalize w6.heap.size = g9 at *
        go_wp2_with (first
          | (refine wpList_taken rfl (fun K hK => wp_load_row 40 (.tmp 11) rfl g9 rfl 40 (frC zeroF) (0, 0) _ k9 Tryd.underlying40 rfl zeroSize (hK _ _ ?_)))
          | (refine wpList_taken rfl (fun K hK => wp_eql_row 40 40 5 (frC zeroF) (frC zeroF) (List.replicate 23 (some .i64)) (.tmp 73) (.tmp 74) rfl rfl rfl (by decide) (by kernel_rfl) sigFrame (by kernel_rfl) (by kernel_rfl) (by kernel_rfl) (fit_frame zero_wf) (fit_frame zero_wf) true (by simp) (hK _ _ ?_))))
        go_ret
        exact ⟨rfl, HG.out ▸ hbw7⟩
/-- FrameBurst returns true. -/
theorem burst_any (f : List Int) (hf : Wf f) (a : Int) (wn : Nat) (hw : wn < 4294967296) (w : World) (hg : Hid (EType w)) :
    Calls Tryd.prog 6 #[.agg (frC f), I a, .int .u32 (wn : Int)] w fun e w' => e = .returned (.bool true) ∧ Below w.heap.size w w' := by
  cases hm : mayB f with
  | false => exact burst_no f hf hm a wn w hg
  | true =>
    have h1 := enc_len (f := f)
    have h2 := idx_three (f.getD 0 0)
    have h3 := idx_len (f.getD 0 0)
    by_cases h : wn = 0
    · subst h
      exact burst_zero f _ hf hm (Lib.hid rfl) (by omega) a w hg
    · exact burst_yes f _ wn hf hm (Lib.hid rfl) (by omega) (by omega) (by omega) hw a w hg
end Go.Proofs.YtdhekhlmdefcnaaDoor
