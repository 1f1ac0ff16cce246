/- Part 23 of the proof: FrameBack. -/
import Derived.Test.YtdhekhlmdefcnaaDoorPart21
import Derived.Test.YtdhekhlmdefcnaaDoorPart9
import Derived.Test.YtdhekhlmdefcnaaDoorPart14
/- The walk over FrameBack. -/
namespace Go.Proofs.YtdhekhlmdefcnaaDoor
open Go.RowKit
theorem zero_wf : Wf zeroF := ⟨rfl, by decide⟩
set_option maxHeartbeats 4000000 in
set_option maxRecDepth 100000 in
theorem back_no (f : List Int) (hf : Wf f) (hm : mayB f = false) (cut : Int) (w : World) (hg : Hid (EType w)) :
    Calls Tryd.prog 5 #[.agg (frC f), I cut] w fun e w' => e = .returned (.bool true) ∧ Below w.heap.size w w' := by
  have hb : Below w.heap.size w (w.alloc (.cells (frC f) 40)) := (Below.refl _ _).alloc (Nat.le_refl _) _
  have k0 := Has.new w 40 (frC f)
  have hs1 : Hid ((Tryd.prog.info? 40).map (·.size) = some (frC f).size) := Lib.hid (by rw [frC_size _ hf.1]; exact infoFrame)
  have HF := Lib.hid hf
  have HM := Lib.hid hm
  have hg0 := Lib.hid (hg.out.after hb)
  clear hf hm
  go_enter Tryd.func5, Tryd.ntmps5
  go_upto_region 1 with (fail)
  generalize w.alloc (.cells (frC f) 40) = w1 at *
  have hl := k0.lt
  generalize hG : w.heap.size = g0 at *
  have HG := Lib.hid hG
  clear hG
  go_wp2_with (first
    | (go_at_call 22; refine (sent_any _ hg0).mono ?_; rintro e w2 ⟨rfl, hb2⟩; have k2 := k0.after hb2)
    | (refine wpList_load_row rfl 40 (.tmp 2) rfl g0 rfl 40 (frC f) (0, 0) _ k2 Tryd.underlying40 rfl hs1.out ?_)
    | (go_at_call 18; refine (encode_no f HF.out HM.out w2).mono ?_; rintro e w3 ⟨rfl, hb3⟩))
  go_ret
  exact ⟨rfl, HG.out ▸ (hb.trans (hb2.mono (Nat.le_of_lt hl))).trans (hb3.mono (Nat.le_of_lt k2.lt))⟩
set_option maxHeartbeats 8000000 in
set_option maxRecDepth 100000 in
theorem back_yes (f : List Int) (n : Nat) (hf : Wf f) (hm : mayB f = true) (hn : Hid ((encB f).length = n)) (h0 : 7 ≤ n) (h80 : n ≤ 80) (cut : Int) (w : World) (hg : Hid (EType w)) :
    Calls Tryd.prog 5 #[.agg (frC f), I cut] w fun e w' => e = .returned (.bool true) ∧ Below w.heap.size w w' := by
  have hb : Below w.heap.size w (w.alloc (.cells (frC f) 40)) := (Below.refl _ _).alloc (Nat.le_refl _) _
  have k0 := Has.new w 40 (frC f)
  have hs1 : Hid ((Tryd.prog.info? 40).map (·.size) = some (frC f).size) := Lib.hid (by rw [frC_size _ hf.1]; exact infoFrame)
  have hz1 : Hid ((frC zeroF).size = (frC f).size) := Lib.hid (by rw [frC_size _ hf.1]; rfl)
  have HF := Lib.hid hf
  have HM := Lib.hid hm
  have HD : Hid (dec (encB f) = (0, f)) := Lib.hid (dec_enc hm)
  have hg0 := Lib.hid (hg.out.after hb)
  clear hf hm
  go_enter Tryd.func5, Tryd.ntmps5
  go_upto_region 1 with (fail)
  generalize w.alloc (.cells (frC f) 40) = w1 at *
  have hl := k0.lt
  generalize hG : w.heap.size = g0 at *
  have HG := Lib.hid hG
  clear hG
  go_wp2_with fail
  refine (sent_any _ hg0).mono ?_
  rintro e w2 ⟨rfl, hb2⟩
  have k2 := k0.after hb2
  have hbw2 := hb.trans (hb2.mono (Nat.le_of_lt hl))
  have hl2 := k2.lt
  clear k0 hb hb2 hl hg0
  go_wp2_with (first
    | (refine wpList_load_row rfl 40 (.tmp 2) rfl g0 rfl 40 (frC f) (0, 0) _ k2 Tryd.underlying40 rfl hs1.out ?_)
    | (go_at_call 18; refine (encode_at f n HF.out HM.out hn (by omega) w2).mono ?_; rintro e w3 ⟨gb, c, rfl, hgb, hc, HO, hb3⟩))
  have k3 := k2.after hb3
  have hbw3 := hbw2.trans (hb3.mono (Nat.le_of_lt hl2))
  have hl3 := k3.lt
  obtain ⟨_, hr3⟩ := own_slice HO.out
  clear k2 hbw2 hl2 hb3 hgb
  refine (decode_ok (some ⟨gb, 0, none⟩) n c (encB f) w3 hn.out hc hr3).mono ?_
  rintro e w4 ⟨rfl, hb4⟩
  rw [HD.out, errV_zero]
  have k4 := k3.after hb4
  have hbw4 := hbw3.trans (hb4.mono (Nat.le_of_lt hl3))
  have hl4 := k4.lt
  have hr4 := (hr3.below hb4).more hb4.size
  have kz : Has (w4.alloc (.cells #[I 0, I 0, I 0, I 0, I 0, I 0, I 0, I 0, I 0, I 0, I 0, I 0, I 0, I 0, I 0, I 0, I 0, I 0, I 0, I 0, I 0, I 0, I 0] 40)) w4.heap.size 40 (frC zeroF) := by rw [zeroFrame]; exact Has.new _ _ _
  have hbz : Below w4.heap.size w4 (w4.alloc (.cells #[I 0, I 0, I 0, I 0, I 0, I 0, I 0, I 0, I 0, I 0, I 0, I 0, I 0, I 0, I 0, I 0, I 0, I 0, I 0, I 0, I 0, I 0, I 0] 40)) := (Below.refl _ _).alloc (Nat.le_refl _) _
  have k7 := kz.setRow (frC f)
  have hb5 := below_setRow hbz (Nat.le_refl _) (frC f)
  clear hbz k3 hbw3 hl3 hb4 hr3 HO
  go_upto_region 7 with (refine wpList_store_row rfl 40 (.tmp 7) _ rfl w4.heap.size (frC f) rfl rfl 40 _ kz hs1.out hz1.out (frC_one _) ?_)
  clear kz
  generalize World.setRow _ w4.heap.size (frC f) = w5 at *
  have k5 := k4.after hb5
  have hbw5 := hbw4.trans (hb5.mono (Nat.le_of_lt hl4))
  have hl5 := k5.lt
  have hr5 := (hr4.below hb5).more hb5.size
  clear k4 hbw4 hl4 hr4 hb5
  generalize w4.heap.size = g7 at *
  obtain ⟨p1, p2⟩ := pk_in cut n (by omega)
  obtain ⟨m, hm⟩ := Int.eq_ofNat_of_zero_le p1
  have hmn : m < n := by omega
  obtain ⟨e15, he15, hcut⟩ := dec_cut HM.out m (by rw [hn.out]; exact hmn)
  have HC := Lib.hid hcut
  have HMM := Lib.hid hm
  have hrm : Reads w5 w5.heap.size (some ⟨gb, 0, none⟩) (bytes ((encB f).take m)) := by rw [bytes_take]; exact hr5.take m
  have hlm : Hid (((encB f).take m).length = m) := Lib.hid (by rw [List.length_take, hn.out]; omega)
  clear hcut hm p1 p2 hr5
  go_wp2_with (first
    | (refine wpList_taken rfl (fun K hK => wp_load_row 40 (.tmp 7) rfl g7 rfl 40 (frC f) (0, 0) _ k7 Tryd.underlying40 rfl hs1.out (hK _ _ ?_)))
    | (refine wpList_taken rfl (fun K hK => wp_load_row 40 (.tmp 2) rfl g0 rfl 40 (frC f) (0, 0) _ k5 Tryd.underlying40 rfl hs1.out (hK _ _ ?_)))
    | (refine wpList_taken rfl (fun K hK => wp_neq_row 40 40 5 (frC f) (frC f) (List.replicate 23 (some .i64)) (.tmp 28) (.tmp 29) rfl rfl rfl (by decide) (by kernel_rfl) sigFrame (by kernel_rfl) (by kernel_rfl) (by kernel_rfl) (fit_frame HF.out) (fit_frame HF.out) true (by simp) (hK _ _ ?_)))
    | (go_at_call 24; refine (pick_any _ _ (by omega) (by omega) _).mono ?_; rintro e w6 ⟨rfl, rfl⟩; rw [HMM.out]))
  refine (decode_ok (some ⟨gb, 0, none⟩) m c ((encB f).take m) w5 hlm.out (by omega) hrm).mono ?_
  rintro e w6 ⟨rfl, hb6⟩
  rw [HC.out]
  have hbw6 := hbw5.trans (hb6.mono (Nat.le_of_lt hl5))
  have hl6 : g0 < w6.heap.size := Nat.lt_of_lt_of_le hl5 hb6.size
  have hze : Hid (zeroF = zeroF ↔ True) := Lib.hid (by simp)
  have hev : errV e15 = .iface 42 (I e15) := by rcases he15 with rfl | rfl <;> rfl
  rw [hev]
  have kz : Has (w6.alloc (.cells #[I 0, I 0, I 0, I 0, I 0, I 0, I 0, I 0, I 0, I 0, I 0, I 0, I 0, I 0, I 0, I 0, I 0, I 0, I 0, I 0, I 0, I 0, I 0] 40)) w6.heap.size 40 (frC zeroF) := by rw [zeroFrame]; exact Has.new _ _ _
  have hbz : Below w6.heap.size w6 (w6.alloc (.cells #[I 0, I 0, I 0, I 0, I 0, I 0, I 0, I 0, I 0, I 0, I 0, I 0, I 0, I 0, I 0, I 0, I 0, I 0, I 0, I 0, I 0, I 0, I 0] 40)) := (Below.refl _ _).alloc (Nat.le_refl _) _
  have k9 := kz.setRow (frC zeroF)
  have hb7 := below_setRow hbz (Nat.le_refl _) (frC zeroF)
  clear hbz hze hev k5 k7 hbw5 hl5 hb6 hrm
  go_upto_region 11 with (refine wpList_store_row rfl 40 (.tmp 9) _ rfl w6.heap.size (frC zeroF) rfl rfl 40 _ kz zeroSize rfl (frC_one _) ?_)
  clear kz
  generalize World.setRow _ w6.heap.size (frC zeroF) = w7 at *
  have hbw7 := hbw6.trans (hb7.mono (Nat.le_of_lt hl6))
  clear hbw6 hb7 hl6
  generalize w6.heap.size = g9 at *
  go_wp2_with (first
    | (refine wpList_taken rfl (fun K hK => wp_load_row 40 (.tmp 9) rfl g9 rfl 40 (frC zeroF) (0, 0) _ k9 Tryd.underlying40 rfl zeroSize (hK _ _ ?_)))
    | (refine wpList_taken rfl (fun K hK => wp_eql_row 40 40 5 (frC zeroF) (frC zeroF) (List.replicate 23 (some .i64)) (.tmp 46) (.tmp 47) rfl rfl rfl (by decide) (by kernel_rfl) sigFrame (by kernel_rfl) (by kernel_rfl) (by kernel_rfl) (fit_frame zero_wf) (fit_frame zero_wf) true (by simp) (hK _ _ ?_))))
  go_ret
  exact ⟨rfl, HG.out ▸ hbw7⟩
/-- FrameBack returns true. -/
theorem back_any (f : List Int) (hf : Wf f) (cut : Int) (w : World) (hg : Hid (EType w)) :
    Calls Tryd.prog 5 #[.agg (frC f), I cut] w fun e w' => e = .returned (.bool true) ∧ Below w.heap.size w w' := by
  cases hm : mayB f with
  | false => exact back_no f hf hm cut w hg
  | true =>
    have h1 := enc_len (f := f)
    have h2 := idx_three (f.getD 0 0)
    have h3 := idx_len (f.getD 0 0)
    exact back_yes f _ hf hm (Lib.hid rfl) (by omega) (by omega) cut w hg
end Go.Proofs.YtdhekhlmdefcnaaDoor
