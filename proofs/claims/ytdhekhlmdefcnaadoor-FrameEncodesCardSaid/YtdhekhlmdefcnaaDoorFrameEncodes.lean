/- The walk over FrameEncodes. -/
import Derived.Test.YtdhekhlmdefcnaaDoorGiven
import Derived.Test.YtdhekhlmdefcnaaDoorFrameBack
import Derived.Laws.IdiomStrings
namespace Go.Proofs.YtdhekhlmdefcnaaDoor
open Go.RowKit
theorem str_ok {w : World} {B : Nat} {A : Option Addr} (l : List UInt8) (c : Nat) (hr : Reads w B A (bytes l)) (h0 : l ≠ []) :
    (convert 41 9 (.slice A l.length c)).run Tryd.prog w = .ok (.string ⟨l.toArray⟩) w := by
  obtain ⟨x, hx⟩ := some_at l 0 (List.length_pos_iff.2 h0)
  obtain ⟨b, o, rfl, -, -⟩ := hr.byte_ hx
  refine run_convert_bytes_back w _ _ 5 ⟨b, o, none⟩ c l Tryd.underlying41 Tryd.underlying5 Tryd.underlying9 (fun j hj => ?_)
  obtain ⟨b', o', e, -, h⟩ := hr.byte_ (List.getElem?_eq_getElem hj)
  cases e
  by_cases h00 : j = 0
  · subst h00
    simpa [Addr.add] using h
  · simpa [Addr.add, h00] using h
theorem str_nil (w : World) : (convert 41 9 (.slice none 0 0)).run Tryd.prog w = .ok (.string ⟨#[]⟩) w := by kernel_rfl
set_option maxHeartbeats 4000000 in
set_option maxRecDepth 100000 in
theorem encodes_long (f : List Int) (A : Option Addr) (n c : Nat) (w : World) (h : 300 < n) :
    Calls Tryd.prog 4 #[.agg (frC f), .slice A n c] w fun e w' => e = .returned (.bool true) ∧ Below w.heap.size w w' := by
  have hb : Below w.heap.size w (w.alloc (.cells (frC f) 40)) := (Below.refl _ _).alloc (Nat.le_refl _) _
  have ht : decide ((300 : Int) < (n : Int)) = true := by simp; omega
  have hi : (300 : Int) < (n : Int) := by omega
  go_enter Tryd.func4, Tryd.ntmps4
  go_upto_region 1 with fail
  generalize w.alloc (.cells (frC f) 40) = w1 at *
  go_wp2_with fail
  go_ret
  exact ⟨rfl, hb⟩
set_option maxHeartbeats 4000000 in
set_option maxRecDepth 100000 in
theorem encodes_no (f : List Int) (hf : Wf f) (hm : mayB f = false) (A : Option Addr) (n c : Nat) (bs : List UInt8) (w : World) (h : n ≤ 300) (hl : Hid (bs.length = n)) (hr : Reads w w.heap.size A (bytes bs)) (hg : Hid (EType w)) :
    Calls Tryd.prog 4 #[.agg (frC f), .slice A n c] w fun e w' => e = .returned (.bool true) ∧ Below w.heap.size w w' := by
  have hb : Below w.heap.size w (w.alloc (.cells (frC f) 40)) := (Below.refl _ _).alloc (Nat.le_refl _) _
  have k0 := Has.new w 40 (frC f)
  have hs1 : Hid ((Tryd.prog.info? 40).map (·.size) = some (frC f).size) := Lib.hid (by rw [frC_size _ hf.1]; exact infoFrame)
  have HR : Hid (Reads w w.heap.size A (bytes bs)) := Lib.hid hr
  have HF := Lib.hid hf
  have HM := Lib.hid hm
  clear hr hf hm
  have hi : ¬ (300 : Int) < (n : Int) := by omega
  go_enter Tryd.func4, Tryd.ntmps4
  go_upto_region 1 with fail
  generalize w.alloc (.cells (frC f) 40) = w1 at *
  generalize hG : w.heap.size = g0 at *
  have HG := Lib.hid hG
  clear hG
  go_upto_region 4 with (first
    | (refine wpList_load_row rfl 40 (.tmp 2) rfl g0 rfl 40 (frC f) (0, 0) _ k0 Tryd.underlying40 rfl hs1.out ?_)
    | (go_at_call 17; refine (given_ok f HF.out _).mono ?_; rintro e w2 ⟨rfl, hb2⟩)
    | (go_at_call 16; refine (refEncode_no f HF.out HM.out _).mono ?_; rintro e w3 ⟨rfl, hb3⟩))
  have k2 := (k0.after hb2).after hb3
  have hbw := (hb.trans (hb2.mono (Nat.le_of_lt k0.lt))).trans (hb3.mono (Nat.le_of_lt (k0.after hb2).lt))
  clear k0 hb hb2 hb3
  go_upto_region 5 with (first
    | (refine wpList_load_row rfl 40 (.tmp 2) rfl g0 rfl 40 (frC f) (0, 0) _ k2 Tryd.underlying40 rfl hs1.out ?_)
    | (go_at_call 18; refine (encode_no f HF.out HM.out _).mono ?_; rintro e w4 ⟨rfl, hb4⟩))
  have hbw4 := hbw.trans (hb4.mono (Nat.le_of_lt k2.lt))
  clear hbw
  have hg4 : Hid (EType w4) := Lib.hid ((hg.out.after (HG.out ▸ hbw4)))
  have hr4 : Reads w4 w4.heap.size A (bytes bs) := by
    have := HR.out.below hbw4
    exact this.more (Nat.le_trans (Nat.le_of_lt k2.lt) hb4.size)
  go_wp2_with (first
    | (go_at_call 19; refine (bare_ok 1 1 _ hg4).mono ?_; rintro e w5 ⟨rfl, hb5⟩; have hr5 := (hr4.below hb5).more hb5.size; have hcv := str_nil w5)
    | (go_at_call 20; refine (sum_ok A n c bs _ hl (by omega) hr5).mono ?_; rintro e w6 ⟨rfl, rfl⟩)
    | (go_at_call 21; refine (refSum_ok A n c bs _ hl (by omega) hr5).mono ?_; rintro e w6 ⟨rfl, rfl⟩))
  go_ret
  exact ⟨rfl, HG.out ▸ hbw4.trans (hb5.mono (Nat.le_trans (Nat.le_of_lt k2.lt) hb4.size))⟩
set_option maxHeartbeats 4000000 in
set_option maxRecDepth 100000 in
theorem encodes_yes (f : List Int) (hf : Wf f) (hm : mayB f = true) (A : Option Addr) (n c : Nat) (bs : List UInt8) (w : World) (h : n ≤ 300) (hl : Hid (bs.length = n)) (hr : Reads w w.heap.size A (bytes bs)) (hg : Hid (EType w)) :
    Calls Tryd.prog 4 #[.agg (frC f), .slice A n c] w fun e w' => e = .returned (.bool true) ∧ Below w.heap.size w w' := by
  have hb : Below w.heap.size w (w.alloc (.cells (frC f) 40)) := (Below.refl _ _).alloc (Nat.le_refl _) _
  have k0 := Has.new w 40 (frC f)
  have hs1 : Hid ((Tryd.prog.info? 40).map (·.size) = some (frC f).size) := Lib.hid (by rw [frC_size _ hf.1]; exact infoFrame)
  have HR : Hid (Reads w w.heap.size A (bytes bs)) := Lib.hid hr
  have HF := Lib.hid hf
  have HM := Lib.hid hm
  clear hr hf hm
  have hi : ¬ (300 : Int) < (n : Int) := by omega
  go_enter Tryd.func4, Tryd.ntmps4
  go_upto_region 1 with fail
  generalize w.alloc (.cells (frC f) 40) = w1 at *
  generalize hG : w.heap.size = g0 at *
  have HG := Lib.hid hG
  clear hG
  go_upto_region 4 with (first
    | (refine wpList_load_row rfl 40 (.tmp 2) rfl g0 rfl 40 (frC f) (0, 0) _ k0 Tryd.underlying40 rfl hs1.out ?_)
    | (go_at_call 17; refine (given_ok f HF.out _).mono ?_; rintro e w2 ⟨rfl, hb2⟩)
    | (go_at_call 16; refine (refEncode_yes f HF.out HM.out _).mono ?_; rintro e w3 ⟨⟨A1, c1, rfl, own1⟩, hb3⟩))
  have k2 := (k0.after hb2).after hb3
  have hbw := (hb.trans (hb2.mono (Nat.le_of_lt k0.lt))).trans (hb3.mono (Nat.le_of_lt (k0.after hb2).lt))
  clear k0 hb hb2 hb3
  go_upto_region 5 with (first
    | (refine wpList_load_row rfl 40 (.tmp 2) rfl g0 rfl 40 (frC f) (0, 0) _ k2 Tryd.underlying40 rfl hs1.out ?_)
    | (go_at_call 18; refine (encode_yes f HF.out HM.out _).mono ?_; rintro e w4 ⟨⟨A2, c2, rfl, own2⟩, hb4⟩))
  have q1 := ((own_slice own1).2.below hb4).more hb4.size
  have q2 := (own_slice own2).2
  have hne : encB f ≠ [] := by intro h; have := congrArg List.length h; simp [encB, four] at this
  clear own1 own2
  have hbw4 := hbw.trans (hb4.mono (Nat.le_of_lt k2.lt))
  clear hbw
  have hg4 : Hid (EType w4) := Lib.hid ((hg.out.after (HG.out ▸ hbw4)))
  have hr4 : Reads w4 w4.heap.size A (bytes bs) := by
    have := HR.out.below hbw4
    exact this.more (Nat.le_trans (Nat.le_of_lt k2.lt) hb4.size)
  go_wp2_with (first
    | (go_at_call 19; refine (bare_ok 0 0 _ hg4).mono ?_; rintro e w5 ⟨rfl, hb5⟩; have hr5 := (hr4.below hb5).more hb5.size; have hcv1 := str_ok (encB f) c1 ((q1.below hb5).more hb5.size) hne; have hcv2 := str_ok (encB f) c2 ((q2.below hb5).more hb5.size) hne)
    | (go_at_call 20; refine (sum_ok A n c bs _ hl (by omega) hr5).mono ?_; rintro e w6 ⟨rfl, rfl⟩)
    | (go_at_call 21; refine (refSum_ok A n c bs _ hl (by omega) hr5).mono ?_; rintro e w6 ⟨rfl, rfl⟩))
  go_ret
  exact ⟨rfl, HG.out ▸ hbw4.trans (hb5.mono (Nat.le_trans (Nat.le_of_lt k2.lt) hb4.size))⟩
end Go.Proofs.YtdhekhlmdefcnaaDoor
