/- Part 26 of the proof: ReTakeN, ReTake, ReKept, SyFine. -/
import Derived.Test.YtdhekhlmdefcnabGreatDoorPart23
import Derived.Test.YtdhekhlmdefcnabGreatDoorPart24
import Derived.Test.YtdhekhlmdefcnabGreatDoorPart25
import Derived.Test.YtdhekhlmdefcnabGreatDoorPart22
import Derived.Test.YtdhekhlmdefcnabGreatDoorPart18
namespace Go.Proofs.YtdhekhlmdefcnabGreatDoor
open Go.RowKit
section
variable {w : World} {g gc : Nat} {L : Lay} {r : Re} {f : List Int} {kd fr cy c d : Nat} {s : St}
set_option maxHeartbeats 20000000 in
set_option maxRecDepth 100000 in
theorem re_take_none (h : RepAt w g gc L r) (hL : L.Ok) (T : Nat) (_hT : T ≤ 10000000000) (hf : Hid (r.Fits T)) (hin : Hid (FrIn f kd fr cy c d s)) (hn1 : ¬ (kd = 1 ∧ other r f = true ∧ cy = r.cycle)) (hn2 : ¬ (kd = 3 ∧ fr = 3 ∧ r.cycle ≤ cy)) (hn3 : ¬ (kd = 4 ∧ other r f = true)) (hn4 : ¬ (kd = 5 ∧ other r f = true ∧ r.cycle < cy ∧ rightB L (stOf f) = true)) :
  Calls Tryz.prog 72 #[.pointer (some ⟨g, 0, none⟩), .agg (frC f)] w (TakePost w g gc L r f) := by
 have hb1 : Below w.heap.size w (w.alloc (.cells (frC f) 110)) := (Below.refl _ _).alloc (Nat.le_refl _) _
 have HT1 : Hid (TK w g gc w.heap.size L r f (w.alloc (.cells (frC f) 110))) := Lib.hid ⟨h.after hb1, Turned.of_below hb1 _, Has.new w 110 (frC f), Nat.le_refl _⟩
 have hgl := h.has.lt
 have hid3 := hf.out.id
 have hfr3 := hin.out.hfr
 have hcyB := hin.out.hcy
 obtain ⟨id, hid⟩ : ∃ id, r.id = id := ⟨_, rfl⟩
 obtain ⟨cyc, hcyc⟩ : ∃ cyc, r.cycle = cyc := ⟨_, rfl⟩
 rw [hid] at hid3
 have HID := Lib.hid hid
 have HCYC := Lib.hid hcyc
 have HFC := Lib.hid (fr_cells hin.out)
 have HRC : Hid (∀ wx, RepAt wx g gc L r → wx.cell? ⟨g, 0, none⟩ = some (I (id : Int)) ∧ wx.cell? ⟨g, 1, none⟩ = some (.pointer (some ⟨gc, 0, none⟩)) ∧ wx.cell? ⟨g, 2, none⟩ = some (I (cyc : Int)) ∧ wx.cell? ⟨g, 91, none⟩ = some (I (r.ticks : Int)) ∧ wx.cell? ⟨g, 92, none⟩ = some (I (r.ahead : Int))) := Lib.hid (fun wx hx =>
  ⟨hx.cell 0 (by decide) (by rw [reF_id, hid]), hx.cell 1 (by decide) reF_core, hx.cell 2 (by decide) (by rw [reF_cycle, hcyc]), hx.cell 91 (by decide) reF_ticks, hx.cell 92 (by decide) reF_ahead⟩)
 clear h hb1 hid hcyc
 go_enter Tryz.func72, Tryz.ntmps72
 go_upto_region 1 with fail
 generalize w.alloc (.cells (frC f) 110) = w1 at *
 generalize hG : w.heap.size = g0 at *
 have HG := Lib.hid hG
 clear hG
 obtain ⟨c0, c1, c2, c3, c4⟩ := HFC.out _ _ HT1.out.2.2.1
 obtain ⟨i0, i1, i2, i91, i92⟩ := HRC.out _ HT1.out.1
 have hl0 := HT1.out.2.2.1.lt
 clear c0 c1 c2 c3 c4 i0 i1 i2 i91 i92 hl0 hgl
 obtain ⟨o, ho⟩ : ∃ o, other r f = o := ⟨_, rfl⟩
 have HE : Hid (reTake L r f = (r, [])) := Lib.hid (take_none L hin.out hn1 hn2 hn3 hn4)
 have HO : Hid (o = (decide (fr < 3) && decide (fr ≠ id))) := Lib.hid (by rw [← ho, other_yes hin.out, HID.out])
 rw [ho] at hn1 hn3 hn4
 rw [HCYC.out] at hn1 hn2 hn4
 clear ho
 go_cut [5] (fun s wx => s = .bool o ∧ Hid (TK w g gc g0 L r f wx))
 case first =>
  obtain ⟨c0, c1, c2, -, -⟩ := HFC.out _ _ HT1.out.2.2.1
  obtain ⟨i0, i1, i2, -, -⟩ := HRC.out _ HT1.out.1
  have hl0 := HT1.out.2.2.1.lt
  have hl1 := HT1.out.1.has.lt
  have t0 : decide ((0 : Int) ≤ (fr : Int)) = true := decide_eq_true (by omega)
  by_cases h3 : fr < 3
  ·have t1 : decide ((fr : Int) < 3) = true := decide_eq_true (by omega)
   by_cases hne : fr = id
   ·have HV : Hid (Value.bool false = .bool o) := Lib.hid (by rw [HO.out, decide_eq_true h3, decide_eq_false (by omega)]; rfl)
    have t2 : ((fr : Int) != (id : Int)) = false := by simp; omega
    clear h3 hne
    go_quiet (fail)
    go_wp2_with fail
    go_meet
    case rel => exact ⟨HV.out, Lib.hid (by repeat (first | exact HT1.out | refine TK.drewN ?_ _))⟩
   ·have HV : Hid (Value.bool true = .bool o) := Lib.hid (by rw [HO.out, decide_eq_true h3, decide_eq_true hne]; rfl)
    have t2 : ((fr : Int) != (id : Int)) = true := by simp; omega
    clear h3 hne
    go_quiet (fail)
    go_wp2_with fail
    go_meet
    case rel => exact ⟨HV.out, Lib.hid (by repeat (first | exact HT1.out | refine TK.drewN ?_ _))⟩
  ·have HV : Hid (Value.bool false = .bool o) := Lib.hid (by rw [HO.out, decide_eq_false h3]; rfl)
   have t1 : decide ((fr : Int) < 3) = false := decide_eq_false (by omega)
   clear h3
   go_quiet (fail)
   go_wp2_with fail
   go_meet
   case rel => exact ⟨HV.out, Lib.hid (by repeat (first | exact HT1.out | refine TK.drewN ?_ _))⟩
 case rest =>
  obtain ⟨rfl, HT2⟩ := hcut
  clear HT1 HO
  go_upto_region 2 with fail
  obtain ⟨c0, c1, c2, -, -⟩ := HFC.out _ _ HT2.out.2.2.1
  obtain ⟨i0, i1, i2, -, -⟩ := HRC.out _ HT2.out.1
  have hl0 := HT2.out.2.2.1.lt
  have hl1 := HT2.out.1.has.lt
  have hcases : (kd = 1 ∧ o = false) ∨ (kd = 1 ∧ o = true ∧ ¬ cy = cyc) ∨ (kd = 3 ∧ ¬ fr = 3) ∨ (kd = 3 ∧ fr = 3 ∧ ¬ cyc ≤ cy) ∨ (kd = 4 ∧ o = false) ∨ (kd = 5 ∧ o = false) ∨ (kd = 5 ∧ o = true ∧ ¬ cyc < cy) ∨ (kd = 5 ∧ o = true ∧ cyc < cy ∧ rightB L (stOf f) = false) ∨ (¬ kd = 1 ∧ ¬ kd = 3 ∧ ¬ kd = 4 ∧ ¬ kd = 5) := take_cases hn1 hn2 hn3 hn4
  clear hn1 hn2 hn3 hn4
  rcases hcases with ⟨hk, ho⟩ | ⟨hk, ho, h⟩ | ⟨hk, h⟩ | ⟨hk, h, h2⟩ | ⟨hk, ho⟩ | ⟨hk, ho⟩ | ⟨hk, ho, h⟩ | ⟨hk, ho, h, h2⟩ | ⟨h1, h3, h4, h5⟩
  ·subst hk; subst ho
   go_quiet (fail)
   go_wp2_with fail
   go_quiet (fail)
   go_wp2_with fail
   go_quiet (fail)
   go_wp2_with fail
   go_ret
   unfold TakePost
   rw [HE.out]
   refine take_end (g0 := g0) (f := f) (r := r) (L := L) ?_
   repeat (first | exact HT2.out | refine TK.drewN ?_ _)
  ·have t3 : ((cy : Int) == (cyc : Int)) = false := by simp; omega
   subst hk; subst ho; clear h
   go_quiet (fail)
   go_wp2_with fail
   go_quiet (fail)
   go_wp2_with fail
   go_quiet (fail)
   go_wp2_with fail
   go_ret
   unfold TakePost
   rw [HE.out]
   refine take_end (g0 := g0) (f := f) (r := r) (L := L) ?_
   repeat (first | exact HT2.out | refine TK.drewN ?_ _)
  ·have t3 : ((fr : Int) == 3) = false := by simp; omega
   subst hk; clear h
   go_quiet (fail)
   go_wp2_with fail
   go_quiet (fail)
   go_wp2_with fail
   go_quiet (fail)
   go_wp2_with fail
   go_ret
   unfold TakePost
   rw [HE.out]
   refine take_end (g0 := g0) (f := f) (r := r) (L := L) ?_
   repeat (first | exact HT2.out | refine TK.drewN ?_ _)
  ·have t3 : ((fr : Int) == 3) = true := by simp; omega
   subst hk; clear h
   go_quiet (fail)
   go_wp2_with fail
   go_quiet (fail)
   go_wp2_with fail
   go_quiet (fail)
   go_wp2_with fail
   go_ret
   unfold TakePost
   rw [HE.out]
   refine take_end (g0 := g0) (f := f) (r := r) (L := L) ?_
   repeat (first | exact HT2.out | refine TK.drewN ?_ _)
  ·subst hk; subst ho
   go_quiet (fail)
   go_wp2_with fail
   go_quiet (fail)
   go_wp2_with fail
   go_quiet (fail)
   go_wp2_with fail
   go_ret
   unfold TakePost
   rw [HE.out]
   refine take_end (g0 := g0) (f := f) (r := r) (L := L) ?_
   repeat (first | exact HT2.out | refine TK.drewN ?_ _)
  ·subst hk; subst ho
   go_quiet (fail)
   go_wp2_with fail
   go_quiet (fail)
   go_wp2_with fail
   go_quiet (fail)
   go_wp2_with fail
   go_ret
   unfold TakePost
   rw [HE.out]
   refine take_end (g0 := g0) (f := f) (r := r) (L := L) ?_
   repeat (first | exact HT2.out | refine TK.drewN ?_ _)
  ·subst hk; subst ho
   go_quiet (fail)
   go_wp2_with fail
   go_quiet (fail)
   go_wp2_with fail
   go_quiet (fail)
   go_wp2_with fail
   go_ret
   unfold TakePost
   rw [HE.out]
   refine take_end (g0 := g0) (f := f) (r := r) (L := L) ?_
   repeat (first | exact HT2.out | refine TK.drewN ?_ _)
  ·subst ho
   have HGT : Hid (cyc < cy) := Lib.hid h
   have hs17 := fr_stL hin.out
   have HLS : Hid ((ints (stOf f)).toArray = (stC s)) := Lib.hid (by unfold stC; rw [hin.out.sl])
   have HRI : Hid (∀ wx, TK w g gc g0 L r f wx → Calls Tryz.prog 108 #[.pointer (some ⟨gc, 0, none⟩), .agg (stC s)] wx fun e w' => e = .returned (.bool false) ∧ Below wx.heap.size wx w') := Lib.hid (fun wx hx => by
    have h := core_right gc L (stOf f) wx hL (Lib.hid hin.out.sn) (Lib.hid fun x hx => by have := hin.out.lo x hx; omega) hx.1.core
    rw [HLS.out, h2] at h
    exact h)
   have HC0 : Hid (∀ wx, TK w g gc g0 L r f wx → wx.cell? ⟨g, 1, none⟩ = some (.pointer (some ⟨gc, 0, none⟩)) ∧ wx.cell? ⟨g, 2, none⟩ = some (I (cyc : Int)) ∧ wx.cell? ⟨g0, 0, none⟩ = some (I 5) ∧ wx.cell? ⟨g0, 2, none⟩ = some (I (cy : Int)) ∧ wx.rangeAt g0 6 (stL s)) := Lib.hid (fun wx hx => by
    obtain ⟨a0, a1, a2, a3, a4⟩ := HFC.out _ _ hx.2.2.1
    obtain ⟨b0, b1, b2, b91, b92⟩ := HRC.out _ hx.1
    rw [hk] at a0
    exact ⟨b1, b2, a0, a2, fr_state hin.out wx g0 hx.2.2.1⟩)
   have HI1 : Hid ((Tryz.prog.info? 100).map (·.size) = some (stL s).length) := Lib.hid (by rw [hs17]; exact infoState)
   subst hk
   clear h h2
   go_quiet (fail)
   go_wp2_with fail
   go_quiet (fail)
   go_upto_region 13 with fail
   generalize hW2 : World.drewN _ _ = w5
   have HT5 : Hid (TK w g gc g0 L r f w5) := Lib.hid (by rw [← hW2]; repeat (first | exact HT2.out | refine TK.drewN ?_ _))
   clear hW2 HT2 c0 c1 c2 i0 i1 i2 hl0 hl1
   go_cut [159] (fun s159 wx => s159 = .bool false ∧ (TK w g gc g0 L r f) wx)
   case first =>
    rename_i J0 K0 hJ0 hK0
    have HK0 := Lib.hid hK0
    clear hK0
    refine region_all (by kernel_rfl) (fun b0 => b0.tmps.getD 0 undef = .pointer (some ⟨g, 0, none⟩) ∧ b0.tmps.getD 3 undef = .pointer (some ⟨g0, 0, none⟩) ∧ b0.tmps.getD 5 undef = .bool true) ⟨rfl, rfl, rfl⟩ 228 rfl (fun i => ([.pointer (some ⟨g0, 0, none⟩), I 5, .bool true, .bool true, .bool true, .bool true, .bool true, .pointer (some ⟨g0, 2, none⟩), I (cy : Int), .pointer (some ⟨g, 0, none⟩), .pointer (some ⟨g, 0, none⟩), .pointer (some ⟨g, 2, none⟩), I (cyc : Int), .bool true, .bool true, .bool true, .pointer (some ⟨g, 0, none⟩), .pointer (some ⟨g, 0, none⟩), .pointer (some ⟨g, 1, none⟩), .pointer (some ⟨gc, 0, none⟩), .pointer (some ⟨g0, 6, none⟩), .agg (stC s), .bool false, .bool false, .bool false] : List Value).getD i undef) [] (by kernel_rfl) (fun j => ([(TK w g gc g0 L r f)] : List (World → Prop)).getD j (fun _ => True)) [160, 161, 162, 163, 164, 165, 166, 167, 168, 169, 170, 171, 172, 173, 174, 175, 176, 177, 178, 179, 180, 181, 182, 183, 159] (by kernel_rfl) (by kernel_rfl) (HT5.out.drew) ?_ ?_
    ·intro b0 hb0 i o ho
     have hi : i < 25 := (Array.getElem?_eq_some_iff.1 ho).1
     obtain ⟨f0, f3, f5⟩ := hb0
     have hcase : i = 0 ∨ i = 1 ∨ i = 2 ∨ i = 3 ∨ i = 4 ∨ i = 5 ∨ i = 6 ∨ i = 7 ∨ i = 8 ∨ i = 9 ∨ i = 10 ∨ i = 11 ∨ i = 12 ∨ i = 13 ∨ i = 14 ∨ i = 15 ∨ i = 16 ∨ i = 17 ∨ i = 18 ∨ i = 19 ∨ i = 20 ∨ i = 21 ∨ i = 22 ∨ i = 23 ∨ i = 24 := by omega
     clear hi
     rcases hcase with rfl | rfl | rfl | rfl | rfl | rfl | rfl | rfl | rfl | rfl | rfl | rfl | rfl | rfl | rfl | rfl | rfl | rfl | rfl | rfl | rfl | rfl | rfl | rfl | rfl
     ·simp only [List.getElem?_toArray, List.getElem?_cons_zero] at ho
      cases ho
      refine .inl ⟨by decide, fun M => stepA rfl (fun li ac wx H hn hed hM K hk => ?_)⟩
      have e3 : ac.tmps[3]?.getD undef = .pointer (some ⟨g0, 0, none⟩) := slot_at ((H.frm.slot (by decide)).trans f3)
      clear hed H
      go_simp
      exact hk _ hM
     ·simp only [List.getElem?_toArray, List.getElem?_cons_zero, List.getElem?_cons_succ] at ho
      cases ho
      refine .inr (.inl ⟨by decide, by kernel_rfl, stepA rfl (fun li ac wx H hn hed hM K hk => ?_)⟩)
      have e160 : ac.tmps[160]?.getD undef = .pointer (some ⟨g0, 0, none⟩) := slot_at (H.known 0 _ rfl (hed ⟨0, .data⟩ (by simp) rfl) 160 rfl)
      have hM1 : (TK w g gc g0 L r f) wx := hM
      obtain ⟨x1, x2, x3, x4, x5⟩ := HC0.out wx hM1
      clear hed H
      go_simp
      exact hk _ hM
     ·simp only [List.getElem?_toArray, List.getElem?_cons_zero, List.getElem?_cons_succ] at ho
      cases ho
      refine .inl ⟨by decide, fun M => stepA rfl (fun li ac wx H hn hed hM K hk => ?_)⟩
      have e161 : ac.tmps[161]?.getD undef = I 5 := slot_at (H.known 1 _ rfl (hed ⟨1, .data⟩ (by simp) rfl) 161 rfl)
      clear hed H
      go_simp
      exact hk _ hM
     ·simp only [List.getElem?_toArray, List.getElem?_cons_zero, List.getElem?_cons_succ] at ho
      cases ho
      refine .inl ⟨by decide, fun M => stepA rfl (fun li ac wx H hn hed hM K hk => ?_)⟩
      have e162 : ac.tmps[162]?.getD undef = .bool true := slot_at (H.known 2 _ rfl (hed ⟨2, .data⟩ (by simp) rfl) 162 rfl)
      clear hed H
      go_simp
      exact hk _ hM
     ·simp only [List.getElem?_toArray, List.getElem?_cons_zero, List.getElem?_cons_succ] at ho
      cases ho
      refine .inl ⟨by decide, fun M => stepAG (j := 3) rfl rfl rfl rfl (by simp) (fun li ac wx H hn hed hM K hk => ?_)⟩
      have e5 : ac.tmps[5]?.getD undef = .bool true := slot_at ((H.frm.slot (by decide)).trans f5)
      clear hed H
      go_simp
      exact hk _ hM
     ·simp only [List.getElem?_toArray, List.getElem?_cons_zero, List.getElem?_cons_succ] at ho
      cases ho
      refine .inl ⟨by decide, fun M => stepA rfl (fun li ac wx H hn hed hM K hk => ?_)⟩
      have e163 : ac.tmps[163]?.getD undef = .bool true := slot_at (H.known 3 _ rfl (hed ⟨3, .data⟩ (by simp) rfl) 163 rfl)
      have e164 : ac.tmps[164]?.getD undef = .bool true := slot_at (H.known 4 _ rfl (hed ⟨4, .data⟩ (by simp) rfl) 164 rfl)
      clear hed H
      go_simp
      exact hk _ hM
     ·simp only [List.getElem?_toArray, List.getElem?_cons_zero, List.getElem?_cons_succ] at ho
      cases ho
      refine .inl ⟨by decide, fun M => stepA rfl (fun li ac wx H hn hed hM K hk => ?_)⟩
      have e165 : ac.tmps[165]?.getD undef = .bool true := slot_at (H.known 5 _ rfl (hed ⟨5, .data⟩ (by simp) rfl) 165 rfl)
      clear hed H
      go_simp
      exact hk _ hM
     ·simp only [List.getElem?_toArray, List.getElem?_cons_zero, List.getElem?_cons_succ] at ho
      cases ho
      refine .inl ⟨by decide, fun M => stepAG (j := 6) rfl rfl rfl rfl (by simp) (fun li ac wx H hn hed hM K hk => ?_)⟩
      have e3 : ac.tmps[3]?.getD undef = .pointer (some ⟨g0, 0, none⟩) := slot_at ((H.frm.slot (by decide)).trans f3)
      clear hed H
      go_simp
      exact hk _ hM
     ·simp only [List.getElem?_toArray, List.getElem?_cons_zero, List.getElem?_cons_succ] at ho
      cases ho
      refine .inr (.inl ⟨by decide, by kernel_rfl, stepAG (j := 6) rfl rfl rfl rfl (by simp) (fun li ac wx H hn hed hM K hk => ?_)⟩)
      have e167 : ac.tmps[167]?.getD undef = .pointer (some ⟨g0, 2, none⟩) := slot_at (H.known 7 _ rfl (hed ⟨7, .data⟩ (by simp) rfl) 167 rfl)
      have hM1 : (TK w g gc g0 L r f) wx := hM
      obtain ⟨x1, x2, x3, x4, x5⟩ := HC0.out wx hM1
      clear hed H
      go_simp
      exact hk _ hM
     ·simp only [List.getElem?_toArray, List.getElem?_cons_zero, List.getElem?_cons_succ] at ho
      cases ho
      refine .inl ⟨by decide, fun M => stepAG (j := 6) rfl rfl rfl rfl (by simp) (fun li ac wx H hn hed hM K hk => ?_)⟩
      have e0 : ac.tmps[0]?.getD undef = .pointer (some ⟨g, 0, none⟩) := slot_at ((H.frm.slot (by decide)).trans f0)
      clear hed H
      go_simp
      exact hk _ hM
     ·simp only [List.getElem?_toArray, List.getElem?_cons_zero, List.getElem?_cons_succ] at ho
      cases ho
      refine .inl ⟨by decide, fun M => stepAG (j := 6) rfl rfl rfl rfl (by simp) (fun li ac wx H hn hed hM K hk => ?_)⟩
      have e169 : ac.tmps[169]?.getD undef = .pointer (some ⟨g, 0, none⟩) := slot_at (H.known 9 _ rfl (hed ⟨9, .data⟩ (by simp) rfl) 169 rfl)
      clear hed H
      go_simp
      exact hk _ hM
     ·simp only [List.getElem?_toArray, List.getElem?_cons_zero, List.getElem?_cons_succ] at ho
      cases ho
      refine .inl ⟨by decide, fun M => stepAG (j := 6) rfl rfl rfl rfl (by simp) (fun li ac wx H hn hed hM K hk => ?_)⟩
      have e170 : ac.tmps[170]?.getD undef = .pointer (some ⟨g, 0, none⟩) := slot_at (H.known 10 _ rfl (hed ⟨10, .data⟩ (by simp) rfl) 170 rfl)
      clear hed H
      go_simp
      exact hk _ hM
     ·simp only [List.getElem?_toArray, List.getElem?_cons_zero, List.getElem?_cons_succ] at ho
      cases ho
      refine .inr (.inl ⟨by decide, by kernel_rfl, stepAG (j := 6) rfl rfl rfl rfl (by simp) (fun li ac wx H hn hed hM K hk => ?_)⟩)
      have e171 : ac.tmps[171]?.getD undef = .pointer (some ⟨g, 2, none⟩) := slot_at (H.known 11 _ rfl (hed ⟨11, .data⟩ (by simp) rfl) 171 rfl)
      have hM1 : (TK w g gc g0 L r f) wx := hM
      obtain ⟨x1, x2, x3, x4, x5⟩ := HC0.out wx hM1
      clear hed H
      go_simp
      exact hk _ hM
     ·simp only [List.getElem?_toArray, List.getElem?_cons_zero, List.getElem?_cons_succ] at ho
      cases ho
      refine .inl ⟨by decide, fun M => stepAG (j := 6) rfl rfl rfl rfl (by simp) (fun li ac wx H hn hed hM K hk => ?_)⟩
      have e168 : ac.tmps[168]?.getD undef = I (cy : Int) := slot_at (H.known 8 _ rfl (hed ⟨8, .data⟩ (by simp) rfl) 168 rfl)
      have e172 : ac.tmps[172]?.getD undef = I (cyc : Int) := slot_at (H.known 12 _ rfl (hed ⟨12, .data⟩ (by simp) rfl) 172 rfl)
      have x6 := HGT.out
      clear hed H
      go_simp
      exact hk _ hM
     ·simp only [List.getElem?_toArray, List.getElem?_cons_zero, List.getElem?_cons_succ] at ho
      cases ho
      refine .inl ⟨by decide, fun M => stepA rfl (fun li ac wx H hn hed hM K hk => ?_)⟩
      have e166 : ac.tmps[166]?.getD undef = .bool true := slot_at (H.known 6 _ rfl (hed ⟨6, .data⟩ (by simp) rfl) 166 rfl)
      have e173 : ac.tmps[173]?.getD undef = .bool true := slot_at (H.known 13 _ rfl (hed ⟨13, .data⟩ (by simp) rfl) 173 rfl)
      clear hed H
      go_simp
      exact hk _ hM
     ·simp only [List.getElem?_toArray, List.getElem?_cons_zero, List.getElem?_cons_succ] at ho
      cases ho
      refine .inl ⟨by decide, fun M => stepA rfl (fun li ac wx H hn hed hM K hk => ?_)⟩
      have e174 : ac.tmps[174]?.getD undef = .bool true := slot_at (H.known 14 _ rfl (hed ⟨14, .data⟩ (by simp) rfl) 174 rfl)
      clear hed H
      go_simp
      exact hk _ hM
     ·simp only [List.getElem?_toArray, List.getElem?_cons_zero, List.getElem?_cons_succ] at ho
      cases ho
      refine .inl ⟨by decide, fun M => stepAG (j := 15) rfl rfl rfl rfl (by simp) (fun li ac wx H hn hed hM K hk => ?_)⟩
      have e0 : ac.tmps[0]?.getD undef = .pointer (some ⟨g, 0, none⟩) := slot_at ((H.frm.slot (by decide)).trans f0)
      clear hed H
      go_simp
      exact hk _ hM
     ·simp only [List.getElem?_toArray, List.getElem?_cons_zero, List.getElem?_cons_succ] at ho
      cases ho
      refine .inl ⟨by decide, fun M => stepAG (j := 15) rfl rfl rfl rfl (by simp) (fun li ac wx H hn hed hM K hk => ?_)⟩
      have e176 : ac.tmps[176]?.getD undef = .pointer (some ⟨g, 0, none⟩) := slot_at (H.known 16 _ rfl (hed ⟨16, .data⟩ (by simp) rfl) 176 rfl)
      clear hed H
      go_simp
      exact hk _ hM
     ·simp only [List.getElem?_toArray, List.getElem?_cons_zero, List.getElem?_cons_succ] at ho
      cases ho
      refine .inl ⟨by decide, fun M => stepAG (j := 15) rfl rfl rfl rfl (by simp) (fun li ac wx H hn hed hM K hk => ?_)⟩
      have e177 : ac.tmps[177]?.getD undef = .pointer (some ⟨g, 0, none⟩) := slot_at (H.known 17 _ rfl (hed ⟨17, .data⟩ (by simp) rfl) 177 rfl)
      clear hed H
      go_simp
      exact hk _ hM
     ·simp only [List.getElem?_toArray, List.getElem?_cons_zero, List.getElem?_cons_succ] at ho
      cases ho
      refine .inr (.inl ⟨by decide, by kernel_rfl, stepAG (j := 15) rfl rfl rfl rfl (by simp) (fun li ac wx H hn hed hM K hk => ?_)⟩)
      have e178 : ac.tmps[178]?.getD undef = .pointer (some ⟨g, 1, none⟩) := slot_at (H.known 18 _ rfl (hed ⟨18, .data⟩ (by simp) rfl) 178 rfl)
      have hM1 : (TK w g gc g0 L r f) wx := hM
      obtain ⟨x1, x2, x3, x4, x5⟩ := HC0.out wx hM1
      clear hed H
      go_simp
      exact hk _ hM
     ·simp only [List.getElem?_toArray, List.getElem?_cons_zero, List.getElem?_cons_succ] at ho
      cases ho
      refine .inl ⟨by decide, fun M => stepAG (j := 15) rfl rfl rfl rfl (by simp) (fun li ac wx H hn hed hM K hk => ?_)⟩
      have e3 : ac.tmps[3]?.getD undef = .pointer (some ⟨g0, 0, none⟩) := slot_at ((H.frm.slot (by decide)).trans f3)
      clear hed H
      go_simp
      exact hk _ hM
     ·simp only [List.getElem?_toArray, List.getElem?_cons_zero, List.getElem?_cons_succ] at ho
      cases ho
      refine .inr (.inl ⟨by decide, by kernel_rfl, stepAG (j := 15) rfl rfl rfl rfl (by simp) (fun li ac wx H hn hed hM K hk => ?_)⟩)
      have e180 : ac.tmps[180]?.getD undef = .pointer (some ⟨g0, 6, none⟩) := slot_at (H.known 20 _ rfl (hed ⟨20, .data⟩ (by simp) rfl) 180 rfl)
      have hM1 : (TK w g gc g0 L r f) wx := hM
      clear hed H
      obtain ⟨x1, x2, x3, x4, x5⟩ := HC0.out wx hM1
      refine wp_load_mid 100 (.tmp 180) rfl g0 6 (eval_at e180) (stL s) _ x5 Tryz.underlying100 rfl HI1.out ?_
      exact hk _ hM
     ·simp only [List.getElem?_toArray, List.getElem?_cons_zero, List.getElem?_cons_succ] at ho
      cases ho
      refine .inr (.inl ⟨by decide, by kernel_rfl, stepAG (j := 15) rfl rfl rfl rfl (by simp) (fun li ac wx H hn hed hM K hk => ?_)⟩)
      have e179 : ac.tmps[179]?.getD undef = .pointer (some ⟨gc, 0, none⟩) := slot_at (H.known 19 _ rfl (hed ⟨19, .data⟩ (by simp) rfl) 179 rfl)
      have e181 : ac.tmps[181]?.getD undef = .agg (stC s) := slot_at (H.known 21 _ rfl (hed ⟨21, .data⟩ (by simp) rfl) 181 rfl)
      have hM1 : (TK w g gc g0 L r f) wx := hM
      clear hed H
      go_simp
      refine (HRI.out _ hM1).mono ?_
      rintro e w' ⟨rfl, hb⟩
      exact hk _ (hM1.after hb)
     ·simp only [List.getElem?_toArray, List.getElem?_cons_zero, List.getElem?_cons_succ] at ho
      cases ho
      refine .inl ⟨by decide, fun M => stepA rfl (fun li ac wx H hn hed hM K hk => ?_)⟩
      have e175 : ac.tmps[175]?.getD undef = .bool true := slot_at (H.known 15 _ rfl (hed ⟨15, .data⟩ (by simp) rfl) 175 rfl)
      have e182 : ac.tmps[182]?.getD undef = .bool false := slot_at (H.known 22 _ rfl (hed ⟨22, .data⟩ (by simp) rfl) 182 rfl)
      clear hed H
      go_simp
      exact hk _ hM
     ·simp only [List.getElem?_toArray, List.getElem?_cons_zero, List.getElem?_cons_succ] at ho
      cases ho
      refine .inl ⟨by decide, fun M => stepA rfl (fun li ac wx H hn hed hM K hk => ?_)⟩
      have e183 : ac.tmps[183]?.getD undef = .bool false := slot_at (H.known 23 _ rfl (hed ⟨23, .data⟩ (by simp) rfl) 183 rfl)
      clear hed H
      go_simp
      exact hk _ hM
    ·intro ac wx hF hK hM0
     have hM : (TK w g gc g0 L r f) wx := hM0
     have E159 := hK 24 _ rfl 159 rfl
     have hMet := hF.meet
     simp only [List.foldl_cons, List.foldl_nil, List.setIfInBounds_toArray, List.set_cons_succ, List.set_cons_zero, E159] at hMet
     refine HK0.out _ _ (Met.intro (hJ0 _ _ ?_))
     (repeat apply Exists.intro)
     exact ⟨⟨rfl, hM⟩, hMet⟩
   case rest =>
    obtain ⟨rfl, hT6⟩ := hcut
    have HT6 := Lib.hid hT6
    clear hT6
    go_wp2_with fail
    go_ret
    unfold TakePost
    rw [HE.out]
    exact ⟨⟨_, rfl, .inl ⟨rfl, rfl⟩⟩, HT6.out.1, HT6.out.2.1⟩
  ·have t1 : ((kd : Int) == 1) = false := by simp; omega
   have t3 : ((kd : Int) == 3) = false := by simp; omega
   have t4 : ((kd : Int) == 4) = false := by simp; omega
   have t5 : ((kd : Int) == 5) = false := by simp; omega
   clear h1 h3 h4 h5
   go_quiet (fail)
   go_wp2_with fail
   go_quiet (fail)
   go_wp2_with fail
   go_quiet (fail)
   go_wp2_with fail
   go_ret
   unfold TakePost
   rw [HE.out]
   refine take_end (g0 := g0) (f := f) (r := r) (L := L) ?_
   repeat (first | exact HT2.out | refine TK.drewN ?_ _)
end
end Go.Proofs.YtdhekhlmdefcnabGreatDoor
namespace Go.Proofs.YtdhekhlmdefcnabGreatDoor
open Go.RowKit
theorem re_take {w : World} {g gc : Nat} {L : Lay} {r : Re} {f : List Int} (h : RepAt w g gc L r) (hL : L.Ok) (T : Nat) (hT : T ≤ 10000000000) (hf : Hid (r.Fits T)) (hm : mayB f = true) :
  Calls Tryz.prog 72 #[.pointer (some ⟨g, 0, none⟩), .agg (frC f)] w (TakePost w g gc L r f) := by
 obtain ⟨kd, fr, cy, c, d, s, hin⟩ := fr_in hm
 have ho : other r f = true ↔ fr < 3 ∧ fr ≠ r.id := by rw [other_yes hin, Bool.and_eq_true, decide_eq_true_eq, decide_eq_true_eq]
 by_cases h1 : kd = 1 ∧ other r f = true ∧ cy = r.cycle
 ·exact re_take_sample h hL T hT hf (Lib.hid hin) h1.1 (ho.1 h1.2.1).1 (ho.1 h1.2.1).2 h1.2.2
 ·by_cases h2 : kd = 3 ∧ fr = 3 ∧ r.cycle ≤ cy
  ·exact re_take_done h hL T hT hf (Lib.hid hin) h2.1 h2.2.1 h2.2.2
  ·by_cases h3 : kd = 4 ∧ other r f = true
   ·exact re_take_ask h hL T hT hf (Lib.hid hin) h3.1 (ho.1 h3.2).1 (ho.1 h3.2).2
   ·by_cases h4 : kd = 5 ∧ other r f = true ∧ r.cycle < cy ∧ rightB L (stOf f) = true
    ·exact re_take_known h hL T hT hf (Lib.hid hin) h4.1 (ho.1 h4.2.1).1 (ho.1 h4.2.1).2 h4.2.2.1 h4.2.2.2
    ·exact re_take_none h hL T hT hf (Lib.hid hin) h1 h2 h3 h4
end Go.Proofs.YtdhekhlmdefcnabGreatDoor
namespace Go.Proofs.YtdhekhlmdefcnabGreatDoor
theorem Re.Fits.mono {r : Re} {T U : Nat} (h : r.Fits T) (hTU : T ≤ U) : r.Fits U :=
 ⟨h.id, h.nseen, h.nsome, h.ncame, h.ntold, h.seen, fun k => Nat.le_trans (h.came k) hTU, Nat.le_trans h.ticks hTU, h.cycle, h.ahead, h.state.mono (by omega), h.told, h.field⟩
theorem zero_fits (M : Nat) : St.zero.Fits M := ⟨by decide, rfl, rfl, fun x hx => by have := List.eq_of_mem_replicate hx; omega, fun x hx => by have := List.eq_of_mem_replicate hx; omega⟩
theorem rep_getD {α : Type} (n k : Nat) (x : α) : (List.replicate n x).getD k x = x := by
 rw [List.getD_eq_getElem?_getD, List.getElem?_replicate]
 split <;> rfl
theorem new_fits {k : Nat} (hk : k < 3) : (Re.new k).Fits 0 :=
 ⟨hk, rfl, rfl, rfl, rfl, fun i => by show Small2 (noSeen.getD i (0, 0)); unfold noSeen; rw [rep_getD]; exact ⟨by decide, by decide⟩, fun i => by show (List.replicate 3 0).getD i 0 ≤ 0; rw [rep_getD]; exact Nat.le_refl _, Nat.le_refl _, Nat.zero_le _, Nat.zero_le _, zero_fits _,
  fun i => by
   have e : (Re.new k).told.getD i kn0 = kn0 := rep_getD 3 i kn0
   rw [e]
   exact ⟨zero_fits _, Nat.zero_le _⟩,
  by show (-9223372036854775808 ≤ (0 : Int) ∧ (0 : Int) < 9223372036854775808) ∧ -9223372036854775808 ≤ (0 : Int) ∧ (0 : Int) < 9223372036854775808; decide⟩
theorem fit_small {L : Lay} (hL : L.Ok) (x : Int × Int) : Small2 (fit L x) := by
 refine ⟨?_, ?_⟩
 ·show msk x.1 L.secs < 4096
  exact Nat.lt_of_lt_of_le (msk_lt _ _) (Nat.pow_le_pow_right (n := 2) (by decide) hL.secs2)
 ·show msk x.2 L.routes.length < 4096
  exact Nat.lt_of_lt_of_le (msk_lt _ _) (Nat.pow_le_pow_right (n := 2) (by decide) (show L.routes.length ≤ 12 from Nat.le_trans hL.many2 (by decide)))
theorem tick_is (L : Lay) (r : Re) : (reTick L r).1 = reTicked L r := by
 unfold reTick
 dsimp only
 split
 ·rfl
 ·split <;> rfl
theorem tick_fits {L : Lay} (hL : L.Ok) {r : Re} {T : Nat} (h : r.Fits T) : (reTick L r).1.Fits (T + 1) := by
 rw [tick_is]
 unfold reTicked
 refine ⟨h.id, by simp [h.nseen], by simp, by simp [h.ncame], h.ntold, fun k => ?_, fun k => ?_, by have := h.ticks; show r.ticks + 1 ≤ _; omega, h.cycle, h.ahead, h.state.mono (by omega), h.told, h.field⟩
 ·show Small2 ((r.seen.set r.id (fit L r.field)).getD k (0, 0))
  rw [getD_set _ _ _ _ _ (by rw [h.nseen]; exact h.id)]
  split
  ·exact fit_small hL _
  ·exact h.seen k
 ·show (r.came.set r.id (r.ticks + 1)).getD k 0 ≤ T + 1
  rw [getD_set _ _ _ _ _ (by rw [h.ncame]; exact h.id)]
  split
  ·have := h.ticks; omega
  ·have := h.came k; omega
theorem goes_fits {r : Re} {T k : Nat} (h : r.Fits T) (hk : k ≤ 2000000) : (goes r k).Fits T :=
 ⟨h.id, rfl, rfl, h.ncame, rfl, (new_fits (k := 0) (by decide)).seen, h.came, Nat.zero_le _, hk, h.ahead, h.state, (new_fits (k := 0) (by decide)).told, h.field⟩
theorem take_fits {L : Lay} (hL : L.Ok) {r : Re} {T : Nat} (h : r.Fits T) {f : List Int} (hm : mayB f = true) : (reTake L r f).1.Fits (T + 8) := by
 obtain ⟨kd, fr, cy, c, d, s, hin⟩ := fr_in hm
 have h8 := h.mono (show T ≤ T + 8 by omega)
 have ho : other r f = true ↔ fr < 3 ∧ fr ≠ r.id := by rw [other_yes hin, Bool.and_eq_true, decide_eq_true_eq, decide_eq_true_eq]
 have hcy := hin.hcy
 by_cases h1 : kd = 1 ∧ other r f = true ∧ cy = r.cycle
 ·have h3 := (ho.1 h1.2.1).1
  unfold reTake
  rw [hin.e0, hin.e1, hin.e2]
  dsimp only
  rw [if_pos ⟨by omega, h1.2.1, by omega⟩, Int.toNat_natCast]
  refine ⟨h.id, by simp [h.nseen], by simp [h.nsome], by simp [h.ncame], h.ntold, fun k => ?_, fun k => ?_, h8.ticks, h.cycle, h.ahead, h8.state, h.told, h.field⟩
  ·show Small2 ((r.seen.set fr _).getD k (0, 0))
   rw [getD_set _ _ _ _ _ (by rw [h.nseen]; exact h3)]
   split
   ·exact fit_small hL _
   ·exact h.seen k
  ·show (r.came.set fr r.ticks).getD k 0 ≤ T + 8
   rw [getD_set _ _ _ _ _ (by rw [h.ncame]; exact h3)]
   split
   ·have := h.ticks; omega
   ·have := h.came k; omega
 ·by_cases h2 : kd = 3 ∧ fr = 3 ∧ r.cycle ≤ cy
  ·obtain ⟨e1, e2, e3⟩ := h2
   subst e1 e2
   have hah := h.ahead
   have hm : max r.ahead cy ≤ 2000000 := by omega
   by_cases he : cy = r.cycle
   ·rw [take_eq L hin he]
    exact goes_fits (r := { r with ahead := max r.ahead cy, state := (step L c d r.state).1 }) ⟨h.id, h.nseen, h.nsome, h.ncame, h.ntold, h.seen, h8.came, h8.ticks, h.cycle, hm, (step_fits hL h.state).mono (by omega), h.told, h.field⟩ (by omega)
   ·rw [take_ne L hin (by omega)]
    exact ⟨h.id, h.nseen, h.nsome, h.ncame, h.ntold, h.seen, h8.came, h8.ticks, h.cycle, hm, h8.state, h.told, h.field⟩
  ·by_cases h3 : kd = 4 ∧ other r f = true
   ·unfold reTake
    rw [hin.e0]
    dsimp only
    rw [if_neg (by omega), if_neg (by omega), if_pos ⟨by omega, h3.2⟩]
    exact h8
   ·by_cases h4 : kd = 5 ∧ other r f = true ∧ r.cycle < cy ∧ rightB L (stOf f) = true
    ·obtain ⟨e1, e2, e3, e4⟩ := h4
     subst e1
     have hx := ho.1 e2
     rw [take_known L hin hx.1 hx.2 e3 e4]
     have hs : s.Fits 1000 := by have h := right_fits hL hin.sn e4; rw [hin.st] at h; exact h
     have ht : ∀ k, ((r.told.set fr (cy, s, true)).getD k kn0).2.1.Fits 2000 ∧ ((r.told.set fr (cy, s, true)).getD k kn0).1 ≤ 2000000 := fun k => by
      rw [getD_set _ _ _ _ _ (by rw [h.ntold]; exact hx.1)]
      split
      ·exact ⟨hs.mono (by decide), by show cy ≤ _; omega⟩
      ·exact h.told k
     dsimp only
     split
     ·exact goes_fits (r := { r with told := r.told.set fr (cy, s, true), state := s }) ⟨h.id, h.nseen, h.nsome, h.ncame, by simp [h.ntold], h.seen, h8.came, h8.ticks, h.cycle, h.ahead, hs.mono (by omega), ht, h.field⟩ (by omega)
     ·exact ⟨h.id, h.nseen, h.nsome, h.ncame, by simp [h.ntold], h.seen, h8.came, h8.ticks, h.cycle, h.ahead, h8.state, ht, h.field⟩
    ·rw [take_none L hin h1 h2 h3 h4]
     exact h8
end Go.Proofs.YtdhekhlmdefcnabGreatDoor
namespace Go.Proofs.YtdhekhlmdefcnabGreatDoor
def I64 (x : Int) : Prop := -9223372036854775808 ≤ x ∧ x ≤ 9223372036854775807
def Cm64 (c : Cm) : Prop := I64 c.1 ∧ I64 c.2.1 ∧ I64 c.2.2
structure Fine (T : Nat) (s : Sys) : Prop where
 n3 : s.rs.length = 3
 fits : ∀ k, k < 3 → (re s k).Fits T
 vo : s.v.Wf
 trace : ∀ c ∈ s.v.trace, Cm64 c
 votes : ∀ y ∈ s.v.votes, Cm64 y.1
 way : s.way.length ≤ 120
 lost : s.lost ≤ T
 gram : ∀ g ∈ s.way, g.src ≤ 3 ∧ g.dst ≤ 3 ∧ g.bytes.length ≤ 80
theorem I64.nat {n : Nat} (h : n ≤ 9223372036854775807) : I64 (n : Int) := ⟨by omega, by omega⟩
theorem cm64_zero : Cm64 Cm.zero := ⟨⟨by decide, by decide⟩, ⟨by decide, by decide⟩, by decide, by decide⟩
theorem wf_frm {k fr cy : Int} {c : Cm} (hk : I64 k) (hf : I64 fr) (hy : I64 cy) (hc : Cm64 c) : Wf (frm k fr cy c) := by
 refine ⟨rfl, fun x hx => ?_⟩
 obtain ⟨h1, h2, h3⟩ := hc
 unfold frm at hx
 rcases List.mem_append.1 hx with hx | hx
 ·simp at hx
  rcases hx with rfl | rfl | rfl | rfl | rfl | rfl <;> assumption
 ·rw [List.eq_of_mem_replicate hx]; exact ⟨by decide, by decide⟩
theorem wf_zero : Wf zeroF := ⟨rfl, by decide⟩
theorem wf_frmK {fr cy : Int} {s : St} {M : Nat} (hf : I64 fr) (hy : I64 cy) (hs : s.Fits M) (hM : M ≤ 1000000000000) : Wf (frmK fr cy s) := by
 have h8 := hs.used8
 have h9 := hs.idle8
 refine ⟨by unfold frmK; simp [zs, h8, h9], fun x hx => ?_⟩
 unfold frmK at hx
 rcases List.mem_append.1 hx with hx | hx
 ·simp at hx
  rcases hx with rfl | rfl | rfl | rfl
  ·exact ⟨by decide, by decide⟩
  ·exact hf
  ·exact hy
  ·exact ⟨by decide, by decide⟩
 ·rcases List.mem_cons.1 hx with rfl | hx
  ·have := hs.set; exact ⟨by omega, by omega⟩
  ·rcases List.mem_append.1 hx with hx | hx
   ·obtain ⟨n, hn, rfl⟩ := List.mem_map.1 hx
    have := hs.used n hn
    constructor <;> omega
   ·obtain ⟨n, hn, rfl⟩ := List.mem_map.1 hx
    have := hs.idle n hn
    constructor <;> omega
theorem wf_getD {f : List Int} (h : Wf f) (i : Nat) : I64 (f.getD i 0) := by
 rw [List.getD_eq_getElem?_getD]
 cases e : f[i]? with
 | none => exact ⟨by decide, by decide⟩
 | some x => exact h.2 x (List.mem_of_getElem? e)
theorem wf_may {f : List Int} (h : mayB f = true) : Wf f := by
 have h2 := h
 unfold mayB at h2
 simp only [Bool.and_eq_true, decide_eq_true_eq] at h2
 obtain ⟨⟨hh, ha⟩, he⟩ := h2
 refine ⟨by rw [he]; exact cpTo_length _ _, fun x hx => ?_⟩
 rw [he] at hx
 have := cp_all h _ x hx
 omega
theorem asks_wf {r : Re} {T : Nat} (h : r.Fits T) : Wf (asks r) := by
 have h1 := h.id
 have h2 := h.cycle
 exact wf_frm ⟨by decide, by decide⟩ (I64.nat (by omega)) (I64.nat (by omega)) cm64_zero
theorem tick_wf {L : Lay} (hL : L.Ok) {r : Re} {T : Nat} (h : r.Fits T) : Wf (reTick L r).2.1 ∧ Wf (reTick L r).2.2.1 := by
 have hq := tick_fits hL h
 rw [tick_is] at hq
 have h1 := hq.id
 have h2 := hq.cycle
 have h3 := hq.seen (reTicked L r).id
 have h4 := (fuseTo_small hq.seen 3).1
 have hs : Wf (frm 1 (reTicked L r).id (reTicked L r).cycle ((((reTicked L r).seen.getD (reTicked L r).id (0, 0)).1 : Nat), (((reTicked L r).seen.getD (reTicked L r).id (0, 0)).2 : Nat), 0)) :=
  wf_frm ⟨by decide, by decide⟩ (I64.nat (by omega)) (I64.nat (by omega)) ⟨I64.nat (Nat.le_trans (Nat.le_of_lt h3.1) (by decide)), I64.nat (Nat.le_trans (Nat.le_of_lt h3.2) (by decide)), (show I64 (0 : Int) from ⟨by decide, by decide⟩)⟩
 unfold reTick
 dsimp only
 split
 ·exact ⟨hs, asks_wf hq⟩
 ·split
  ·exact ⟨hs, wf_zero⟩
  ·refine ⟨hs, wf_frm ⟨by decide, by decide⟩ (I64.nat (by omega)) (I64.nat (by omega)) ⟨I64.nat ?_, I64.nat ?_, I64.nat ?_⟩⟩
   ·exact Nat.le_trans (Nat.le_of_lt h4.1) (by decide)
   ·exact Nat.le_trans (Nat.le_of_lt h4.2) (by decide)
   ·exact Nat.le_trans (Nat.le_of_lt (outTo_lt _ _ _ _ _ hL.many2)) (by decide)
theorem take_wf {L : Lay} (hL : L.Ok) {r : Re} {T : Nat} (hT : T ≤ 10000000000) (h : r.Fits T) {f : List Int} (hm : mayB f = true) : ∀ y ∈ (reTake L r f).2, Wf y := by
 have ht := take_fits hL h hm
 unfold reTake at ht ⊢
 dsimp only at ht ⊢
 intro y hy
 by_cases c1 : f.getD 0 0 = 1 ∧ other r f = true ∧ f.getD 2 0 = (r.cycle : Int)
 ·rw [if_pos c1] at hy; cases hy
 rw [if_neg c1] at hy ht
 by_cases c2 : f.getD 0 0 = 3 ∧ f.getD 1 0 = 3 ∧ (r.cycle : Int) ≤ f.getD 2 0
 ·rw [if_pos c2] at hy ht
  generalize (if f.getD 2 0 = (r.cycle : Int) then goes { r with ahead := max r.ahead (f.getD 2 0).toNat, state := (step L (f.getD 3 0) (f.getD 4 0) r.state).1 } (r.cycle + 1) else { r with ahead := max r.ahead (f.getD 2 0).toNat }) = r2 at hy ht
  change y ∈ (if r2.cycle ≤ r2.ahead then [asks r2] else []) at hy
  split at hy
  ·rw [List.mem_singleton.1 hy]; exact asks_wf ht
  ·cases hy
 rw [if_neg c2] at hy ht
 by_cases c3 : f.getD 0 0 = 4 ∧ other r f = true
 ·rw [if_pos c3] at hy
  rw [List.mem_singleton.1 hy]
  have h1 := h.id
  have h2 := h.cycle
  exact wf_frmK (I64.nat (by omega)) (I64.nat (by omega)) h.state (by omega)
 rw [if_neg c3] at hy
 split at hy
 ·cases hy
 ·cases hy
theorem done_wf {v : Vo} (h : ∀ c ∈ v.trace, Cm64 c) {k : Nat} (hk : k ≤ 1000000) : Wf (voDone v k) := by
 refine wf_frm ⟨by decide, by decide⟩ ⟨by decide, by decide⟩ (I64.nat (by omega)) ?_
 rw [List.getD_eq_getElem?_getD]
 cases e : v.trace[k]? with
 | none => exact cm64_zero
 | some c => exact h c (List.mem_of_getElem? e)
theorem cmOf64 {f : List Int} (hf : Wf f) : Cm64 (cmOf f) := ⟨wf_getD hf 3, wf_getD hf 4, wf_getD hf 5⟩
theorem commits_64 {v : Vo} (h1 : ∀ c ∈ v.trace, Cm64 c) {c : Cm} (hc : Cm64 c) : (∀ c' ∈ (voCommits v c).trace, Cm64 c') ∧ ∀ y ∈ (voCommits v c).votes, Cm64 y.1 := by
 refine ⟨fun c' h => ?_, fun y h => ?_⟩
 ·rcases List.mem_append.1 h with h | h
  ·exact h1 c' h
  ·rw [List.mem_singleton.1 h]; exact hc
 ·have e : y = (Cm.zero, false) := List.eq_of_mem_replicate (n := 3) h
  rw [e]; exact cm64_zero
theorem voTake_64 {v : Vo} (hv : v.Wf) (h1 : ∀ c ∈ v.trace, Cm64 c) (h2 : ∀ y ∈ v.votes, Cm64 y.1) {f : List Int} (hf : Wf f) :
  (∀ c ∈ (voTake v f).1.trace, Cm64 c) ∧ (∀ y ∈ (voTake v f).1.votes, Cm64 y.1) ∧ ∀ y ∈ (voTake v f).2.1, Wf y := by
 have hn := hv.many
 unfold voTake
 split
 ·exact ⟨h1, h2, fun y hy => by cases hy⟩
 split
 ·refine ⟨h1, h2, fun y hy => ?_⟩
  rw [List.mem_singleton.1 hy]
  exact done_wf h1 (by omega)
 split
 ·refine ⟨h1, h2, fun y hy => ?_⟩
  rcases List.mem_cons.1 hy with rfl | hy
  ·exact done_wf h1 (by omega)
  ·rw [List.mem_singleton.1 hy]
   exact done_wf h1 (by omega)
 split
 ·exact ⟨h1, h2, fun y hy => by cases hy⟩
 ·dsimp only
  have h3 : ∀ y ∈ v.votes.set (f.getD 1 0).toNat (cmOf f, true), Cm64 y.1 := fun y hy => by
   rcases List.mem_or_eq_of_mem_set hy with h | rfl
   ·exact h2 y h
   ·exact cmOf64 hf
  split
  ·have hc := commits_64 (v := { v with votes := v.votes.set (f.getD 1 0).toNat (cmOf f, true) }) h1 (cmOf64 hf)
   refine ⟨hc.1, hc.2, fun y hy => ?_⟩
   rw [List.mem_singleton.1 hy]
   exact done_wf hc.1 (by omega)
  ·exact ⟨h1, h3, fun y hy => by cases hy⟩
section
variable {T : Nat} {s : Sys} {L : Lay}
theorem Fine.mono {U : Nat} (h : Fine T s) (hTU : T ≤ U) : Fine U s := ⟨h.n3, fun k hk => (h.fits k hk).mono hTU, h.vo, h.trace, h.votes, h.way, Nat.le_trans h.lost hTU, h.gram⟩
theorem Fine.put (h : Fine T s) {g : Gram} (hg : g.src ≤ 3 ∧ g.dst ≤ 3 ∧ g.bytes.length ≤ 80) : Fine (T + 1) (sysPut s g) := by
 have h1 := h.mono (show T ≤ T + 1 by omega)
 unfold sysPut
 split
 ·exact ⟨h1.n3, h1.fits, h1.vo, h1.trace, h1.votes, h1.way, by have := h.lost; show s.lost + 1 ≤ _; omega, h1.gram⟩
 ·refine ⟨h1.n3, h1.fits, h1.vo, h1.trace, h1.votes, by rw [List.length_append]; simp; omega, h1.lost, fun g' hg' => ?_⟩
  rcases List.mem_append.1 hg' with h | h
  ·exact h1.gram g' h
  ·rw [List.mem_singleton.1 h]; exact hg
theorem enc_80 {f : List Int} (_hm : mayB f = true) : (encB f).length ≤ 80 := by
 have := enc_len (f := f)
 have := idx_len (f.getD 0 0)
 omega
theorem Fine.send (h : Fine T s) {a b : Nat} (f : List Int) (ha : a ≤ 3) (hb : b ≤ 3) : Fine (T + 1) (sysSend s a b f) := by
 unfold sysSend
 split
 ·rename_i hm
  exact h.put ⟨ha, hb, enc_80 hm⟩
 ·exact h.mono (by omega)
theorem Fine.setRe (h : Fine T s) {k U : Nat} (hk : k < 3) {r : Re} (hr : r.Fits U) (hTU : T ≤ U) : Fine U { s with rs := s.rs.set k r } := by
 refine ⟨by show (s.rs.set k r).length = 3; rw [List.length_set]; exact h.n3, fun j hj => ?_, h.vo, h.trace, h.votes, h.way, Nat.le_trans h.lost hTU, h.gram⟩
 rw [re_set (by rw [h.n3]; exact hk)]
 split
 ·exact hr
 ·exact (h.fits j hj).mono hTU
theorem Fine.sendAll {a : Nat} (f : List Int) (ha : a ≤ 3) : ∀ (l : List Nat) {T : Nat} {s : Sys}, (∀ b ∈ l, b ≤ 3) → Fine T s → Fine (T + l.length) (sendAll s a l f)
 | [], _, _, _, h => h
 | b :: l, T, s, hl, h => by
  have := Fine.sendAll f ha l (fun b' hb' => hl b' (List.mem_cons_of_mem _ hb')) (h.send f ha (hl b (List.mem_cons_self ..)) (b := b))
  rw [List.length_cons, show T + (l.length + 1) = T + 1 + l.length by omega]
  exact this
theorem others_two (k : Nat) : (∀ b ∈ others k, b ≤ 3) ∧ (others k).length ≤ 3 := by
 refine ⟨fun b hb => ?_, Nat.le_trans (List.length_filter_le _ _) (by decide)⟩
 have := (List.mem_filter.1 hb).1
 simp at this
 omega
theorem Fine.tickR (h : Fine T s) (hL : L.Ok) {k : Nat} (hk : k < 3) : Fine (T + 5) (tickR L s k) := by
 unfold Go.Proofs.YtdhekhlmdefcnabGreatDoor.tickR
 dsimp only
 have h1 := h.setRe hk (tick_fits hL (h.fits k hk)) (by omega)
 have h2 := Fine.sendAll (reTick L (re s k)).2.1 (show k ≤ 3 by omega) (others k) (others_two k).1 h1
 have h3 := h2.mono (show _ ≤ T + 4 by have := (others_two k).2; omega)
 split
 ·exact h3.send _ (by omega) (by omega)
 ·exact h3.mono (by omega)
theorem Fine.voTick (h : Fine T s) : Fine T { s with v := voTick s.v } := by
 refine ⟨h.n3, h.fits, voTick_wf h.vo, ?_, ?_, h.way, h.lost, h.gram⟩
 ·show ∀ c ∈ (Go.Proofs.YtdhekhlmdefcnabGreatDoor.voTick s.v).trace, _
  unfold Go.Proofs.YtdhekhlmdefcnabGreatDoor.voTick
  split
  ·exact h.trace
  ·split <;> exact h.trace
 ·show ∀ c ∈ (Go.Proofs.YtdhekhlmdefcnabGreatDoor.voTick s.v).votes, _
  unfold Go.Proofs.YtdhekhlmdefcnabGreatDoor.voTick
  split
  ·exact h.votes
  ·split <;> exact h.votes
theorem Fine.tick (h : Fine T s) (hL : L.Ok) {k : Nat} (hk : k ≤ 3) : Fine (T + 5) (sysTick L s k) := by
 unfold sysTick
 split
 ·exact h.voTick.mono (by omega)
 ·exact h.tickR hL (by omega)
theorem Fine.asks (h : Fine T s) {k : Nat} (hk : k < 3) : Fine (T + 3) (sysAsks s k) :=
 (Fine.sendAll _ (show k ≤ 3 by omega) (others k) (others_two k).1 h).mono (by have := (others_two k).2; omega)
theorem Fine.see (h : Fine T s) {k : Nat} (hk : k < 3) {y : Int × Int} (hy : I64 y.1 ∧ I64 y.2) : Fine T (sysSee s k y) := by
 obtain ⟨⟨a1, a2⟩, a3, a4⟩ := hy
 have hr := h.fits k hk
 exact h.setRe hk ⟨hr.id, hr.nseen, hr.nsome, hr.ncame, hr.ntold, hr.seen, hr.came, hr.ticks, hr.cycle, hr.ahead, hr.state, hr.told, ⟨⟨a1, Int.lt_of_le_of_lt a2 (by decide)⟩, a3, Int.lt_of_le_of_lt a4 (by decide)⟩⟩ (Nat.le_refl _)
theorem Fine.crash (h : Fine T s) {k : Nat} (hk : k < 3) : Fine T (sysCrash s k) := h.setRe hk ((new_fits hk).mono (Nat.zero_le _)) (Nat.le_refl _)
theorem Fine.erase (h : Fine T s) (i : Nat) : Fine T { s with way := s.way.eraseIdx i } :=
 ⟨h.n3, h.fits, h.vo, h.trace, h.votes, Nat.le_trans (List.length_eraseIdx_le _ _) h.way, h.lost, fun g hg => h.gram g (List.mem_of_mem_eraseIdx hg)⟩
theorem Fine.lose (h : Fine T s) (i : Nat) : Fine T (sysLose s i) := h.erase i
theorem Fine.twice (h : Fine T s) (i : Nat) : Fine (T + 1) (sysTwice s i) := by
 unfold sysTwice
 split
 ·exact h.mono (by omega)
 ·rename_i g hg
  exact h.put (h.gram g (List.mem_of_getElem? hg))
theorem Fine.latch (h : Fine T s) : Fine T (sysLatch s) := ⟨h.n3, h.fits, voLatch_wf h.vo, h.trace, h.votes, h.way, h.lost, h.gram⟩
theorem Fine.sends {a b : Nat} (ha : a ≤ 3) (hb : b ≤ 3) : ∀ (l : List (List Int)) {T : Nat} {s : Sys}, Fine T s → Fine (T + l.length) (l.foldl (fun s x => sysSend s a b x) s)
 | [], _, _, h => h
 | f :: l, T, s, h => by
  have := Fine.sends ha hb l (h.send f ha hb)
  rw [List.length_cons, show T + (l.length + 1) = T + 1 + l.length by omega]
  exact this
theorem Fine.toAll (h : Fine T s) (all : Bool) (b : Nat) (f : List Int) : Fine (T + 3) (toAll s all b f) := by
 have one : ∀ {U : Nat} {s : Sys} (k : Nat), k ≤ 3 → Fine U s → Fine (U + 1) (if all = true ∨ k = b then sysSend s 3 k f else s) := fun k hk h => by
  split
  ·exact h.send f (by decide) hk
  ·exact h.mono (by omega)
 unfold Go.Proofs.YtdhekhlmdefcnabGreatDoor.toAll
 exact one 2 (by decide) (one 1 (by decide) (one 0 (by decide) h))
theorem Fine.toAlls (all : Bool) (b : Nat) : ∀ (l : List (List Int)) {T : Nat} {s : Sys}, Fine T s → Fine (T + l.length * 3) (l.foldl (fun s x => Go.Proofs.YtdhekhlmdefcnabGreatDoor.toAll s all b x) s)
 | [], _, _, h => by simpa using h
 | f :: l, T, s, h => by
  have := Fine.toAlls all b l (h.toAll all b f)
  rw [List.length_cons, show T + (l.length + 1) * 3 = T + 3 + l.length * 3 by omega]
  exact this
theorem reTake_two (L : Lay) (r : Re) (f : List Int) : (reTake L r f).2.length ≤ 2 := by
 have two : ∀ (c : Prop) [Decidable c] (y : List Int), (if c then [y] else []).length ≤ 2 := fun c _ y => by
  split
  ·exact Nat.le_succ 1
  ·exact Nat.zero_le 2
 unfold reTake
 dsimp only
 by_cases c1 : f.getD 0 0 = 1 ∧ other r f = true ∧ f.getD 2 0 = (r.cycle : Int)
 ·rw [if_pos c1]; exact Nat.zero_le 2
 rw [if_neg c1]
 by_cases c2 : f.getD 0 0 = 3 ∧ f.getD 1 0 = 3 ∧ (r.cycle : Int) ≤ f.getD 2 0
 ·rw [if_pos c2]; exact two _ _
 rw [if_neg c2]
 by_cases c3 : f.getD 0 0 = 4 ∧ other r f = true
 ·rw [if_pos c3]; exact Nat.le_succ 1
 rw [if_neg c3]
 split
 ·exact Nat.zero_le 2
 ·exact Nat.zero_le 2
theorem voTake_two (v : Vo) (f : List Int) : (voTake v f).2.1.length ≤ 2 := by
 unfold voTake
 split
 ·simp
 split
 ·simp
 split
 ·simp
 split
 ·simp
 ·dsimp only
  split <;> simp
theorem dec_may {l : List UInt8} (h : (dec l).1 = 0) : mayB (dec l).2 = true := by
 unfold dec at h ⊢
 split
 ·rename_i hc; rw [if_pos hc] at h; cases h
 rename_i hc
 rw [if_neg hc] at h
 split
 ·rename_i hd; rw [if_pos hd] at h; cases h
 rename_i hd
 rw [if_neg hd] at h
 split
 ·rename_i he; rw [if_pos he] at h; cases h
 rename_i he
 rw [if_neg he] at h
 split
 ·rename_i hf; rw [if_pos hf] at h; cases h
 rename_i hf
 rw [if_neg hf] at h
 split
 ·assumption
 ·rename_i hm; rw [if_neg hm] at h; cases h
theorem Fine.deliver (h : Fine T s) (hL : L.Ok) (i : Nat) : Fine (T + 14) (deliver L s i) := by
 unfold Go.Proofs.YtdhekhlmdefcnabGreatDoor.deliver
 split
 ·exact h.mono (by omega)
 ·rename_i g hg
  have hgr := h.gram g (List.mem_of_getElem? hg)
  dsimp only
  split
  ·rename_i hc
   have hm := dec_may hc.1
   split
   ·have hf := wf_may hm
    have h64 := voTake_64 h.vo h.trace h.votes hf
    have h1 : Fine T ({ s with way := s.way.eraseIdx i, v := (voTake s.v (dec g.bytes).2).1 } : Sys) := ⟨h.n3, h.fits, voTake_wf h.vo _, h64.1, h64.2.1, (h.erase i).way, h.lost, (h.erase i).gram⟩
    exact (Fine.toAlls _ _ _ h1).mono (by have := voTake_two s.v (dec g.bytes).2; omega)
   ·rename_i hd
    have hd3 : g.dst < 3 := by omega
    have h1 := (h.erase i).setRe hd3 (take_fits hL (h.fits g.dst hd3) hm) (by omega)
    exact (Fine.sends hgr.2.1 hgr.1 _ h1).mono (by have := reTake_two L (re s g.dst) (dec g.bytes).2; simp only [Nat.add_assoc]; show T + (8 + (reTake L (re s g.dst) (dec g.bytes).2).2.length) ≤ _; omega)
  ·exact (h.erase i).mono (by omega)
theorem Fine.flows (hL : L.Ok) : ∀ (n : Nat) {T : Nat} {s : Sys}, Fine T s → Fine (T + 14 * n) (flows L s n)
 | 0, _, _, h => h
 | n + 1, T, s, h => by
  rw [Go.Proofs.YtdhekhlmdefcnabGreatDoor.flows]
  split
  ·exact h.mono (by omega)
  ·exact (Fine.flows hL n (h.deliver hL 0)).mono (by omega)
theorem Fine.half (h : Fine T s) (hL : L.Ok) (N : Nat) : Fine (T + 15 + 14 * N) (halfRound L N s) := Fine.flows hL N (((h.tickR hL (k := 0) (by decide)).tickR hL (k := 1) (by decide)).tickR hL (k := 2) (by decide))
theorem Fine.calm (hL : L.Ok) (N : Nat) : ∀ (n : Nat) {T : Nat} {s : Sys}, Fine T s → Fine (T + (30 + 42 * N) * n) (calm L N s n)
 | 0, _, _, h => h
 | n + 1, T, s, h => by
  rw [Go.Proofs.YtdhekhlmdefcnabGreatDoor.calm]
  have h1 := (((Fine.flows hL N h).half hL N).half hL N).voTick
  refine (Fine.calm hL N n h1).mono ?_
  rw [Nat.mul_add, Nat.mul_one]
  omega
end
end Go.Proofs.YtdhekhlmdefcnabGreatDoor
