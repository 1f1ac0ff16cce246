/- Part 25 of the proof: ReTakeK. -/
import Derived.Test.YtdhekhlmdefcnabGreatDoorPart23
namespace Go.Proofs.YtdhekhlmdefcnabGreatDoor
open Go.RowKit
section
variable {w : World} {g gc : Nat} {L : Lay} {r : Re} {f : List Int} {kd fr cy c d : Nat} {s : St}
set_option maxHeartbeats 20000000 in
set_option maxRecDepth 100000 in
theorem re_take_known (h : RepAt w g gc L r) (hL : L.Ok) (T : Nat) (_hT : T ≤ 10000000000) (hf : Hid (r.Fits T)) (hin : Hid (FrIn f kd fr cy c d s)) (hk : kd = 5) (h3 : fr < 3) (hne : fr ≠ r.id) (hcc : r.cycle < cy) (hr : rightB L (stOf f) = true) :
  Calls Tryz.prog 72 #[.pointer (some ⟨g, 0, none⟩), .agg (frC f)] w (TakePost w g gc L r f) := by
 have hb1 : Below w.heap.size w (w.alloc (.cells (frC f) 110)) := (Below.refl _ _).alloc (Nat.le_refl _) _
 have HT1 : Hid (TK w g gc w.heap.size L r f (w.alloc (.cells (frC f) 110))) := Lib.hid ⟨h.after hb1, Turned.of_below hb1 _, Has.new w 110 (frC f), Nat.le_refl _⟩
 have hgl := h.has.lt
 have hid3 := hf.out.id
 have hfr3 := hin.out.hfr
 have hcyB := hin.out.hcy
 obtain ⟨id, hid⟩ : ∃ id, r.id = id := ⟨_, rfl⟩
 obtain ⟨cyc, hcyc⟩ : ∃ cyc, r.cycle = cyc := ⟨_, rfl⟩
 rw [hid] at hid3
 have HID := Lib.hid hid
 have HCYC := Lib.hid hcyc
 have HFC := Lib.hid (fr_cells hin.out)
 have HRC : Hid (∀ wx, RepAt wx g gc L r → wx.cell? ⟨g, 0, none⟩ = some (I (id : Int)) ∧ wx.cell? ⟨g, 1, none⟩ = some (.pointer (some ⟨gc, 0, none⟩)) ∧ wx.cell? ⟨g, 2, none⟩ = some (I (cyc : Int)) ∧ wx.cell? ⟨g, 91, none⟩ = some (I (r.ticks : Int)) ∧ wx.cell? ⟨g, 92, none⟩ = some (I (r.ahead : Int))) := Lib.hid (fun wx hx =>
  ⟨hx.cell 0 (by decide) (by rw [reF_id, hid]), hx.cell 1 (by decide) reF_core, hx.cell 2 (by decide) (by rw [reF_cycle, hcyc]), hx.cell 91 (by decide) reF_ticks, hx.cell 92 (by decide) reF_ahead⟩)
 clear h hb1 hid hcyc
 go_enter Tryz.func72, Tryz.ntmps72
 go_upto_region 1 with fail
 generalize w.alloc (.cells (frC f) 110) = w1 at *
 generalize hG : w.heap.size = g0 at *
 have HG := Lib.hid hG
 clear hG
 obtain ⟨c0, c1, c2, c3, c4⟩ := HFC.out _ _ HT1.out.2.2.1
 obtain ⟨i0, i1, i2, i91, i92⟩ := HRC.out _ HT1.out.1
 have hl0 := HT1.out.2.2.1.lt
 have t0 : decide ((0 : Int) ≤ (fr : Int)) = true := decide_eq_true (by omega)
 have t1 : decide ((fr : Int) < 3) = true := decide_eq_true (by omega)
 have t2 : ((fr : Int) != (id : Int)) = true := by have := HID.out; simp; omega
 have t6 : cyc < cy := by have := HCYC.out; omega
 have hs17 := fr_stL hin.out
 have HLS : Hid ((ints (stOf f)).toArray = (stC s)) := Lib.hid (by unfold stC; rw [hin.out.sl])
 have HSF : Hid (s.Fits 1000) := Lib.hid (by have h := right_fits hL hin.out.sn hr; rw [hin.out.st] at h; exact h)
 have HRI : Hid (∀ wx, TK w g gc g0 L r f wx → Calls Tryz.prog 108 #[.pointer (some ⟨gc, 0, none⟩), .agg (stC s)] wx fun e w' => e = .returned (.bool true) ∧ Below wx.heap.size wx w') := Lib.hid (fun wx hx => by
  have h := core_right gc L (stOf f) wx hL (Lib.hid hin.out.sn) (Lib.hid fun x hx => by have := hin.out.lo x hx; omega) hx.1.core
  rw [HLS.out, hr] at h
  exact h)
 have HC0 : Hid (∀ wx, TK w g gc g0 L r f wx → wx.cell? ⟨g, 1, none⟩ = some (.pointer (some ⟨gc, 0, none⟩)) ∧ wx.cell? ⟨g, 2, none⟩ = some (I (cyc : Int)) ∧ wx.cell? ⟨g0, 0, none⟩ = some (I 5) ∧ wx.cell? ⟨g0, 2, none⟩ = some (I (cy : Int)) ∧ wx.rangeAt g0 6 (stL s)) := Lib.hid (fun wx hx => by
  obtain ⟨a0, a1, a2, a3, a4⟩ := HFC.out _ _ hx.2.2.1
  obtain ⟨b0, b1, b2, b91, b92⟩ := HRC.out _ hx.1
  rw [hk] at a0
  exact ⟨b1, b2, a0, a2, fr_state hin.out wx g0 hx.2.2.1⟩)
 have HI1 : Hid ((Tryz.prog.info? 100).map (·.size) = some (stL s).length) := Lib.hid (by rw [hs17]; exact infoState)
 have HGT : Hid (cyc < cy) := Lib.hid t6
 subst hk
 clear c3 c4 i91 i92 i1
 go_quiet (fail)
 go_wp2_with fail
 go_quiet (fail)
 go_wp2_with fail
 go_quiet (fail)
 go_upto_region 13 with fail
 generalize hW2 : World.drewN _ _ = w2
 have HT2 : Hid (TK w g gc g0 L r f w2) := Lib.hid (by rw [← hW2]; repeat (first | exact HT1.out | refine TK.drewN ?_ _))
 clear hW2 HT1 c0 c1 c2 i0 i2 t0 t1 t2 t6 hl0
 go_cut [159] (fun s159 wx => s159 = .bool true ∧ (TK w g gc g0 L r f) wx)
 case first =>
  rename_i J0 K0 hJ0 hK0
  have HK0 := Lib.hid hK0
  clear hK0
  refine region_all (by kernel_rfl) (fun b0 => b0.tmps.getD 0 undef = .pointer (some ⟨g, 0, none⟩) ∧ b0.tmps.getD 3 undef = .pointer (some ⟨g0, 0, none⟩) ∧ b0.tmps.getD 5 undef = .bool true) ⟨rfl, rfl, rfl⟩ 228 rfl (fun i => ([.pointer (some ⟨g0, 0, none⟩), I 5, .bool true, .bool true, .bool true, .bool true, .bool true, .pointer (some ⟨g0, 2, none⟩), I (cy : Int), .pointer (some ⟨g, 0, none⟩), .pointer (some ⟨g, 0, none⟩), .pointer (some ⟨g, 2, none⟩), I (cyc : Int), .bool true, .bool true, .bool true, .pointer (some ⟨g, 0, none⟩), .pointer (some ⟨g, 0, none⟩), .pointer (some ⟨g, 1, none⟩), .pointer (some ⟨gc, 0, none⟩), .pointer (some ⟨g0, 6, none⟩), .agg (stC s), .bool true, .bool true, .bool true] : List Value).getD i undef) [] (by kernel_rfl) (fun j => ([(TK w g gc g0 L r f)] : List (World → Prop)).getD j (fun _ => True)) [160, 161, 162, 163, 164, 165, 166, 167, 168, 169, 170, 171, 172, 173, 174, 175, 176, 177, 178, 179, 180, 181, 182, 183, 159] (by kernel_rfl) (by kernel_rfl) (HT2.out.drew) ?_ ?_
  ·intro b0 hb0 i o ho
   have hi : i < 25 := (Array.getElem?_eq_some_iff.1 ho).1
   obtain ⟨f0, f3, f5⟩ := hb0
   have hcase : i = 0 ∨ i = 1 ∨ i = 2 ∨ i = 3 ∨ i = 4 ∨ i = 5 ∨ i = 6 ∨ i = 7 ∨ i = 8 ∨ i = 9 ∨ i = 10 ∨ i = 11 ∨ i = 12 ∨ i = 13 ∨ i = 14 ∨ i = 15 ∨ i = 16 ∨ i = 17 ∨ i = 18 ∨ i = 19 ∨ i = 20 ∨ i = 21 ∨ i = 22 ∨ i = 23 ∨ i = 24 := by omega
   clear hi
   rcases hcase with rfl | rfl | rfl | rfl | rfl | rfl | rfl | rfl | rfl | rfl | rfl | rfl | rfl | rfl | rfl | rfl | rfl | rfl | rfl | rfl | rfl | rfl | rfl | rfl | rfl
   ·simp only [List.getElem?_toArray, List.getElem?_cons_zero] at ho
    cases ho
    refine .inl ⟨by decide, fun M => stepA rfl (fun li ac wx H hn hed hM K hk => ?_)⟩
    have e3 : ac.tmps[3]?.getD undef = .pointer (some ⟨g0, 0, none⟩) := slot_at ((H.frm.slot (by decide)).trans f3)
    clear hed H
    go_simp
    exact hk _ hM
   ·simp only [List.getElem?_toArray, List.getElem?_cons_zero, List.getElem?_cons_succ] at ho
    cases ho
    refine .inr (.inl ⟨by decide, by kernel_rfl, stepA rfl (fun li ac wx H hn hed hM K hk => ?_)⟩)
    have e160 : ac.tmps[160]?.getD undef = .pointer (some ⟨g0, 0, none⟩) := slot_at (H.known 0 _ rfl (hed ⟨0, .data⟩ (by simp) rfl) 160 rfl)
    have hM1 : (TK w g gc g0 L r f) wx := hM
    obtain ⟨x1, x2, x3, x4, x5⟩ := HC0.out wx hM1
    clear hed H
    go_simp
    exact hk _ hM
   ·simp only [List.getElem?_toArray, List.getElem?_cons_zero, List.getElem?_cons_succ] at ho
    cases ho
    refine .inl ⟨by decide, fun M => stepA rfl (fun li ac wx H hn hed hM K hk => ?_)⟩
    have e161 : ac.tmps[161]?.getD undef = I 5 := slot_at (H.known 1 _ rfl (hed ⟨1, .data⟩ (by simp) rfl) 161 rfl)
    clear hed H
    go_simp
    exact hk _ hM
   ·simp only [List.getElem?_toArray, List.getElem?_cons_zero, List.getElem?_cons_succ] at ho
    cases ho
    refine .inl ⟨by decide, fun M => stepA rfl (fun li ac wx H hn hed hM K hk => ?_)⟩
    have e162 : ac.tmps[162]?.getD undef = .bool true := slot_at (H.known 2 _ rfl (hed ⟨2, .data⟩ (by simp) rfl) 162 rfl)
    clear hed H
    go_simp
    exact hk _ hM
   ·simp only [List.getElem?_toArray, List.getElem?_cons_zero, List.getElem?_cons_succ] at ho
    cases ho
    refine .inl ⟨by decide, fun M => stepAG (j := 3) rfl rfl rfl rfl (by simp) (fun li ac wx H hn hed hM K hk => ?_)⟩
    have e5 : ac.tmps[5]?.getD undef = .bool true := slot_at ((H.frm.slot (by decide)).trans f5)
    clear hed H
    go_simp
    exact hk _ hM
   ·simp only [List.getElem?_toArray, List.getElem?_cons_zero, List.getElem?_cons_succ] at ho
    cases ho
    refine .inl ⟨by decide, fun M => stepA rfl (fun li ac wx H hn hed hM K hk => ?_)⟩
    have e163 : ac.tmps[163]?.getD undef = .bool true := slot_at (H.known 3 _ rfl (hed ⟨3, .data⟩ (by simp) rfl) 163 rfl)
    have e164 : ac.tmps[164]?.getD undef = .bool true := slot_at (H.known 4 _ rfl (hed ⟨4, .data⟩ (by simp) rfl) 164 rfl)
    clear hed H
    go_simp
    exact hk _ hM
   ·simp only [List.getElem?_toArray, List.getElem?_cons_zero, List.getElem?_cons_succ] at ho
    cases ho
    refine .inl ⟨by decide, fun M => stepA rfl (fun li ac wx H hn hed hM K hk => ?_)⟩
    have e165 : ac.tmps[165]?.getD undef = .bool true := slot_at (H.known 5 _ rfl (hed ⟨5, .data⟩ (by simp) rfl) 165 rfl)
    clear hed H
    go_simp
    exact hk _ hM
   ·simp only [List.getElem?_toArray, List.getElem?_cons_zero, List.getElem?_cons_succ] at ho
    cases ho
    refine .inl ⟨by decide, fun M => stepAG (j := 6) rfl rfl rfl rfl (by simp) (fun li ac wx H hn hed hM K hk => ?_)⟩
    have e3 : ac.tmps[3]?.getD undef = .pointer (some ⟨g0, 0, none⟩) := slot_at ((H.frm.slot (by decide)).trans f3)
    clear hed H
    go_simp
    exact hk _ hM
   ·simp only [List.getElem?_toArray, List.getElem?_cons_zero, List.getElem?_cons_succ] at ho
    cases ho
    refine .inr (.inl ⟨by decide, by kernel_rfl, stepAG (j := 6) rfl rfl rfl rfl (by simp) (fun li ac wx H hn hed hM K hk => ?_)⟩)
    have e167 : ac.tmps[167]?.getD undef = .pointer (some ⟨g0, 2, none⟩) := slot_at (H.known 7 _ rfl (hed ⟨7, .data⟩ (by simp) rfl) 167 rfl)
    have hM1 : (TK w g gc g0 L r f) wx := hM
    obtain ⟨x1, x2, x3, x4, x5⟩ := HC0.out wx hM1
    clear hed H
    go_simp
    exact hk _ hM
   ·simp only [List.getElem?_toArray, List.getElem?_cons_zero, List.getElem?_cons_succ] at ho
    cases ho
    refine .inl ⟨by decide, fun M => stepAG (j := 6) rfl rfl rfl rfl (by simp) (fun li ac wx H hn hed hM K hk => ?_)⟩
    have e0 : ac.tmps[0]?.getD undef = .pointer (some ⟨g, 0, none⟩) := slot_at ((H.frm.slot (by decide)).trans f0)
    clear hed H
    go_simp
    exact hk _ hM
   ·simp only [List.getElem?_toArray, List.getElem?_cons_zero, List.getElem?_cons_succ] at ho
    cases ho
    refine .inl ⟨by decide, fun M => stepAG (j := 6) rfl rfl rfl rfl (by simp) (fun li ac wx H hn hed hM K hk => ?_)⟩
    have e169 : ac.tmps[169]?.getD undef = .pointer (some ⟨g, 0, none⟩) := slot_at (H.known 9 _ rfl (hed ⟨9, .data⟩ (by simp) rfl) 169 rfl)
    clear hed H
    go_simp
    exact hk _ hM
   ·simp only [List.getElem?_toArray, List.getElem?_cons_zero, List.getElem?_cons_succ] at ho
    cases ho
    refine .inl ⟨by decide, fun M => stepAG (j := 6) rfl rfl rfl rfl (by simp) (fun li ac wx H hn hed hM K hk => ?_)⟩
    have e170 : ac.tmps[170]?.getD undef = .pointer (some ⟨g, 0, none⟩) := slot_at (H.known 10 _ rfl (hed ⟨10, .data⟩ (by simp) rfl) 170 rfl)
    clear hed H
    go_simp
    exact hk _ hM
   ·simp only [List.getElem?_toArray, List.getElem?_cons_zero, List.getElem?_cons_succ] at ho
    cases ho
    refine .inr (.inl ⟨by decide, by kernel_rfl, stepAG (j := 6) rfl rfl rfl rfl (by simp) (fun li ac wx H hn hed hM K hk => ?_)⟩)
    have e171 : ac.tmps[171]?.getD undef = .pointer (some ⟨g, 2, none⟩) := slot_at (H.known 11 _ rfl (hed ⟨11, .data⟩ (by simp) rfl) 171 rfl)
    have hM1 : (TK w g gc g0 L r f) wx := hM
    obtain ⟨x1, x2, x3, x4, x5⟩ := HC0.out wx hM1
    clear hed H
    go_simp
    exact hk _ hM
   ·simp only [List.getElem?_toArray, List.getElem?_cons_zero, List.getElem?_cons_succ] at ho
    cases ho
    refine .inl ⟨by decide, fun M => stepAG (j := 6) rfl rfl rfl rfl (by simp) (fun li ac wx H hn hed hM K hk => ?_)⟩
    have e168 : ac.tmps[168]?.getD undef = I (cy : Int) := slot_at (H.known 8 _ rfl (hed ⟨8, .data⟩ (by simp) rfl) 168 rfl)
    have e172 : ac.tmps[172]?.getD undef = I (cyc : Int) := slot_at (H.known 12 _ rfl (hed ⟨12, .data⟩ (by simp) rfl) 172 rfl)
    have x6 := HGT.out
    clear hed H
    go_simp
    exact hk _ hM
   ·simp only [List.getElem?_toArray, List.getElem?_cons_zero, List.getElem?_cons_succ] at ho
    cases ho
    refine .inl ⟨by decide, fun M => stepA rfl (fun li ac wx H hn hed hM K hk => ?_)⟩
    have e166 : ac.tmps[166]?.getD undef = .bool true := slot_at (H.known 6 _ rfl (hed ⟨6, .data⟩ (by simp) rfl) 166 rfl)
    have e173 : ac.tmps[173]?.getD undef = .bool true := slot_at (H.known 13 _ rfl (hed ⟨13, .data⟩ (by simp) rfl) 173 rfl)
    clear hed H
    go_simp
    exact hk _ hM
   ·simp only [List.getElem?_toArray, List.getElem?_cons_zero, List.getElem?_cons_succ] at ho
    cases ho
    refine .inl ⟨by decide, fun M => stepA rfl (fun li ac wx H hn hed hM K hk => ?_)⟩
    have e174 : ac.tmps[174]?.getD undef = .bool true := slot_at (H.known 14 _ rfl (hed ⟨14, .data⟩ (by simp) rfl) 174 rfl)
    clear hed H
    go_simp
    exact hk _ hM
   ·simp only [List.getElem?_toArray, List.getElem?_cons_zero, List.getElem?_cons_succ] at ho
    cases ho
    refine .inl ⟨by decide, fun M => stepAG (j := 15) rfl rfl rfl rfl (by simp) (fun li ac wx H hn hed hM K hk => ?_)⟩
    have e0 : ac.tmps[0]?.getD undef = .pointer (some ⟨g, 0, none⟩) := slot_at ((H.frm.slot (by decide)).trans f0)
    clear hed H
    go_simp
    exact hk _ hM
   ·simp only [List.getElem?_toArray, List.getElem?_cons_zero, List.getElem?_cons_succ] at ho
    cases ho
    refine .inl ⟨by decide, fun M => stepAG (j := 15) rfl rfl rfl rfl (by simp) (fun li ac wx H hn hed hM K hk => ?_)⟩
    have e176 : ac.tmps[176]?.getD undef = .pointer (some ⟨g, 0, none⟩) := slot_at (H.known 16 _ rfl (hed ⟨16, .data⟩ (by simp) rfl) 176 rfl)
    clear hed H
    go_simp
    exact hk _ hM
   ·simp only [List.getElem?_toArray, List.getElem?_cons_zero, List.getElem?_cons_succ] at ho
    cases ho
    refine .inl ⟨by decide, fun M => stepAG (j := 15) rfl rfl rfl rfl (by simp) (fun li ac wx H hn hed hM K hk => ?_)⟩
    have e177 : ac.tmps[177]?.getD undef = .pointer (some ⟨g, 0, none⟩) := slot_at (H.known 17 _ rfl (hed ⟨17, .data⟩ (by simp) rfl) 177 rfl)
    clear hed H
    go_simp
    exact hk _ hM
   ·simp only [List.getElem?_toArray, List.getElem?_cons_zero, List.getElem?_cons_succ] at ho
    cases ho
    refine .inr (.inl ⟨by decide, by kernel_rfl, stepAG (j := 15) rfl rfl rfl rfl (by simp) (fun li ac wx H hn hed hM K hk => ?_)⟩)
    have e178 : ac.tmps[178]?.getD undef = .pointer (some ⟨g, 1, none⟩) := slot_at (H.known 18 _ rfl (hed ⟨18, .data⟩ (by simp) rfl) 178 rfl)
    have hM1 : (TK w g gc g0 L r f) wx := hM
    obtain ⟨x1, x2, x3, x4, x5⟩ := HC0.out wx hM1
    clear hed H
    go_simp
    exact hk _ hM
   ·simp only [List.getElem?_toArray, List.getElem?_cons_zero, List.getElem?_cons_succ] at ho
    cases ho
    refine .inl ⟨by decide, fun M => stepAG (j := 15) rfl rfl rfl rfl (by simp) (fun li ac wx H hn hed hM K hk => ?_)⟩
    have e3 : ac.tmps[3]?.getD undef = .pointer (some ⟨g0, 0, none⟩) := slot_at ((H.frm.slot (by decide)).trans f3)
    clear hed H
    go_simp
    exact hk _ hM
   ·simp only [List.getElem?_toArray, List.getElem?_cons_zero, List.getElem?_cons_succ] at ho
    cases ho
    refine .inr (.inl ⟨by decide, by kernel_rfl, stepAG (j := 15) rfl rfl rfl rfl (by simp) (fun li ac wx H hn hed hM K hk => ?_)⟩)
    have e180 : ac.tmps[180]?.getD undef = .pointer (some ⟨g0, 6, none⟩) := slot_at (H.known 20 _ rfl (hed ⟨20, .data⟩ (by simp) rfl) 180 rfl)
    have hM1 : (TK w g gc g0 L r f) wx := hM
    clear hed H
    obtain ⟨x1, x2, x3, x4, x5⟩ := HC0.out wx hM1
    refine wp_load_mid 100 (.tmp 180) rfl g0 6 (eval_at e180) (stL s) _ x5 Tryz.underlying100 rfl HI1.out ?_
    exact hk _ hM
   ·simp only [List.getElem?_toArray, List.getElem?_cons_zero, List.getElem?_cons_succ] at ho
    cases ho
    refine .inr (.inl ⟨by decide, by kernel_rfl, stepAG (j := 15) rfl rfl rfl rfl (by simp) (fun li ac wx H hn hed hM K hk => ?_)⟩)
    have e179 : ac.tmps[179]?.getD undef = .pointer (some ⟨gc, 0, none⟩) := slot_at (H.known 19 _ rfl (hed ⟨19, .data⟩ (by simp) rfl) 179 rfl)
    have e181 : ac.tmps[181]?.getD undef = .agg (stC s) := slot_at (H.known 21 _ rfl (hed ⟨21, .data⟩ (by simp) rfl) 181 rfl)
    have hM1 : (TK w g gc g0 L r f) wx := hM
    clear hed H
    go_simp
    refine (HRI.out _ hM1).mono ?_
    rintro e w' ⟨rfl, hb⟩
    exact hk _ (hM1.after hb)
   ·simp only [List.getElem?_toArray, List.getElem?_cons_zero, List.getElem?_cons_succ] at ho
    cases ho
    refine .inl ⟨by decide, fun M => stepA rfl (fun li ac wx H hn hed hM K hk => ?_)⟩
    have e175 : ac.tmps[175]?.getD undef = .bool true := slot_at (H.known 15 _ rfl (hed ⟨15, .data⟩ (by simp) rfl) 175 rfl)
    have e182 : ac.tmps[182]?.getD undef = .bool true := slot_at (H.known 22 _ rfl (hed ⟨22, .data⟩ (by simp) rfl) 182 rfl)
    clear hed H
    go_simp
    exact hk _ hM
   ·simp only [List.getElem?_toArray, List.getElem?_cons_zero, List.getElem?_cons_succ] at ho
    cases ho
    refine .inl ⟨by decide, fun M => stepA rfl (fun li ac wx H hn hed hM K hk => ?_)⟩
    have e183 : ac.tmps[183]?.getD undef = .bool true := slot_at (H.known 23 _ rfl (hed ⟨23, .data⟩ (by simp) rfl) 183 rfl)
    clear hed H
    go_simp
    exact hk _ hM
  ·intro ac wx hF hK hM0
   have hM : (TK w g gc g0 L r f) wx := hM0
   have E159 := hK 24 _ rfl 159 rfl
   have hMet := hF.meet
   simp only [List.foldl_cons, List.foldl_nil, List.setIfInBounds_toArray, List.set_cons_succ, List.set_cons_zero, E159] at hMet
   refine HK0.out _ _ (Met.intro (hJ0 _ _ ?_))
   (repeat apply Exists.intro)
   exact ⟨⟨rfl, hM⟩, hMet⟩
 case rest =>
  obtain ⟨rfl, hT3⟩ := hcut
  have HT3 := Lib.hid hT3
  clear hT3 HC0 HT2 HRI HGT
  go_upto_region 14 with fail
  obtain ⟨x, hx⟩ : ∃ x : Nat × St × Bool, (cy, s, true) = x := ⟨_, rfl⟩
  obtain ⟨q1, hq1⟩ : ∃ q1 : Re, q1 = { r with told := r.told.set fr x } := ⟨_, rfl⟩
  have hx19 : (knL x).length = 19 := by rw [← hx]; exact knL_length hs17
  have hnt := hf.out.ntold
  have HSS : Hid (∀ wx, TK w g gc g0 L r f wx → TK w g gc g0 L q1 f (wx.setCells g (34 + fr * 19) (knL x))) := Lib.hid (fun wx hw => hw.sets _ _ (by rw [hq1]; exact reF_set_told r gc fr x h3 hnt hx19))
  have HTH : Hid (wc.drew.there g (34 + fr * 19) (knL x).toArray.size) := Lib.hid (HT3.out.1.has.thereF _ _ (by rw [List.size_toArray, hx19]; omega))
  have HKI : Hid ((Tryz.prog.info? 105).map (·.size) = some (knL x).toArray.size) := Lib.hid (by rw [List.size_toArray, hx19]; exact infoKnown)
  obtain ⟨v0, v1, v2, v3, v4, v5, v6, v7, v8, v9, v10, v11, v12, v13, v14, v15, v16, hv⟩ := list17v (stL s) hs17
  have HXV : Hid ((knL x).toArray = #[I (cy : Int), v0, v1, v2, v3, v4, v5, v6, v7, v8, v9, v10, v11, v12, v13, v14, v15, v16, .bool true]) := Lib.hid (by rw [← hx]; unfold knL; rw [hv]; rfl)
  have hc0 := HFC.out _ _ HT3.out.2.2.1
  obtain ⟨-, c1, c2, -, -⟩ := hc0
  have hl0 := HT3.out.2.2.1.lt
  have hl1 := HT3.out.1.has.lt
  have hld := run_loadAt_mid (P := Tryz.prog) wc.drew g0 6 100 (stL s) _ (fr_state hin.out wc.drew g0 HT3.out.2.2.1) Tryz.underlying100 rfl HI1.out
  rw [hv] at hld
  have hk0 : (0 : Int) ≤ (fr : Int) := by omega
  have hk1 : (fr : Int) < 3 := by omega
  have HV := Lib.hid hv
  have HX := Lib.hid hx
  have HQ1 := Lib.hid hq1
  have HX19 := Lib.hid hx19
  have HS17 := Lib.hid hs17
  clear hx hq1 hx19 hv hs17 hnt
  go_still_tail 11, (by kernel_rfl)
  refine wpStill_load_mid rfl 100 (.tmp 189) rfl g0 6 rfl _ hld ?_
  repeat still_step
  refine wpStill_nil ?_
  change wpList _ _ _ _ _ wc.drew
  clear hld c1 c2
  refine wpList_store_mid rfl 105 (.tmp 194) (.tmp 191) rfl g (34 + fr * 19) (knL x).toArray rfl (congrArg Value.agg HXV.out.symm) HTH.out HKI.out (knL_one x) ?_
  change wpList _ _ _ _ _ (wc.drew.setCells g (34 + fr * 19) (knL x))
  have HT4 : Hid (TK w g gc g0 L q1 f (wc.drew.setCells g (34 + fr * 19) (knL x))) := Lib.hid (HSS.out _ HT3.out.drew)
  clear HT3 HSS HTH hl0 hl1
  generalize wc.drew.setCells g (34 + fr * 19) (knL x) = w4 at *
  have HTO : Hid (∀ k, (q1.told.getD k kn0).2.1.Fits 2000 ∧ (q1.told.getD k kn0).1 ≤ 2000000 ∧ (knL (q1.told.getD k kn0)).length = 19) := Lib.hid (fun k => by
   have e : q1.told = r.told.set fr x := by rw [HQ1.out]
   have hcase : (q1.told.getD k kn0).2.1.Fits 2000 ∧ (q1.told.getD k kn0).1 ≤ 2000000 := by
    rw [e, getD_set _ _ _ _ _ (by rw [hf.out.ntold]; exact h3)]
    split
    ·rw [← HX.out]; exact ⟨HSF.out.mono (by decide), by show cy ≤ _; omega⟩
    ·exact hf.out.told k
   exact ⟨hcase.1, hcase.2, knL_length (stL_length hcase.1.used8 hcase.1.idle8)⟩)
  have HT57 : Hid (∀ wx, RepAt wx g gc L q1 → wx.rangeAt g 34 (Told57 q1.told)) := Lib.hid (fun wx hx => told_range hx (fun k => (HTO.out k).2.2))
  have H57 : Hid ((Tryz.prog.info? 106).map (·.size) = some (Told57 q1.told).length) := Lib.hid (by rw [told57_length (fun k => (HTO.out k).2.2)]; exact info57)
  have HIX : Hid (∀ k : Nat, k < 3 → ∀ wx, (Instr.index 106 (.agg (Told57 q1.told).toArray) (I (k : Int))).run Tryz.prog wx = .ok (.agg (knL (q1.told.getD k kn0)).toArray) wx) := Lib.hid (fun k hk wx => ix_told (fun k => (HTO.out k).2.2) hk wx)
  go_upto_region 16 with (refine wpList_load_mid rfl 106 (.tmp 197) rfl g 34 rfl (Told57 q1.told) _ (HT57.out _ HT4.out.1) Tryz.underlying106 rfl H57.out ?_)
  generalize (Told57 q1.told).toArray = TA at *
  clear HT57 H57
  have HE : Hid (reTake L r f = (if toldAlike q1.told fr then goes { q1 with state := s } cy else q1, [])) := Lib.hid (by
   have h := take_known L hin.out h3 hne hcc hr
   rw [HX.out] at h
   rw [HQ1.out]
   exact h)
  have HXF : Hid (q1.told.getD fr kn0 = x) := Lib.hid (by
   have e : q1.told = r.told.set fr x := by rw [HQ1.out]
   rw [e, getD_set _ _ _ _ _ (by rw [hf.out.ntold]; exact h3), if_pos rfl])
  have HXC : Hid (∀ wx, TK w g gc g0 L q1 f wx → wx.cell? ⟨g0, 1, none⟩ = some (I (fr : Int)) ∧ wx.cell? ⟨g0, 2, none⟩ = some (I (cy : Int)) ∧ wx.rangeAt g (34 + fr * 19) (knL x) ∧ g0 < wx.heap.size ∧ g < wx.heap.size) := Lib.hid (fun wx hx => by
   obtain ⟨a0, a1, a2, a3, a4⟩ := HFC.out _ _ hx.2.2.1
   refine ⟨a1, a2, ?_, hx.2.2.1.lt, hx.1.has.lt⟩
   exact hx.1.has.rangeF _ _ fun j v hv => by
    have hj : j < 19 := by rw [← HX19.out]; exact (List.getElem?_eq_some_iff.1 hv).1
    refine ⟨by omega, ?_⟩
    rw [reF_told h3 hj, HXF.out, List.getD_eq_getElem?_getD, hv]
    rfl)
  have HKI2 : Hid ((Tryz.prog.info? 105).map (·.size) = some (knL x).length) := Lib.hid (by rw [HX19.out]; exact infoKnown)
  have HXN : Hid (x.2.1.Fits 2000 ∧ x.1 ≤ 2000000) := Lib.hid (by rw [← HXF.out]; exact ⟨(HTO.out fr).1, (HTO.out fr).2.1⟩)
  go_wp2_with fail
  go_loopw [199] (fun i wx => ∃ k : Nat, k ≤ 3 ∧ i = I k ∧ Hid (∀ j, j < k → (decide (j ≠ fr) && same2 (q1.told.getD j kn0) x) = false) ∧ Hid (TK w g gc g0 L q1 f wx)) (fun i _ => 3 - (intOf i).toNat)
  case atStart => exact ⟨0, by omega, rfl, Lib.hid (fun j hj => absurd hj (by omega)), HT4⟩
  case round =>
   clear HT4
   obtain ⟨k, hk, rfl, HN, HR⟩ := hrel
   by_cases hlt : k < 3
   ·have hki : (k : Int) < 3 := by omega
    have hixr := HIX.out k hlt wr
    obtain ⟨x2, hx2⟩ : ∃ x2, q1.told.getD k kn0 = x2 := ⟨_, rfl⟩
    rw [hx2] at hixr
    have hto := HTO.out k
    rw [hx2] at hto
    have HX2N : Hid (x2.2.1.Fits 2000 ∧ x2.1 ≤ 2000000) := Lib.hid ⟨hto.1, hto.2.1⟩
    have HKI3 : Hid ((Tryz.prog.info? 105).map (·.size) = some (knL x2).toArray.size) := Lib.hid (by rw [List.size_toArray, hto.2.2]; exact infoKnown)
    have HX2 := Lib.hid hx2
    have hb0 : Below wr.heap.size wr (wr.alloc (.cells #[I 0, I 0, I 0, I 0, I 0, I 0, I 0, I 0, I 0, I 0, I 0, I 0, I 0, I 0, I 0, I 0, I 0, I 0, .bool false] 105)) := (Below.refl _ _).alloc (Nat.le_refl _) _
    have k0 : Has (wr.alloc (.cells #[I 0, I 0, I 0, I 0, I 0, I 0, I 0, I 0, I 0, I 0, I 0, I 0, I 0, I 0, I 0, I 0, I 0, I 0, .bool false] 105)) wr.heap.size 105 #[I 0, I 0, I 0, I 0, I 0, I 0, I 0, I 0, I 0, I 0, I 0, I 0, I 0, I 0, I 0, I 0, I 0, I 0, .bool false] := Has.new wr _ _
    have HKZ : Hid ((#[I 0, I 0, I 0, I 0, I 0, I 0, I 0, I 0, I 0, I 0, I 0, I 0, I 0, I 0, I 0, I 0, I 0, I 0, .bool false] : Array Value).size = (knL x2).toArray.size) := Lib.hid (by rw [List.size_toArray, List.size_toArray, hto.2.2]; rfl)
    have HTA : Hid (TK w g gc g0 L q1 f ((wr.alloc (.cells #[I 0, I 0, I 0, I 0, I 0, I 0, I 0, I 0, I 0, I 0, I 0, I 0, I 0, I 0, I 0, I 0, I 0, I 0, .bool false] 105)).setRow wr.heap.size (knL x2).toArray)) := Lib.hid (HR.out.after (below_setRow hb0 (Nat.le_refl _) _))
    have K0 := Lib.hid k0
    have K7 := Lib.hid (k0.setRow (knL x2).toArray)
    clear hto hx2 hb0 k0 HR
    go_upto_region 18 with (refine wpList_store_row rfl 105 (.tmp 7) (.tmp 202) rfl wr.heap.size (knL x2).toArray rfl rfl 105 _ K0.out HKI3.out HKZ.out (knL_one x2) ?_)
    clear hixr K0
    generalize (wr.alloc (.cells #[I 0, I 0, I 0, I 0, I 0, I 0, I 0, I 0, I 0, I 0, I 0, I 0, I 0, I 0, I 0, I 0, I 0, I 0, .bool false] 105)).setRow wr.heap.size (knL x2).toArray = wa at *
    generalize wr.heap.size = g7 at *
    clear HKZ
    rw [put_none]
    by_cases hkf : k = fr
    ·have HKF : Hid (((k : Int) != (fr : Int)) = false) := Lib.hid (by simp; omega)
     have HNX : Hid (∀ j, j < k + 1 → (decide (j ≠ fr) && same2 (q1.told.getD j kn0) x) = false) := Lib.hid (fun j hj => by
      by_cases e : j = k
      ·rw [e, hkf]; simp
      ·exact HN.out j (by omega))
     clear hkf
     go_cut [217] (fun s217 wx => s217 = .bool false ∧ (fun wx => TK w g gc g0 L q1 f wx ∧ Has wx g7 105 (knL x2).toArray) wx)
     case first =>
      rename_i J0 K0 hJ0 hK0
      have HK0 := Lib.hid hK0
      clear hK0
      refine region_all (by kernel_rfl) (fun b0 => b0.tmps.getD 0 undef = .pointer (some ⟨g, 0, none⟩) ∧ b0.tmps.getD 3 undef = .pointer (some ⟨g0, 0, none⟩) ∧ b0.tmps.getD 6 undef = I (k : Int) ∧ b0.tmps.getD 7 undef = .pointer (some ⟨g7, 0, none⟩)) ⟨rfl, rfl, rfl, rfl⟩ 228 rfl (fun i => ([I (k : Int), .pointer (some ⟨g0, 1, none⟩), I (fr : Int), .bool false, .bool false, undef, undef, undef, undef, undef, undef, undef, undef, undef, .bool false] : List Value).getD i undef) [] (by kernel_rfl) (fun j => ([(fun wx => TK w g gc g0 L q1 f wx ∧ Has wx g7 105 (knL x2).toArray)] : List (World → Prop)).getD j (fun _ => True)) [203, 204, 205, 206, 207, 208, 209, 210, 211, 212, 213, 214, 215, 216, 217] (by kernel_rfl) (by kernel_rfl) ⟨HTA.out.drew, K7.out.drew⟩ ?_ ?_
      ·intro b0 hb0 i o ho
       have hi : i < 15 := (Array.getElem?_eq_some_iff.1 ho).1
       obtain ⟨f0, f3, f6, f7⟩ := hb0
       have hcase : i = 0 ∨ i = 1 ∨ i = 2 ∨ i = 3 ∨ i = 4 ∨ i = 5 ∨ i = 6 ∨ i = 7 ∨ i = 8 ∨ i = 9 ∨ i = 10 ∨ i = 11 ∨ i = 12 ∨ i = 13 ∨ i = 14 := by omega
       clear hi
       rcases hcase with rfl | rfl | rfl | rfl | rfl | rfl | rfl | rfl | rfl | rfl | rfl | rfl | rfl | rfl | rfl
       ·simp only [List.getElem?_toArray, List.getElem?_cons_zero] at ho
        cases ho
        refine .inl ⟨by decide, fun M => stepA rfl (fun li ac wx H hn hed hM K hk => ?_)⟩
        have e6 : ac.tmps[6]?.getD undef = I (k : Int) := slot_at ((H.frm.slot (by decide)).trans f6)
        clear hed H
        go_simp
        exact hk _ hM
       ·simp only [List.getElem?_toArray, List.getElem?_cons_zero, List.getElem?_cons_succ] at ho
        cases ho
        refine .inl ⟨by decide, fun M => stepA rfl (fun li ac wx H hn hed hM K hk => ?_)⟩
        have e3 : ac.tmps[3]?.getD undef = .pointer (some ⟨g0, 0, none⟩) := slot_at ((H.frm.slot (by decide)).trans f3)
        clear hed H
        go_simp
        exact hk _ hM
       ·simp only [List.getElem?_toArray, List.getElem?_cons_zero, List.getElem?_cons_succ] at ho
        cases ho
        refine .inr (.inl ⟨by decide, by kernel_rfl, stepA rfl (fun li ac wx H hn hed hM K hk => ?_)⟩)
        have e204 : ac.tmps[204]?.getD undef = .pointer (some ⟨g0, 1, none⟩) := slot_at (H.known 1 _ rfl (hed ⟨1, .data⟩ (by simp) rfl) 204 rfl)
        have hM1 : (fun wx => TK w g gc g0 L q1 f wx ∧ Has wx g7 105 (knL x2).toArray) wx := hM
        obtain ⟨y1, y2, y3, y4, y5⟩ := HXC.out wx hM1.1
        clear hed H
        go_simp
        exact hk _ hM
       ·simp only [List.getElem?_toArray, List.getElem?_cons_zero, List.getElem?_cons_succ] at ho
        cases ho
        refine .inl ⟨by decide, fun M => stepA rfl (fun li ac wx H hn hed hM K hk => ?_)⟩
        have e203 : ac.tmps[203]?.getD undef = I (k : Int) := slot_at (H.known 0 _ rfl (hed ⟨0, .data⟩ (by simp) rfl) 203 rfl)
        have e205 : ac.tmps[205]?.getD undef = I (fr : Int) := slot_at (H.known 2 _ rfl (hed ⟨2, .data⟩ (by simp) rfl) 205 rfl)
        have x6 := HKF.out
        clear hed H
        go_simp
        exact hk _ hM
       ·simp only [List.getElem?_toArray, List.getElem?_cons_zero, List.getElem?_cons_succ] at ho
        cases ho
        refine .inl ⟨by decide, fun M => stepA rfl (fun li ac wx H hn hed hM K hk => ?_)⟩
        have e206 : ac.tmps[206]?.getD undef = .bool false := slot_at (H.known 3 _ rfl (hed ⟨3, .data⟩ (by simp) rfl) 206 rfl)
        clear hed H
        go_simp
        exact hk _ hM
       ·simp only [List.getElem?_toArray, List.getElem?_cons_zero, List.getElem?_cons_succ] at ho
        cases ho
        exact .inl ⟨by decide, fun M => stepAN (j := 4) rfl rfl rfl rfl (by simp) rfl (fun _ h => h)⟩
       ·simp only [List.getElem?_toArray, List.getElem?_cons_zero, List.getElem?_cons_succ] at ho
        cases ho
        exact .inl ⟨by decide, fun M => stepAN (j := 4) rfl rfl rfl rfl (by simp) rfl (fun _ h => h)⟩
       ·simp only [List.getElem?_toArray, List.getElem?_cons_zero, List.getElem?_cons_succ] at ho
        cases ho
        exact .inl ⟨by decide, fun M => stepAN (j := 4) rfl rfl rfl rfl (by simp) rfl (fun _ h => h)⟩
       ·simp only [List.getElem?_toArray, List.getElem?_cons_zero, List.getElem?_cons_succ] at ho
        cases ho
        exact .inl ⟨by decide, fun M => stepAN (j := 4) rfl rfl rfl rfl (by simp) rfl (fun _ h => h)⟩
       ·simp only [List.getElem?_toArray, List.getElem?_cons_zero, List.getElem?_cons_succ] at ho
        cases ho
        exact .inl ⟨by decide, fun M => stepAN (j := 4) rfl rfl rfl rfl (by simp) rfl (fun _ h => h)⟩
       ·simp only [List.getElem?_toArray, List.getElem?_cons_zero, List.getElem?_cons_succ] at ho
        cases ho
        exact .inl ⟨by decide, fun M => stepAN (j := 4) rfl rfl rfl rfl (by simp) rfl (fun _ h => h)⟩
       ·simp only [List.getElem?_toArray, List.getElem?_cons_zero, List.getElem?_cons_succ] at ho
        cases ho
        exact .inl ⟨by decide, fun M => stepAN (j := 4) rfl rfl rfl rfl (by simp) rfl (fun _ h => h)⟩
       ·simp only [List.getElem?_toArray, List.getElem?_cons_zero, List.getElem?_cons_succ] at ho
        cases ho
        exact .inl ⟨by decide, fun M => stepAN (j := 4) rfl rfl rfl rfl (by simp) rfl (fun _ h => h)⟩
       ·simp only [List.getElem?_toArray, List.getElem?_cons_zero, List.getElem?_cons_succ] at ho
        cases ho
        exact .inl ⟨by decide, fun M => stepAN (j := 4) rfl rfl rfl rfl (by simp) rfl (fun _ h => h)⟩
       ·simp only [List.getElem?_toArray, List.getElem?_cons_zero, List.getElem?_cons_succ] at ho
        cases ho
        refine .inl ⟨by decide, fun M => stepA rfl (fun li ac wx H hn hed hM K hk => ?_)⟩
        have e207 : ac.tmps[207]?.getD undef = .bool false := slot_at (H.known 4 _ rfl (hed ⟨4, .data⟩ (by simp) rfl) 207 rfl)
        have e216 : ac.tmps[216]?.getD undef = undef := slot_at (H.known 13 _ rfl (hed ⟨13, .data⟩ (by simp) rfl) 216 rfl)
        clear hed H
        go_simp
        exact hk _ hM
      ·intro ac wx hF hK hM0
       have hM : (fun wx => TK w g gc g0 L q1 f wx ∧ Has wx g7 105 (knL x2).toArray) wx := hM0
       have E217 := hK 14 _ rfl 217 rfl
       have hMet := hF.meet
       simp only [List.foldl_cons, List.foldl_nil, List.setIfInBounds_toArray, List.set_cons_succ, List.set_cons_zero, E217] at hMet
       refine HK0.out _ _ (Met.intro (hJ0 _ _ ?_))
       (repeat apply Exists.intro)
       exact ⟨⟨rfl, hM⟩, hMet⟩
     case rest =>
      obtain ⟨rfl, hTA⟩ := hcut
      have HTB := Lib.hid hTA.1
      clear hTA HTA K7
      go_wp2_with fail
      go_roundw
      case rel => exact ⟨k + 1, by omega, by go_num, HNX, HTB⟩
      case measure => simp [intOf]; omega
    ·have HKF : Hid (((k : Int) != (fr : Int)) = true) := Lib.hid (by simp; omega)
     obtain ⟨sm, hsm⟩ : ∃ sm, same2 x2 x = sm := ⟨_, rfl⟩
     have HSM := Lib.hid hsm
     have HKN := Lib.hid hkf
     clear hsm hkf
     go_cut [217] (fun s217 wx => s217 = .bool sm ∧ (fun wx => TK w g gc g0 L q1 f wx ∧ Has wx g7 105 (knL x2).toArray) wx)
     case first =>
      rename_i J0 K0 hJ0 hK0
      have HK0 := Lib.hid hK0
      clear hK0
      refine region_all (by kernel_rfl) (fun b0 => b0.tmps.getD 0 undef = .pointer (some ⟨g, 0, none⟩) ∧ b0.tmps.getD 3 undef = .pointer (some ⟨g0, 0, none⟩) ∧ b0.tmps.getD 6 undef = I (k : Int) ∧ b0.tmps.getD 7 undef = .pointer (some ⟨g7, 0, none⟩)) ⟨rfl, rfl, rfl, rfl⟩ 228 rfl (fun i => ([I (k : Int), .pointer (some ⟨g0, 1, none⟩), I (fr : Int), .bool true, .bool true, .agg (knL x2).toArray, .pointer (some ⟨g, 0, none⟩), .pointer (some ⟨g0, 1, none⟩), I (fr : Int), .pointer (some ⟨g, 0, none⟩), .pointer (some ⟨g, 34, none⟩), .pointer (some ⟨g, 34 + fr * 19, none⟩), .agg (knL x).toArray, .bool sm, .bool sm] : List Value).getD i undef) [] (by kernel_rfl) (fun j => ([(fun wx => TK w g gc g0 L q1 f wx ∧ Has wx g7 105 (knL x2).toArray)] : List (World → Prop)).getD j (fun _ => True)) [203, 204, 205, 206, 207, 208, 209, 210, 211, 212, 213, 214, 215, 216, 217] (by kernel_rfl) (by kernel_rfl) ⟨HTA.out.drew, K7.out.drew⟩ ?_ ?_
      ·intro b0 hb0 i o ho
       have hi : i < 15 := (Array.getElem?_eq_some_iff.1 ho).1
       obtain ⟨f0, f3, f6, f7⟩ := hb0
       have hcase : i = 0 ∨ i = 1 ∨ i = 2 ∨ i = 3 ∨ i = 4 ∨ i = 5 ∨ i = 6 ∨ i = 7 ∨ i = 8 ∨ i = 9 ∨ i = 10 ∨ i = 11 ∨ i = 12 ∨ i = 13 ∨ i = 14 := by omega
       clear hi
       rcases hcase with rfl | rfl | rfl | rfl | rfl | rfl | rfl | rfl | rfl | rfl | rfl | rfl | rfl | rfl | rfl
       ·simp only [List.getElem?_toArray, List.getElem?_cons_zero] at ho
        cases ho
        refine .inl ⟨by decide, fun M => stepA rfl (fun li ac wx H hn hed hM K hk => ?_)⟩
        have e6 : ac.tmps[6]?.getD undef = I (k : Int) := slot_at ((H.frm.slot (by decide)).trans f6)
        clear hed H
        go_simp
        exact hk _ hM
       ·simp only [List.getElem?_toArray, List.getElem?_cons_zero, List.getElem?_cons_succ] at ho
        cases ho
        refine .inl ⟨by decide, fun M => stepA rfl (fun li ac wx H hn hed hM K hk => ?_)⟩
        have e3 : ac.tmps[3]?.getD undef = .pointer (some ⟨g0, 0, none⟩) := slot_at ((H.frm.slot (by decide)).trans f3)
        clear hed H
        go_simp
        exact hk _ hM
       ·simp only [List.getElem?_toArray, List.getElem?_cons_zero, List.getElem?_cons_succ] at ho
        cases ho
        refine .inr (.inl ⟨by decide, by kernel_rfl, stepA rfl (fun li ac wx H hn hed hM K hk => ?_)⟩)
        have e204 : ac.tmps[204]?.getD undef = .pointer (some ⟨g0, 1, none⟩) := slot_at (H.known 1 _ rfl (hed ⟨1, .data⟩ (by simp) rfl) 204 rfl)
        have hM1 : (fun wx => TK w g gc g0 L q1 f wx ∧ Has wx g7 105 (knL x2).toArray) wx := hM
        obtain ⟨y1, y2, y3, y4, y5⟩ := HXC.out wx hM1.1
        clear hed H
        go_simp
        exact hk _ hM
       ·simp only [List.getElem?_toArray, List.getElem?_cons_zero, List.getElem?_cons_succ] at ho
        cases ho
        refine .inl ⟨by decide, fun M => stepA rfl (fun li ac wx H hn hed hM K hk => ?_)⟩
        have e203 : ac.tmps[203]?.getD undef = I (k : Int) := slot_at (H.known 0 _ rfl (hed ⟨0, .data⟩ (by simp) rfl) 203 rfl)
        have e205 : ac.tmps[205]?.getD undef = I (fr : Int) := slot_at (H.known 2 _ rfl (hed ⟨2, .data⟩ (by simp) rfl) 205 rfl)
        have x6 := HKF.out
        clear hed H
        go_simp
        exact hk _ hM
       ·simp only [List.getElem?_toArray, List.getElem?_cons_zero, List.getElem?_cons_succ] at ho
        cases ho
        refine .inl ⟨by decide, fun M => stepA rfl (fun li ac wx H hn hed hM K hk => ?_)⟩
        have e206 : ac.tmps[206]?.getD undef = .bool true := slot_at (H.known 3 _ rfl (hed ⟨3, .data⟩ (by simp) rfl) 206 rfl)
        clear hed H
        go_simp
        exact hk _ hM
       ·simp only [List.getElem?_toArray, List.getElem?_cons_zero, List.getElem?_cons_succ] at ho
        cases ho
        refine .inr (.inl ⟨by decide, by kernel_rfl, stepAG (j := 4) rfl rfl rfl rfl (by simp) (fun li ac wx H hn hed hM K hk => ?_)⟩)
        have e7 : ac.tmps[7]?.getD undef = .pointer (some ⟨g7, 0, none⟩) := slot_at ((H.frm.slot (by decide)).trans f7)
        have hM1 : (fun wx => TK w g gc g0 L q1 f wx ∧ Has wx g7 105 (knL x2).toArray) wx := hM
        clear hed H
        refine wp_load_row 105 (.tmp 7) rfl g7 (eval_at e7) 105 (knL x2).toArray (0, 0) _ hM1.2 Tryz.underlying105 rfl HKI3.out ?_
        exact hk _ hM
       ·simp only [List.getElem?_toArray, List.getElem?_cons_zero, List.getElem?_cons_succ] at ho
        cases ho
        refine .inl ⟨by decide, fun M => stepAG (j := 4) rfl rfl rfl rfl (by simp) (fun li ac wx H hn hed hM K hk => ?_)⟩
        have e0 : ac.tmps[0]?.getD undef = .pointer (some ⟨g, 0, none⟩) := slot_at ((H.frm.slot (by decide)).trans f0)
        clear hed H
        go_simp
        exact hk _ hM
       ·simp only [List.getElem?_toArray, List.getElem?_cons_zero, List.getElem?_cons_succ] at ho
        cases ho
        refine .inl ⟨by decide, fun M => stepAG (j := 4) rfl rfl rfl rfl (by simp) (fun li ac wx H hn hed hM K hk => ?_)⟩
        have e3 : ac.tmps[3]?.getD undef = .pointer (some ⟨g0, 0, none⟩) := slot_at ((H.frm.slot (by decide)).trans f3)
        clear hed H
        go_simp
        exact hk _ hM
       ·simp only [List.getElem?_toArray, List.getElem?_cons_zero, List.getElem?_cons_succ] at ho
        cases ho
        refine .inr (.inl ⟨by decide, by kernel_rfl, stepAG (j := 4) rfl rfl rfl rfl (by simp) (fun li ac wx H hn hed hM K hk => ?_)⟩)
        have e210 : ac.tmps[210]?.getD undef = .pointer (some ⟨g0, 1, none⟩) := slot_at (H.known 7 _ rfl (hed ⟨7, .data⟩ (by simp) rfl) 210 rfl)
        have hM1 : (fun wx => TK w g gc g0 L q1 f wx ∧ Has wx g7 105 (knL x2).toArray) wx := hM
        obtain ⟨y1, y2, y3, y4, y5⟩ := HXC.out wx hM1.1
        clear hed H
        go_simp
        exact hk _ hM
       ·simp only [List.getElem?_toArray, List.getElem?_cons_zero, List.getElem?_cons_succ] at ho
        cases ho
        refine .inl ⟨by decide, fun M => stepAG (j := 4) rfl rfl rfl rfl (by simp) (fun li ac wx H hn hed hM K hk => ?_)⟩
        have e209 : ac.tmps[209]?.getD undef = .pointer (some ⟨g, 0, none⟩) := slot_at (H.known 6 _ rfl (hed ⟨6, .data⟩ (by simp) rfl) 209 rfl)
        clear hed H
        go_simp
        exact hk _ hM
       ·simp only [List.getElem?_toArray, List.getElem?_cons_zero, List.getElem?_cons_succ] at ho
        cases ho
        refine .inl ⟨by decide, fun M => stepAG (j := 4) rfl rfl rfl rfl (by simp) (fun li ac wx H hn hed hM K hk => ?_)⟩
        have e212 : ac.tmps[212]?.getD undef = .pointer (some ⟨g, 0, none⟩) := slot_at (H.known 9 _ rfl (hed ⟨9, .data⟩ (by simp) rfl) 212 rfl)
        clear hed H
        go_simp
        exact hk _ hM
       ·simp only [List.getElem?_toArray, List.getElem?_cons_zero, List.getElem?_cons_succ] at ho
        cases ho
        refine .inl ⟨by decide, fun M => stepAG (j := 4) rfl rfl rfl rfl (by simp) (fun li ac wx H hn hed hM K hk => ?_)⟩
        have e211 : ac.tmps[211]?.getD undef = I (fr : Int) := slot_at (H.known 8 _ rfl (hed ⟨8, .data⟩ (by simp) rfl) 211 rfl)
        have e213 : ac.tmps[213]?.getD undef = .pointer (some ⟨g, 34, none⟩) := slot_at (H.known 10 _ rfl (hed ⟨10, .data⟩ (by simp) rfl) 213 rfl)
        have hk0 : (0 : Int) ≤ (fr : Int) := by omega
        have hk1 : (fr : Int) < 3 := by omega
        clear hed H
        go_simp
        exact hk _ hM
       ·simp only [List.getElem?_toArray, List.getElem?_cons_zero, List.getElem?_cons_succ] at ho
        cases ho
        refine .inr (.inl ⟨by decide, by kernel_rfl, stepAG (j := 4) rfl rfl rfl rfl (by simp) (fun li ac wx H hn hed hM K hk => ?_)⟩)
        have e214 : ac.tmps[214]?.getD undef = .pointer (some ⟨g, 34 + fr * 19, none⟩) := slot_at (H.known 11 _ rfl (hed ⟨11, .data⟩ (by simp) rfl) 214 rfl)
        have hM1 : (fun wx => TK w g gc g0 L q1 f wx ∧ Has wx g7 105 (knL x2).toArray) wx := hM
        clear hed H
        obtain ⟨y1, y2, y3, y4, y5⟩ := HXC.out wx hM1.1
        refine wp_load_mid 105 (.tmp 214) rfl g (34 + fr * 19) (eval_at e214) (knL x) _ y3 Tryz.underlying105 rfl HKI2.out ?_
        exact hk _ hM
       ·simp only [List.getElem?_toArray, List.getElem?_cons_zero, List.getElem?_cons_succ] at ho
        cases ho
        refine .inl ⟨by decide, fun M => stepAG (j := 4) rfl rfl rfl rfl (by simp) (fun li ac wx H hn hed hM K hk => ?_)⟩
        have e208 : ac.tmps[208]?.getD undef = .agg (knL x2).toArray := slot_at (H.known 5 _ rfl (hed ⟨5, .data⟩ (by simp) rfl) 208 rfl)
        have e215 : ac.tmps[215]?.getD undef = .agg (knL x).toArray := slot_at (H.known 12 _ rfl (hed ⟨12, .data⟩ (by simp) rfl) 215 rfl)
        clear hed H
        refine wp_known _ x2 x (M := 2000) (by decide) HX2N.out.1 (by have := HX2N.out.2; omega) HXN.out.1 (by have := HXN.out.2; omega) (.tmp 208) (.tmp 215) rfl (eval_at e208) (eval_at e215) ?_
        rw [HSM.out]
        exact hk _ hM
       ·simp only [List.getElem?_toArray, List.getElem?_cons_zero, List.getElem?_cons_succ] at ho
        cases ho
        refine .inl ⟨by decide, fun M => stepA rfl (fun li ac wx H hn hed hM K hk => ?_)⟩
        have e207 : ac.tmps[207]?.getD undef = .bool true := slot_at (H.known 4 _ rfl (hed ⟨4, .data⟩ (by simp) rfl) 207 rfl)
        have e216 : ac.tmps[216]?.getD undef = .bool sm := slot_at (H.known 13 _ rfl (hed ⟨13, .data⟩ (by simp) rfl) 216 rfl)
        clear hed H
        go_simp
        exact hk _ hM
      ·intro ac wx hF hK hM0
       have hM : (fun wx => TK w g gc g0 L q1 f wx ∧ Has wx g7 105 (knL x2).toArray) wx := hM0
       have E217 := hK 14 _ rfl 217 rfl
       have hMet := hF.meet
       simp only [List.foldl_cons, List.foldl_nil, List.setIfInBounds_toArray, List.set_cons_succ, List.set_cons_zero, E217] at hMet
       refine HK0.out _ _ (Met.intro (hJ0 _ _ ?_))
       (repeat apply Exists.intro)
       exact ⟨⟨rfl, hM⟩, hMet⟩
     case rest =>
      obtain ⟨rfl, hTA⟩ := hcut
      have HTB := Lib.hid hTA.1
      clear hTA HTA K7
      cases sm with
      | false =>
       have HNX : Hid (∀ j, j < k + 1 → (decide (j ≠ fr) && same2 (q1.told.getD j kn0) x) = false) := Lib.hid (fun j hj => by
        by_cases e : j = k
        ·rw [e, HX2.out, HSM.out, Bool.and_false]
        ·exact HN.out j (by omega))
       go_wp2_with fail
       go_roundw
       case rel => exact ⟨k + 1, by omega, by go_num, HNX, HTB⟩
       case measure => simp [intOf]; omega
      | true =>
       have HAL : Hid (toldAlike q1.told fr = true) := Lib.hid (told_yes hlt HKN.out (by rw [HX2.out, HXF.out]; exact HSM.out))
       obtain ⟨q2, hq2⟩ : ∃ q2 : Re, q2 = { q1 with state := s } := ⟨_, rfl⟩
       have HE2 : Hid (reTake L r f = (goes q2 cy, [])) := Lib.hid (by rw [HE.out, HAL.out, if_pos rfl, hq2])
       have HSS : Hid (∀ wx, TK w g gc g0 L q1 f wx → TK w g gc g0 L q2 f (wx.setCells g 3 (stC s).toList)) := Lib.hid (fun wx hx => hx.sets 3 (stL s) (by rw [hq2]; exact reF_set_state q1 gc s HS17.out))
       have hth : wc.there g 3 (stC s).size := HTB.out.1.has.thereF 3 _ (by unfold stC; rw [List.size_toArray, HS17.out]; decide)
       have HTH := Lib.hid hth
       have HI2 : Hid ((Tryz.prog.info? 100).map (·.size) = some (stC s).size) := Lib.hid (by unfold stC; rw [List.size_toArray, HS17.out]; exact infoState)
       have HT5 := Lib.hid (HSS.out _ HTB.out)
       have HFS := Lib.hid (fr_state hin.out wc g0 HTB.out.2.2.1)
       obtain ⟨c1, c2, -, hl0, hl1⟩ := HXC.out _ HTB.out
       clear hth HSS hq2 c1
       go_upto_region 20 with (first
        | (refine wpList_load_mid rfl 100 (.tmp 219) rfl g0 6 rfl (stL s) _ HFS.out Tryz.underlying100 rfl HI1.out ?_)
        | (refine wpList_store_mid rfl 100 (.tmp 222) (.tmp 220) rfl g 3 (stC s) rfl rfl HTH.out HI2.out (stC_one s) ?_))
       clear c2 HTB HFS
       generalize wc.setCells g 3 (stC s).toList = w5 at *
       have c2 := (HFC.out _ _ HT5.out.2.2.1).2.2.1
       have hl0 := HT5.out.2.2.1.lt
       go_wp2_with (go_at_call 107; refine (re_goes HT5.out.1 cy).mono ?_; rintro e w8 ⟨rfl, hR8, hT8⟩)
       go_ret
       unfold TakePost
       rw [HE2.out]
       exact ⟨⟨_, rfl, .inl ⟨rfl, rfl⟩⟩, hR8, (HT5.out.turn hT8 hR8).2.1⟩
   ·have hk3 : k = 3 := by omega
    subst hk3
    have HAL : Hid (toldAlike q1.told fr = false) := Lib.hid (told_no fun j hj => by rw [HXF.out]; exact HN.out j hj)
    have HE2 : Hid (reTake L r f = (q1, [])) := Lib.hid (by rw [HE.out, HAL.out]; rfl)
    go_wp2_with fail
    go_ret
    unfold TakePost
    rw [HE2.out]
    exact ⟨⟨_, rfl, .inl ⟨rfl, rfl⟩⟩, HR.out.1, HR.out.2.1⟩
end
end Go.Proofs.YtdhekhlmdefcnabGreatDoor
