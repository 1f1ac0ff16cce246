/- Part 24 of the proof: ReTakeS, ReTakeD. -/
import Derived.Test.YtdhekhlmdefcnabGreatDoorPart23
namespace Go.Proofs.YtdhekhlmdefcnabGreatDoor
open Go.RowKit
section
variable {w : World} {g gc : Nat} {L : Lay} {r : Re} {f : List Int} {kd fr cy c d : Nat} {s : St}
set_option maxHeartbeats 20000000 in
set_option maxRecDepth 100000 in
theorem re_take_sample (h : RepAt w g gc L r) (hL : L.Ok) (T : Nat) (_hT : T ≤ 10000000000) (hf : Hid (r.Fits T)) (hin : Hid (FrIn f kd fr cy c d s)) (hk : kd = 1) (h3 : fr < 3) (hne : fr ≠ r.id) (hcc : cy = r.cycle) :
  Calls Tryz.prog 72 #[.pointer (some ⟨g, 0, none⟩), .agg (frC f)] w (TakePost w g gc L r f) := by
 have hb1 : Below w.heap.size w (w.alloc (.cells (frC f) 110)) := (Below.refl _ _).alloc (Nat.le_refl _) _
 have HT1 : Hid (TK w g gc w.heap.size L r f (w.alloc (.cells (frC f) 110))) := Lib.hid ⟨h.after hb1, Turned.of_below hb1 _, Has.new w 110 (frC f), Nat.le_refl _⟩
 have hgl := h.has.lt
 have hid3 := hf.out.id
 have hfr3 := hin.out.hfr
 have hcyB := hin.out.hcy
 obtain ⟨id, hid⟩ : ∃ id, r.id = id := ⟨_, rfl⟩
 obtain ⟨cyc, hcyc⟩ : ∃ cyc, r.cycle = cyc := ⟨_, rfl⟩
 rw [hid] at hid3
 have HID := Lib.hid hid
 have HCYC := Lib.hid hcyc
 have HFC := Lib.hid (fr_cells hin.out)
 have HRC : Hid (∀ wx, RepAt wx g gc L r → wx.cell? ⟨g, 0, none⟩ = some (I (id : Int)) ∧ wx.cell? ⟨g, 1, none⟩ = some (.pointer (some ⟨gc, 0, none⟩)) ∧ wx.cell? ⟨g, 2, none⟩ = some (I (cyc : Int)) ∧ wx.cell? ⟨g, 91, none⟩ = some (I (r.ticks : Int)) ∧ wx.cell? ⟨g, 92, none⟩ = some (I (r.ahead : Int))) := Lib.hid (fun wx hx =>
  ⟨hx.cell 0 (by decide) (by rw [reF_id, hid]), hx.cell 1 (by decide) reF_core, hx.cell 2 (by decide) (by rw [reF_cycle, hcyc]), hx.cell 91 (by decide) reF_ticks, hx.cell 92 (by decide) reF_ahead⟩)
 clear h hb1 hid hcyc
 go_enter Tryz.func72, Tryz.ntmps72
 go_upto_region 1 with fail
 generalize w.alloc (.cells (frC f) 110) = w1 at *
 generalize hG : w.heap.size = g0 at *
 have HG := Lib.hid hG
 clear hG
 obtain ⟨c0, c1, c2, c3, c4⟩ := HFC.out _ _ HT1.out.2.2.1
 obtain ⟨i0, i1, i2, i91, i92⟩ := HRC.out _ HT1.out.1
 have hl0 := HT1.out.2.2.1.lt
 have t0 : decide ((0 : Int) ≤ (fr : Int)) = true := decide_eq_true (by omega)
 have t1 : decide ((fr : Int) < 3) = true := decide_eq_true (by omega)
 have t2 : ((fr : Int) != (id : Int)) = true := by have := HID.out; simp; omega
 have t3 : ((cy : Int) == (cyc : Int)) = true := by have := HCYC.out; simp; omega
 obtain ⟨f1, f2, hff⟩ : ∃ f1 f2, fit L ((c : Int), (d : Int)) = (f1, f2) := ⟨_, _, rfl⟩
 obtain ⟨q1, hq1⟩ : ∃ q1 : Re, q1 = { r with seen := r.seen.set fr (f1, f2) } := ⟨_, rfl⟩
 obtain ⟨q2, hq2⟩ : ∃ q2 : Re, q2 = { q1 with some := q1.some.set fr true } := ⟨_, rfl⟩
 obtain ⟨q3, hq3⟩ : ∃ q3 : Re, q3 = { q2 with came := q2.came.set fr r.ticks } := ⟨_, rfl⟩
 have HE : Hid (reTake L r f = (q3, [])) := Lib.hid (by
  have hcc : cy = cyc := by have := HCYC.out; omega
  have hne' : fr ≠ id := by have := HID.out; omega
  unfold reTake
  rw [hin.out.e0, other_yes hin.out, HID.out, HCYC.out, hk, hin.out.e1, hin.out.e2, hin.out.e3, hin.out.e4, hff, hq3, hq2, hq1]
  rw [if_pos (by simp [h3, hne', hcc]), Int.toNat_natCast, ← HID.out, ← HCYC.out])
 have HC0 : Hid (∀ wx, TK w g gc g0 L r f wx → wx.cell? ⟨g, 91, none⟩ = some (I (r.ticks : Int)) ∧ wx.cell? ⟨g0, 1, none⟩ = some (I (fr : Int)) ∧ wx.cell? ⟨g0, 3, none⟩ = some (I (c : Int)) ∧ wx.cell? ⟨g0, 4, none⟩ = some (I (d : Int)) ∧ (∃ v, wx.cell? ⟨g, 22 + fr * 2, none⟩ = some v) ∧ (∃ v, wx.cell? ⟨g, 22 + fr * 2 + 1, none⟩ = some v) ∧ wx.frozen? ⟨g, 22 + fr * 2, none⟩ = false ∧ wx.frozen? ⟨g, 22 + fr * 2 + 1, none⟩ = false) := Lib.hid (fun wx hx => by
  obtain ⟨a0, a1, a2, a3, a4⟩ := HFC.out _ _ hx.2.2.1
  obtain ⟨b0, b1, b2, b91, b92⟩ := HRC.out _ hx.1
  exact ⟨b91, a1, a3, a4, ⟨_, hx.1.cell (22 + fr * 2) (by omega) (reF_seen1 h3)⟩, ⟨_, hx.1.cell (22 + fr * 2 + 1) (by omega) (reF_seen2 h3)⟩, hx.1.free _, hx.1.free _⟩)
 have e4 : r.seen.length = 3 := hf.out.nseen
 have e5 : q1.some.length = 3 := by rw [hq1]; exact hf.out.nsome
 have e6 : q2.came.length = 3 := by rw [hq2, hq1]; exact hf.out.ncame
 have HS0 : Hid (∀ wx, TK w g gc g0 L r f wx → TK w g gc g0 L q1 f ((wx.setCell ⟨g, 22 + fr * 2, none⟩ (I (f1 : Int))).setCell ⟨g, 22 + fr * 2 + 1, none⟩ (I (f2 : Int)))) := Lib.hid (fun wx hx => hx.set2 _ _ _ _ (by rw [hq1]; exact reF_set_seen r gc fr f1 f2 h3 e4))
 have HC1 : Hid (∀ wx, TK w g gc g0 L q1 f wx → (∃ v, wx.cell? ⟨g, 28 + fr, none⟩ = some v) ∧ wx.frozen? ⟨g, 28 + fr, none⟩ = false) := Lib.hid (fun wx hx => ⟨⟨_, hx.1.cell (28 + fr) (by omega) (reF_some h3)⟩, hx.1.free _⟩)
 have HS1 : Hid (∀ wx, TK w g gc g0 L q1 f wx → TK w g gc g0 L q2 f (wx.setCell ⟨g, 28 + fr, none⟩ (.bool true))) := Lib.hid (fun wx hx => hx.set _ _ (by rw [hq2]; exact reF_set_some q1 gc fr true h3 e5))
 have HC2 : Hid (∀ wx, TK w g gc g0 L q2 f wx → (∃ v, wx.cell? ⟨g, 31 + fr, none⟩ = some v) ∧ wx.frozen? ⟨g, 31 + fr, none⟩ = false) := Lib.hid (fun wx hx => ⟨⟨_, hx.1.cell (31 + fr) (by omega) (reF_came h3)⟩, hx.1.free _⟩)
 have HS2 : Hid (∀ wx, TK w g gc g0 L q2 f wx → TK w g gc g0 L q3 f (wx.setCell ⟨g, 31 + fr, none⟩ (I (r.ticks : Int)))) := Lib.hid (fun wx hx => hx.set _ _ (by rw [hq3]; exact reF_set_came q2 gc fr r.ticks h3 e6))
 have HFT : Hid (∀ wx, TK w g gc g0 L r f wx → Calls Tryz.prog 74 #[.pointer (some ⟨g, 0, none⟩), .agg #[I (c : Int), I (d : Int)]] wx fun e w' => e = .returned (.agg #[I (f1 : Int), I (f2 : Int)]) ∧ Below wx.heap.size wx w') := Lib.hid (fun wx hx => by
  have h := re_fit hx.1 hL c d
  rw [hff] at h
  exact h)
 have hk0 : (0 : Int) ≤ (fr : Int) := by omega
 have hk1 : (fr : Int) < 3 := by omega
 clear e4 e5 e6 hq1 hq2 hq3 hff i91 i92
 subst hk
 go_quiet (fail)
 go_wp2_with fail
 go_quiet (fail)
 go_upto_region 3 with fail
 generalize hW2 : World.drewN _ _ = w2
 have HT2 : Hid (TK w g gc g0 L r f w2) := Lib.hid (by rw [← hW2]; repeat (first | exact HT1.out | refine TK.drewN ?_ _))
 clear hW2 HT1 c0 c1 c2 c3 c4 i0 i1 i2 t0 t1 t2 t3 hl0
 generalize r.ticks = tk at *
 refine region_all (by kernel_rfl) (fun b0 => b0.tmps.getD 0 undef = .pointer (some ⟨g, 0, none⟩) ∧ b0.tmps.getD 3 undef = .pointer (some ⟨g0, 0, none⟩)) ⟨rfl, rfl⟩ 228 rfl (fun i => ([.pointer (some ⟨g, 0, none⟩), .pointer (some ⟨g0, 1, none⟩), I (fr : Int), .pointer (some ⟨g, 0, none⟩), .pointer (some ⟨g0, 1, none⟩), I (fr : Int), .pointer (some ⟨g, 0, none⟩), .pointer (some ⟨g0, 1, none⟩), I (fr : Int), .pointer (some ⟨g, 0, none⟩), .pointer (some ⟨g0, 3, none⟩), .agg #[I (c : Int), I (d : Int)], .agg #[I (f1 : Int), I (f2 : Int)], .pointer (some ⟨g, 0, none⟩), .pointer (some ⟨g, 0, none⟩), .pointer (some ⟨g, 91, none⟩), I (tk : Int), .pointer (some ⟨g, 0, none⟩), .pointer (some ⟨g, 22, none⟩), .pointer (some ⟨g, 22 + fr * 2, none⟩), undef, .pointer (some ⟨g, 0, none⟩), .pointer (some ⟨g, 28, none⟩), .pointer (some ⟨g, 28 + fr, none⟩), undef, .pointer (some ⟨g, 0, none⟩), .pointer (some ⟨g, 31, none⟩), .pointer (some ⟨g, 31 + fr, none⟩), undef] : List Value).getD i undef) [20, 24, 28] (by kernel_rfl) (fun j => ([(TK w g gc g0 L r f), (TK w g gc g0 L q1 f), (TK w g gc g0 L q2 f), (TK w g gc g0 L q3 f)] : List (World → Prop)).getD j (fun _ => True)) [41, 42, 43, 44, 45, 46, 47, 48, 49, 50, 51, 52, 53, 54, 55, 56, 57, 58, 59, 60, 61, 62, 63, 64, 65, 66] (by kernel_rfl) (by kernel_rfl) (HT2.out.drew) ?_ ?_
 ·intro b0 hb0 i o ho
  have hi : i < 29 := (Array.getElem?_eq_some_iff.1 ho).1
  obtain ⟨f0, f3⟩ := hb0
  have hcase : i = 0 ∨ i = 1 ∨ i = 2 ∨ i = 3 ∨ i = 4 ∨ i = 5 ∨ i = 6 ∨ i = 7 ∨ i = 8 ∨ i = 9 ∨ i = 10 ∨ i = 11 ∨ i = 12 ∨ i = 13 ∨ i = 14 ∨ i = 15 ∨ i = 16 ∨ i = 17 ∨ i = 18 ∨ i = 19 ∨ i = 20 ∨ i = 21 ∨ i = 22 ∨ i = 23 ∨ i = 24 ∨ i = 25 ∨ i = 26 ∨ i = 27 ∨ i = 28 := by omega
  clear hi
  rcases hcase with rfl | rfl | rfl | rfl | rfl | rfl | rfl | rfl | rfl | rfl | rfl | rfl | rfl | rfl | rfl | rfl | rfl | rfl | rfl | rfl | rfl | rfl | rfl | rfl | rfl | rfl | rfl | rfl | rfl
  ·simp only [List.getElem?_toArray, List.getElem?_cons_zero] at ho
   cases ho
   refine .inl ⟨by decide, fun M => stepA rfl (fun li ac wx H hn hed hM K hk => ?_)⟩
   have e0 : ac.tmps[0]?.getD undef = .pointer (some ⟨g, 0, none⟩) := slot_at ((H.frm.slot (by decide)).trans f0)
   clear hed H
   go_simp
   exact hk _ hM
  ·simp only [List.getElem?_toArray, List.getElem?_cons_zero, List.getElem?_cons_succ] at ho
   cases ho
   refine .inl ⟨by decide, fun M => stepA rfl (fun li ac wx H hn hed hM K hk => ?_)⟩
   have e3 : ac.tmps[3]?.getD undef = .pointer (some ⟨g0, 0, none⟩) := slot_at ((H.frm.slot (by decide)).trans f3)
   clear hed H
   go_simp
   exact hk _ hM
  ·simp only [List.getElem?_toArray, List.getElem?_cons_zero, List.getElem?_cons_succ] at ho
   cases ho
   refine .inr (.inl ⟨by decide, by kernel_rfl, stepA rfl (fun li ac wx H hn hed hM K hk => ?_)⟩)
   have e42 : ac.tmps[42]?.getD undef = .pointer (some ⟨g0, 1, none⟩) := slot_at (H.known 1 _ rfl (hed ⟨1, .data⟩ (by simp) rfl) 42 rfl)
   have hM1 : (TK w g gc g0 L r f) wx := hM
   obtain ⟨x1, x2, x3, x4, ⟨y1, x5⟩, ⟨y2, x6⟩, x7, x8⟩ := HC0.out wx hM1
   clear hed H
   go_simp
   exact hk _ hM
  ·simp only [List.getElem?_toArray, List.getElem?_cons_zero, List.getElem?_cons_succ] at ho
   cases ho
   refine .inl ⟨by decide, fun M => stepA rfl (fun li ac wx H hn hed hM K hk => ?_)⟩
   have e0 : ac.tmps[0]?.getD undef = .pointer (some ⟨g, 0, none⟩) := slot_at ((H.frm.slot (by decide)).trans f0)
   clear hed H
   go_simp
   exact hk _ hM
  ·simp only [List.getElem?_toArray, List.getElem?_cons_zero, List.getElem?_cons_succ] at ho
   cases ho
   refine .inl ⟨by decide, fun M => stepA rfl (fun li ac wx H hn hed hM K hk => ?_)⟩
   have e3 : ac.tmps[3]?.getD undef = .pointer (some ⟨g0, 0, none⟩) := slot_at ((H.frm.slot (by decide)).trans f3)
   clear hed H
   go_simp
   exact hk _ hM
  ·simp only [List.getElem?_toArray, List.getElem?_cons_zero, List.getElem?_cons_succ] at ho
   cases ho
   refine .inr (.inr (.inr ⟨by decide, 1, 24, rfl, by kernel_rfl, fun j hj => ?_⟩))
   have hj2 : j = 0 ∨ j = 1 := by omega
   clear hj
   rcases hj2 with rfl | rfl
   ·refine stepA rfl (fun li ac wx H hn hed hM K hk => ?_)
    have e45 : ac.tmps[45]?.getD undef = .pointer (some ⟨g0, 1, none⟩) := slot_at (H.known 4 _ rfl (hed ⟨4, .data⟩ (by simp) rfl) 45 rfl)
    have hM1 : (TK w g gc g0 L r f) wx := hM
    obtain ⟨_, x2, _⟩ := HFC.out _ _ hM1.2.2.1
    clear hed H
    go_simp
    exact hk _ hM
   ·refine stepA rfl (fun li ac wx H hn hed hM K hk => ?_)
    have e45 : ac.tmps[45]?.getD undef = .pointer (some ⟨g0, 1, none⟩) := slot_at (H.known 4 _ rfl (hed ⟨4, .data⟩ (by simp) rfl) 45 rfl)
    have hM1 : (TK w g gc g0 L q1 f) wx := hM
    obtain ⟨_, x2, _⟩ := HFC.out _ _ hM1.2.2.1
    clear hed H
    go_simp
    exact hk _ hM
  ·simp only [List.getElem?_toArray, List.getElem?_cons_zero, List.getElem?_cons_succ] at ho
   cases ho
   refine .inl ⟨by decide, fun M => stepA rfl (fun li ac wx H hn hed hM K hk => ?_)⟩
   have e0 : ac.tmps[0]?.getD undef = .pointer (some ⟨g, 0, none⟩) := slot_at ((H.frm.slot (by decide)).trans f0)
   clear hed H
   go_simp
   exact hk _ hM
  ·simp only [List.getElem?_toArray, List.getElem?_cons_zero, List.getElem?_cons_succ] at ho
   cases ho
   refine .inl ⟨by decide, fun M => stepA rfl (fun li ac wx H hn hed hM K hk => ?_)⟩
   have e3 : ac.tmps[3]?.getD undef = .pointer (some ⟨g0, 0, none⟩) := slot_at ((H.frm.slot (by decide)).trans f3)
   clear hed H
   go_simp
   exact hk _ hM
  ·simp only [List.getElem?_toArray, List.getElem?_cons_zero, List.getElem?_cons_succ] at ho
   cases ho
   refine .inr (.inr (.inr ⟨by decide, 2, 28, rfl, by kernel_rfl, fun j hj => ?_⟩))
   have hj2 : j = 0 ∨ j = 1 ∨ j = 2 := by omega
   clear hj
   rcases hj2 with rfl | rfl | rfl
   ·refine stepA rfl (fun li ac wx H hn hed hM K hk => ?_)
    have e48 : ac.tmps[48]?.getD undef = .pointer (some ⟨g0, 1, none⟩) := slot_at (H.known 7 _ rfl (hed ⟨7, .data⟩ (by simp) rfl) 48 rfl)
    have hM1 : (TK w g gc g0 L r f) wx := hM
    obtain ⟨_, x2, _⟩ := HFC.out _ _ hM1.2.2.1
    clear hed H
    go_simp
    exact hk _ hM
   ·refine stepA rfl (fun li ac wx H hn hed hM K hk => ?_)
    have e48 : ac.tmps[48]?.getD undef = .pointer (some ⟨g0, 1, none⟩) := slot_at (H.known 7 _ rfl (hed ⟨7, .data⟩ (by simp) rfl) 48 rfl)
    have hM1 : (TK w g gc g0 L q1 f) wx := hM
    obtain ⟨_, x2, _⟩ := HFC.out _ _ hM1.2.2.1
    clear hed H
    go_simp
    exact hk _ hM
   ·refine stepA rfl (fun li ac wx H hn hed hM K hk => ?_)
    have e48 : ac.tmps[48]?.getD undef = .pointer (some ⟨g0, 1, none⟩) := slot_at (H.known 7 _ rfl (hed ⟨7, .data⟩ (by simp) rfl) 48 rfl)
    have hM1 : (TK w g gc g0 L q2 f) wx := hM
    obtain ⟨_, x2, _⟩ := HFC.out _ _ hM1.2.2.1
    clear hed H
    go_simp
    exact hk _ hM
  ·simp only [List.getElem?_toArray, List.getElem?_cons_zero, List.getElem?_cons_succ] at ho
   cases ho
   refine .inl ⟨by decide, fun M => stepA rfl (fun li ac wx H hn hed hM K hk => ?_)⟩
   have e0 : ac.tmps[0]?.getD undef = .pointer (some ⟨g, 0, none⟩) := slot_at ((H.frm.slot (by decide)).trans f0)
   clear hed H
   go_simp
   exact hk _ hM
  ·simp only [List.getElem?_toArray, List.getElem?_cons_zero, List.getElem?_cons_succ] at ho
   cases ho
   refine .inl ⟨by decide, fun M => stepA rfl (fun li ac wx H hn hed hM K hk => ?_)⟩
   have e3 : ac.tmps[3]?.getD undef = .pointer (some ⟨g0, 0, none⟩) := slot_at ((H.frm.slot (by decide)).trans f3)
   clear hed H
   go_simp
   exact hk _ hM
  ·simp only [List.getElem?_toArray, List.getElem?_cons_zero, List.getElem?_cons_succ] at ho
   cases ho
   refine .inr (.inl ⟨by decide, by kernel_rfl, stepA rfl (fun li ac wx H hn hed hM K hk => ?_)⟩)
   have e51 : ac.tmps[51]?.getD undef = .pointer (some ⟨g0, 3, none⟩) := slot_at (H.known 10 _ rfl (hed ⟨10, .data⟩ (by simp) rfl) 51 rfl)
   have hM1 : (TK w g gc g0 L r f) wx := hM
   obtain ⟨x1, x2, x3, x4, ⟨y1, x5⟩, ⟨y2, x6⟩, x7, x8⟩ := HC0.out wx hM1
   clear hed H
   go_simp
   exact hk _ hM
  ·simp only [List.getElem?_toArray, List.getElem?_cons_zero, List.getElem?_cons_succ] at ho
   cases ho
   refine .inr (.inl ⟨by decide, by kernel_rfl, stepA rfl (fun li ac wx H hn hed hM K hk => ?_)⟩)
   have e50 : ac.tmps[50]?.getD undef = .pointer (some ⟨g, 0, none⟩) := slot_at (H.known 9 _ rfl (hed ⟨9, .data⟩ (by simp) rfl) 50 rfl)
   have e52 : ac.tmps[52]?.getD undef = .agg #[I (c : Int), I (d : Int)] := slot_at (H.known 11 _ rfl (hed ⟨11, .data⟩ (by simp) rfl) 52 rfl)
   have hM1 : (TK w g gc g0 L r f) wx := hM
   clear hed H
   go_simp
   refine (HFT.out wx hM1).mono ?_
   rintro e w9 ⟨rfl, hb9⟩
   exact hk _ (hM1.after hb9)
  ·simp only [List.getElem?_toArray, List.getElem?_cons_zero, List.getElem?_cons_succ] at ho
   cases ho
   refine .inl ⟨by decide, fun M => stepA rfl (fun li ac wx H hn hed hM K hk => ?_)⟩
   have e0 : ac.tmps[0]?.getD undef = .pointer (some ⟨g, 0, none⟩) := slot_at ((H.frm.slot (by decide)).trans f0)
   clear hed H
   go_simp
   exact hk _ hM
  ·simp only [List.getElem?_toArray, List.getElem?_cons_zero, List.getElem?_cons_succ] at ho
   cases ho
   refine .inl ⟨by decide, fun M => stepA rfl (fun li ac wx H hn hed hM K hk => ?_)⟩
   have e54 : ac.tmps[54]?.getD undef = .pointer (some ⟨g, 0, none⟩) := slot_at (H.known 13 _ rfl (hed ⟨13, .data⟩ (by simp) rfl) 54 rfl)
   clear hed H
   go_simp
   exact hk _ hM
  ·simp only [List.getElem?_toArray, List.getElem?_cons_zero, List.getElem?_cons_succ] at ho
   cases ho
   refine .inl ⟨by decide, fun M => stepA rfl (fun li ac wx H hn hed hM K hk => ?_)⟩
   have e55 : ac.tmps[55]?.getD undef = .pointer (some ⟨g, 0, none⟩) := slot_at (H.known 14 _ rfl (hed ⟨14, .data⟩ (by simp) rfl) 55 rfl)
   clear hed H
   go_simp
   exact hk _ hM
  ·simp only [List.getElem?_toArray, List.getElem?_cons_zero, List.getElem?_cons_succ] at ho
   cases ho
   refine .inr (.inl ⟨by decide, by kernel_rfl, stepA rfl (fun li ac wx H hn hed hM K hk => ?_)⟩)
   have e56 : ac.tmps[56]?.getD undef = .pointer (some ⟨g, 91, none⟩) := slot_at (H.known 15 _ rfl (hed ⟨15, .data⟩ (by simp) rfl) 56 rfl)
   have hM1 : (TK w g gc g0 L r f) wx := hM
   obtain ⟨x1, x2, x3, x4, ⟨y1, x5⟩, ⟨y2, x6⟩, x7, x8⟩ := HC0.out wx hM1
   clear hed H
   go_simp
   exact hk _ hM
  ·simp only [List.getElem?_toArray, List.getElem?_cons_zero, List.getElem?_cons_succ] at ho
   cases ho
   refine .inl ⟨by decide, fun M => stepA rfl (fun li ac wx H hn hed hM K hk => ?_)⟩
   have e41 : ac.tmps[41]?.getD undef = .pointer (some ⟨g, 0, none⟩) := slot_at (H.known 0 _ rfl (hed ⟨0, .data⟩ (by simp) rfl) 41 rfl)
   clear hed H
   go_simp
   exact hk _ hM
  ·simp only [List.getElem?_toArray, List.getElem?_cons_zero, List.getElem?_cons_succ] at ho
   cases ho
   refine .inl ⟨by decide, fun M => stepA rfl (fun li ac wx H hn hed hM K hk => ?_)⟩
   have e58 : ac.tmps[58]?.getD undef = .pointer (some ⟨g, 0, none⟩) := slot_at (H.known 17 _ rfl (hed ⟨17, .data⟩ (by simp) rfl) 58 rfl)
   clear hed H
   go_simp
   exact hk _ hM
  ·simp only [List.getElem?_toArray, List.getElem?_cons_zero, List.getElem?_cons_succ] at ho
   cases ho
   refine .inl ⟨by decide, fun M => stepA rfl (fun li ac wx H hn hed hM K hk => ?_)⟩
   have e43 : ac.tmps[43]?.getD undef = I (fr : Int) := slot_at (H.known 2 _ rfl (hed ⟨2, .data⟩ (by simp) rfl) 43 rfl)
   have e59 : ac.tmps[59]?.getD undef = .pointer (some ⟨g, 22, none⟩) := slot_at (H.known 18 _ rfl (hed ⟨18, .data⟩ (by simp) rfl) 59 rfl)
   clear hed H
   go_simp
   exact hk _ hM
  ·simp only [List.getElem?_toArray, List.getElem?_cons_zero, List.getElem?_cons_succ] at ho
   cases ho
   refine .inr (.inr (.inl ⟨0, rfl, stepA rfl (fun li ac wx H hn hed hM K hk => ?_)⟩))
   have e53 : ac.tmps[53]?.getD undef = .agg #[I (f1 : Int), I (f2 : Int)] := slot_at (H.known 12 _ rfl (hed ⟨12, .data⟩ (by simp) rfl) 53 rfl)
   have e60 : ac.tmps[60]?.getD undef = .pointer (some ⟨g, 22 + fr * 2, none⟩) := slot_at (H.known 19 _ rfl (hed ⟨19, .data⟩ (by simp) rfl) 60 rfl)
   have hM1 : (TK w g gc g0 L r f) wx := hM
   obtain ⟨x1, x2, x3, x4, ⟨y1, x5⟩, ⟨y2, x6⟩, x7, x8⟩ := HC0.out wx hM1
   clear hed H
   go_simp
   exact hk _ (HS0.out wx hM1)
  ·simp only [List.getElem?_toArray, List.getElem?_cons_zero, List.getElem?_cons_succ] at ho
   cases ho
   refine .inl ⟨by decide, fun M => stepA rfl (fun li ac wx H hn hed hM K hk => ?_)⟩
   have e44 : ac.tmps[44]?.getD undef = .pointer (some ⟨g, 0, none⟩) := slot_at (H.known 3 _ rfl (hed ⟨3, .data⟩ (by simp) rfl) 44 rfl)
   clear hed H
   go_simp
   exact hk _ hM
  ·simp only [List.getElem?_toArray, List.getElem?_cons_zero, List.getElem?_cons_succ] at ho
   cases ho
   refine .inl ⟨by decide, fun M => stepA rfl (fun li ac wx H hn hed hM K hk => ?_)⟩
   have e61 : ac.tmps[61]?.getD undef = .pointer (some ⟨g, 0, none⟩) := slot_at (H.known 21 _ rfl (hed ⟨21, .data⟩ (by simp) rfl) 61 rfl)
   clear hed H
   go_simp
   exact hk _ hM
  ·simp only [List.getElem?_toArray, List.getElem?_cons_zero, List.getElem?_cons_succ] at ho
   cases ho
   refine .inl ⟨by decide, fun M => stepA rfl (fun li ac wx H hn hed hM K hk => ?_)⟩
   have e46 : ac.tmps[46]?.getD undef = I (fr : Int) := slot_at (H.known 5 _ rfl (hed ⟨5, .data⟩ (by simp) rfl) 46 rfl)
   have e62 : ac.tmps[62]?.getD undef = .pointer (some ⟨g, 28, none⟩) := slot_at (H.known 22 _ rfl (hed ⟨22, .data⟩ (by simp) rfl) 62 rfl)
   clear hed H
   go_simp
   exact hk _ hM
  ·simp only [List.getElem?_toArray, List.getElem?_cons_zero, List.getElem?_cons_succ] at ho
   cases ho
   refine .inr (.inr (.inl ⟨1, rfl, stepA rfl (fun li ac wx H hn hed hM K hk => ?_)⟩))
   have e63 : ac.tmps[63]?.getD undef = .pointer (some ⟨g, 28 + fr, none⟩) := slot_at (H.known 23 _ rfl (hed ⟨23, .data⟩ (by simp) rfl) 63 rfl)
   have hM1 : (TK w g gc g0 L q1 f) wx := hM
   obtain ⟨⟨y1, x1⟩, x2⟩ := HC1.out wx hM1
   clear hed H
   go_simp
   exact hk _ (HS1.out wx hM1)
  ·simp only [List.getElem?_toArray, List.getElem?_cons_zero, List.getElem?_cons_succ] at ho
   cases ho
   refine .inl ⟨by decide, fun M => stepA rfl (fun li ac wx H hn hed hM K hk => ?_)⟩
   have e47 : ac.tmps[47]?.getD undef = .pointer (some ⟨g, 0, none⟩) := slot_at (H.known 6 _ rfl (hed ⟨6, .data⟩ (by simp) rfl) 47 rfl)
   clear hed H
   go_simp
   exact hk _ hM
  ·simp only [List.getElem?_toArray, List.getElem?_cons_zero, List.getElem?_cons_succ] at ho
   cases ho
   refine .inl ⟨by decide, fun M => stepA rfl (fun li ac wx H hn hed hM K hk => ?_)⟩
   have e64 : ac.tmps[64]?.getD undef = .pointer (some ⟨g, 0, none⟩) := slot_at (H.known 25 _ rfl (hed ⟨25, .data⟩ (by simp) rfl) 64 rfl)
   clear hed H
   go_simp
   exact hk _ hM
  ·simp only [List.getElem?_toArray, List.getElem?_cons_zero, List.getElem?_cons_succ] at ho
   cases ho
   refine .inl ⟨by decide, fun M => stepA rfl (fun li ac wx H hn hed hM K hk => ?_)⟩
   have e49 : ac.tmps[49]?.getD undef = I (fr : Int) := slot_at (H.known 8 _ rfl (hed ⟨8, .data⟩ (by simp) rfl) 49 rfl)
   have e65 : ac.tmps[65]?.getD undef = .pointer (some ⟨g, 31, none⟩) := slot_at (H.known 26 _ rfl (hed ⟨26, .data⟩ (by simp) rfl) 65 rfl)
   clear hed H
   go_simp
   exact hk _ hM
  ·simp only [List.getElem?_toArray, List.getElem?_cons_zero, List.getElem?_cons_succ] at ho
   cases ho
   refine .inr (.inr (.inl ⟨2, rfl, stepA rfl (fun li ac wx H hn hed hM K hk => ?_)⟩))
   have e57 : ac.tmps[57]?.getD undef = I (tk : Int) := slot_at (H.known 16 _ rfl (hed ⟨16, .data⟩ (by simp) rfl) 57 rfl)
   have e66 : ac.tmps[66]?.getD undef = .pointer (some ⟨g, 31 + fr, none⟩) := slot_at (H.known 27 _ rfl (hed ⟨27, .data⟩ (by simp) rfl) 66 rfl)
   have hM1 : (TK w g gc g0 L q2 f) wx := hM
   obtain ⟨⟨y1, x1⟩, x2⟩ := HC2.out wx hM1
   clear hed H
   go_simp
   exact hk _ (HS2.out wx hM1)
 ·intro ac wx hF hK hM0
  have hM : (TK w g gc g0 L q3 f) wx := hM0
  have hMet := hF.meet
  simp only [List.foldl_cons, List.foldl_nil, List.setIfInBounds_toArray, List.set_cons_succ, List.set_cons_zero] at hMet
  generalize ac.tmps.getD 41 undef = v41 at hMet
  generalize ac.tmps.getD 42 undef = v42 at hMet
  generalize ac.tmps.getD 43 undef = v43 at hMet
  generalize ac.tmps.getD 44 undef = v44 at hMet
  generalize ac.tmps.getD 45 undef = v45 at hMet
  generalize ac.tmps.getD 46 undef = v46 at hMet
  generalize ac.tmps.getD 47 undef = v47 at hMet
  generalize ac.tmps.getD 48 undef = v48 at hMet
  generalize ac.tmps.getD 49 undef = v49 at hMet
  generalize ac.tmps.getD 50 undef = v50 at hMet
  generalize ac.tmps.getD 51 undef = v51 at hMet
  generalize ac.tmps.getD 52 undef = v52 at hMet
  generalize ac.tmps.getD 53 undef = v53 at hMet
  generalize ac.tmps.getD 54 undef = v54 at hMet
  generalize ac.tmps.getD 55 undef = v55 at hMet
  generalize ac.tmps.getD 56 undef = v56 at hMet
  generalize ac.tmps.getD 57 undef = v57 at hMet
  generalize ac.tmps.getD 58 undef = v58 at hMet
  generalize ac.tmps.getD 59 undef = v59 at hMet
  generalize ac.tmps.getD 60 undef = v60 at hMet
  generalize ac.tmps.getD 61 undef = v61 at hMet
  generalize ac.tmps.getD 62 undef = v62 at hMet
  generalize ac.tmps.getD 63 undef = v63 at hMet
  generalize ac.tmps.getD 64 undef = v64 at hMet
  generalize ac.tmps.getD 65 undef = v65 at hMet
  generalize ac.tmps.getD 66 undef = v66 at hMet
  clear hF hK hM0
  subst hMet
  have HT7 := Lib.hid hM
  clear hM HC0 HS0 HC1 HS1 HC2 HS2 HFT HT2
  go_wp2_with fail
  go_ret
  unfold TakePost
  rw [HE.out]
  exact ⟨⟨_, rfl, .inl ⟨rfl, rfl⟩⟩, HT7.out.1, HT7.out.2.1⟩
end
end Go.Proofs.YtdhekhlmdefcnabGreatDoor
namespace Go.Proofs.YtdhekhlmdefcnabGreatDoor
open Go.RowKit
section
variable {w : World} {g gc : Nat} {L : Lay} {r : Re} {f : List Int} {kd fr cy c d : Nat} {s : St}
set_option maxHeartbeats 20000000 in
set_option maxRecDepth 100000 in
theorem re_take_done (h : RepAt w g gc L r) (hL : L.Ok) (T : Nat) (hT : T ≤ 10000000000) (hf : Hid (r.Fits T)) (hin : Hid (FrIn f kd fr cy c d s)) (hk : kd = 3) (h3 : fr = 3) (hcc : r.cycle ≤ cy) :
  Calls Tryz.prog 72 #[.pointer (some ⟨g, 0, none⟩), .agg (frC f)] w (TakePost w g gc L r f) := by
 have hb1 : Below w.heap.size w (w.alloc (.cells (frC f) 110)) := (Below.refl _ _).alloc (Nat.le_refl _) _
 have HT1 : Hid (TK w g gc w.heap.size L r f (w.alloc (.cells (frC f) 110))) := Lib.hid ⟨h.after hb1, Turned.of_below hb1 _, Has.new w 110 (frC f), Nat.le_refl _⟩
 have hgl := h.has.lt
 have hid3 := hf.out.id
 have hfr3 := hin.out.hfr
 have hcyB := hin.out.hcy
 obtain ⟨id, hid⟩ : ∃ id, r.id = id := ⟨_, rfl⟩
 obtain ⟨cyc, hcyc⟩ : ∃ cyc, r.cycle = cyc := ⟨_, rfl⟩
 rw [hid] at hid3
 have HID := Lib.hid hid
 have HCYC := Lib.hid hcyc
 have HFC := Lib.hid (fr_cells hin.out)
 have HRC : Hid (∀ wx, RepAt wx g gc L r → wx.cell? ⟨g, 0, none⟩ = some (I (id : Int)) ∧ wx.cell? ⟨g, 1, none⟩ = some (.pointer (some ⟨gc, 0, none⟩)) ∧ wx.cell? ⟨g, 2, none⟩ = some (I (cyc : Int)) ∧ wx.cell? ⟨g, 91, none⟩ = some (I (r.ticks : Int)) ∧ wx.cell? ⟨g, 92, none⟩ = some (I (r.ahead : Int))) := Lib.hid (fun wx hx =>
  ⟨hx.cell 0 (by decide) (by rw [reF_id, hid]), hx.cell 1 (by decide) reF_core, hx.cell 2 (by decide) (by rw [reF_cycle, hcyc]), hx.cell 91 (by decide) reF_ticks, hx.cell 92 (by decide) reF_ahead⟩)
 clear h hb1 hid hcyc
 go_enter Tryz.func72, Tryz.ntmps72
 go_upto_region 1 with fail
 generalize w.alloc (.cells (frC f) 110) = w1 at *
 generalize hG : w.heap.size = g0 at *
 have HG := Lib.hid hG
 clear hG
 obtain ⟨c0, c1, c2, c3, c4⟩ := HFC.out _ _ HT1.out.2.2.1
 obtain ⟨i0, i1, i2, i91, i92⟩ := HRC.out _ HT1.out.1
 have hl0 := HT1.out.2.2.1.lt
 have t0 : decide ((0 : Int) ≤ (fr : Int)) = true := decide_eq_true (by omega)
 have t1 : decide ((fr : Int) < 3) = false := decide_eq_false (by omega)
 have t4 : ((fr : Int) == 3) = true := by simp; omega
 have t5 : cyc ≤ cy := by have := HCYC.out; omega
 obtain ⟨ah, hah⟩ : ∃ ah, r.ahead = ah := ⟨_, rfl⟩
 obtain ⟨m, hm⟩ : ∃ m, max ah cy = m := ⟨_, rfl⟩
 have hmi : (if ah < cy then (cy : Int) else (ah : Int)) = (m : Int) := by split <;> omega
 obtain ⟨q1, hq1⟩ : ∃ q1 : Re, q1 = { r with ahead := m } := ⟨_, rfl⟩
 have HS0 : Hid (∀ wx, TK w g gc g0 L r f wx → TK w g gc g0 L q1 f (wx.setCell ⟨g, 92, none⟩ (I (m : Int)))) := Lib.hid (fun wx hx => hx.set _ _ (by rw [hq1]; exact reF_set_ahead r gc m))
 have HC0 : Hid (∀ wx, TK w g gc g0 L r f wx → wx.cell? ⟨g, 92, none⟩ = some (I (ah : Int)) ∧ wx.cell? ⟨g0, 2, none⟩ = some (I (cy : Int)) ∧ wx.frozen? ⟨g, 92, none⟩ = false) := Lib.hid (fun wx hx => by
  obtain ⟨a0, a1, a2, a3, a4⟩ := HFC.out _ _ hx.2.2.1
  exact ⟨hx.1.cell 92 (by decide) (by rw [reF_ahead, hah]), a2, hx.1.free _⟩)
 have HQ1 : Hid (q1 = { r with ahead := m }) := Lib.hid hq1
 have HM := Lib.hid hm
 have HAH := Lib.hid hah
 have HMI := Lib.hid hmi
 have hk3 : fr = 3 := h3
 subst hk
 clear i91 i92 hq1 hm hah hmi
 go_quiet (fail)
 go_wp2_with fail
 go_quiet (fail)
 go_wp2_with fail
 go_quiet (fail)
 go_upto_region 5 with fail
 generalize hW2 : World.drewN _ _ = w2
 have HT2 : Hid (TK w g gc g0 L r f w2) := Lib.hid (by rw [← hW2]; repeat (first | exact HT1.out | refine TK.drewN ?_ _))
 clear hW2 HT1 c0 c1 c2 c3 c4 i0 i1 i2 t0 t1 t4 t5 hl0
 go_cut [] (fun wx => (TK w g gc g0 L q1 f) wx)
 case first =>
  rename_i J0 K0 hJ0 hK0
  have HK0 := Lib.hid hK0
  clear hK0
  refine region_all (by kernel_rfl) (fun b0 => b0.tmps.getD 0 undef = .pointer (some ⟨g, 0, none⟩) ∧ b0.tmps.getD 3 undef = .pointer (some ⟨g0, 0, none⟩)) ⟨rfl, rfl⟩ 228 rfl (fun i => ([.pointer (some ⟨g, 0, none⟩), .pointer (some ⟨g, 0, none⟩), .pointer (some ⟨g, 0, none⟩), .pointer (some ⟨g, 92, none⟩), I (ah : Int), .pointer (some ⟨g0, 2, none⟩), I (cy : Int), I (m : Int), .pointer (some ⟨g, 0, none⟩), .pointer (some ⟨g, 92, none⟩), undef] : List Value).getD i undef) [10] (by kernel_rfl) (fun j => ([(TK w g gc g0 L r f), (TK w g gc g0 L q1 f)] : List (World → Prop)).getD j (fun _ => True)) [85, 86, 87, 88, 89, 90, 91, 92, 93, 94] (by kernel_rfl) (by kernel_rfl) (HT2.out.drew) ?_ ?_
  ·intro b0 hb0 i o ho
   have hi : i < 11 := (Array.getElem?_eq_some_iff.1 ho).1
   obtain ⟨f0, f3⟩ := hb0
   have hcase : i = 0 ∨ i = 1 ∨ i = 2 ∨ i = 3 ∨ i = 4 ∨ i = 5 ∨ i = 6 ∨ i = 7 ∨ i = 8 ∨ i = 9 ∨ i = 10 := by omega
   clear hi
   rcases hcase with rfl | rfl | rfl | rfl | rfl | rfl | rfl | rfl | rfl | rfl | rfl
   ·simp only [List.getElem?_toArray, List.getElem?_cons_zero] at ho
    cases ho
    refine .inl ⟨by decide, fun M => stepA rfl (fun li ac wx H hn hed hM K hk => ?_)⟩
    have e0 : ac.tmps[0]?.getD undef = .pointer (some ⟨g, 0, none⟩) := slot_at ((H.frm.slot (by decide)).trans f0)
    clear hed H
    go_simp
    exact hk _ hM
   ·simp only [List.getElem?_toArray, List.getElem?_cons_zero, List.getElem?_cons_succ] at ho
    cases ho
    refine .inl ⟨by decide, fun M => stepA rfl (fun li ac wx H hn hed hM K hk => ?_)⟩
    have e0 : ac.tmps[0]?.getD undef = .pointer (some ⟨g, 0, none⟩) := slot_at ((H.frm.slot (by decide)).trans f0)
    clear hed H
    go_simp
    exact hk _ hM
   ·simp only [List.getElem?_toArray, List.getElem?_cons_zero, List.getElem?_cons_succ] at ho
    cases ho
    refine .inl ⟨by decide, fun M => stepA rfl (fun li ac wx H hn hed hM K hk => ?_)⟩
    have e86 : ac.tmps[86]?.getD undef = .pointer (some ⟨g, 0, none⟩) := slot_at (H.known 1 _ rfl (hed ⟨1, .data⟩ (by simp) rfl) 86 rfl)
    clear hed H
    go_simp
    exact hk _ hM
   ·simp only [List.getElem?_toArray, List.getElem?_cons_zero, List.getElem?_cons_succ] at ho
    cases ho
    refine .inl ⟨by decide, fun M => stepA rfl (fun li ac wx H hn hed hM K hk => ?_)⟩
    have e87 : ac.tmps[87]?.getD undef = .pointer (some ⟨g, 0, none⟩) := slot_at (H.known 2 _ rfl (hed ⟨2, .data⟩ (by simp) rfl) 87 rfl)
    clear hed H
    go_simp
    exact hk _ hM
   ·simp only [List.getElem?_toArray, List.getElem?_cons_zero, List.getElem?_cons_succ] at ho
    cases ho
    refine .inr (.inl ⟨by decide, by kernel_rfl, stepA rfl (fun li ac wx H hn hed hM K hk => ?_)⟩)
    have e88 : ac.tmps[88]?.getD undef = .pointer (some ⟨g, 92, none⟩) := slot_at (H.known 3 _ rfl (hed ⟨3, .data⟩ (by simp) rfl) 88 rfl)
    have hM1 : (TK w g gc g0 L r f) wx := hM
    obtain ⟨x1, x2, x3⟩ := HC0.out wx hM1
    clear hed H
    go_simp
    exact hk _ hM
   ·simp only [List.getElem?_toArray, List.getElem?_cons_zero, List.getElem?_cons_succ] at ho
    cases ho
    refine .inl ⟨by decide, fun M => stepA rfl (fun li ac wx H hn hed hM K hk => ?_)⟩
    have e3 : ac.tmps[3]?.getD undef = .pointer (some ⟨g0, 0, none⟩) := slot_at ((H.frm.slot (by decide)).trans f3)
    clear hed H
    go_simp
    exact hk _ hM
   ·simp only [List.getElem?_toArray, List.getElem?_cons_zero, List.getElem?_cons_succ] at ho
    cases ho
    refine .inr (.inl ⟨by decide, by kernel_rfl, stepA rfl (fun li ac wx H hn hed hM K hk => ?_)⟩)
    have e90 : ac.tmps[90]?.getD undef = .pointer (some ⟨g0, 2, none⟩) := slot_at (H.known 5 _ rfl (hed ⟨5, .data⟩ (by simp) rfl) 90 rfl)
    have hM1 : (TK w g gc g0 L r f) wx := hM
    obtain ⟨x1, x2, x3⟩ := HC0.out wx hM1
    clear hed H
    go_simp
    exact hk _ hM
   ·simp only [List.getElem?_toArray, List.getElem?_cons_zero, List.getElem?_cons_succ] at ho
    cases ho
    refine .inl ⟨by decide, fun M => stepA rfl (fun li ac wx H hn hed hM K hk => ?_)⟩
    have e89 : ac.tmps[89]?.getD undef = I (ah : Int) := slot_at (H.known 4 _ rfl (hed ⟨4, .data⟩ (by simp) rfl) 89 rfl)
    have e91 : ac.tmps[91]?.getD undef = I (cy : Int) := slot_at (H.known 6 _ rfl (hed ⟨6, .data⟩ (by simp) rfl) 91 rfl)
    clear hed H
    go_simp
    rw [HMI.out]
    exact hk _ hM
   ·simp only [List.getElem?_toArray, List.getElem?_cons_zero, List.getElem?_cons_succ] at ho
    cases ho
    refine .inl ⟨by decide, fun M => stepA rfl (fun li ac wx H hn hed hM K hk => ?_)⟩
    have e85 : ac.tmps[85]?.getD undef = .pointer (some ⟨g, 0, none⟩) := slot_at (H.known 0 _ rfl (hed ⟨0, .data⟩ (by simp) rfl) 85 rfl)
    clear hed H
    go_simp
    exact hk _ hM
   ·simp only [List.getElem?_toArray, List.getElem?_cons_zero, List.getElem?_cons_succ] at ho
    cases ho
    refine .inl ⟨by decide, fun M => stepA rfl (fun li ac wx H hn hed hM K hk => ?_)⟩
    have e93 : ac.tmps[93]?.getD undef = .pointer (some ⟨g, 0, none⟩) := slot_at (H.known 8 _ rfl (hed ⟨8, .data⟩ (by simp) rfl) 93 rfl)
    clear hed H
    go_simp
    exact hk _ hM
   ·simp only [List.getElem?_toArray, List.getElem?_cons_zero, List.getElem?_cons_succ] at ho
    cases ho
    refine .inr (.inr (.inl ⟨0, rfl, stepA rfl (fun li ac wx H hn hed hM K hk => ?_)⟩))
    have e92 : ac.tmps[92]?.getD undef = I (m : Int) := slot_at (H.known 7 _ rfl (hed ⟨7, .data⟩ (by simp) rfl) 92 rfl)
    have e94 : ac.tmps[94]?.getD undef = .pointer (some ⟨g, 92, none⟩) := slot_at (H.known 9 _ rfl (hed ⟨9, .data⟩ (by simp) rfl) 94 rfl)
    have hM1 : (TK w g gc g0 L r f) wx := hM
    obtain ⟨x1, x2, x3⟩ := HC0.out wx hM1
    clear hed H
    go_simp
    exact hk _ (HS0.out wx hM1)
  ·intro ac wx hF hK hM0
   have hM : (TK w g gc g0 L q1 f) wx := hM0
   have hMet := hF.meet
   simp only [List.foldl_cons, List.foldl_nil, List.setIfInBounds_toArray, List.set_cons_succ, List.set_cons_zero] at hMet
   refine HK0.out _ _ (Met.intro (hJ0 _ _ ?_))
   (repeat apply Exists.intro)
   exact ⟨hM, hMet⟩
 case rest =>
  have HT5 := Lib.hid hcut
  clear hcut HC0 HS0 HT2
  have hB := hf.out.cycle
  have c2 := (HFC.out _ _ HT5.out.2.2.1).2.2.1
  have i2 := HT5.out.1.cell 2 (by decide) (show reF q1 gc 2 = I (cyc : Int) by rw [HQ1.out]; show I (r.cycle : Int) = _; rw [HCYC.out])
  have hl0 := HT5.out.2.2.1.lt
  have hl1 := HT5.out.1.has.lt
  by_cases heq : cy = cyc
  ·have t1 : ((cy : Int) == (cyc : Int)) = true := by simp; omega
   go_upto_region 6 with fail
   go_quiet (fail)
   go_upto_region 7 with fail
   generalize hW2 : World.drewN _ _ = w3
   have HT6 : Hid (TK w g gc g0 L q1 f w3) := Lib.hid (by rw [← hW2]; repeat (first | exact HT5.out | refine TK.drewN ?_ _))
   clear hW2 HT5 c2 i2 t1 hl0 hl1
   obtain ⟨st, hst⟩ : ∃ st, r.state = st := ⟨_, rfl⟩
   have HSTF := Lib.hid hf.out.state
   rw [hst] at HSTF
   obtain ⟨st2, out, hsp⟩ : ∃ st2 out, step L (c : Int) (d : Int) st = (st2, out) := ⟨_, _, rfl⟩
   have hst2f : st2.Fits (2000 + T + 8) := by have := step_fits (c := (c : Int)) (d := (d : Int)) hL HSTF.out; rw [hsp] at this; exact this
   have hl17 : (stL st).length = 17 := stL_length HSTF.out.used8 HSTF.out.idle8
   have hl17b : (stL st2).length = 17 := stL_length hst2f.used8 hst2f.idle8
   obtain ⟨q2, hq2⟩ : ∃ q2 : Re, q2 = { q1 with state := st2 } := ⟨_, rfl⟩
   obtain ⟨q3, hq3⟩ : ∃ q3 : Re, q3 = goes q2 (cyc + 1) := ⟨_, rfl⟩
   have HE : Hid (reTake L r f = (q3, if q3.cycle ≤ q3.ahead then [asks q3] else [])) := Lib.hid (by
    rw [hk3] at hin
    rw [take_eq L hin.out (by rw [HCYC.out]; exact heq), hst, hsp, HAH.out, HM.out, hq3, hq2, HQ1.out, ← HCYC.out] <;> rfl)
   have HQ3 : Hid (q3.cycle = cyc + 1 ∧ q3.ahead = m) := Lib.hid ⟨by rw [hq3]; rfl, by rw [hq3, hq2, HQ1.out]; rfl⟩
   have HSTP : Hid (∀ wx, CoreAt wx gc L → Calls Tryz.prog 77 #[.pointer (some ⟨gc, 0, none⟩), .agg (stC st), .agg #[I (c : Int), I (d : Int)]] wx fun e w' => e = .returned (.tuple #[.agg (stC st2), I (out : Int)]) ∧ Below wx.heap.size wx w') := Lib.hid (fun wx hc => by
    have h := step_ok gc L st (2000 + T) (c : Int) (d : Int) wx hL (by omega) HSTF.out hc
    rw [hsp] at h
    exact h)
   have HQS : Hid (q1.state = st) := Lib.hid (by rw [HQ1.out]; exact hst)
   have HSR : Hid (∀ wx, RepAt wx g gc L q1 → wx.rangeAt g 3 (stL st)) := Lib.hid (fun wx hx => by have h := state_range hx (by rw [HQS.out]; exact hl17); rw [HQS.out] at h; exact h)
   have HI1 : Hid ((Tryz.prog.info? 100).map (·.size) = some (stL st).length) := Lib.hid (by rw [hl17]; exact infoState)
   have HI2 : Hid ((Tryz.prog.info? 100).map (·.size) = some (stC st2).size) := Lib.hid (by unfold stC; rw [List.size_toArray, hl17b]; exact infoState)
   have HI4 : Hid ((stC st2).all (·.oneCell') = true) := Lib.hid (stC_one st2)
   have HSTH : Hid (∀ wx, RepAt wx g gc L q1 → wx.there g 3 (stC st2).size) := Lib.hid (fun wx hx => hx.has.thereF 3 _ (by unfold stC; rw [List.size_toArray, hl17b]; decide))
   have HSS : Hid (∀ wx, TK w g gc g0 L q1 f wx → TK w g gc g0 L q2 f (wx.setCells g 3 (stC st2).toList)) := Lib.hid (fun wx hx => hx.sets 3 (stL st2) (by rw [hq2]; exact reF_set_state q1 gc st2 hl17b))
   have HCI : Hid (∀ wx, TK w g gc g0 L q1 f wx → wx.cell? ⟨g, 1, none⟩ = some (.pointer (some ⟨gc, 0, none⟩)) ∧ wx.cell? ⟨g0, 3, none⟩ = some (I (c : Int)) ∧ wx.cell? ⟨g0, 4, none⟩ = some (I (d : Int))) := Lib.hid (fun wx hx => by
    obtain ⟨a0, a1, a2, a3, a4⟩ := HFC.out _ _ hx.2.2.1
    exact ⟨hx.1.cell 1 (by decide) reF_core, a3, a4⟩)
   have HGO : Hid (∀ wx, TK w g gc g0 L q2 f wx → Calls Tryz.prog 107 #[.pointer (some ⟨g, 0, none⟩), I ((cyc : Int) + 1)] wx fun e w' => e = .returned (.tuple #[]) ∧ TK w g gc g0 L q3 f w') := Lib.hid (fun wx hx => by
    have e : ((cyc + 1 : Nat) : Int) = (cyc : Int) + 1 := by omega
    have h := re_goes hx.1 (cyc + 1)
    rw [e] at h
    exact h.mono (by rintro e w' ⟨rfl, hR, hT⟩; exact ⟨rfl, hx.turn hT (hq3 ▸ hR)⟩))
   have HC2 : Hid (∀ wx, TK w g gc g0 L q2 f wx → wx.cell? ⟨g, 2, none⟩ = some (I (cyc : Int))) := Lib.hid (fun wx hx => hx.1.cell 2 (by decide) (show reF q2 gc 2 = _ by rw [hq2, HQ1.out]; show I (r.cycle : Int) = _; rw [HCYC.out]))
   clear hst hsp hst2f hl17 hl17b hq2 hq3
   go_cut [] (fun wx => (TK w g gc g0 L q2 f) wx)
   case first =>
    rename_i J0 K0 hJ0 hK0
    have HK0 := Lib.hid hK0
    clear hK0
    refine region_all (by kernel_rfl) (fun b0 => b0.tmps.getD 0 undef = .pointer (some ⟨g, 0, none⟩) ∧ b0.tmps.getD 3 undef = .pointer (some ⟨g0, 0, none⟩)) ⟨rfl, rfl⟩ 228 rfl (fun i => ([.pointer (some ⟨g, 0, none⟩), .pointer (some ⟨g, 0, none⟩), .pointer (some ⟨g, 0, none⟩), .pointer (some ⟨g, 1, none⟩), .pointer (some ⟨gc, 0, none⟩), .pointer (some ⟨g, 0, none⟩), .pointer (some ⟨g, 0, none⟩), .pointer (some ⟨g, 3, none⟩), .agg (stC st), .pointer (some ⟨g0, 3, none⟩), .agg #[I (c : Int), I (d : Int)], .tuple #[.agg (stC st2), I (out : Int)], .tuple #[.agg (stC st2), I (out : Int)], .agg (stC st2), I (out : Int), .pointer (some ⟨g, 0, none⟩), .pointer (some ⟨g, 3, none⟩), undef] : List Value).getD i undef) [17] (by kernel_rfl) (fun j => ([(TK w g gc g0 L q1 f), (TK w g gc g0 L q2 f)] : List (World → Prop)).getD j (fun _ => True)) [103, 104, 105, 106, 107, 108, 109, 110, 111, 112, 113, 114, 102, 115, 116, 117, 118] (by kernel_rfl) (by kernel_rfl) (HT6.out.drew) ?_ ?_
    ·intro b0 hb0 i o ho
     have hi : i < 18 := (Array.getElem?_eq_some_iff.1 ho).1
     obtain ⟨f0, f3⟩ := hb0
     have hcase : i = 0 ∨ i = 1 ∨ i = 2 ∨ i = 3 ∨ i = 4 ∨ i = 5 ∨ i = 6 ∨ i = 7 ∨ i = 8 ∨ i = 9 ∨ i = 10 ∨ i = 11 ∨ i = 12 ∨ i = 13 ∨ i = 14 ∨ i = 15 ∨ i = 16 ∨ i = 17 := by omega
     clear hi
     rcases hcase with rfl | rfl | rfl | rfl | rfl | rfl | rfl | rfl | rfl | rfl | rfl | rfl | rfl | rfl | rfl | rfl | rfl | rfl
     ·simp only [List.getElem?_toArray, List.getElem?_cons_zero] at ho
      cases ho
      refine .inl ⟨by decide, fun M => stepA rfl (fun li ac wx H hn hed hM K hk => ?_)⟩
      have e0 : ac.tmps[0]?.getD undef = .pointer (some ⟨g, 0, none⟩) := slot_at ((H.frm.slot (by decide)).trans f0)
      clear hed H
      go_simp
      exact hk _ hM
     ·simp only [List.getElem?_toArray, List.getElem?_cons_zero, List.getElem?_cons_succ] at ho
      cases ho
      refine .inl ⟨by decide, fun M => stepA rfl (fun li ac wx H hn hed hM K hk => ?_)⟩
      have e0 : ac.tmps[0]?.getD undef = .pointer (some ⟨g, 0, none⟩) := slot_at ((H.frm.slot (by decide)).trans f0)
      clear hed H
      go_simp
      exact hk _ hM
     ·simp only [List.getElem?_toArray, List.getElem?_cons_zero, List.getElem?_cons_succ] at ho
      cases ho
      refine .inl ⟨by decide, fun M => stepA rfl (fun li ac wx H hn hed hM K hk => ?_)⟩
      have e104 : ac.tmps[104]?.getD undef = .pointer (some ⟨g, 0, none⟩) := slot_at (H.known 1 _ rfl (hed ⟨1, .data⟩ (by simp) rfl) 104 rfl)
      clear hed H
      go_simp
      exact hk _ hM
     ·simp only [List.getElem?_toArray, List.getElem?_cons_zero, List.getElem?_cons_succ] at ho
      cases ho
      refine .inl ⟨by decide, fun M => stepA rfl (fun li ac wx H hn hed hM K hk => ?_)⟩
      have e105 : ac.tmps[105]?.getD undef = .pointer (some ⟨g, 0, none⟩) := slot_at (H.known 2 _ rfl (hed ⟨2, .data⟩ (by simp) rfl) 105 rfl)
      clear hed H
      go_simp
      exact hk _ hM
     ·simp only [List.getElem?_toArray, List.getElem?_cons_zero, List.getElem?_cons_succ] at ho
      cases ho
      refine .inr (.inl ⟨by decide, by kernel_rfl, stepA rfl (fun li ac wx H hn hed hM K hk => ?_)⟩)
      have e106 : ac.tmps[106]?.getD undef = .pointer (some ⟨g, 1, none⟩) := slot_at (H.known 3 _ rfl (hed ⟨3, .data⟩ (by simp) rfl) 106 rfl)
      have hM1 : (TK w g gc g0 L q1 f) wx := hM
      obtain ⟨x1, x2, x3⟩ := HCI.out wx hM1
      clear hed H
      go_simp
      exact hk _ hM
     ·simp only [List.getElem?_toArray, List.getElem?_cons_zero, List.getElem?_cons_succ] at ho
      cases ho
      refine .inl ⟨by decide, fun M => stepA rfl (fun li ac wx H hn hed hM K hk => ?_)⟩
      have e0 : ac.tmps[0]?.getD undef = .pointer (some ⟨g, 0, none⟩) := slot_at ((H.frm.slot (by decide)).trans f0)
      clear hed H
      go_simp
      exact hk _ hM
     ·simp only [List.getElem?_toArray, List.getElem?_cons_zero, List.getElem?_cons_succ] at ho
      cases ho
      refine .inl ⟨by decide, fun M => stepA rfl (fun li ac wx H hn hed hM K hk => ?_)⟩
      have e108 : ac.tmps[108]?.getD undef = .pointer (some ⟨g, 0, none⟩) := slot_at (H.known 5 _ rfl (hed ⟨5, .data⟩ (by simp) rfl) 108 rfl)
      clear hed H
      go_simp
      exact hk _ hM
     ·simp only [List.getElem?_toArray, List.getElem?_cons_zero, List.getElem?_cons_succ] at ho
      cases ho
      refine .inl ⟨by decide, fun M => stepA rfl (fun li ac wx H hn hed hM K hk => ?_)⟩
      have e109 : ac.tmps[109]?.getD undef = .pointer (some ⟨g, 0, none⟩) := slot_at (H.known 6 _ rfl (hed ⟨6, .data⟩ (by simp) rfl) 109 rfl)
      clear hed H
      go_simp
      exact hk _ hM
     ·simp only [List.getElem?_toArray, List.getElem?_cons_zero, List.getElem?_cons_succ] at ho
      cases ho
      refine .inr (.inl ⟨by decide, by kernel_rfl, stepA rfl (fun li ac wx H hn hed hM K hk => ?_)⟩)
      have e110 : ac.tmps[110]?.getD undef = .pointer (some ⟨g, 3, none⟩) := slot_at (H.known 7 _ rfl (hed ⟨7, .data⟩ (by simp) rfl) 110 rfl)
      have hM1 : (TK w g gc g0 L q1 f) wx := hM
      clear hed H
      refine wp_load_mid 100 (.tmp 110) rfl g 3 (eval_at e110) (stL st) _ (HSR.out _ hM1.1) Tryz.underlying100 rfl HI1.out ?_
      exact hk _ hM
     ·simp only [List.getElem?_toArray, List.getElem?_cons_zero, List.getElem?_cons_succ] at ho
      cases ho
      refine .inl ⟨by decide, fun M => stepA rfl (fun li ac wx H hn hed hM K hk => ?_)⟩
      have e3 : ac.tmps[3]?.getD undef = .pointer (some ⟨g0, 0, none⟩) := slot_at ((H.frm.slot (by decide)).trans f3)
      clear hed H
      go_simp
      exact hk _ hM
     ·simp only [List.getElem?_toArray, List.getElem?_cons_zero, List.getElem?_cons_succ] at ho
      cases ho
      refine .inr (.inl ⟨by decide, by kernel_rfl, stepA rfl (fun li ac wx H hn hed hM K hk => ?_)⟩)
      have e112 : ac.tmps[112]?.getD undef = .pointer (some ⟨g0, 3, none⟩) := slot_at (H.known 9 _ rfl (hed ⟨9, .data⟩ (by simp) rfl) 112 rfl)
      have hM1 : (TK w g gc g0 L q1 f) wx := hM
      obtain ⟨x1, x2, x3⟩ := HCI.out wx hM1
      clear hed H
      go_simp
      exact hk _ hM
     ·simp only [List.getElem?_toArray, List.getElem?_cons_zero, List.getElem?_cons_succ] at ho
      cases ho
      refine .inr (.inl ⟨by decide, by kernel_rfl, stepA rfl (fun li ac wx H hn hed hM K hk => ?_)⟩)
      have e107 : ac.tmps[107]?.getD undef = .pointer (some ⟨gc, 0, none⟩) := slot_at (H.known 4 _ rfl (hed ⟨4, .data⟩ (by simp) rfl) 107 rfl)
      have e111 : ac.tmps[111]?.getD undef = .agg (stC st) := slot_at (H.known 8 _ rfl (hed ⟨8, .data⟩ (by simp) rfl) 111 rfl)
      have e113 : ac.tmps[113]?.getD undef = .agg #[I (c : Int), I (d : Int)] := slot_at (H.known 10 _ rfl (hed ⟨10, .data⟩ (by simp) rfl) 113 rfl)
      have hM1 : (TK w g gc g0 L q1 f) wx := hM
      clear hed H
      go_simp
      refine (HSTP.out _ hM1.1.core).mono ?_
      rintro e w' ⟨rfl, hb⟩
      exact hk _ (hM1.after hb)
     ·simp only [List.getElem?_toArray, List.getElem?_cons_zero, List.getElem?_cons_succ] at ho
      cases ho
      refine .inl ⟨by decide, fun M => stepA rfl (fun li ac wx H hn hed hM K hk => ?_)⟩
      have e114 : ac.tmps[114]?.getD undef = .tuple #[.agg (stC st2), I (out : Int)] := slot_at (H.known 11 _ rfl (hed ⟨11, .data⟩ (by simp) rfl) 114 rfl)
      clear hed H
      go_simp
      exact hk _ hM
     ·simp only [List.getElem?_toArray, List.getElem?_cons_zero, List.getElem?_cons_succ] at ho
      cases ho
      refine .inl ⟨by decide, fun M => stepA rfl (fun li ac wx H hn hed hM K hk => ?_)⟩
      have e102 : ac.tmps[102]?.getD undef = .tuple #[.agg (stC st2), I (out : Int)] := slot_at (H.known 12 _ rfl (hed ⟨12, .data⟩ (by simp) rfl) 102 rfl)
      clear hed H
      go_simp
      exact hk _ hM
     ·simp only [List.getElem?_toArray, List.getElem?_cons_zero, List.getElem?_cons_succ] at ho
      cases ho
      refine .inl ⟨by decide, fun M => stepA rfl (fun li ac wx H hn hed hM K hk => ?_)⟩
      have e102 : ac.tmps[102]?.getD undef = .tuple #[.agg (stC st2), I (out : Int)] := slot_at (H.known 12 _ rfl (hed ⟨12, .data⟩ (by simp) rfl) 102 rfl)
      clear hed H
      go_simp
      exact hk _ hM
     ·simp only [List.getElem?_toArray, List.getElem?_cons_zero, List.getElem?_cons_succ] at ho
      cases ho
      refine .inl ⟨by decide, fun M => stepA rfl (fun li ac wx H hn hed hM K hk => ?_)⟩
      have e103 : ac.tmps[103]?.getD undef = .pointer (some ⟨g, 0, none⟩) := slot_at (H.known 0 _ rfl (hed ⟨0, .data⟩ (by simp) rfl) 103 rfl)
      clear hed H
      go_simp
      exact hk _ hM
     ·simp only [List.getElem?_toArray, List.getElem?_cons_zero, List.getElem?_cons_succ] at ho
      cases ho
      refine .inl ⟨by decide, fun M => stepA rfl (fun li ac wx H hn hed hM K hk => ?_)⟩
      have e117 : ac.tmps[117]?.getD undef = .pointer (some ⟨g, 0, none⟩) := slot_at (H.known 15 _ rfl (hed ⟨15, .data⟩ (by simp) rfl) 117 rfl)
      clear hed H
      go_simp
      exact hk _ hM
     ·simp only [List.getElem?_toArray, List.getElem?_cons_zero, List.getElem?_cons_succ] at ho
      cases ho
      refine .inr (.inr (.inl ⟨0, rfl, stepA rfl (fun li ac wx H hn hed hM K hk => ?_)⟩))
      have e115 : ac.tmps[115]?.getD undef = .agg (stC st2) := slot_at (H.known 13 _ rfl (hed ⟨13, .data⟩ (by simp) rfl) 115 rfl)
      have e118 : ac.tmps[118]?.getD undef = .pointer (some ⟨g, 3, none⟩) := slot_at (H.known 16 _ rfl (hed ⟨16, .data⟩ (by simp) rfl) 118 rfl)
      have hM1 : (TK w g gc g0 L q1 f) wx := hM
      clear hed H
      refine wp_store_mid 100 (.tmp 118) (.tmp 115) rfl g 3 (stC st2) (eval_at e118) (eval_at e115) (HSTH.out _ hM1.1) HI2.out HI4.out ?_
      exact hk _ (HSS.out wx hM1)
    ·intro ac wx hF hK hM0
     have hM : (TK w g gc g0 L q2 f) wx := hM0
     have hMet := hF.meet
     simp only [List.foldl_cons, List.foldl_nil, List.setIfInBounds_toArray, List.set_cons_succ, List.set_cons_zero] at hMet
     refine HK0.out _ _ (Met.intro (hJ0 _ _ ?_))
     (repeat apply Exists.intro)
     exact ⟨hM, hMet⟩
   case rest =>
    have HT7 := Lib.hid hcut
    have i2 := HC2.out _ hcut
    have hwr : IntKind.i64.wrap ((cyc : Int) + 1) = (cyc : Int) + 1 := wr64 (by omega) (by omega)
    clear hcut HT6 HCI HSTP HSR HI1 HI2 HI4 HSTH HSS HC2
    go_upto_region 9 with (go_at_call 107; refine (HGO.out _ HT7.out).mono ?_; rintro e w8 ⟨rfl, HT8⟩)
    have HT8 := Lib.hid HT8
    clear i2 hwr HT7 HGO
    obtain ⟨cq, hcq⟩ : ∃ cq, cyc + 1 = cq := ⟨_, rfl⟩
    rw [hcq] at HQ3
    have i2 := HT8.out.1.cell 2 (by decide) (show reF q3 gc 2 = I (cq : Int) by rw [reF_cycle, HQ3.out.1])
    have i92 := HT8.out.1.cell 92 (by decide) (show reF q3 gc 92 = I (m : Int) by rw [reF_ahead, HQ3.out.2])
    have hl1 := HT8.out.1.has.lt
    clear hcq
    by_cases hle : cq ≤ m
    ·have HE2 : Hid (reTake L r f = (q3, [asks q3])) := Lib.hid (by rw [HE.out, if_pos (by rw [HQ3.out.1, HQ3.out.2]; exact hle)])
     go_quiet (fail)
     go_upto_region 10 with fail
     generalize hW2 : World.drewN _ _ = wz
     have HTZ : Hid (TK w g gc g0 L q3 f wz) := Lib.hid (by rw [← hW2]; repeat (first | exact HT8.out | refine TK.drewN ?_ _))
     clear hW2 HT8 i2 i92 hl1 hle HE
     go_wp2_with (first
      | (go_at_call 75; refine (re_asks HTZ.out.1).mono ?_; rintro e wy ⟨rfl, hby⟩)
      | (refine wpList_frames1 rfl (.tmp 136) rfl _ rfl rfl ?_))
     go_ret
     unfold TakePost
     rw [HE2.out]
     have hbz : Below wz.heap.size wz (wy.alloc (.cells (frC (asks q3)) 110)) := hby.alloc hby.size _
     exact ⟨⟨_, rfl, .inr ⟨_, rfl, by rw [HG.out]; exact Nat.le_trans (Nat.le_of_lt HTZ.out.2.2.1.lt) hby.size, by rw [frsC_one]; exact Has.new wy 110 _⟩⟩, HTZ.out.1.after hbz, HTZ.out.2.1.thenBelow hbz⟩
    ·have HE2 : Hid (reTake L r f = (q3, [])) := Lib.hid (by rw [HE.out, if_neg (by rw [HQ3.out.1, HQ3.out.2]; exact hle)])
     go_quiet (fail)
     go_upto_region 22 with fail
     generalize hW2 : World.drewN _ _ = wz
     have HTZ : Hid (TK w g gc g0 L q3 f wz) := Lib.hid (by rw [← hW2]; repeat (first | exact HT8.out | refine TK.drewN ?_ _))
     clear hW2 HT8 i2 i92 hl1 hle HE
     go_wp2_with fail
     go_ret
     unfold TakePost
     rw [HE2.out]
     exact ⟨⟨_, rfl, .inl ⟨rfl, rfl⟩⟩, HTZ.out.1, HTZ.out.2.1⟩
  ·have t1 : ((cy : Int) == (cyc : Int)) = false := by simp; omega
   have HE : Hid (reTake L r f = (q1, if q1.cycle ≤ q1.ahead then [asks q1] else [])) := Lib.hid (by
    rw [hk3] at hin
    have := HCYC.out
    rw [take_ne L hin.out (by omega), HAH.out, HM.out, HQ1.out])
   have HQ3 : Hid (q1.cycle = cyc ∧ q1.ahead = m) := Lib.hid ⟨by rw [HQ1.out]; exact HCYC.out, by rw [HQ1.out]⟩
   go_upto_region 6 with fail
   go_quiet (fail)
   go_upto_region 9 with fail
   generalize hW2 : World.drewN _ _ = w3
   have HT6 : Hid (TK w g gc g0 L q1 f w3) := Lib.hid (by rw [← hW2]; repeat (first | exact HT5.out | refine TK.drewN ?_ _))
   clear hW2 HT5 c2 i2 t1 hl0 hl1
   obtain ⟨cq, hcq⟩ : ∃ cq, cyc = cq := ⟨_, rfl⟩
   rw [hcq] at HQ3
   have i2 := HT6.out.1.cell 2 (by decide) (show reF q1 gc 2 = I (cq : Int) by rw [reF_cycle, HQ3.out.1])
   have i92 := HT6.out.1.cell 92 (by decide) (show reF q1 gc 92 = I (m : Int) by rw [reF_ahead, HQ3.out.2])
   have hl1 := HT6.out.1.has.lt
   clear hcq
   by_cases hle : cq ≤ m
   ·have HE2 : Hid (reTake L r f = (q1, [asks q1])) := Lib.hid (by rw [HE.out, if_pos (by rw [HQ3.out.1, HQ3.out.2]; exact hle)])
    go_quiet (fail)
    go_upto_region 10 with fail
    generalize hW2 : World.drewN _ _ = wz
    have HTZ : Hid (TK w g gc g0 L q1 f wz) := Lib.hid (by rw [← hW2]; repeat (first | exact HT6.out | refine TK.drewN ?_ _))
    clear hW2 HT6 i2 i92 hl1 hle HE
    go_wp2_with (first
     | (go_at_call 75; refine (re_asks HTZ.out.1).mono ?_; rintro e wy ⟨rfl, hby⟩)
     | (refine wpList_frames1 rfl (.tmp 136) rfl _ rfl rfl ?_))
    go_ret
    unfold TakePost
    rw [HE2.out]
    have hbz : Below wz.heap.size wz (wy.alloc (.cells (frC (asks q1)) 110)) := hby.alloc hby.size _
    exact ⟨⟨_, rfl, .inr ⟨_, rfl, by rw [HG.out]; exact Nat.le_trans (Nat.le_of_lt HTZ.out.2.2.1.lt) hby.size, by rw [frsC_one]; exact Has.new wy 110 _⟩⟩, HTZ.out.1.after hbz, HTZ.out.2.1.thenBelow hbz⟩
   ·have HE2 : Hid (reTake L r f = (q1, [])) := Lib.hid (by rw [HE.out, if_neg (by rw [HQ3.out.1, HQ3.out.2]; exact hle)])
    go_quiet (fail)
    go_upto_region 22 with fail
    generalize hW2 : World.drewN _ _ = wz
    have HTZ : Hid (TK w g gc g0 L q1 f wz) := Lib.hid (by rw [← hW2]; repeat (first | exact HT6.out | refine TK.drewN ?_ _))
    clear hW2 HT6 i2 i92 hl1 hle HE
    go_wp2_with fail
    go_ret
    unfold TakePost
    rw [HE2.out]
    exact ⟨⟨_, rfl, .inl ⟨rfl, rfl⟩⟩, HTZ.out.1, HTZ.out.2.1⟩
end
end Go.Proofs.YtdhekhlmdefcnabGreatDoor
