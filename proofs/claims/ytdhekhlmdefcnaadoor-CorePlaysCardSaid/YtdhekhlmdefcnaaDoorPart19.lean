/- Part 19 of the proof: LayoutChecks. -/
import Derived.Test.YtdhekhlmdefcnaaDoorPart18
import Derived.Test.YtdhekhlmdefcnaaDoorPart3
import Derived.Deep.RegionHeld3
/- The walk over LayoutChecks. -/
namespace Go.Proofs.YtdhekhlmdefcnaaDoor
open Go.RowKit
theorem refCheck_any (S d : Int) (A : Option Addr) (n c : Nat) (xs : List Int) (w : World) (hn : Hid (xs.length = n)) (hr : Reads w w.heap.size A (ints xs)) :
    Calls Tryd.prog 42 #[.agg #[I S, .slice A n c, I d]] w fun e w' => e = .returned (.agg (faultC (chk S xs d))) ∧ Below w.heap.size w w' := by
  by_cases h : outOf S n d
  · have h2 : chk S xs d = .bare 2 := chk_range (by rw [hn.out]; exact h)
    rw [h2]
    exact refCheck_out S d A n c w h
  · unfold outOf at h
    exact refCheck_in S d A n c xs w hn hr (by omega) (by omega) (by omega) (by omega) (by omega) (by omega)
theorem fault_two (r : Err) (h : r ≠ .ok) (h0 : ∀ e, r = .bare e → e ≠ 0) (h1 : ∀ e p, r = .place e p → e ≠ 0) : ∃ e p : Int, faultC r = #[I e, I p] ∧ e ≠ 0 := by
  cases r with
  | ok => exact absurd rfl h
  | bare e => exact ⟨e, -1, rfl, h0 e rfl⟩
  | place e p => exact ⟨e, p, rfl, h1 e p rfl⟩
theorem chk_bare {S : Int} {rs : List Int} {d e : Int} (h : chk S rs d = .bare e) : e ≠ 0 := by
  unfold chk at h
  split at h
  · injection h with h; omega
  · split at h
    · cases h
    · split at h <;> cases h
theorem chk_place {S : Int} {rs : List Int} {d e : Int} {p : Nat} (h : chk S rs d = .place e p) : e ≠ 0 := by
  unfold chk at h
  split at h
  · cases h
  · split at h
    · injection h with h; omega
    · split at h
      · injection h with h; omega
      · cases h
set_option maxHeartbeats 2000000 in
theorem checks_long (S d a b : Int) (A : Option Addr) (n c : Nat) (w : World) (h : 20 < n) :
    Calls Tryd.prog 10 #[.agg #[I S, .slice A n c, I d], .agg #[I a, I b]] w fun e w' => e = .returned (.bool true) ∧ Below w.heap.size w w' := by
  go_enter Tryd.func10, Tryd.ntmps10
  go_wp2
  go_ret
  exact ⟨rfl, ((Below.refl _ _).alloc (Nat.le_refl _) _).alloc (by simp) _⟩
set_option maxHeartbeats 4000000 in
set_option maxRecDepth 100000 in
theorem checks_bad (S d a b : Int) (A : Option Addr) (n c : Nat) (xs : List Int) (w : World) (hxn : Hid (xs.length = n)) (hn : n ≤ 20) (hc : n ≤ c) (hr : Reads w w.heap.size A (ints xs)) (hbad : Hid (chk S xs d ≠ .ok)) (hg : Hid (EType w)) :
    Calls Tryd.prog 10 #[.agg #[I S, .slice A n c, I d], .agg #[I a, I b]] w fun e w' => e = .returned (.bool true) ∧ Below w.heap.size w w' := by
  have hb1 : Below w.heap.size w ((w.alloc (.cells #[I S, .slice A n c, I d] 25)).alloc (.cells #[I a, I b] 35)) := ((Below.refl _ _).alloc (Nat.le_refl _) _).alloc (by simp) _
  have k0 := (Has.new w 25 #[I S, .slice A n c, I d]).alloc (.cells #[I a, I b] 35)
  have k1 := Has.new' (w.alloc (.cells #[I S, .slice A n c, I d] 25)) 35 #[I a, I b] (w.heap.size + 1) (by simp)
  have hr1 := hr.below hb1
  have hg1 := Lib.hid (hg.out.after hb1)
  obtain ⟨r, hrr⟩ : ∃ r, chk S xs d = r := ⟨_, rfl⟩
  obtain ⟨fe, fp, hf, hfe⟩ := fault_two r (hrr ▸ hbad.out) (fun e h => chk_bare (hrr.trans h)) (fun e p h => chk_place (hrr.trans h))
  have HR := Lib.hid hrr
  have HF := Lib.hid hf
  have H0 : Hid (∀ e, r = .bare e → e ≠ 0) := Lib.hid (fun e h => chk_bare (hrr.trans h))
  have tfe : (fe != 0) = true := by simpa using hfe
  clear hr hrr hf hfe hg
  go_enter Tryd.func10, Tryd.ntmps10
  go_upto_region 1 with fail
  generalize (w.alloc (.cells #[I S, .slice A n c, I d] 25)).alloc (.cells #[I a, I b] 35) = w1 at *
  have hl := k1.lt
  generalize hG : w.heap.size = g0 at *
  have HG := Lib.hid hG
  clear hG
  have HC1 : Hid (Calls Tryd.prog 42 #[.agg #[I S, .slice A n c, I d]] w1 fun e w' => e = .returned (.agg #[I fe, I fp]) ∧ Below w1.heap.size w1 w') := Lib.hid (by
    have h := refCheck_any S d A n c xs w1 hxn (hr1.more (by omega))
    rw [HR.out, HF.out] at h
    exact h)
  have c0 := k0.cellv 0 _ rfl
  have c1 := k0.cellv 1 _ rfl
  have c2 := k0.cellv 2 _ rfl
  go_upto_region 4 with (go_at_call 42; refine HC1.out.mono ?_; rintro e w2 ⟨rfl, hb2⟩)
  clear c0 c1 c2
  have kf := Has.new w2 95 #[I fe, I fp]
  have hbf : Below w2.heap.size w2 (w2.alloc (.cells #[I fe, I fp] 95)) := (Below.refl _ _).alloc (Nat.le_refl _) _
  have hb3 : Below w1.heap.size w1 (w2.alloc (.cells #[I fe, I fp] 95)) := hb2.trans (hbf.mono hb2.size)
  have k03 := k0.after hb3
  have k13 := k1.after hb3
  have hr3 := hr1.below (hb3.mono (by omega))
  have hg3 := Lib.hid (hg1.out.after hb3)
  have hs2 := hb2.size
  clear k0 k1 hr1 hg1 hb2 hbf
  generalize w2.alloc (.cells #[I fe, I fp] 95) = w3 at *
  generalize w2.heap.size = gf at *
  have hlf := kf.lt
  have HBX : Hid (Below g0 w w3) := Lib.hid (hb1.trans (hb3.mono (by omega)))
  clear hb1 hb3
  have HC2 : Hid (Calls Tryd.prog 14 #[.agg #[I S, .slice A n c, I d]] w3 fun e w' => (∃ v, e = .returned (.tuple #[.slice none 0 0, v]) ∧ ErrV w3 w' r v) ∧ Below w3.heap.size w3 w') := Lib.hid (by
    have h := conflicts_err S d A n c xs w3 hxn (by omega) hc (hr3.more (by omega)) hbad
    rw [HR.out] at h
    exact h)
  have c0 := k03.cellv 0 _ rfl
  have c1 := k03.cellv 1 _ rfl
  have c2 := k03.cellv 2 _ rfl
  go_upto_region 5 with (go_at_call 14; refine HC2.out.mono ?_; rintro e w4 ⟨⟨v1, rfl, hv1⟩, hb4⟩)
  clear c0 c1 c2 HC2
  have k04 := k03.after hb4
  have kf4 := kf.after hb4
  have hr4 := hr3.below (hb4.mono (by omega))
  have HV1 := Lib.hid hv1
  have hs4 := hb4.size
  clear hv1
  have HC3 : Hid (Calls Tryd.prog 15 #[.agg #[I S, .slice A n c, I d]] w4 fun e w' => (∃ v, e = .returned (.tuple #[I 0, v]) ∧ ErrV w4 w' r v) ∧ Below w4.heap.size w4 w') := Lib.hid (by
    have h := most_err S d A n c xs w4 hxn (by omega) hc (hr4.more (by omega)) hbad
    rw [HR.out] at h
    exact h)
  have c0 := k04.cellv 0 _ rfl
  have c1 := k04.cellv 1 _ rfl
  have c2 := k04.cellv 2 _ rfl
  go_upto_region 6 with (go_at_call 15; refine HC3.out.mono ?_; rintro e w5 ⟨⟨v2, rfl, hv2⟩, hb5⟩)
  clear c0 c1 c2 HC3
  have hb35 : Below w3.heap.size w3 w5 := hb4.trans (hb5.mono hb4.size)
  have k05 := k03.after hb35
  have kf5 := kf.after hb35
  have hr5 := hr3.below (hb35.mono (by omega))
  have HV2 := Lib.hid hv2
  have HV15 := Lib.hid (HV1.out.after hb5)
  have hs5 := hb5.size
  have k15 := k13.after hb35
  clear hv2 hb4 hb5 k04 kf4 hr4 HV1 k13
  have HC4 : Hid (Calls Tryd.prog 53 #[.agg #[I S, .slice A n c, I d], .agg #[I a, I b]] w5 fun e w' => (∃ v, e = .returned (.tuple #[.agg #[I 0, I 0], v]) ∧ ErrV w5 w' r v) ∧ Below w5.heap.size w5 w') := Lib.hid (by
    have h := fit_err S d a b A n c xs w5 hxn (by omega) hc (hr5.more (by omega)) hbad
    rw [HR.out] at h
    exact h)
  have c0 := k05.cellv 0 _ rfl
  have c1 := k05.cellv 1 _ rfl
  have c2 := k05.cellv 2 _ rfl
  have d0 := k15.cellv 0 _ rfl
  have d1 := k15.cellv 1 _ rfl
  go_upto_region 7 with (go_at_call 53; refine HC4.out.mono ?_; rintro e w6 ⟨⟨v3, rfl, hv3⟩, hb6⟩)
  clear c0 c1 c2 d0 d1 HC4
  have kx := Has.new w6 35 #[I 0, I 0]
  have hbn : Below w6.heap.size w6 (w6.alloc (.cells #[I 0, I 0] 35)) := (Below.refl _ _).alloc (Nat.le_refl _) _
  have hb57 : Below w5.heap.size w5 (w6.alloc (.cells #[I 0, I 0] 35)) := hb6.trans (hbn.mono hb6.size)
  have hb37 := hb35.trans (hb57.mono hb35.size)
  have k07 := k03.after hb37
  have kf7 := kf.after hb37
  have hr7 := hr3.below (hb37.mono (by omega))
  have HV17 := Lib.hid (HV15.out.after hb57)
  have HV27 := Lib.hid (HV2.out.after hb57)
  have HV37 := Lib.hid (hv3.after hbn)
  have hg7 := Lib.hid (hg3.out.after hb37)
  have hs6 := hb6.size
  have HB7 : Hid (Below g0 w (w6.alloc (.cells #[I 0, I 0] 35))) := Lib.hid (HBX.out.trans (hb37.mono (by omega)))
  have hs7 := hb37.size
  clear hv3 hb6 hbn hb57 hb35 hb37 k03 k05 k15 kf kf5 hr3 hr5 hg3 HV15 HV2
  generalize w6.alloc (.cells #[I 0, I 0] 35) = w7 at *
  generalize w6.heap.size = gx at *
  have HL : Hid (∀ wx, ((wx.cell? ⟨g0, 0, none⟩ = some (I S) ∧ wx.cell? ⟨g0, 1, none⟩ = some (.slice A n c) ∧ wx.cell? ⟨g0, 2, none⟩ = some (I d) ∧ wx.cell? ⟨gf, 0, none⟩ = some (I fe) ∧ wx.cell? ⟨gf, 1, none⟩ = some (I fp)) ∧ Below w7.heap.size w7 wx) → Calls Tryd.prog 54 #[.agg #[I S, .slice A n c, I d]] wx fun e w' => (∃ v, e = .returned v ∧ ErrV wx w' r v) ∧ Below wx.heap.size wx w') := Lib.hid (fun wx hS => by
    have hb := hS.2
    have h := hxn.out
    subst h
    refine (check_any S d A c xs wx (by omega) hc ((hr7.below (hb.mono (by omega))).more (by have := hb.size; omega))).mono ?_
    rintro e w' ⟨v, h1, h2, h3⟩
    rw [HR.out] at h2
    exact ⟨⟨v, h1, h2⟩, h3⟩)
  have HI : Hid (∀ w0 wx v, ErrV w0 wx r v → ((wx.cell? ⟨g0, 0, none⟩ = some (I S) ∧ wx.cell? ⟨g0, 1, none⟩ = some (.slice A n c) ∧ wx.cell? ⟨g0, 2, none⟩ = some (I d) ∧ wx.cell? ⟨gf, 0, none⟩ = some (I fe) ∧ wx.cell? ⟨gf, 1, none⟩ = some (I fp)) ∧ Below w7.heap.size w7 wx) → Calls Tryd.prog 43 #[v, .agg #[I fe, I fp]] wx fun e w' => e = .returned (.bool true) ∧ Below wx.heap.size wx w') := Lib.hid (fun w0 wx v hv hS => by
    have hb := hS.2
    rw [← HF.out]
    exact is_err r v w0 wx hv H0.out (Lib.hid (hg7.out.after hb)))
  have HK : Hid (∀ wx, Below w7.heap.size w7 wx → (wx.cell? ⟨g0, 0, none⟩ = some (I S) ∧ wx.cell? ⟨g0, 1, none⟩ = some (.slice A n c) ∧ wx.cell? ⟨g0, 2, none⟩ = some (I d) ∧ wx.cell? ⟨gf, 0, none⟩ = some (I fe) ∧ wx.cell? ⟨gf, 1, none⟩ = some (I fp)) ∧ Below w7.heap.size w7 wx) := Lib.hid (fun wx hb =>
    ⟨⟨(k07.after hb).cellv 0 _ rfl, (k07.after hb).cellv 1 _ rfl, (k07.after hb).cellv 2 _ rfl, (kf7.after hb).cellv 0 _ rfl, (kf7.after hb).cellv 1 _ rfl⟩, hb⟩)
  have HS0 := Below.refl w7.heap.size w7
  have HK2 : Hid (∀ wx wy, ((wx.cell? ⟨g0, 0, none⟩ = some (I S) ∧ wx.cell? ⟨g0, 1, none⟩ = some (.slice A n c) ∧ wx.cell? ⟨g0, 2, none⟩ = some (I d) ∧ wx.cell? ⟨gf, 0, none⟩ = some (I fe) ∧ wx.cell? ⟨gf, 1, none⟩ = some (I fp)) ∧ Below w7.heap.size w7 wx) → Below wx.heap.size wx wy → ((wy.cell? ⟨g0, 0, none⟩ = some (I S) ∧ wy.cell? ⟨g0, 1, none⟩ = some (.slice A n c) ∧ wy.cell? ⟨g0, 2, none⟩ = some (I d) ∧ wy.cell? ⟨gf, 0, none⟩ = some (I fe) ∧ wy.cell? ⟨gf, 1, none⟩ = some (I fp)) ∧ Below w7.heap.size w7 wy)) := Lib.hid (fun wx wy hS hb => HK.out wy (hS.2.trans (hb.mono hS.2.size)))
  have HI1 : Hid (∀ wx, ((wx.cell? ⟨g0, 0, none⟩ = some (I S) ∧ wx.cell? ⟨g0, 1, none⟩ = some (.slice A n c) ∧ wx.cell? ⟨g0, 2, none⟩ = some (I d) ∧ wx.cell? ⟨gf, 0, none⟩ = some (I fe) ∧ wx.cell? ⟨gf, 1, none⟩ = some (I fp)) ∧ Below w7.heap.size w7 wx) → Calls Tryd.prog 43 #[v1, .agg #[I fe, I fp]] wx fun e w' => e = .returned (.bool true) ∧ Below wx.heap.size wx w') := Lib.hid (fun wx hS => HI.out _ wx v1 (HV17.out.after hS.2) hS)
  have HI2 : Hid (∀ wx, ((wx.cell? ⟨g0, 0, none⟩ = some (I S) ∧ wx.cell? ⟨g0, 1, none⟩ = some (.slice A n c) ∧ wx.cell? ⟨g0, 2, none⟩ = some (I d) ∧ wx.cell? ⟨gf, 0, none⟩ = some (I fe) ∧ wx.cell? ⟨gf, 1, none⟩ = some (I fp)) ∧ Below w7.heap.size w7 wx) → Calls Tryd.prog 43 #[v2, .agg #[I fe, I fp]] wx fun e w' => e = .returned (.bool true) ∧ Below wx.heap.size wx w') := Lib.hid (fun wx hS => HI.out _ wx v2 (HV27.out.after hS.2) hS)
  have HI3 : Hid (∀ wx, ((wx.cell? ⟨g0, 0, none⟩ = some (I S) ∧ wx.cell? ⟨g0, 1, none⟩ = some (.slice A n c) ∧ wx.cell? ⟨g0, 2, none⟩ = some (I d) ∧ wx.cell? ⟨gf, 0, none⟩ = some (I fe) ∧ wx.cell? ⟨gf, 1, none⟩ = some (I fp)) ∧ Below w7.heap.size w7 wx) → Calls Tryd.prog 43 #[v3, .agg #[I fe, I fp]] wx fun e w' => e = .returned (.bool true) ∧ Below wx.heap.size wx w') := Lib.hid (fun wx hS => HI.out _ wx v3 (HV37.out.after hS.2) hS)
  go_region_held3 (fun wx => (wx.cell? ⟨g0, 0, none⟩ = some (I S) ∧ wx.cell? ⟨g0, 1, none⟩ = some (.slice A n c) ∧ wx.cell? ⟨g0, 2, none⟩ = some (I d) ∧ wx.cell? ⟨gf, 0, none⟩ = some (I fe) ∧ wx.cell? ⟨gf, 1, none⟩ = some (I fp)) ∧ Below w7.heap.size w7 wx)
    (first | exact HK2.out _ _ (by assumption) (by assumption) | exact HK.out _ HS0.drew)
    (first
      | (go_at_call 54; refine (HL.out _ (by assumption)).mono ?_; rintro e w8 ⟨⟨v4, rfl, hv4⟩, hb8⟩)
      | (go_at_call 43; (with_reducible refine (HI1.out _ (by assumption)).mono ?_); rintro e w8 ⟨rfl, hb8⟩)
      | (go_at_call 43; (with_reducible refine (HI2.out _ (by assumption)).mono ?_); rintro e w8 ⟨rfl, hb8⟩)
      | (go_at_call 43; (with_reducible refine (HI3.out _ (by assumption)).mono ?_); rintro e w8 ⟨rfl, hb8⟩)
      | (go_at_call 43; (with_reducible refine (HI.out _ _ _ (by assumption) (by assumption)).mono ?_); rintro e w8 ⟨rfl, hb8⟩))
  have hS8 : ((w8.cell? ⟨g0, 0, none⟩ = some (I S) ∧ w8.cell? ⟨g0, 1, none⟩ = some (.slice A n c) ∧ w8.cell? ⟨g0, 2, none⟩ = some (I d) ∧ w8.cell? ⟨gf, 0, none⟩ = some (I fe) ∧ w8.cell? ⟨gf, 1, none⟩ = some (I fp)) ∧ Below w7.heap.size w7 w8) := by assumption
  have hb78 := hS8.2
  have kx8 := kx.after hb78
  have kf8 := kf7.after hb78
  have HB8 : Hid (Below g0 w w8) := Lib.hid (HB7.out.trans (hb78.mono (by have := HB7.out.size; have := HG.out; omega)))
  have c0 := kf8.cellv 0 _ rfl
  have x0 := kx8.cellv 0 _ rfl
  have x1 := kx8.cellv 1 _ rfl
  clear hS8 hb78 kx8 kf8 HK HK2 HI HI1 HI2 HI3 HL HS0
  go_wp2_with fail
  go_ret
  exact ⟨rfl, HG.out ▸ HB8.out⟩
set_option maxHeartbeats 8000000 in
set_option maxRecDepth 100000 in
theorem checks_ok (S : Nat) (d a b : Int) (A : Option Addr) (n c : Nat) (rs : List Nat) (w : World) (hxn : Hid (rs.length = n)) (h1 : 1 ≤ S) (h2 : S ≤ 12) (h3 : 1 ≤ n) (hn : n ≤ 8) (hc : n ≤ c) (hr : Reads w w.heap.size A (ints (zs rs))) (hlt : Hid (∀ r ∈ rs, r < 4096)) (hS2 : Hid (∀ r ∈ rs, r < 2 ^ S))
    (hok : Hid (chk S (zs rs) d = .ok)) (ha : In64 a) (hb : In64 b) (hg : Hid (EType w)) (hT : Hid (TabIs w)) (hgt : 1 < w.heap.size) :
    Calls Tryd.prog 10 #[.agg #[I (S : Int), .slice A n c, I d], .agg #[I a, I b]] w fun e w' => e = .returned (.bool true) ∧ Below w.heap.size w w' := by
  have hb1 : Below w.heap.size w ((w.alloc (.cells #[I (S : Int), .slice A n c, I d] 25)).alloc (.cells #[I a, I b] 35)) := ((Below.refl _ _).alloc (Nat.le_refl _) _).alloc (by simp) _
  have k0 := (Has.new w 25 #[I (S : Int), .slice A n c, I d]).alloc (.cells #[I a, I b] 35)
  have k1 := Has.new' (w.alloc (.cells #[I (S : Int), .slice A n c, I d] 25)) 35 #[I a, I b] (w.heap.size + 1) (by simp)
  have hr1 := hr.below hb1
  have hg1 := Lib.hid (hg.out.after hb1)
  have HN : Hid ((zs rs).length = n) := Lib.hid (by rw [zs_length]; exact hxn.out)
  have HT1 : Hid (TabIs ((w.alloc (.cells #[I (S : Int), .slice A n c, I d] 25)).alloc (.cells #[I a, I b] 35))) := Lib.hid (fun j v h => (hb1.cell (p := ⟨1, j, none⟩) hgt).trans (hT.out j v h))
  clear hr hg hT
  go_enter Tryd.func10, Tryd.ntmps10
  go_upto_region 1 with fail
  generalize (w.alloc (.cells #[I (S : Int), .slice A n c, I d] 25)).alloc (.cells #[I a, I b] 35) = w1 at *
  have hl := k1.lt
  generalize hG : w.heap.size = g0 at *
  have HG := Lib.hid hG
  clear hG
  have HC1 : Hid (Calls Tryd.prog 42 #[.agg #[I (S : Int), .slice A n c, I d]] w1 fun e w' => e = .returned (.agg #[I 0, I (-1)]) ∧ Below w1.heap.size w1 w') := Lib.hid (by
    have h := refCheck_any S d A n c (zs rs) w1 HN (hr1.more (by omega))
    rw [hok.out] at h
    exact h)
  have c0 := k0.cellv 0 _ rfl
  have c1 := k0.cellv 1 _ rfl
  have c2 := k0.cellv 2 _ rfl
  go_upto_region 4 with (go_at_call 42; refine HC1.out.mono ?_; rintro e w2 ⟨rfl, hb2⟩)
  clear c0 c1 c2
  have kf := Has.new w2 95 #[I 0, I (-1)]
  have hbf : Below w2.heap.size w2 (w2.alloc (.cells #[I 0, I (-1)] 95)) := (Below.refl _ _).alloc (Nat.le_refl _) _
  have hb3 : Below w1.heap.size w1 (w2.alloc (.cells #[I 0, I (-1)] 95)) := hb2.trans (hbf.mono hb2.size)
  have k03 := k0.after hb3
  have k13 := k1.after hb3
  have hr3 := hr1.below (hb3.mono (by omega))
  have hg3 := Lib.hid (hg1.out.after hb3)
  have HT3 : Hid (TabIs (w2.alloc (.cells #[I 0, I (-1)] 95))) := Lib.hid (fun j v h => (hb3.cell (p := ⟨1, j, none⟩) (show 1 < w1.heap.size by omega)).trans (HT1.out j v h))
  have hs2 := hb2.size
  clear k0 k1 hr1 hg1 hb2 hbf HT1
  generalize w2.alloc (.cells #[I 0, I (-1)] 95) = w3 at *
  generalize w2.heap.size = gf at *
  have hlf := kf.lt
  have HBX : Hid (Below g0 w w3) := Lib.hid (hb1.trans (hb3.mono (by omega)))
  clear hb1 hb3
  have HC2 : Hid (Calls Tryd.prog 14 #[.agg #[I (S : Int), .slice A n c, I d]] w3 fun e w' => (∃ A c, e = .returned (.tuple #[.slice A n c, .nilIface]) ∧ w'.ownsRow w3.heap.size 3 1 (.slice A n c) n (ints (zs (confs rs)))) ∧ Below w3.heap.size w3 w') := Lib.hid
    (conflicts_ok S d A n c rs w3 hxn h3 hn hc (hr3.more (by omega)) hlt hok)
  have c0 := k03.cellv 0 _ rfl
  have c1 := k03.cellv 1 _ rfl
  have c2 := k03.cellv 2 _ rfl
  go_upto_region 5 with (go_at_call 14; refine HC2.out.mono ?_; rintro e w4 ⟨⟨A6, c6, rfl, hown⟩, hb4⟩)
  clear c0 c1 c2 HC2
  obtain ⟨_, hrc⟩ := own_slice hown
  have k04 := k03.after hb4
  have hr4 := hr3.below (hb4.mono (by omega))
  have hs4 := hb4.size
  clear hown
  have HT4 : Hid (TabIs w4) := Lib.hid (fun j v h => (hb4.cell (p := ⟨1, j, none⟩) (show 1 < w3.heap.size by omega)).trans (HT3.out j v h))
  have HC3 : Hid (Calls Tryd.prog 15 #[.agg #[I (S : Int), .slice A n c, I d]] w4 fun e w' => e = .returned (.tuple #[I (bestTo (confs rs) (2 ^ n)), .nilIface]) ∧ Below w4.heap.size w4 w') := Lib.hid
    (most_ok S d A n c rs w4 hxn h3 hn hc (hr4.more (by omega)) hlt hok HT4 (by omega))
  obtain ⟨mo, hmo⟩ : ∃ mo, bestTo (confs rs) (2 ^ n) = mo := ⟨_, rfl⟩
  rw [hmo] at HC3
  have HMO := Lib.hid hmo
  clear hmo
  have c0 := k04.cellv 0 _ rfl
  have c1 := k04.cellv 1 _ rfl
  have c2 := k04.cellv 2 _ rfl
  go_upto_region 6 with (go_at_call 15; refine HC3.out.mono ?_; rintro e w5 ⟨rfl, hb5⟩)
  clear c0 c1 c2 HC3 HT4 HT3
  have hb35 : Below w3.heap.size w3 w5 := hb4.trans (hb5.mono hb4.size)
  have k05 := k03.after hb35
  have k15 := k13.after hb35
  have kf5 := kf.after hb35
  have hr5 := hr3.below (hb35.mono (by omega))
  have hrc5 := (hrc.below hb5).more hb5.size
  have hs5 := hb5.size
  clear hb4 hb5 k04 hr4 k13 hrc
  have HC4 : Hid (Calls Tryd.prog 53 #[.agg #[I (S : Int), .slice A n c, I d], .agg #[I a, I b]] w5 fun e w' => e = .returned (.tuple #[.agg #[I (msk a S : Nat), I (msk b n : Nat)], .nilIface]) ∧ Below w5.heap.size w5 w') := Lib.hid (by
    have h := fit_ok S d A n c (zs rs) a b w5 HN hn hc (hr5.more (by omega)) (by omega) (by omega) hok
    simpa using h)
  have HF : Hid (∀ wx, Calls Tryd.prog 48 #[.agg #[I (S : Int), .slice A n c, I d], .agg #[I a, I b]] wx fun e w' => e = .returned (.agg #[I ((msk a S : Nat) : Int), I ((msk b n : Nat) : Int)]) ∧ Below wx.heap.size wx w') := Lib.hid (fun wx => refFit_ok S n c A a b d wx h2 (by omega) ha hb)
  generalize msk a S = ma at *
  generalize msk b n = mb at *
  have c0 := k05.cellv 0 _ rfl
  have c1 := k05.cellv 1 _ rfl
  have c2 := k05.cellv 2 _ rfl
  have d0 := k15.cellv 0 _ rfl
  have d1 := k15.cellv 1 _ rfl
  go_upto_region 7 with (go_at_call 53; refine HC4.out.mono ?_; rintro e w6 ⟨rfl, hb6⟩)
  clear c0 c1 c2 d0 d1 HC4
  have kx := Has.new w6 35 #[I (ma : Int), I (mb : Int)]
  have hbn : Below w6.heap.size w6 (w6.alloc (.cells #[I (ma : Int), I (mb : Int)] 35)) := (Below.refl _ _).alloc (Nat.le_refl _) _
  have hb57 : Below w5.heap.size w5 (w6.alloc (.cells #[I (ma : Int), I (mb : Int)] 35)) := hb6.trans (hbn.mono hb6.size)
  have hb37 := hb35.trans (hb57.mono hb35.size)
  have k07 := k05.after hb57
  have k17 := k15.after hb57
  have kf7 := kf.after hb37
  have hr7 := hr3.below (hb37.mono (by omega))
  have hrc7 := (hrc5.below hb57).more hb57.size
  have hg7 := Lib.hid (hg3.out.after hb37)
  have hs6 := hb6.size
  have HB7 : Hid (Below g0 w (w6.alloc (.cells #[I (ma : Int), I (mb : Int)] 35))) := Lib.hid (HBX.out.trans (hb37.mono (by omega)))
  have hs7 := hb37.size
  clear hb6 hbn hb57 hb35 hb37 k03 k05 k15 kf kf5 hr3 hr5 hg3 hrc5
  generalize w6.alloc (.cells #[I (ma : Int), I (mb : Int)] 35) = w7 at *
  generalize w6.heap.size = gx at *
  have HL : Hid (∀ wx, ((wx.cell? ⟨g0, 0, none⟩ = some (I (S : Int)) ∧ wx.cell? ⟨g0, 1, none⟩ = some (.slice A n c) ∧ wx.cell? ⟨g0, 2, none⟩ = some (I d) ∧ wx.cell? ⟨gf, 0, none⟩ = some (I 0) ∧ wx.cell? ⟨gf, 1, none⟩ = some (I (-1))) ∧ Below w7.heap.size w7 wx) → Calls Tryd.prog 54 #[.agg #[I (S : Int), .slice A n c, I d]] wx fun e w' => e = .returned .nilIface ∧ Below wx.heap.size wx w') := Lib.hid (fun wx hS =>
    check_ok S d A n c (zs rs) wx g0 HN hn hc (by have := hS.2.size; omega) (hr7.below (hS.2.mono (by omega))) hok)
  have HI : Hid (∀ wx, ((wx.cell? ⟨g0, 0, none⟩ = some (I (S : Int)) ∧ wx.cell? ⟨g0, 1, none⟩ = some (.slice A n c) ∧ wx.cell? ⟨g0, 2, none⟩ = some (I d) ∧ wx.cell? ⟨gf, 0, none⟩ = some (I 0) ∧ wx.cell? ⟨gf, 1, none⟩ = some (I (-1))) ∧ Below w7.heap.size w7 wx) → Calls Tryd.prog 43 #[.nilIface, .agg #[I 0, I (-1)]] wx fun e w' => e = .returned (.bool true) ∧ Below wx.heap.size wx w') := Lib.hid (fun wx hS => is_ok 0 0 wx (Lib.hid (hg7.out.after hS.2)))
  have HK : Hid (∀ wx, Below w7.heap.size w7 wx → ((wx.cell? ⟨g0, 0, none⟩ = some (I (S : Int)) ∧ wx.cell? ⟨g0, 1, none⟩ = some (.slice A n c) ∧ wx.cell? ⟨g0, 2, none⟩ = some (I d) ∧ wx.cell? ⟨gf, 0, none⟩ = some (I 0) ∧ wx.cell? ⟨gf, 1, none⟩ = some (I (-1))) ∧ Below w7.heap.size w7 wx)) := Lib.hid (fun wx hb =>
    ⟨⟨(k07.after hb).cellv 0 _ rfl, (k07.after hb).cellv 1 _ rfl, (k07.after hb).cellv 2 _ rfl, (kf7.after hb).cellv 0 _ rfl, (kf7.after hb).cellv 1 _ rfl⟩, hb⟩)
  have HS0 := Below.refl w7.heap.size w7
  have HK2 : Hid (∀ wx wy, ((wx.cell? ⟨g0, 0, none⟩ = some (I (S : Int)) ∧ wx.cell? ⟨g0, 1, none⟩ = some (.slice A n c) ∧ wx.cell? ⟨g0, 2, none⟩ = some (I d) ∧ wx.cell? ⟨gf, 0, none⟩ = some (I 0) ∧ wx.cell? ⟨gf, 1, none⟩ = some (I (-1))) ∧ Below w7.heap.size w7 wx) → Below wx.heap.size wx wy → ((wy.cell? ⟨g0, 0, none⟩ = some (I (S : Int)) ∧ wy.cell? ⟨g0, 1, none⟩ = some (.slice A n c) ∧ wy.cell? ⟨g0, 2, none⟩ = some (I d) ∧ wy.cell? ⟨gf, 0, none⟩ = some (I 0) ∧ wy.cell? ⟨gf, 1, none⟩ = some (I (-1))) ∧ Below w7.heap.size w7 wy)) := Lib.hid (fun wx wy hS hb => HK.out wy (hS.2.trans (hb.mono hS.2.size)))
  go_region_held3 (fun wx => ((wx.cell? ⟨g0, 0, none⟩ = some (I (S : Int)) ∧ wx.cell? ⟨g0, 1, none⟩ = some (.slice A n c) ∧ wx.cell? ⟨g0, 2, none⟩ = some (I d) ∧ wx.cell? ⟨gf, 0, none⟩ = some (I 0) ∧ wx.cell? ⟨gf, 1, none⟩ = some (I (-1))) ∧ Below w7.heap.size w7 wx))
    (first | exact HK2.out _ _ (by assumption) (by assumption) | exact HK.out _ HS0.drew)
    (first
      | (go_at_call 54; refine (HL.out _ (by assumption)).mono ?_; rintro e w8 ⟨rfl, hb8⟩)
      | (go_at_call 43; refine (HI.out _ (by assumption)).mono ?_; rintro e w8 ⟨rfl, hb8⟩))
  have hS9 : ((w8.cell? ⟨g0, 0, none⟩ = some (I (S : Int)) ∧ w8.cell? ⟨g0, 1, none⟩ = some (.slice A n c) ∧ w8.cell? ⟨g0, 2, none⟩ = some (I d) ∧ w8.cell? ⟨gf, 0, none⟩ = some (I 0) ∧ w8.cell? ⟨gf, 1, none⟩ = some (I (-1))) ∧ Below w7.heap.size w7 w8) := by assumption
  have hb79 := hS9.2
  have k09 := k07.after hb79
  have k19 := k17.after hb79
  have kf9 := kf7.after hb79
  have kx9 := kx.after hb79
  have hr9 := hr7.below (hb79.mono (by omega))
  have hrc9 := (hrc7.below hb79).more hb79.size
  have HB9 : Hid (Below g0 w w8) := Lib.hid (HB7.out.trans (hb79.mono (by omega)))
  have hs9 := hb79.size
  clear hS9 hb79 HK HK2 HI HL HS0 k07 k17 kf7 kx hr7 hrc7 hg7 HB7
  have e0 := kf9.cellv 0 _ rfl
  go_upto_region 11 with fail
  clear e0
  have HR : Hid (∀ wx, ((wx.cell? ⟨g0, 0, none⟩ = some (I (S : Int)) ∧ wx.cell? ⟨g0, 1, none⟩ = some (.slice A n c) ∧ wx.cell? ⟨g0, 2, none⟩ = some (I d) ∧ wx.cell? ⟨g0 + 1, 0, none⟩ = some (I a) ∧ wx.cell? ⟨g0 + 1, 1, none⟩ = some (I b) ∧ wx.cell? ⟨gx, 0, none⟩ = some (I (ma : Int)) ∧ wx.cell? ⟨gx, 1, none⟩ = some (I (mb : Int))) ∧ Below w8.heap.size w8 wx) → Calls Tryd.prog 55 #[.agg #[I (S : Int), .slice A n c, I d]] wx fun e w' => (∃ A c, e = .returned (.slice A n c) ∧ Reads w' w'.heap.size A (ints (zs (confs rs)))) ∧ Below wx.heap.size wx w') := Lib.hid (fun wx hS => by
    refine (refConflicts_ok S n c A d rs wx h2 hxn hn ((hr9.below (hS.2.mono (by omega))).more (by have := hS.2.size; omega)) hlt hS2).mono ?_
    rintro e w' ⟨⟨A2, c2, h1, h2⟩, h3⟩
    exact ⟨⟨A2, c2, h1, (own_slice h2).2⟩, h3⟩)
  have HSM : Hid (∀ wx A2 c2, ((wx.cell? ⟨g0, 0, none⟩ = some (I (S : Int)) ∧ wx.cell? ⟨g0, 1, none⟩ = some (.slice A n c) ∧ wx.cell? ⟨g0, 2, none⟩ = some (I d) ∧ wx.cell? ⟨g0 + 1, 0, none⟩ = some (I a) ∧ wx.cell? ⟨g0 + 1, 1, none⟩ = some (I b) ∧ wx.cell? ⟨gx, 0, none⟩ = some (I (ma : Int)) ∧ wx.cell? ⟨gx, 1, none⟩ = some (I (mb : Int))) ∧ Below w8.heap.size w8 wx) → Reads wx wx.heap.size A2 (ints (zs (confs rs))) → Calls Tryd.prog 52 #[.slice A6 n c6, .slice A2 n c2] wx fun e w' => e = .returned (.bool true) ∧ Below wx.heap.size wx w') := Lib.hid (fun wx A2 c2 hS hrd => by
    refine (same_ok A6 A2 n c6 c2 (zs (confs rs)) wx w8.heap.size wx.heap.size (Lib.hid (by rw [zs_length, confs_length]; exact hxn.out)) (by omega) (hrc9.below hS.2) hrd).mono ?_
    rintro e w' ⟨rfl, q, rfl⟩
    exact ⟨rfl, below_drewN (Below.refl _ _) q⟩)
  have HMS : Hid (∀ wx, ((wx.cell? ⟨g0, 0, none⟩ = some (I (S : Int)) ∧ wx.cell? ⟨g0, 1, none⟩ = some (.slice A n c) ∧ wx.cell? ⟨g0, 2, none⟩ = some (I d) ∧ wx.cell? ⟨g0 + 1, 0, none⟩ = some (I a) ∧ wx.cell? ⟨g0 + 1, 1, none⟩ = some (I b) ∧ wx.cell? ⟨gx, 0, none⟩ = some (I (ma : Int)) ∧ wx.cell? ⟨gx, 1, none⟩ = some (I (mb : Int))) ∧ Below w8.heap.size w8 wx) → Calls Tryd.prog 56 #[.agg #[I (S : Int), .slice A n c, I d], I 0, I 0] wx fun e w' => e = .returned (I (mo : Int)) ∧ Below wx.heap.size wx w') := Lib.hid (fun wx hS => by
    have h := refMost_ok S n c A d rs g0 hxn hn hlt n 0 0 wx (by omega) (by omega) (by have := hS.2.size; omega) (hr9.below (hS.2.mono (by omega)))
    have e : rMost (rs.drop 0) 0 = mo := by rw [List.drop_zero, ← most_eq (by rw [hxn.out]; exact hn), hxn.out]; exact HMO.out
    rw [e] at h
    exact h)
  have HK : Hid (∀ wx, Below w8.heap.size w8 wx → ((wx.cell? ⟨g0, 0, none⟩ = some (I (S : Int)) ∧ wx.cell? ⟨g0, 1, none⟩ = some (.slice A n c) ∧ wx.cell? ⟨g0, 2, none⟩ = some (I d) ∧ wx.cell? ⟨g0 + 1, 0, none⟩ = some (I a) ∧ wx.cell? ⟨g0 + 1, 1, none⟩ = some (I b) ∧ wx.cell? ⟨gx, 0, none⟩ = some (I (ma : Int)) ∧ wx.cell? ⟨gx, 1, none⟩ = some (I (mb : Int))) ∧ Below w8.heap.size w8 wx)) := Lib.hid (fun wx hb =>
    ⟨⟨(k09.after hb).cellv 0 _ rfl, (k09.after hb).cellv 1 _ rfl, (k09.after hb).cellv 2 _ rfl, (k19.after hb).cellv 0 _ rfl, (k19.after hb).cellv 1 _ rfl, (kx9.after hb).cellv 0 _ rfl, (kx9.after hb).cellv 1 _ rfl⟩, hb⟩)
  have HS0 := Below.refl w8.heap.size w8
  have HK2 : Hid (∀ wx wy, ((wx.cell? ⟨g0, 0, none⟩ = some (I (S : Int)) ∧ wx.cell? ⟨g0, 1, none⟩ = some (.slice A n c) ∧ wx.cell? ⟨g0, 2, none⟩ = some (I d) ∧ wx.cell? ⟨g0 + 1, 0, none⟩ = some (I a) ∧ wx.cell? ⟨g0 + 1, 1, none⟩ = some (I b) ∧ wx.cell? ⟨gx, 0, none⟩ = some (I (ma : Int)) ∧ wx.cell? ⟨gx, 1, none⟩ = some (I (mb : Int))) ∧ Below w8.heap.size w8 wx) → Below wx.heap.size wx wy → ((wy.cell? ⟨g0, 0, none⟩ = some (I (S : Int)) ∧ wy.cell? ⟨g0, 1, none⟩ = some (.slice A n c) ∧ wy.cell? ⟨g0, 2, none⟩ = some (I d) ∧ wy.cell? ⟨g0 + 1, 0, none⟩ = some (I a) ∧ wy.cell? ⟨g0 + 1, 1, none⟩ = some (I b) ∧ wy.cell? ⟨gx, 0, none⟩ = some (I (ma : Int)) ∧ wy.cell? ⟨gx, 1, none⟩ = some (I (mb : Int))) ∧ Below w8.heap.size w8 wy)) := Lib.hid (fun wx wy hS hb => HK.out wy (hS.2.trans (hb.mono hS.2.size)))
  go_region_held3 (fun wx => ((wx.cell? ⟨g0, 0, none⟩ = some (I (S : Int)) ∧ wx.cell? ⟨g0, 1, none⟩ = some (.slice A n c) ∧ wx.cell? ⟨g0, 2, none⟩ = some (I d) ∧ wx.cell? ⟨g0 + 1, 0, none⟩ = some (I a) ∧ wx.cell? ⟨g0 + 1, 1, none⟩ = some (I b) ∧ wx.cell? ⟨gx, 0, none⟩ = some (I (ma : Int)) ∧ wx.cell? ⟨gx, 1, none⟩ = some (I (mb : Int))) ∧ Below w8.heap.size w8 wx))
    (first | exact HK2.out _ _ (by assumption) (by assumption) | exact HK.out _ HS0.drew)
    (first
      | (go_at_call 55; refine (HR.out _ (by assumption)).mono ?_; rintro e w10 ⟨⟨A2, c2, rfl, hrd⟩, hb10⟩)
      | (go_at_call 52; refine (HSM.out _ _ _ (by assumption) (by assumption)).mono ?_; rintro e w10 ⟨rfl, hb10⟩)
      | (go_at_call 56; refine (HMS.out _ (by assumption)).mono ?_; rintro e w10 ⟨rfl, hb10⟩)
      | (go_at_call 48; refine (HF.out _).mono ?_; rintro e w10 ⟨rfl, hb10⟩))
  have hS10 : ((w10.cell? ⟨g0, 0, none⟩ = some (I (S : Int)) ∧ w10.cell? ⟨g0, 1, none⟩ = some (.slice A n c) ∧ w10.cell? ⟨g0, 2, none⟩ = some (I d) ∧ w10.cell? ⟨g0 + 1, 0, none⟩ = some (I a) ∧ w10.cell? ⟨g0 + 1, 1, none⟩ = some (I b) ∧ w10.cell? ⟨gx, 0, none⟩ = some (I (ma : Int)) ∧ w10.cell? ⟨gx, 1, none⟩ = some (I (mb : Int))) ∧ Below w8.heap.size w8 w10) := by assumption
  have HB10 : Hid (Below g0 w w10) := Lib.hid (HB9.out.trans (hS10.2.mono (by omega)))
  clear hS10 HK HK2 HS0
  go_wp2_with fail
  go_ret
  exact ⟨rfl, HG.out ▸ HB10.out⟩
/-- a layout that may be -/
theorem chk_ok_inv {S : Int} {xs : List Int} {d : Int} (h : chk S xs d = .ok) : ¬ outOf S xs.length d ∧ ∀ x ∈ xs, 0 < x ∧ x < 2 ^ S.toNat := by
  unfold chk at h
  split at h
  · cases h
  · rename_i ho
    refine ⟨ho, ?_⟩
    cases hb : badRoute S xs with
    | some i => rw [hb] at h; cases h
    | none =>
      unfold badRoute at hb
      rw [List.findIdx?_eq_none_iff] at hb
      intro x hx
      have := hb x hx
      simp at this
      omega
theorem zs_of (xs : List Int) (h : ∀ x ∈ xs, 0 ≤ x) : ∃ rs : List Nat, xs = zs rs := by
  refine ⟨xs.map Int.toNat, ?_⟩
  unfold zs
  rw [List.map_map]
  apply Eq.symm
  refine (List.map_congr_left (g := id) fun x hx => ?_).trans (List.map_id _)
  have := h x hx
  simp
  omega
theorem checks_any (S d a b : Int) (A : Option Addr) (n c : Nat) (xs : List Int) (w : World) (hxn : xs.length = n) (hc : n ≤ c) (hr : Reads w w.heap.size A (ints xs)) (ha : In64 a) (hb : In64 b) (hg : Hid (EType w)) (hT : Hid (TabIs w)) (hgt : 1 < w.heap.size) :
    Calls Tryd.prog 10 #[.agg #[I S, .slice A n c, I d], .agg #[I a, I b]] w fun e w' => e = .returned (.bool true) ∧ Below w.heap.size w w' := by
  by_cases hn : n ≤ 20
  · cases hk : chk S xs d with
    | ok =>
      obtain ⟨h1, h2⟩ := chk_ok_inv hk
      unfold outOf at h1
      obtain ⟨rs, rfl⟩ := zs_of xs (fun x hx => by have := (h2 x hx).1; omega)
      obtain ⟨s, rfl⟩ : ∃ s : Nat, S = (s : Int) := ⟨S.toNat, by omega⟩
      have hl : rs.length = n := by rw [← hxn, zs_length]
      rw [hxn] at h1
      have hlt : ∀ r ∈ rs, r < 2 ^ s := by
        intro r hr
        have := (h2 (r : Int) (List.mem_map.2 ⟨r, hr, rfl⟩)).2
        have e : ((2 : Int) ^ (s : Int).toNat) = ((2 ^ s : Nat) : Int) := by simp
        rw [e] at this
        omega
      have h12 : 2 ^ s ≤ 4096 := two_pow_small s (by omega)
      exact checks_ok s d a b A n c rs w (Lib.hid hl) (by omega) (by omega) (by omega) (by omega) hc hr (Lib.hid fun r hr => Nat.lt_of_lt_of_le (hlt r hr) h12) (Lib.hid hlt) (Lib.hid hk) ha hb hg hT hgt
    | bare e => exact checks_bad S d a b A n c xs w (Lib.hid hxn) hn hc hr (Lib.hid (by rw [hk]; exact fun h => by cases h)) hg
    | place e p => exact checks_bad S d a b A n c xs w (Lib.hid hxn) hn hc hr (Lib.hid (by rw [hk]; exact fun h => by cases h)) hg
  · exact checks_long S d a b A n c w (by omega)
end Go.Proofs.YtdhekhlmdefcnaaDoor
