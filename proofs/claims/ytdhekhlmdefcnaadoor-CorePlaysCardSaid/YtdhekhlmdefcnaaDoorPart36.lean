/- Part 36 of the proof: CorePlays. -/
import Derived.Test.YtdhekhlmdefcnaaDoorPart33
import Derived.Test.YtdhekhlmdefcnaaDoorPart3
import Derived.Test.YtdhekhlmdefcnaaDoorPart35
import Derived.Test.YtdhekhlmdefcnaaDoorPart4
/- The walk over CorePlays. (printed by gen_core.py) -/
namespace Go.Proofs.YtdhekhlmdefcnaaDoor
open Go.RowKit
set_option maxHeartbeats 2000000 in
theorem core_new_err (S d : Int) (A : Option Addr) (n c : Nat) (xs : List Int) (w : World) (hxn : Hid (xs.length = n)) (hn : n ≤ 1000000) (hc : n ≤ c) (hr : Reads w w.heap.size A (ints xs)) (hbad : Hid (chk S xs d ≠ .ok)) :
    Calls Tryd.prog 41 #[.agg #[I S, .slice A n c, I d]] w fun e w' => (∃ v, e = .returned (.tuple #[.pointer none, v]) ∧ ErrV w w' (chk S xs d) v) ∧ Below w.heap.size w w' := by
  have hb1 : Below w.heap.size w (w.alloc (.cells #[I S, .slice A n c, I d] 25)) := (Below.refl _ _).alloc (Nat.le_refl _) _
  have k0 := Has.new w 25 #[I S, .slice A n c, I d]
  have hr1 := hr.below hb1
  clear hr
  go_enter Tryd.func41, Tryd.ntmps41
  go_upto_region 1 with fail
  generalize w.alloc (.cells #[I S, .slice A n c, I d] 25) = w1 at *
  have hl := k0.lt
  generalize hG : w.heap.size = g0 at *
  have HG := Lib.hid hG
  clear hG
  have c0 := k0.cellv 0 _ rfl
  have c1 := k0.cellv 1 _ rfl
  have c2 := k0.cellv 2 _ rfl
  have HC : Hid (Calls Tryd.prog 14 #[.agg #[I S, .slice A n c, I d]] w1 fun e w' => (∃ v, e = .returned (.tuple #[.slice none 0 0, v]) ∧ ErrV w1 w' (chk S xs d) v) ∧ Below w1.heap.size w1 w') := Lib.hid (conflicts_err S d A n c xs w1 hxn hn hc (hr1.more (Nat.le_of_lt hl)) hbad)
  go_upto_region 2 with (go_at_call 14; refine HC.out.mono ?_; rintro e w2 ⟨⟨v, rfl, hv⟩, hb2⟩)
  have HV := Lib.hid hv
  have hb9 : Below g0 w w2 := hb1.trans (hb2.mono (by omega))
  rcases err_ne hv hbad.out with ⟨e, rfl⟩ | ⟨g, rfl⟩
  all_goals
    clear hv c0 c1 c2
    go_wp2_with fail
    go_ret2
    exact ⟨⟨_, rfl, HV.out.base (by rw [HG.out]; omega)⟩, HG.out ▸ hb9⟩
set_option maxHeartbeats 2000000 in
theorem core_long (S d : Int) (A A2 : Option Addr) (n c m c2 : Nat) (l : List Int) (w : World) (h : 20 < n ∨ (n ≤ 20 ∧ 100 < m)) :
    Calls Tryd.prog 9 #[.agg #[I S, .slice A n c, I d], .slice A2 m c2, .agg (ints l).toArray] w fun e w' => e = .returned (.bool true) ∧ Below w.heap.size w w' := by
  rcases h with h | ⟨h1, h⟩
  all_goals
    go_enter Tryd.func9, Tryd.ntmps9
    go_wp2
    go_ret
    exact ⟨rfl, ((Below.refl _ _).alloc (Nat.le_refl _) _).alloc (by simp) _⟩
set_option maxHeartbeats 4000000 in
set_option maxRecDepth 100000 in
theorem core_bad (S d : Int) (A A2 : Option Addr) (n c m c2 : Nat) (xs l : List Int) (w : World) (hxn : Hid (xs.length = n)) (hn : n ≤ 20) (hm : m ≤ 100) (hc : n ≤ c) (hr : Reads w w.heap.size A (ints xs)) (hbad : Hid (chk S xs d ≠ .ok)) (hg : Hid (EType w)) :
    Calls Tryd.prog 9 #[.agg #[I S, .slice A n c, I d], .slice A2 m c2, .agg (ints l).toArray] w fun e w' => e = .returned (.bool true) ∧ Below w.heap.size w w' := by
  have hb1 : Below w.heap.size w ((w.alloc (.cells #[I S, .slice A n c, I d] 25)).alloc (.cells (ints l).toArray 38)) := ((Below.refl _ _).alloc (Nat.le_refl _) _).alloc (by simp) _
  have k0 := (Has.new w 25 #[I S, .slice A n c, I d]).alloc (.cells (ints l).toArray 38)
  have hr1 := hr.below hb1
  have hg1 := Lib.hid (hg.out.after hb1)
  obtain ⟨r, hrr⟩ : ∃ r, chk S xs d = r := ⟨_, rfl⟩
  obtain ⟨fe, fp, hf, hfe⟩ := fault_two r (hrr ▸ hbad.out) (fun e h => chk_bare (hrr.trans h)) (fun e p h => chk_place (hrr.trans h))
  have HR := Lib.hid hrr
  have HF := Lib.hid hf
  have H0 : Hid (∀ e, r = .bare e → e ≠ 0) := Lib.hid (fun e h => chk_bare (hrr.trans h))
  have tfe : (fe != 0) = true := by simpa using hfe
  clear hr hrr hf hfe hg
  go_enter Tryd.func9, Tryd.ntmps9
  go_upto_region 1 with fail
  generalize (w.alloc (.cells #[I S, .slice A n c, I d] 25)).alloc (.cells (ints l).toArray 38) = w1 at *
  have hl := k0.lt
  generalize hG : w.heap.size = g0 at *
  have HG := Lib.hid hG
  clear hG
  have HC1 : Hid (Calls Tryd.prog 41 #[.agg #[I S, .slice A n c, I d]] w1 fun e w' => (∃ v, e = .returned (.tuple #[.pointer none, v]) ∧ ErrV w1 w' r v) ∧ Below w1.heap.size w1 w') := Lib.hid (by
    have h := core_new_err S d A n c xs w1 hxn (by omega) hc (hr1.more (by omega)) hbad
    rw [HR.out] at h
    exact h)
  have c0 := k0.cellv 0 _ rfl
  have c1 := k0.cellv 1 _ rfl
  have c2' := k0.cellv 2 _ rfl
  go_upto_region 4 with (go_at_call 41; refine HC1.out.mono ?_; rintro e w2 ⟨⟨v, rfl, hv⟩, hb2⟩)
  clear c0 c1 c2' HC1
  have k02 := k0.after hb2
  have hr2 := hr1.below (hb2.mono (by omega))
  have HV := Lib.hid hv
  have hs2 := hb2.size
  have HG2 := Lib.hid (hg1.out.after hb2)
  have HB2 : Hid (Below g0 w w2) := Lib.hid (hb1.trans (hb2.mono (by omega)))
  clear hv hb2 hb1 hg1 k0 hr1
  have HC2 : Hid (Calls Tryd.prog 42 #[.agg #[I S, .slice A n c, I d]] w2 fun e w' => e = .returned (.agg #[I fe, I fp]) ∧ Below w2.heap.size w2 w') := Lib.hid (by
    have h := refCheck_any S d A n c xs w2 hxn (hr2.more (by omega))
    rw [HR.out, HF.out] at h
    exact h)
  have c0 := k02.cellv 0 _ rfl
  have c1 := k02.cellv 1 _ rfl
  have c2' := k02.cellv 2 _ rfl
  go_upto_region 5 with (go_at_call 42; refine HC2.out.mono ?_; rintro e w3 ⟨rfl, hb3⟩)
  clear c0 c1 c2' HC2 k02 hr2
  have kf := Has.new w3 95 #[I fe, I fp]
  have hbf : Below w3.heap.size w3 (w3.alloc (.cells #[I fe, I fp] 95)) := (Below.refl _ _).alloc (Nat.le_refl _) _
  have hb4 : Below w2.heap.size w2 (w3.alloc (.cells #[I fe, I fp] 95)) := hb3.trans (hbf.mono hb3.size)
  have HV4 := Lib.hid (HV.out.after hb4)
  have HG4 := Lib.hid (HG2.out.after hb4)
  have HB4 : Hid (Below g0 w (w3.alloc (.cells #[I fe, I fp] 95))) := Lib.hid (HB2.out.trans (hb4.mono (by omega)))
  clear hb3 hbf hb4 HV HG2 HB2
  generalize w3.alloc (.cells #[I fe, I fp] 95) = w4 at *
  generalize w3.heap.size = gf at *
  have HI : Hid (Calls Tryd.prog 43 #[v, .agg #[I fe, I fp]] w4 fun e w' => e = .returned (.bool true) ∧ Below w4.heap.size w4 w') := Lib.hid (by
    have h := is_err r v w1 w4 HV4.out H0.out HG4.out
    rw [HF.out] at h
    exact h)
  have f0 := kf.cellv 0 _ rfl
  have f1 := kf.cellv 1 _ rfl
  have lf := kf.lt
  have HS4 : Hid (g0 ≤ w4.heap.size) := Lib.hid (by have := HB4.out.size; have := HG.out; omega)
  rcases err_ne HV4.out (by rw [← HR.out]; exact hbad.out) with ⟨e, rfl⟩ | ⟨g, rfl⟩
  all_goals
    clear HV4
    go_wp2_with (go_at_call 43; refine HI.out.mono ?_; rintro e w5 ⟨rfl, hb5⟩)
    go_ret
    exact ⟨rfl, HG.out ▸ HB4.out.trans (hb5.mono HS4.out)⟩

theorem chk_nodup {S : Int} {rs : List Nat} {d : Int} (h : chk S (zs rs) d = .ok) : rs.Nodup := by
  have ht : twiceAt (zs rs) = none := by
    unfold chk at h
    split at h
    · cases h
    · split at h
      · cases h
      · split at h
        · cases h
        · assumption
  unfold twiceAt at ht
  rw [List.find?_eq_none] at ht
  refine List.pairwise_iff_getElem.2 fun i j hi hj hij e => ?_
  refine ht j (by rw [List.mem_range, zs_length]; exact hj) ?_
  unfold twice
  rw [List.contains_iff_mem, List.mem_iff_getElem?]
  refine ⟨i, ?_⟩
  rw [List.getElem?_take, if_pos hij, zs_get, List.getElem?_eq_getElem hi, List.getD_eq_getElem?_getD, zs_get, List.getElem?_eq_getElem hj, e]
  rfl
/-- a layout that may be, of what Check says -/
theorem lay_of_chk {S : Int} {xs : List Int} {d : Int} (h : chk S xs d = .ok) : ∃ L : Lay, L.Ok ∧ S = (L.secs : Int) ∧ xs = zs L.routes ∧ d = (L.delay : Int) := by
  obtain ⟨h1, h2⟩ := chk_ok_inv h
  unfold outOf at h1
  obtain ⟨rs, rfl⟩ := zs_of xs (fun x hx => by have := (h2 x hx).1; omega)
  obtain ⟨s, rfl⟩ : ∃ s : Nat, S = (s : Int) := ⟨S.toNat, by omega⟩
  obtain ⟨dd, rfl⟩ : ∃ dd : Nat, d = (dd : Int) := ⟨d.toNat, by omega⟩
  rw [zs_length] at h1
  refine ⟨⟨s, rs, dd⟩, ⟨by show 1 ≤ s; omega, by show s ≤ 12; omega, by show 1 ≤ rs.length; omega, by show rs.length ≤ 8; omega, by show dd ≤ 20; omega, fun r hr => ?_, fun r hr => ?_, chk_nodup h⟩, rfl, rfl, rfl⟩
  · have := (h2 (r : Int) (List.mem_map.2 ⟨r, hr, rfl⟩)).1
    omega
  · have := (h2 (r : Int) (List.mem_map.2 ⟨r, hr, rfl⟩)).2
    have e : ((2 : Int) ^ (s : Int).toNat) = ((2 ^ s : Nat) : Int) := by simp
    rw [e] at this
    show r < 2 ^ s
    omega
set_option maxHeartbeats 8000000 in
set_option maxRecDepth 100000 in
theorem core_ok (L : Lay) (A A2 : Option Addr) (c m c2 : Nat) (ss : List (Int × Int)) (l : List Int) (w : World) (hL : L.Ok) (hm : m ≤ 100) (hss : Hid (ss.length = m)) (hc : L.routes.length ≤ c) (hr : Reads w w.heap.size A (ints (zs L.routes))) (hi : Hid (InsAt w w.heap.size A2 ss)) (hl : Hid (l.length = 17)) (hlo : Hid (∀ x ∈ l, -9223372036854775808 ≤ x ∧ x ≤ 9223372036854775807)) :
    Calls Tryd.prog 9 #[.agg #[I L.secs, .slice A L.routes.length c, I L.delay], .slice A2 m c2, .agg (ints l).toArray] w fun e w' => e = .returned (.bool true) ∧ Below w.heap.size w w' := by
  have hn8 := hL.many2
  have hb1 : Below w.heap.size w ((w.alloc (.cells #[I L.secs, .slice A L.routes.length c, I L.delay] 25)).alloc (.cells (ints l).toArray 38)) := ((Below.refl _ _).alloc (Nat.le_refl _) _).alloc (by simp) _
  have k0 := (Has.new w 25 #[I L.secs, .slice A L.routes.length c, I L.delay]).alloc (.cells (ints l).toArray 38)
  have k1 := Has.new' (w.alloc (.cells #[I L.secs, .slice A L.routes.length c, I L.delay] 25)) 38 (ints l).toArray (w.heap.size + 1) (by simp)
  have hr1 := hr.below hb1
  clear hr
  go_enter Tryd.func9, Tryd.ntmps9
  go_upto_region 1 with fail
  generalize (w.alloc (.cells #[I L.secs, .slice A L.routes.length c, I L.delay] 25)).alloc (.cells (ints l).toArray 38) = w1 at *
  have hl1 := k1.lt
  generalize hG1 : w.heap.size + 1 = g1 at *
  generalize hG : w.heap.size = g0 at *
  have HG := Lib.hid hG
  have HG1 : Hid (g1 = g0 + 1) := Lib.hid (by omega)
  clear hG hG1
  have HC1 : Hid (Calls Tryd.prog 41 #[.agg #[I L.secs, .slice A L.routes.length c, I L.delay]] w1 fun e w' => (∃ g, w1.heap.size ≤ g ∧ e = .returned (.tuple #[.pointer (some ⟨g, 0, none⟩), .nilIface]) ∧ CoreAt w' g L) ∧ Below w1.heap.size w1 w') := Lib.hid (new_ok A L.routes.length c L w1 hL (Lib.hid rfl) hc (hr1.more (by have := HG1.out; omega)))
  have c0 := k0.cellv 0 (I L.secs) rfl
  have c1 := k0.cellv 1 (.slice A L.routes.length c) rfl
  have c2' := k0.cellv 2 (I L.delay) rfl
  have hn20 : ¬ (20 : Int) < (L.routes.length : Int) := by omega
  have hm100 : ¬ (100 : Int) < (m : Int) := by omega
  go_upto_region 4 with (go_at_call 41; refine HC1.out.mono ?_; rintro e w2 ⟨⟨gc, hgc, rfl, hcore⟩, hb2⟩)
  clear c0 c1 c2' HC1 hn20 hm100
  have k02 := k0.after hb2
  have k12 := k1.after hb2
  have hr2 := hr1.below (hb2.mono (by have := HG1.out; omega))
  have HC := Lib.hid hcore
  have hs2 := hb2.size
  have HB2 : Hid (Below g0 w w2) := Lib.hid (hb1.trans (hb2.mono (by have := HG1.out; omega)))
  clear hb2 hb1 k0 k1 hr1 hcore
  have HC2 : Hid (Calls Tryd.prog 42 #[.agg #[I L.secs, .slice A L.routes.length c, I L.delay]] w2 fun e w' => e = .returned (.agg #[I 0, I (-1)]) ∧ Below w2.heap.size w2 w') := Lib.hid (by
    have h := refCheck_any L.secs L.delay A L.routes.length c (zs L.routes) w2 (Lib.hid (zs_length _)) (hr2.more (by have := HG1.out; omega))
    rw [chk_lay hL] at h
    exact h)
  have c0 := k02.cellv 0 (I L.secs) rfl
  have c1 := k02.cellv 1 (.slice A L.routes.length c) rfl
  have c2' := k02.cellv 2 (I L.delay) rfl
  go_upto_region 5 with (go_at_call 42; refine HC2.out.mono ?_; rintro e w3 ⟨rfl, hb3⟩)
  clear c0 c1 c2' HC2
  have kf := Has.new w3 95 #[I 0, I (-1)]
  have hbf : Below w3.heap.size w3 (w3.alloc (.cells #[I 0, I (-1)] 95)) := (Below.refl _ _).alloc (Nat.le_refl _) _
  have hb4 : Below w2.heap.size w2 (w3.alloc (.cells #[I 0, I (-1)] 95)) := hb3.trans (hbf.mono hb3.size)
  have k04 := k02.after hb4
  have k14 := k12.after hb4
  have HC4 := Lib.hid (HC.out.after hb4)
  have hr4 := hr2.below (hb4.mono (by have := HG1.out; omega))
  have HB4 : Hid (Below g0 w (w3.alloc (.cells #[I 0, I (-1)] 95))) := Lib.hid (HB2.out.trans (hb4.mono (by have := HG1.out; omega)))
  have hs4 := hb4.size
  clear hb3 hbf hb4 k02 k12 HC hr2 HB2
  generalize w3.alloc (.cells #[I 0, I (-1)] 95) = w4 at *
  generalize w3.heap.size = gf at *
  have f0 := kf.cellv 0 _ rfl
  have lf := kf.lt

  go_upto_region 9 with fail
  clear f0 lf kf
  have HN : Hid (Calls Tryd.prog 44 #[.agg #[I L.secs, .slice A L.routes.length c, I L.delay]] w4 fun e w' => (∃ x, e = .returned (.pointer (some ⟨x.g, 0, none⟩)) ∧ RcAt w' g0 x A c L St.zero ∧ w4.heap.size ≤ x.g ∧ ∀ b, FC x L.routes.length b → w4.heap.size ≤ b) ∧ Below w4.heap.size w4 w') := Lib.hid (rc_new L A c w4 g0 (by have := HG1.out; omega) hL.many1 hn8 hr4)
  have c0 := k04.cellv 0 (I L.secs) rfl
  have c1 := k04.cellv 1 (.slice A L.routes.length c) rfl
  have c2' := k04.cellv 2 (I L.delay) rfl
  go_upto_region 10 with (go_at_call 44; refine HN.out.mono ?_; rintro e w5 ⟨⟨x5, rfl, hx5, hg5, hF5⟩, hb5⟩)
  clear c0 c1 c2' HN
  have hb6 : Below w5.heap.size w5 (w5.alloc (.cells #[I 0, I 0, I 0, I 0, I 0, I 0, I 0, I 0, I 0, I 0, I 0, I 0, I 0, I 0, I 0, I 0, I 0] 38)) := (Below.refl _ _).alloc (Nat.le_refl _) _
  have k6 := Has.new w5 38 #[I 0, I 0, I 0, I 0, I 0, I 0, I 0, I 0, I 0, I 0, I 0, I 0, I 0, I 0, I 0, I 0, I 0]
  have hb46 := hb5.trans (hb6.mono hb5.size)
  have k16 := k14.after hb46
  have hs5 := hb5.size
  have HX6 : Hid (CpAt w (w5.alloc (.cells #[I 0, I 0, I 0, I 0, I 0, I 0, I 0, I 0, I 0, I 0, I 0, I 0, I 0, I 0, I 0, I 0, I 0] 38)) g0 g0 gc w5.heap.size x5 A c L St.zero St.zero) := Lib.hid ⟨k04.after hb46, HC4.out.after hb46, hx5.after hb6, k6, HB4.out.trans (hb46.mono (by have := HG1.out; omega)), by have := HG1.out; omega⟩
  have hr6 := hr4.below (hb46.mono (by have := HG1.out; omega))
  have HG11 : Hid (g1 < w5.heap.size) := Lib.hid (by omega)
  go_upto_region 11 with fail
  clear hb5 hb6 hb46 k6 k04 k14 HC4 hx5 hr4 HB4
  generalize w5.alloc (.cells #[I 0, I 0, I 0, I 0, I 0, I 0, I 0, I 0, I 0, I 0, I 0, I 0, I 0, I 0, I 0, I 0, I 0] 38) = w6 at *
  generalize w5.heap.size = g11 at *
  have hisz : (ints l).toArray.size = 17 := by rw [List.size_toArray, ints_length, hl.out]
  have hil : (Tryd.prog.info? 38).map (·.size) = some (ints l).toArray.size := by rw [hisz]; kernel_rfl
  have HIL := Lib.hid hil
  have HISZ := Lib.hid hisz
  clear hil hisz
  have HLD := Lib.hid (rc_load l HX6.out.rc hL rfl rfl hl hlo)
  go_upto_region 12 with (first
    | (refine wpList_load_row rfl 38 (.tmp 5) rfl g1 rfl 38 (ints l).toArray (0, 0) _ k16 Tryd.underlying38 rfl HIL.out ?_)
    | (go_at_call 45; refine HLD.out.mono ?_; rintro e w7 ⟨rfl, x7, s7, hx7, hg7, ht7, hF7, hs7⟩))
  have HX7 := Lib.hid (HX6.out.turn ht7 hx7)
  have k17 := k16.turned ht7 (HX6.out.rc.notF k16 (by decide))
  have hr7 := hr6.below (ht7.below (fun b hb => HX6.out.rc.ge hb) HX6.out.rc.base)
  have HS7 := Lib.hid hs7
  have hszw7 := ht7.size
  clear HLD HX6 k16 hr6 ht7 hx7 hF7 hs7
  have HRT := Lib.hid (core_right gc L l w7 hL hl hlo HX7.out.core)
  generalize hrb : rightB L l = rb at *
  have HRB := Lib.hid hrb
  clear hrb
  go_upto_region 14 with (first
    | (refine wpList_load_row rfl 38 (.tmp 5) rfl g1 rfl 38 (ints l).toArray (0, 0) _ k17 Tryd.underlying38 rfl HIL.out ?_)
    | (go_at_call 46; refine HRT.out.mono ?_; rintro e w8 ⟨rfl, hb8⟩))
  have HX8 := Lib.hid (HX7.out.after hb8)
  have k18 := k17.after hb8
  have hr8 := hr7.below (hb8.mono (by have := HG1.out; have := HG11.out; have := HX7.out.ks.lt; omega))
  clear HX7 k17 hr7 hb8 HRT
  go_cut [61] (fun v wx => v = .bool rb ∧ w8 = wx)
  case first =>
    go_wp2_with fail
    go_meet
    case rel => exact ⟨rfl, rfl⟩
  obtain ⟨rfl, rfl⟩ := hcut
  refine (‹∀ (a : Act) (w : World), Code.wp _ _ _ a w → _› _ _ ?_)
  go_cut [10] (fun v wx => ∃ x s, v = .pointer (some ⟨RcX.g x, 0, none⟩) ∧ Hid (CpAt w wx g0 g0 gc g11 x A c L s s) ∧ Hid (Sane L s) ∧ Hid (s.Fits 1000))
  case first =>
    cases rb with
    | true =>
      have hR := HRB.out
      have HSE : Hid (s7 = stNat l) := Lib.hid (HS7.out rfl)
      have HLE : Hid ((ints l).toArray = stC (stNat l)) := Lib.hid (by rw [← ints_lst, lst_load hL hl.out hR])
      have HSN := Lib.hid (sane_load hL hl.out hR)
      have HFT := Lib.hid (right_fits hL hl.out hR)
      have HRW := Lib.hid (HX8.out.row (stNat l))
      rw [HSE.out] at HRW
      clear hR
      have ks8 := HX8.out.ks
      have hz8 : Hid ((stC St.zero).size = (ints l).toArray.size) := Lib.hid (by rw [HISZ.out]; rfl)
      have hone : Hid ((ints l).toArray.all (·.oneCell') = true) := Lib.hid (by rw [HLE.out]; exact stC_one _)
      go_wp2_with (first
        | (refine wpList_load_row rfl 38 (.tmp 5) rfl g1 rfl 38 (ints l).toArray (0, 0) _ k18 Tryd.underlying38 rfl HIL.out ?_)
        | (refine wpList_store_row rfl 38 (.tmp 11) (.tmp 62) rfl g11 (ints l).toArray rfl rfl 38 _ ks8 HIL.out hz8.out hone.out ?_))
      go_meet
      case rel => exact ⟨x7, _, by rw [hg7], by rw [HLE.out]; exact HRW, HSN, HFT⟩
    | false =>
      have HN : Hid (Calls Tryd.prog 44 #[.agg #[I L.secs, .slice A L.routes.length c, I L.delay]] w8 fun e w' => (∃ x, e = .returned (.pointer (some ⟨x.g, 0, none⟩)) ∧ RcAt w' g0 x A c L St.zero ∧ w8.heap.size ≤ x.g ∧ ∀ b, FC x L.routes.length b → w8.heap.size ≤ b) ∧ Below w8.heap.size w8 w') := Lib.hid (rc_new L A c w8 g0 (by have := HX8.out.ks.lt; have := HG1.out; have := HG11.out; omega) hL.many1 hn8 hr8)
      have c0 := HX8.out.kl.cellv 0 (I L.secs) rfl
      have c1 := HX8.out.kl.cellv 1 (.slice A L.routes.length c) rfl
      have c2' := HX8.out.kl.cellv 2 (I L.delay) rfl
      go_wp2_with (go_at_call 44; refine HN.out.mono ?_; rintro e w9 ⟨⟨x9, rfl, hx9, -, -⟩, hb9⟩)
      go_meet
      case rel => exact ⟨x9, St.zero, rfl, Lib.hid ⟨(HX8.out.after hb9).kl, (HX8.out.after hb9).core, hx9, (HX8.out.after hb9).ks, (HX8.out.after hb9).low, HX8.out.lowk⟩, Lib.hid (sane_zero L), Lib.hid ⟨by decide, rfl, rfl, fun x hx => by have := List.eq_of_mem_replicate hx; omega, fun x hx => by have := List.eq_of_mem_replicate hx; omega⟩⟩
  case rest =>
    obtain ⟨xa, sa, rfl, HXA, HSA, HFA⟩ := hcut
    clear HX8 k18 hr8 HS7 hg7 hszw7
    generalize hgx : xa.g = gx at *
    have HGX := Lib.hid hgx
    clear hgx
    go_wp2_with fail
    go_loopw [13] (fun kv wr => ∃ (k : Nat) (x : RcX) (s : St), k ≤ m ∧ kv = I k ∧ Hid (x.g = gx) ∧ Hid (CpAt w wr g0 g0 gc g11 x A c L s s) ∧ Hid (Sane L s) ∧ Hid (s.Fits (1000 + 8 * k))) (fun kv _ => m - (intOf kv).toNat)
    case atStart => exact ⟨0, xa, sa, Nat.zero_le _, rfl, HGX, HXA, HSA, HFA⟩
    case round =>
      clear HXA HSA HFA HGX
      obtain ⟨k, x, s, hk, rfl, HGX, HX, HS, HF⟩ := hrel
      by_cases hkm : k < m
      · have hki : (k : Int) < (m : Int) := by omega
        have HKM := Lib.hid hkm
        obtain ⟨p, hp⟩ := some_at ss k (by rw [hss.out]; exact hkm)
        obtain ⟨bi, oi, rfl, hbi, hp1, hp2, hq1, hq2⟩ := hi.out k p hp
        obtain ⟨a, b⟩ := p
        have HP := Lib.hid hp
        have HIN : Hid (∀ wx, Below g0 w wx → wx.cell? ⟨bi, oi + k * 2, none⟩ = some (I a) ∧ wx.cell? ⟨bi, oi + k * 2 + 1, none⟩ = some (I b)) := Lib.hid (fun wx hb => ⟨(hb.cell (p := ⟨bi, oi + k * 2, none⟩) hbi).trans hp1, (hb.cell (p := ⟨bi, oi + k * 2 + 1, none⟩) hbi).trans hp2⟩)
        have HQ1 : Hid (In64 a) := Lib.hid hq1
        have HQ2 : Hid (In64 b) := Lib.hid hq2
        clear hp hp1 hp2 hq1 hq2 hbi hk hkm
        have HST : Hid (step L a b s = (stepS L (msk a L.secs) (msk b L.routes.length) s, outTo L.routes (msk a L.secs) (msk b L.routes.length) (stepS L (msk a L.secs) (msk b L.routes.length) s) L.routes.length)) := Lib.hid rfl
        have hcl : msk a L.secs < 4096 := Nat.lt_of_lt_of_le (msk_lt _ _) (two_pow_small _ hL.secs2)
        have hwa : msk b L.routes.length < 4096 := Nat.lt_of_lt_of_le (msk_lt _ _) (two_pow_small _ (by omega))
        have HF1 : Hid (s.Fits 1000000) := Lib.hid ⟨HF.out.set, HF.out.used8, HF.out.idle8, HF.out.used, fun y hy => Nat.le_trans (HF.out.idle y hy) (by have := HKM.out; omega)⟩
        have HFIT : Hid (∀ wx, Calls Tryd.prog 48 #[.agg #[I L.secs, .slice A L.routes.length c, I L.delay], .agg #[I a, I b]] wx fun e w' => e = .returned (.agg #[I ((msk a L.secs : Nat) : Int), I ((msk b L.routes.length : Nat) : Int)]) ∧ Below wx.heap.size wx w') := Lib.hid (fun wx => refFit_ok L.secs L.routes.length c A a b L.delay wx hL.secs2 (by omega) HQ1.out HQ2.out)
        have HSP := Lib.hid (sane_step (cl := msk a L.secs) (wa := msk b L.routes.length) hL HS.out)
        have HFP := Lib.hid (step_fits (c := a) (d := b) hL HF.out)
        have HRS : Hid (∀ wx, CpAt w wx g0 g0 gc g11 x A c L s s → Calls Tryd.prog 47 #[.pointer (some ⟨gx, 0, none⟩), .agg #[I (msk a L.secs : Nat), I (msk b L.routes.length : Nat)]] wx fun e w' => e = .returned (I ((outTo L.routes (msk a L.secs) (msk b L.routes.length) (stepS L (msk a L.secs) (msk b L.routes.length) s) L.routes.length : Nat) : Int)) ∧ ∃ x', x'.g = gx ∧ CpAt w w' g0 g0 gc g11 x' A c L (stepS L (msk a L.secs) (msk b L.routes.length) s) s) := Lib.hid (fun wx hx => by
          rw [← HGX.out]
          refine (rc_step hx.rc hL HS.out.used HS.out.tidy.set HF1.out hcl hwa).mono ?_
          rintro e w' ⟨rfl, x', h1, h2, h3, _⟩
          exact ⟨rfl, x', h2, hx.turn h3 h1⟩)
        have HCS : Hid (∀ wx, CoreAt wx gc L → Calls Tryd.prog 49 #[.pointer (some ⟨gc, 0, none⟩), .agg (stC s), .agg #[I a, I b]] wx fun e w' => e = .returned (.tuple #[.agg (stC (step L a b s).1), I (step L a b s).2]) ∧ Below wx.heap.size wx w') := Lib.hid (fun wx hx => step_ok gc L s _ a b wx hL (by have := HKM.out; omega) HF.out hx)
        rw [HST.out] at HCS HFP
        dsimp only at HCS HFP
        clear HST
        generalize stepS L (msk a L.secs) (msk b L.routes.length) s = s2 at *
        generalize outTo L.routes (msk a L.secs) (msk b L.routes.length) s2 L.routes.length = out at *
        generalize msk a L.secs = ma at *
        generalize msk b L.routes.length = mb at *
        go_upto_region 20 with fail
        go_cut [14] (fun s14 wx => s14 = I (out : Int) ∧ (fun wx => ∃ x', RcX.g x' = gx ∧ CpAt w wx g0 g0 gc g11 x' A c L s2 s) wx)
        case first =>
          rename_i J0 K0 hJ0 hK0
          have HK0 := Lib.hid hK0
          clear hK0
          refine region_all (by kernel_rfl) (fun b0 => b0.tmps.getD 1 undef = .slice (some ⟨bi, oi, none⟩) m c2 ∧ b0.tmps.getD 3 undef = .pointer (some ⟨g0, 0, none⟩) ∧ b0.tmps.getD 10 undef = .pointer (some ⟨gx, 0, none⟩) ∧ b0.tmps.getD 13 undef = I (k : Int)) ⟨rfl, rfl, rfl, rfl⟩ 136 rfl (fun i => ([.pointer (some ⟨gx, 0, none⟩), .agg #[I L.secs, .slice A L.routes.length c, I L.delay], .slice (some ⟨bi, oi, none⟩) m c2, I (k : Int), .pointer (some ⟨bi, oi + k * 2, none⟩), .agg #[I a, I b], .agg #[I (ma : Int), I (mb : Int)], I (out : Int), I (out : Int)] : List Value).getD i undef) [6, 7] (by kernel_rfl) (fun j => ([(fun wx => CpAt w wx g0 g0 gc g11 x A c L s s), (fun wx => CpAt w wx g0 g0 gc g11 x A c L s s), (fun wx => ∃ x', RcX.g x' = gx ∧ CpAt w wx g0 g0 gc g11 x' A c L s2 s)] : List (World → Prop)).getD j (fun _ => True)) [71, 72, 73, 74, 75, 76, 77, 78, 14] (by kernel_rfl) (by kernel_rfl) HX.out.drew ?_ ?_
          · intro b0 hb0 i o ho
            have hi : i < 9 := (Array.getElem?_eq_some_iff.1 ho).1
            obtain ⟨f1, f3, f10, f13⟩ := hb0
            have hcase : i = 0 ∨ i = 1 ∨ i = 2 ∨ i = 3 ∨ i = 4 ∨ i = 5 ∨ i = 6 ∨ i = 7 ∨ i = 8 := by omega
            clear hi
            rcases hcase with rfl | rfl | rfl | rfl | rfl | rfl | rfl | rfl | rfl
            · simp only [List.getElem?_toArray, List.getElem?_cons_zero] at ho
              cases ho
              refine .inl ⟨by decide, fun M => stepA rfl (fun li ac wx H hn hed hM K hk => ?_)⟩
              have e10 : ac.tmps[10]?.getD undef = .pointer (some ⟨gx, 0, none⟩) := slot_at ((H.frm.slot (by decide)).trans f10)
              clear hed H
              go_simp
              exact hk _ hM
            · simp only [List.getElem?_toArray, List.getElem?_cons_zero, List.getElem?_cons_succ] at ho
              cases ho
              refine .inr (.inl ⟨by decide, by kernel_rfl, stepA rfl (fun li ac wx H hn hed hM K hk => ?_)⟩)
              have e3 : ac.tmps[3]?.getD undef = .pointer (some ⟨g0, 0, none⟩) := slot_at ((H.frm.slot (by decide)).trans f3)
              have hM1 : (fun wx => CpAt w wx g0 g0 gc g11 x A c L s s) wx := hM
              have x0 := hM1.kl.cellv 0 (I L.secs) rfl
              have x1 := hM1.kl.cellv 1 (.slice A L.routes.length c) rfl
              have x2 := hM1.kl.cellv 2 (I L.delay) rfl
              clear hed H
              go_simp
              exact hk _ hM
            · simp only [List.getElem?_toArray, List.getElem?_cons_zero, List.getElem?_cons_succ] at ho
              cases ho
              refine .inl ⟨by decide, fun M => stepA rfl (fun li ac wx H hn hed hM K hk => ?_)⟩
              have e1 : ac.tmps[1]?.getD undef = .slice (some ⟨bi, oi, none⟩) m c2 := slot_at ((H.frm.slot (by decide)).trans f1)
              clear hed H
              go_simp
              exact hk _ hM
            · simp only [List.getElem?_toArray, List.getElem?_cons_zero, List.getElem?_cons_succ] at ho
              cases ho
              refine .inl ⟨by decide, fun M => stepA rfl (fun li ac wx H hn hed hM K hk => ?_)⟩
              have e13 : ac.tmps[13]?.getD undef = I (k : Int) := slot_at ((H.frm.slot (by decide)).trans f13)
              clear hed H
              go_simp
              exact hk _ hM
            · simp only [List.getElem?_toArray, List.getElem?_cons_zero, List.getElem?_cons_succ] at ho
              cases ho
              refine .inl ⟨by decide, fun M => stepA rfl (fun li ac wx H hn hed hM K hk => ?_)⟩
              have e73 : ac.tmps[73]?.getD undef = .slice (some ⟨bi, oi, none⟩) m c2 := slot_at (H.known 2 _ rfl (hed ⟨2, .data⟩ (by simp) rfl) 73 rfl)
              have e74 : ac.tmps[74]?.getD undef = I (k : Int) := slot_at (H.known 3 _ rfl (hed ⟨3, .data⟩ (by simp) rfl) 74 rfl)
              clear hed H
              go_simp
              exact hk _ hM
            · simp only [List.getElem?_toArray, List.getElem?_cons_zero, List.getElem?_cons_succ] at ho
              cases ho
              refine .inr (.inl ⟨by decide, by kernel_rfl, stepA rfl (fun li ac wx H hn hed hM K hk => ?_)⟩)
              have e75 : ac.tmps[75]?.getD undef = .pointer (some ⟨bi, oi + k * 2, none⟩) := slot_at (H.known 4 _ rfl (hed ⟨4, .data⟩ (by simp) rfl) 75 rfl)
              have hM1 : (fun wx => CpAt w wx g0 g0 gc g11 x A c L s s) wx := hM
              obtain ⟨x1, x2⟩ := HIN.out wx hM1.low
              clear hed H
              go_simp
              exact hk _ hM
            · simp only [List.getElem?_toArray, List.getElem?_cons_zero, List.getElem?_cons_succ] at ho
              cases ho
              refine .inr (.inr (.inl ⟨0, rfl, stepA rfl (fun li ac wx H hn hed hM K hk => ?_)⟩))
              have e72 : ac.tmps[72]?.getD undef = .agg #[I L.secs, .slice A L.routes.length c, I L.delay] := slot_at (H.known 1 _ rfl (hed ⟨1, .data⟩ (by simp) rfl) 72 rfl)
              have e76 : ac.tmps[76]?.getD undef = .agg #[I a, I b] := slot_at (H.known 5 _ rfl (hed ⟨5, .data⟩ (by simp) rfl) 76 rfl)
              have hM1 : (fun wx => CpAt w wx g0 g0 gc g11 x A c L s s) wx := hM
              clear hed H
              go_simp
              refine (HFIT.out wx).mono ?_
              rintro e w9 ⟨rfl, hb9⟩
              exact hk _ (hM1.after hb9)
            · simp only [List.getElem?_toArray, List.getElem?_cons_zero, List.getElem?_cons_succ] at ho
              cases ho
              refine .inr (.inr (.inl ⟨1, rfl, stepA rfl (fun li ac wx H hn hed hM K hk => ?_)⟩))
              have e71 : ac.tmps[71]?.getD undef = .pointer (some ⟨gx, 0, none⟩) := slot_at (H.known 0 _ rfl (hed ⟨0, .data⟩ (by simp) rfl) 71 rfl)
              have e77 : ac.tmps[77]?.getD undef = .agg #[I (ma : Int), I (mb : Int)] := slot_at (H.known 6 _ rfl (hed ⟨6, .data⟩ (by simp) rfl) 77 rfl)
              have hM1 : (fun wx => CpAt w wx g0 g0 gc g11 x A c L s s) wx := hM
              clear hed H
              go_simp
              refine (HRS.out wx hM1).mono ?_
              rintro e w9 ⟨rfl, h9⟩
              exact hk _ h9
            · simp only [List.getElem?_toArray, List.getElem?_cons_zero, List.getElem?_cons_succ] at ho
              cases ho
              refine .inl ⟨by decide, fun M => stepA rfl (fun li ac wx H hn hed hM K hk => ?_)⟩
              have e78 : ac.tmps[78]?.getD undef = I (out : Int) := slot_at (H.known 7 _ rfl (hed ⟨7, .data⟩ (by simp) rfl) 78 rfl)
              clear hed H
              go_simp
              exact hk _ hM
          · intro ac wx hF hK hM0
            have hM : (fun wx => ∃ x', RcX.g x' = gx ∧ CpAt w wx g0 g0 gc g11 x' A c L s2 s) wx := hM0
            have E14 := hK 8 _ rfl 14 rfl
            have hMet := hF.meet
            simp only [List.foldl_cons, List.foldl_nil, List.setIfInBounds_toArray, List.set_cons_succ, List.set_cons_zero, E14] at hMet
            refine HK0.out _ _ (Met.intro (hJ0 _ _ ?_))
            (repeat apply Exists.intro)
            exact ⟨⟨rfl, hM⟩, hMet⟩
        case rest =>
          obtain ⟨rfl, x2, hg2, hx2⟩ := hcut
          have HG2 := Lib.hid hg2
          have HX2 := Lib.hid hx2
          clear hg2 hx2 HX HGX HFIT HRS
          have hx2ks := HX2.out.ks
          have HI1 : Hid ((Tryd.prog.info? 38).map (·.size) = some (stC s).size) := Lib.hid (by rw [stC_size _ HF1.out.used8 HF1.out.idle8]; kernel_rfl)
          have HI2 : Hid ((Tryd.prog.info? 38).map (·.size) = some (stC s2).size) := Lib.hid (by rw [stC_size _ HSP.out.u8 HSP.out.d8]; kernel_rfl)
          have HI3 : Hid ((#[I 0, I 0, I 0, I 0, I 0, I 0, I 0, I 0, I 0, I 0, I 0, I 0, I 0, I 0, I 0, I 0, I 0] : Array Value).size = (stC s2).size) := Lib.hid (by rw [stC_size _ HSP.out.u8 HSP.out.d8]; rfl)
          have HI4 : Hid ((stC s2).all (·.oneCell') = true) := Lib.hid (stC_one _)
          have HI5 : Hid ((stC s).size = (stC s2).size) := Lib.hid (by rw [stC_size _ HSP.out.u8 HSP.out.d8, stC_size _ HF1.out.used8 HF1.out.idle8])
          have HLK : Hid (g0 ≤ g11 ∧ g11 < wc.heap.size) := Lib.hid ⟨HX2.out.lowk, hx2ks.lt⟩
          clear hx2ks
          obtain ⟨hw, hhw⟩ : ∃ hw, hw = wc.heap.size := ⟨_, rfl⟩
          have HHW : Hid (hw ≤ wc.heap.size) := Lib.hid (Nat.le_of_eq hhw)
          rw [← hhw] at HLK
          clear hhw
          go_upto_region 21 with fail
          refine region_alloc hw (by kernel_rfl) (fun b0 => b0.tmps.getD 1 undef = .slice (some ⟨bi, oi, none⟩) m c2 ∧ b0.tmps.getD 7 undef = .pointer (some ⟨gc, 0, none⟩) ∧ b0.tmps.getD 11 undef = .pointer (some ⟨g11, 0, none⟩) ∧ b0.tmps.getD 13 undef = I (k : Int)) ⟨rfl, rfl, rfl, rfl⟩ 136 rfl (fun γ i => ([.pointer (some ⟨gc, 0, none⟩), .agg (stC s), .slice (some ⟨bi, oi, none⟩) m c2, I (k : Int), .pointer (some ⟨bi, oi + k * 2, none⟩), .agg #[I a, I b], .tuple #[.agg (stC s2), I (out : Int)], .tuple #[.agg (stC s2), I (out : Int)], .agg (stC s2), I (out : Int), .pointer (some ⟨γ, 0, none⟩), undef, I (out : Int)] : List Value).getD i undef) 10 38 #[I 0, I 0, I 0, I 0, I 0, I 0, I 0, I 0, I 0, I 0, I 0, I 0, I 0, I 0, I 0, I 0, I 0] [11] (by kernel_rfl) (by decide) (by kernel_rfl) ?_ (fun wx => CpAt w wx g0 g0 gc g11 x2 A c L s2 s ∧ hw ≤ wx.heap.size) (fun j γ => ([fun _ => True, ((fun γ => (fun wx => CpAt w wx g0 g0 gc g11 x2 A c L s2 s ∧ Has wx γ 38 (stC s2)))) γ] : List (World → Prop)).getD j (fun _ => True)) [80, 81, 82, 83, 84, 85, 86, 79, 87, 88, 15, 16] (by kernel_rfl) (by kernel_rfl) ⟨HX2.out.drew, HHW.out⟩ ?_ ?_
          · intro γ γ' j hj
            by_cases hjm : j < 13
            · have hcase : j = 0 ∨ j = 1 ∨ j = 2 ∨ j = 3 ∨ j = 4 ∨ j = 5 ∨ j = 6 ∨ j = 7 ∨ j = 8 ∨ j = 9 ∨ j = 10 ∨ j = 11 ∨ j = 12 := by omega
              rcases hcase with rfl | rfl | rfl | rfl | rfl | rfl | rfl | rfl | rfl | rfl | rfl | rfl | rfl <;> first | rfl | exact absurd rfl hj
            · rw [List.getD_eq_getElem?_getD, List.getD_eq_getElem?_getD, List.getElem?_eq_none (by simp; omega), List.getElem?_eq_none (by simp; omega)]
          · intro b0 hb0 i o ho
            have hi : i < 13 := (Array.getElem?_eq_some_iff.1 ho).1
            obtain ⟨f1, f7, f11, f13⟩ := hb0
            have hcase : i = 0 ∨ i = 1 ∨ i = 2 ∨ i = 3 ∨ i = 4 ∨ i = 5 ∨ i = 6 ∨ i = 7 ∨ i = 8 ∨ i = 9 ∨ i = 10 ∨ i = 11 ∨ i = 12 := by omega
            clear hi
            rcases hcase with rfl | rfl | rfl | rfl | rfl | rfl | rfl | rfl | rfl | rfl | rfl | rfl | rfl
            · simp only [List.getElem?_toArray, List.getElem?_cons_zero] at ho
              cases ho
              refine .inl ⟨by decide, by decide, fun γ M => stepA rfl (fun li ac wx H hn hed hM K hk => ?_)⟩
              have e7 : ac.tmps[7]?.getD undef = .pointer (some ⟨gc, 0, none⟩) := slot_at ((H.frm.slot (by decide)).trans f7)
              clear hed H
              go_simp
              exact hk _ hM
            · simp only [List.getElem?_toArray, List.getElem?_cons_zero, List.getElem?_cons_succ] at ho
              cases ho
              refine .inr (.inl ⟨by decide, by decide, by kernel_rfl, fun γ w0 => stepA rfl (fun li ac wx H hn hed hM K hk => ?_)⟩)
              have e11 : ac.tmps[11]?.getD undef = .pointer (some ⟨g11, 0, none⟩) := slot_at ((H.frm.slot (by decide)).trans f11)
              obtain ⟨hM1, rfl⟩ := hM
              have hM1 : (fun wx => CpAt w wx g0 g0 gc g11 x2 A c L s2 s ∧ hw ≤ wx.heap.size) w0 := hM1
              clear hed H
              refine wp_load_row 38 (.tmp 11) rfl g11 (eval_at e11) 38 (stC s) (0, 0) _ hM1.1.ks Tryd.underlying38 rfl HI1.out ?_
              exact hk _ ⟨hM1, Below.refl _ _⟩
            · simp only [List.getElem?_toArray, List.getElem?_cons_zero, List.getElem?_cons_succ] at ho
              cases ho
              refine .inl ⟨by decide, by decide, fun γ M => stepA rfl (fun li ac wx H hn hed hM K hk => ?_)⟩
              have e1 : ac.tmps[1]?.getD undef = .slice (some ⟨bi, oi, none⟩) m c2 := slot_at ((H.frm.slot (by decide)).trans f1)
              clear hed H
              go_simp
              exact hk _ hM
            · simp only [List.getElem?_toArray, List.getElem?_cons_zero, List.getElem?_cons_succ] at ho
              cases ho
              refine .inl ⟨by decide, by decide, fun γ M => stepA rfl (fun li ac wx H hn hed hM K hk => ?_)⟩
              have e13 : ac.tmps[13]?.getD undef = I (k : Int) := slot_at ((H.frm.slot (by decide)).trans f13)
              clear hed H
              go_simp
              exact hk _ hM
            · simp only [List.getElem?_toArray, List.getElem?_cons_zero, List.getElem?_cons_succ] at ho
              cases ho
              refine .inl ⟨by decide, by decide, fun γ M => stepA rfl (fun li ac wx H hn hed hM K hk => ?_)⟩
              have e82 : ac.tmps[82]?.getD undef = .slice (some ⟨bi, oi, none⟩) m c2 := slot_at (H.known 2 _ rfl (hed ⟨2, .data⟩ (by simp) rfl) 82 rfl)
              have e83 : ac.tmps[83]?.getD undef = I (k : Int) := slot_at (H.known 3 _ rfl (hed ⟨3, .data⟩ (by simp) rfl) 83 rfl)
              clear hed H
              go_simp
              exact hk _ hM
            · simp only [List.getElem?_toArray, List.getElem?_cons_zero, List.getElem?_cons_succ] at ho
              cases ho
              refine .inr (.inl ⟨by decide, by decide, by kernel_rfl, fun γ w0 => stepA rfl (fun li ac wx H hn hed hM K hk => ?_)⟩)
              have e84 : ac.tmps[84]?.getD undef = .pointer (some ⟨bi, oi + k * 2, none⟩) := slot_at (H.known 4 _ rfl (hed ⟨4, .data⟩ (by simp) rfl) 84 rfl)
              obtain ⟨hM1, rfl⟩ := hM
              have hM1 : (fun wx => CpAt w wx g0 g0 gc g11 x2 A c L s2 s ∧ hw ≤ wx.heap.size) w0 := hM1
              obtain ⟨x1, x2⟩ := HIN.out w0 hM1.1.low
              clear hed H
              go_simp
              exact hk _ ⟨hM1, Below.refl _ _⟩
            · simp only [List.getElem?_toArray, List.getElem?_cons_zero, List.getElem?_cons_succ] at ho
              cases ho
              refine .inr (.inl ⟨by decide, by decide, by kernel_rfl, fun γ w0 => stepA rfl (fun li ac wx H hn hed hM K hk => ?_)⟩)
              have e80 : ac.tmps[80]?.getD undef = .pointer (some ⟨gc, 0, none⟩) := slot_at (H.known 0 _ rfl (hed ⟨0, .data⟩ (by simp) rfl) 80 rfl)
              have e81 : ac.tmps[81]?.getD undef = .agg (stC s) := slot_at (H.known 1 _ rfl (hed ⟨1, .data⟩ (by simp) rfl) 81 rfl)
              have e85 : ac.tmps[85]?.getD undef = .agg #[I a, I b] := slot_at (H.known 5 _ rfl (hed ⟨5, .data⟩ (by simp) rfl) 85 rfl)
              obtain ⟨hM1, rfl⟩ := hM
              have hM1 : (fun wx => CpAt w wx g0 g0 gc g11 x2 A c L s2 s ∧ hw ≤ wx.heap.size) w0 := hM1
              clear hed H
              go_simp
              refine (HCS.out _ hM1.1.core).mono ?_
              rintro e w' ⟨rfl, hb⟩
              exact hk _ ⟨⟨hM1.1.after hb, Nat.le_trans hM1.2 hb.size⟩, hb⟩
            · simp only [List.getElem?_toArray, List.getElem?_cons_zero, List.getElem?_cons_succ] at ho
              cases ho
              refine .inl ⟨by decide, by decide, fun γ M => stepA rfl (fun li ac wx H hn hed hM K hk => ?_)⟩
              have e86 : ac.tmps[86]?.getD undef = .tuple #[.agg (stC s2), I (out : Int)] := slot_at (H.known 6 _ rfl (hed ⟨6, .data⟩ (by simp) rfl) 86 rfl)
              clear hed H
              go_simp
              exact hk _ hM
            · simp only [List.getElem?_toArray, List.getElem?_cons_zero, List.getElem?_cons_succ] at ho
              cases ho
              refine .inl ⟨by decide, by decide, fun γ M => stepA rfl (fun li ac wx H hn hed hM K hk => ?_)⟩
              have e79 : ac.tmps[79]?.getD undef = .tuple #[.agg (stC s2), I (out : Int)] := slot_at (H.known 7 _ rfl (hed ⟨7, .data⟩ (by simp) rfl) 79 rfl)
              clear hed H
              go_simp
              exact hk _ hM
            · simp only [List.getElem?_toArray, List.getElem?_cons_zero, List.getElem?_cons_succ] at ho
              cases ho
              refine .inl ⟨by decide, by decide, fun γ M => stepA rfl (fun li ac wx H hn hed hM K hk => ?_)⟩
              have e79 : ac.tmps[79]?.getD undef = .tuple #[.agg (stC s2), I (out : Int)] := slot_at (H.known 7 _ rfl (hed ⟨7, .data⟩ (by simp) rfl) 79 rfl)
              clear hed H
              go_simp
              exact hk _ hM
            · simp only [List.getElem?_toArray, List.getElem?_cons_zero, List.getElem?_cons_succ] at ho
              cases ho
              refine .inr (.inr (.inl ⟨by decide, rfl, rfl, fun _ => rfl, fun wx hM1 => ?_, fun ac wx K hk => ?_⟩))
              · exact ⟨⟨hM1.1.after ((Below.refl _ _).alloc (Nat.le_refl _) _), Nat.le_trans hM1.2 (by simp)⟩, hM1.2⟩
              · go_simp
                exact hk
            · simp only [List.getElem?_toArray, List.getElem?_cons_zero, List.getElem?_cons_succ] at ho
              cases ho
              refine .inr (.inr (.inr ⟨0, rfl, by decide, fun γ => stepA rfl (fun li ac wx H hn hed hM K hk => ?_)⟩))
              have e15 : ac.tmps[15]?.getD undef = .pointer (some ⟨γ, 0, none⟩) := slot_at (H.known 10 _ rfl (hed ⟨10, .data⟩ (by simp) rfl) 15 rfl)
              have e87 : ac.tmps[87]?.getD undef = .agg (stC s2) := slot_at (H.known 8 _ rfl (hed ⟨8, .data⟩ (by simp) rfl) 87 rfl)
              have hM1 : (fun wx => CpAt w wx g0 g0 gc g11 x2 A c L s2 s ∧ hw ≤ wx.heap.size) wx ∧ Has wx γ 38 #[I 0, I 0, I 0, I 0, I 0, I 0, I 0, I 0, I 0, I 0, I 0, I 0, I 0, I 0, I 0, I 0, I 0] ∧ hw ≤ γ := hM
              clear hed H
              refine wp_store_row 38 (.tmp 15) (.tmp 87) rfl γ (stC s2) (eval_at e15) (eval_at e87) 38 _ hM1.2.1 HI2.out HI3.out HI4.out ?_
              exact hk _ ⟨hM1.1.1.farRow hM1.2.1 (by have := HLK.out; have := hM1.2.2; omega) (by have := HLK.out; have := hM1.2.2; omega) _, hM1.2.1.setRow _⟩
            · simp only [List.getElem?_toArray, List.getElem?_cons_zero, List.getElem?_cons_succ] at ho
              cases ho
              refine .inl ⟨by decide, by decide, fun γ M => stepA rfl (fun li ac wx H hn hed hM K hk => ?_)⟩
              have e88 : ac.tmps[88]?.getD undef = I (out : Int) := slot_at (H.known 9 _ rfl (hed ⟨9, .data⟩ (by simp) rfl) 88 rfl)
              clear hed H
              go_simp
              exact hk _ hM
          · intro γ ac wx hF hK hM0
            have hM : ((fun γ => (fun wx => CpAt w wx g0 g0 gc g11 x2 A c L s2 s ∧ Has wx γ 38 (stC s2)))) γ wx := hM0
            have E15 : ac.tmps.getD 15 undef = .pointer (some ⟨γ, 0, none⟩) := hK 10 _ rfl 15 rfl
            have E16 : ac.tmps.getD 16 undef = I (out : Int) := hK 12 _ rfl 16 rfl
            have hMet := hF.meet
            simp only [List.foldl_cons, List.foldl_nil, List.setIfInBounds_toArray, List.set_cons_succ, List.set_cons_zero, E15, E16] at hMet
            generalize ac.tmps.getD 80 undef = v80 at hMet
            generalize ac.tmps.getD 81 undef = v81 at hMet
            generalize ac.tmps.getD 82 undef = v82 at hMet
            generalize ac.tmps.getD 83 undef = v83 at hMet
            generalize ac.tmps.getD 84 undef = v84 at hMet
            generalize ac.tmps.getD 85 undef = v85 at hMet
            generalize ac.tmps.getD 86 undef = v86 at hMet
            generalize ac.tmps.getD 79 undef = v79 at hMet
            generalize ac.tmps.getD 87 undef = v87 at hMet
            generalize ac.tmps.getD 88 undef = v88 at hMet
            clear hF hK hM0 E15 E16
            subst hMet
            have HX3 := Lib.hid hM
            clear hM HCS HIN HX2
            have ks3 := HX3.out.1.ks
            have kγ := HX3.out.2
            go_upto_region 22 with fail
            go_cut [] (fun wy => Hid (CpAt w wy g0 g0 gc g11 x2 A c L s2 s2))
            case first =>
              have HX4 := Lib.hid (HX3.out.1.row s2)
              go_wp2_with (first
                | (refine wpList_load_row rfl 38 (.tmp 15) rfl γ rfl 38 (stC s2) (0, 0) _ kγ Tryd.underlying38 rfl HI2.out ?_)
                | (refine wpList_store_row rfl 38 (.tmp 11) (.tmp 89) rfl g11 (stC s2) rfl rfl 38 _ ks3 HI2.out HI5.out HI4.out ?_))
              go_meet
              case rel => exact HX4
            have HX4 := hcut
            clear ks3 kγ HX3
            go_upto_region 23 with fail
            have HRST : Hid (∀ wy, CpAt w wy g0 g0 gc g11 x2 A c L s2 s2 → Calls Tryd.prog 50 #[.pointer (some ⟨gx, 0, none⟩)] wy fun e w' => e = .returned (.agg (stC s2)) ∧ Below wy.heap.size wy w') := Lib.hid (fun wy hy => by
              rw [← HG2.out]
              exact rc_state hy.rc hL HSP.out.used ⟨HFP.out.set, HFP.out.used8, HFP.out.idle8, HFP.out.used, fun y hy => Nat.le_trans (HFP.out.idle y hy) (by have := HKM.out; omega)⟩ HSP.out.tidy)
            have HFITS : Hid (Fit (List.replicate 17 (some .i64)) (stC s2).toList) := Lib.hid (fit_state HFP.out (by have := HKM.out; omega))
            go_cut [98] (fun s98 wx => s98 = .bool false ∧ (fun wx => CpAt w wx g0 g0 gc g11 x2 A c L s2 s2) wx)
            case first =>
              rename_i J0 K0 hJ0 hK0
              have HK0 := Lib.hid hK0
              clear hK0
              refine region_all (by kernel_rfl) (fun b0 => b0.tmps.getD 10 undef = .pointer (some ⟨gx, 0, none⟩) ∧ b0.tmps.getD 11 undef = .pointer (some ⟨g11, 0, none⟩) ∧ b0.tmps.getD 14 undef = I (out : Int) ∧ b0.tmps.getD 16 undef = I (out : Int)) ⟨rfl, rfl, rfl, rfl⟩ 136 rfl (fun i => ([I (out : Int), I (out : Int), .bool false, .bool false, .agg (stC s2), .pointer (some ⟨gx, 0, none⟩), .agg (stC s2), .bool false, .bool false] : List Value).getD i undef) [] (by kernel_rfl) (fun j => ([(fun wx => CpAt w wx g0 g0 gc g11 x2 A c L s2 s2)] : List (World → Prop)).getD j (fun _ => True)) [90, 91, 92, 93, 94, 95, 96, 97, 98] (by kernel_rfl) (by kernel_rfl) HX4.out.drew ?_ ?_
              · intro b0 hb0 i o ho
                have hi : i < 9 := (Array.getElem?_eq_some_iff.1 ho).1
                obtain ⟨f10, f11, f14, f16⟩ := hb0
                have hcase : i = 0 ∨ i = 1 ∨ i = 2 ∨ i = 3 ∨ i = 4 ∨ i = 5 ∨ i = 6 ∨ i = 7 ∨ i = 8 := by omega
                clear hi
                rcases hcase with rfl | rfl | rfl | rfl | rfl | rfl | rfl | rfl | rfl
                · simp only [List.getElem?_toArray, List.getElem?_cons_zero] at ho
                  cases ho
                  refine .inl ⟨by decide, fun M => stepA rfl (fun li ac wx H hn hed hM K hk => ?_)⟩
                  have e16 : ac.tmps[16]?.getD undef = I (out : Int) := slot_at ((H.frm.slot (by decide)).trans f16)
                  clear hed H
                  go_simp
                  exact hk _ hM
                · simp only [List.getElem?_toArray, List.getElem?_cons_zero, List.getElem?_cons_succ] at ho
                  cases ho
                  refine .inl ⟨by decide, fun M => stepA rfl (fun li ac wx H hn hed hM K hk => ?_)⟩
                  have e14 : ac.tmps[14]?.getD undef = I (out : Int) := slot_at ((H.frm.slot (by decide)).trans f14)
                  clear hed H
                  go_simp
                  exact hk _ hM
                · simp only [List.getElem?_toArray, List.getElem?_cons_zero, List.getElem?_cons_succ] at ho
                  cases ho
                  refine .inl ⟨by decide, fun M => stepA rfl (fun li ac wx H hn hed hM K hk => ?_)⟩
                  have e90 : ac.tmps[90]?.getD undef = I (out : Int) := slot_at (H.known 0 _ rfl (hed ⟨0, .data⟩ (by simp) rfl) 90 rfl)
                  have e91 : ac.tmps[91]?.getD undef = I (out : Int) := slot_at (H.known 1 _ rfl (hed ⟨1, .data⟩ (by simp) rfl) 91 rfl)
                  clear hed H
                  go_simp
                  exact hk _ hM
                · simp only [List.getElem?_toArray, List.getElem?_cons_zero, List.getElem?_cons_succ] at ho
                  cases ho
                  refine .inl ⟨by decide, fun M => stepA rfl (fun li ac wx H hn hed hM K hk => ?_)⟩
                  have e92 : ac.tmps[92]?.getD undef = .bool false := slot_at (H.known 2 _ rfl (hed ⟨2, .data⟩ (by simp) rfl) 92 rfl)
                  clear hed H
                  go_simp
                  exact hk _ hM
                · simp only [List.getElem?_toArray, List.getElem?_cons_zero, List.getElem?_cons_succ] at ho
                  cases ho
                  refine .inr (.inl ⟨by decide, by kernel_rfl, stepAG (j := 3) rfl rfl rfl rfl (by simp) (fun li ac wx H hn hed hM K hk => ?_)⟩)
                  have e11 : ac.tmps[11]?.getD undef = .pointer (some ⟨g11, 0, none⟩) := slot_at ((H.frm.slot (by decide)).trans f11)
                  have hM1 : (fun wx => CpAt w wx g0 g0 gc g11 x2 A c L s2 s2) wx := hM
                  clear hed H
                  refine wp_load_row 38 (.tmp 11) rfl g11 (eval_at e11) 38 (stC s2) (0, 0) _ hM1.ks Tryd.underlying38 rfl HI2.out ?_
                  exact hk _ hM
                · simp only [List.getElem?_toArray, List.getElem?_cons_zero, List.getElem?_cons_succ] at ho
                  cases ho
                  refine .inl ⟨by decide, fun M => stepAG (j := 3) rfl rfl rfl rfl (by simp) (fun li ac wx H hn hed hM K hk => ?_)⟩
                  have e10 : ac.tmps[10]?.getD undef = .pointer (some ⟨gx, 0, none⟩) := slot_at ((H.frm.slot (by decide)).trans f10)
                  clear hed H
                  go_simp
                  exact hk _ hM
                · simp only [List.getElem?_toArray, List.getElem?_cons_zero, List.getElem?_cons_succ] at ho
                  cases ho
                  refine .inr (.inl ⟨by decide, by kernel_rfl, stepAG (j := 3) rfl rfl rfl rfl (by simp) (fun li ac wx H hn hed hM K hk => ?_)⟩)
                  have e95 : ac.tmps[95]?.getD undef = .pointer (some ⟨gx, 0, none⟩) := slot_at (H.known 5 _ rfl (hed ⟨5, .data⟩ (by simp) rfl) 95 rfl)
                  have hM1 : (fun wx => CpAt w wx g0 g0 gc g11 x2 A c L s2 s2) wx := hM
                  clear hed H
                  go_simp
                  refine (HRST.out _ hM1).mono ?_
                  rintro e w' ⟨rfl, hb⟩
                  exact hk _ (hM1.after hb)
                · simp only [List.getElem?_toArray, List.getElem?_cons_zero, List.getElem?_cons_succ] at ho
                  cases ho
                  refine .inl ⟨by decide, fun M => stepAG (j := 3) rfl rfl rfl rfl (by simp) (fun li ac wx H hn hed hM K hk => ?_)⟩
                  have e94 : ac.tmps[94]?.getD undef = .agg (stC s2) := slot_at (H.known 4 _ rfl (hed ⟨4, .data⟩ (by simp) rfl) 94 rfl)
                  have e96 : ac.tmps[96]?.getD undef = .agg (stC s2) := slot_at (H.known 6 _ rfl (hed ⟨6, .data⟩ (by simp) rfl) 96 rfl)
                  clear hed H
                  exact wp_neq_row 38 38 5 (stC s2) (stC s2) (List.replicate 17 (some .i64)) (.tmp 94) (.tmp 96) rfl (eval_at e94) (eval_at e96) (by decide) (by kernel_rfl) sigState (by kernel_rfl) (by kernel_rfl) (by kernel_rfl) HFITS.out HFITS.out true (by simp) (hk _ hM)
                · simp only [List.getElem?_toArray, List.getElem?_cons_zero, List.getElem?_cons_succ] at ho
                  cases ho
                  refine .inl ⟨by decide, fun M => stepA rfl (fun li ac wx H hn hed hM K hk => ?_)⟩
                  have e93 : ac.tmps[93]?.getD undef = .bool false := slot_at (H.known 3 _ rfl (hed ⟨3, .data⟩ (by simp) rfl) 93 rfl)
                  have e97 : ac.tmps[97]?.getD undef = .bool false := slot_at (H.known 7 _ rfl (hed ⟨7, .data⟩ (by simp) rfl) 97 rfl)
                  clear hed H
                  go_simp
                  exact hk _ hM
              · intro ac wx hF hK hM0
                have hM : (fun wx => CpAt w wx g0 g0 gc g11 x2 A c L s2 s2) wx := hM0
                have E98 := hK 8 _ rfl 98 rfl
                have hMet := hF.meet
                simp only [List.foldl_cons, List.foldl_nil, List.setIfInBounds_toArray, List.set_cons_succ, List.set_cons_zero, E98] at hMet
                refine HK0.out _ _ (Met.intro (hJ0 _ _ ?_))
                (repeat apply Exists.intro)
                exact ⟨⟨rfl, hM⟩, hMet⟩
            case rest =>
              obtain ⟨rfl, hx5⟩ := hcut
              have HX5 := Lib.hid hx5
              clear hx5 HX4 HRST HFITS HI1 HI3 HI4 HI5
              have u8 := HSP.out.u8
              have d8 := HSP.out.d8
              have HD8 := Lib.hid d8
              have HU8 := Lib.hid u8
              clear u8 d8
              go_wp2_with fail
              go_loopw [17] (fun jv wy => ∃ j : Nat, j ≤ L.routes.length ∧ jv = I j ∧ Hid (∀ i, i < j → s2.idle.getD i 0 < 1000) ∧ wc = wy) (fun jv _ => L.routes.length - (intOf jv).toNat)
              case atStart => exact ⟨0, Nat.zero_le _, rfl, Lib.hid (fun i hi => absurd hi (by omega)), rfl⟩
              case round =>
                obtain ⟨j, hj, rfl, HD, rfl⟩ := hrel
                have c1 := HX5.out.kl.cellv 1 (.slice A L.routes.length c) rfl
                have lk := HX5.out.kl.lt
                by_cases hjn : j < L.routes.length
                · have hji : (j : Int) < (L.routes.length : Int) := by omega
                  have HJ := Lib.hid hjn
                  obtain ⟨d, hd⟩ := some_at s2.idle j (by rw [HD8.out]; omega)
                  have hdd : s2.idle.getD j 0 = d := by rw [List.getD_eq_getElem?_getD, hd]; rfl
                  have cd := HX5.out.ks.cellv (9 + j) (I (d : Nat)) (stC_idle HU8.out hd)
                  have ls := HX5.out.ks.lt
                  have HDD := Lib.hid hdd
                  have hj8 : (j : Int) < 8 := by omega
                  clear hdd hd hj hjn
                  by_cases hbig : 1000 ≤ d
                  · have hbi : (1000 : Int) ≤ (d : Int) := by omega
                    clear hbig
                    go_wp2_with fail
                    go_ret
                    exact ⟨rfl, HG.out ▸ HX5.out.low⟩
                  · have hbi : ¬ (1000 : Int) ≤ (d : Int) := by omega
                    have HD2 : Hid (∀ i, i < j + 1 → s2.idle.getD i 0 < 1000) := Lib.hid (fun i hi => by
                      by_cases e : i = j
                      · rw [e, HDD.out]; omega
                      · exact HD.out i (by omega))
                    clear hbig
                    go_wp2_with fail
                    go_roundw
                    case rel => exact ⟨j + 1, HJ.out, by go_num, HD2, trivial⟩
                    case measure => have := HJ.out; simp [intOf]; omega
                · have hjn2 : j = L.routes.length := by omega
                  subst hjn2
                  have hji : ¬ (L.routes.length : Int) < (L.routes.length : Int) := by omega
                  clear hj hjn
                  have ks5 := HX5.out.ks
                  have HRT : Hid (Calls Tryd.prog 46 #[.pointer (some ⟨gc, 0, none⟩), .agg (stC s2)] wc fun e w' => e = .returned (.bool true) ∧ Below wc.heap.size wc w') := Lib.hid (by
                    have h := core_right gc L (lst s2) wc hL (Lib.hid (lst_length HU8.out HD8.out)) (Lib.hid (fun y hy => by
                      have hb : 0 ≤ y ∧ y ≤ 1000000 := by
                        rcases List.mem_cons.1 hy with rfl | hy
                        · have := HFP.out.set; constructor <;> omega
                        · rcases List.mem_append.1 hy with hy | hy
                          · obtain ⟨q, hq, rfl⟩ := List.mem_map.1 hy
                            have := HFP.out.used q hq; constructor <;> omega
                          · obtain ⟨q, hq, rfl⟩ := List.mem_map.1 hy
                            have := HFP.out.idle q hq; have := HKM.out; constructor <;> omega
                      omega)) HX5.out.core
                    rw [ints_lst, sane_right hL HSP.out HD.out] at h
                    exact h)
                  go_wp2_with (first
                    | (refine wpList_load_row rfl 38 (.tmp 11) rfl g11 rfl 38 (stC s2) (0, 0) _ ks5 Tryd.underlying38 rfl HI2.out ?_)
                    | (go_at_call 46; refine HRT.out.mono ?_; rintro e w6 ⟨rfl, hb6⟩))
                  go_roundw
                  case rel => exact ⟨k + 1, x2, s2, HKM.out, by go_num, HG2, Lib.hid (HX5.out.after hb6), HSP, HFP⟩
                  case measure => have := HKM.out; simp [intOf]; omega
      · have hkm2 : k = m := by omega
        subst hkm2
        have hki : ¬ (k : Int) < (k : Int) := by omega
        clear hk hkm
        have HLY := Lib.hid (core_layout HX.out.core hn8)
        have HRD : Hid (Reads wr g0 A (ints (zs L.routes))) := Lib.hid HX.out.rc.lay
        have HSM : Hid (∀ wy A3 c3, Below wr.heap.size wr wy → Reads wy wy.heap.size A3 (ints (zs L.routes)) → Calls Tryd.prog 52 #[.slice A3 L.routes.length c3, .slice A L.routes.length c] wy fun e w' => e = .returned (.bool true) ∧ Below wy.heap.size wy w') := Lib.hid (fun wy A3 c3 hb hrd => by
          refine (same_ok A3 A L.routes.length c3 c (zs L.routes) wy wy.heap.size g0 (Lib.hid (zs_length _)) (by omega) hrd (HRD.out.below (hb.mono HX.out.rc.base))).mono ?_
          rintro e w' ⟨rfl, q, rfl⟩
          exact ⟨rfl, below_drewN (Below.refl _ _) q⟩)
        go_upto_region 33 with (go_at_call 51; refine HLY.out.mono ?_; rintro e w6 ⟨⟨A3, c3, rfl, hrd⟩, hb6⟩)
        have hb7 : Below w6.heap.size w6 (w6.alloc (.cells #[I L.secs, .slice A3 L.routes.length c3, I L.delay] 25)) := (Below.refl _ _).alloc (Nat.le_refl _) _
        have k7 := Has.new w6 25 #[I L.secs, .slice A3 L.routes.length c3, I L.delay]
        have hb67 := hb6.trans (hb7.mono hb6.size)
        have hrd7 := (hrd.below hb7).more hb7.size
        have HX7 := Lib.hid (HX.out.after hb67)
        have HSM7 := Lib.hid (HSM.out _ A3 c3 hb67 hrd7)
        clear hb6 hb7 hb67 hrd hrd7 HSM HLY
        generalize w6.alloc (.cells #[I L.secs, .slice A3 L.routes.length c3, I L.delay] 25) = w7 at *
        generalize w6.heap.size = g7 at *
        have a0 := k7.cellv 0 (I L.secs) rfl
        have a1 := k7.cellv 1 (.slice A3 L.routes.length c3) rfl
        have a2 := k7.cellv 2 (I L.delay) rfl
        have b0 := HX7.out.kl.cellv 0 (I L.secs) rfl
        have b1 := HX7.out.kl.cellv 1 (.slice A L.routes.length c) rfl
        have b2 := HX7.out.kl.cellv 2 (I L.delay) rfl
        have q1 := k7.lt
        have q2 := HX7.out.kl.lt
        go_wp2_with (go_at_call 52; refine HSM7.out.mono ?_; rintro e w8 ⟨rfl, hb8⟩)
        go_ret
        exact ⟨rfl, HG.out ▸ (HX7.out.after hb8).low⟩
theorem core_any (S d : Int) (A A2 : Option Addr) (n c m c2 : Nat) (xs l : List Int) (ss : List (Int × Int)) (w : World) (hxn : xs.length = n) (hc : n ≤ c) (hr : Reads w w.heap.size A (ints xs)) (hss : ss.length = m) (hi : InsAt w w.heap.size A2 ss) (hl : l.length = 17) (hlo : ∀ x ∈ l, -9223372036854775808 ≤ x ∧ x ≤ 9223372036854775807) (hg : Hid (EType w)) :
    Calls Tryd.prog 9 #[.agg #[I S, .slice A n c, I d], .slice A2 m c2, .agg (ints l).toArray] w fun e w' => e = .returned (.bool true) ∧ Below w.heap.size w w' := by
  by_cases hn : n ≤ 20
  · by_cases hm : m ≤ 100
    · cases hk : chk S xs d with
      | ok =>
        obtain ⟨L, hL, rfl, rfl, rfl⟩ := lay_of_chk hk
        rw [zs_length] at hxn
        subst hxn
        exact core_ok L A A2 c m c2 ss l w hL hm (Lib.hid hss) hc hr (Lib.hid hi) (Lib.hid hl) (Lib.hid hlo)
      | bare e => exact core_bad S d A A2 n c m c2 xs l w (Lib.hid hxn) hn hm hc hr (Lib.hid (by rw [hk]; exact fun h => by cases h)) hg
      | place e p => exact core_bad S d A A2 n c m c2 xs l w (Lib.hid hxn) hn hm hc hr (Lib.hid (by rw [hk]; exact fun h => by cases h)) hg
    · exact core_long S d A A2 n c m c2 l w (.inr ⟨hn, by omega⟩)
  · exact core_long S d A A2 n c m c2 l w (.inl (by omega))
end Go.Proofs.YtdhekhlmdefcnaaDoor
