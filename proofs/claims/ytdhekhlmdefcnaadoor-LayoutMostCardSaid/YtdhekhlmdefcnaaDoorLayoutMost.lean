/- The walk over LayoutMost. -/
import Derived.Test.YtdhekhlmdefcnaaDoorLaid
import Derived.Test.YtdhekhlmdefcnaaDoorLine
import Derived.Test.YtdhekhlmdefcnaaDoorMostLaw
namespace Go.Proofs.YtdhekhlmdefcnaaDoor
open Go.RowKit
theorem own_slice {w : World} {base : Nat} {e : TypeId} {A : Option Addr} {n c : Nat} {xs : List Value} (h : w.ownsRow base e 1 (.slice A n c) n xs) : n ≤ c ∧ Reads w w.heap.size A xs := by
  obtain ⟨A', c', he, h1, _, h2⟩ := own_reads h
  injection he with e1 _ e3
  subst e1
  subst e3
  exact ⟨h1, h2⟩
theorem TabIs.after {w w' : World} (h : TabIs w) (hg : 1 < w.heap.size) (hb : Below w.heap.size w w') : TabIs w' :=
  fun j v hv => (hb.cell (p := ⟨1, j, none⟩) hg).trans (h j v hv)
set_option maxHeartbeats 8000000 in
set_option maxRecDepth 100000 in
theorem layoutMost_in (a set : Int) (A : Option Addr) (c : Nat) (xs : List Int) (w : World) (hx : xs.length ≤ 30) (hr : Reads w w.heap.size A (ints xs)) (hT : Hid (TabIs w)) (hg : 1 < w.heap.size) :
    Calls Tryd.prog 3 #[I a, .slice A xs.length c, I set] w fun e w' => e = .returned (.bool true) ∧ Below w.heap.size w w' := by
  go_enter Tryd.func3, Tryd.ntmps3
  go_wp2_with fail
  refine (laid_any _ hT hg).mono ?_
  rintro e w1 ⟨rfl, hb1⟩
  have HT1 : Hid (TabIs w1) := Lib.hid (hT.out.after hg hb1)
  have hg1 : 1 < w1.heap.size := Nat.lt_of_lt_of_le hg hb1.size
  have hr1 := (hr.below hb1).more hb1.size
  clear hT hg
  go_wp2_with fail
  refine (line_any a 0 A c xs w1 hx hr1).mono ?_
  rintro e w2 ⟨⟨L, hL, AL, cL, rfl, hown⟩, hb2⟩
  obtain ⟨hcl, hrl⟩ := own_slice hown
  have HT2 : Hid (TabIs w2) := Lib.hid (HT1.out.after hg1 hb2)
  have hg2 : 1 < w2.heap.size := Nat.lt_of_lt_of_le hg1 hb2.size
  have hbw2 : Below w.heap.size w w2 := hb1.trans (hb2.mono hb1.size)
  clear HT1 hg1 hr1 hb1 hb2 hown
  have hn1 := hL.many1
  have hn8 := hL.many2
  go_wp2_with fail
  have k0 : Has (w2.alloc (.cells #[I L.secs, .slice AL L.routes.length cL, I L.delay] 25)) w2.heap.size 25 #[I L.secs, .slice AL L.routes.length cL, I L.delay] := Has.new _ _ _
  have hr3 : Reads (w2.alloc (.cells #[I L.secs, .slice AL L.routes.length cL, I L.delay] 25)) (w2.alloc (.cells #[I L.secs, .slice AL L.routes.length cL, I L.delay] 25)).heap.size AL (ints (zs L.routes)) := (hrl.alloc (Nat.le_refl _) _).more (by simp)
  have hb3 : Below w2.heap.size w2 (w2.alloc (.cells #[I L.secs, .slice AL L.routes.length cL, I L.delay] 25)) := (Below.refl _ _).alloc (Nat.le_refl _) _
  generalize w2.alloc (.cells #[I L.secs, .slice AL L.routes.length cL, I L.delay] 25) = w3 at *
  have HT3 : Hid (TabIs w3) := Lib.hid (HT2.out.after hg2 hb3)
  have hg3 : 1 < w3.heap.size := Nat.lt_of_lt_of_le hg2 hb3.size
  have hbw3 := hbw2.trans (hb3.mono hbw2.size)
  have hB : w.heap.size ≤ w2.heap.size := hbw2.size
  clear HT2 hg2 hb3 hbw2 hrl
  generalize w2.heap.size = B at *
  refine (conflicts_ok L.secs L.delay AL L.routes.length cL L.routes w3 (Lib.hid rfl) hn1 hn8 hcl hr3 (Lib.hid hL.small) (Lib.hid (chk_lay hL))).mono ?_
  rintro e w4 ⟨⟨Ac, nc, rfl, hown⟩, hb4⟩
  have k4 := k0.after hb4
  have l0 := k4.cellv 0 _ rfl
  have l1 := k4.cellv 1 _ rfl
  have l2 := k4.cellv 2 _ rfl
  have HT4 : Hid (TabIs w4) := Lib.hid (HT3.out.after hg3 hb4)
  have hg4 : 1 < w4.heap.size := Nat.lt_of_lt_of_le hg3 hb4.size
  have hr4 := (hr3.below hb4).more hb4.size
  have hbw4 := hbw3.trans (hb4.mono hbw3.size)
  clear HT3 hg3 hbw3 hb4 hr3
  go_wp2_with fail
  refine (most_ok L.secs L.delay AL L.routes.length cL L.routes w4 (Lib.hid rfl) hn1 hn8 hcl hr4 (Lib.hid hL.small) (Lib.hid (chk_lay hL)) HT4 hg4).mono ?_
  rintro e w5 ⟨rfl, hb5⟩
  have k5 := k4.after hb5
  obtain ⟨hcc, hrc⟩ := own_slice (own_after hown hb5)
  have hbw5 := hbw4.trans (hb5.mono hbw4.size)
  have l0 := k5.cellv 0 _ rfl
  have l1 := k5.cellv 1 _ rfl
  have l2 := k5.cellv 2 _ rfl
  clear k0 k4 HT4 hg4 hbw4 hb5 hr4 hown
  have hm1 := best_one hn1
  have hm2 := best_le (confs L.routes) L.routes.length hn8 (2 ^ L.routes.length) (Nat.le_refl _)
  have HLaw := fun h => Lib.hid (most_law (cs := confs L.routes) hn8 (msk_lt set L.routes.length) h)
  generalize bestTo (confs L.routes) (2 ^ L.routes.length) = best at *
  go_wp2_with fail
  have HS : Hid (∀ i, i < L.routes.length → bits .and .i64 (set / 2 ^ i) 1 = if (msk set L.routes.length).testBit i then 1 else 0) := Lib.hid (fun i hi => raw_bit set i _ hi)
  have HA : Hid (∀ x : Nat, x < 2 ^ L.routes.length → bits .and .i64 (x : Int) set = ((x &&& msk set L.routes.length : Nat) : Int)) := Lib.hid (fun x hx => raw_and x set _ hx (by omega))
  generalize msk set L.routes.length = st at *
  go_loopw [12, 13, 14] (fun f ct i wr => ∃ l nq : Nat, l ≤ L.routes.length ∧ i = I l ∧ f = .bool (freeTo (confs L.routes) st l) ∧ ct = I (cntTo st l) ∧ wr = w5.drewN nq) (fun _ _ i _ => L.routes.length - (intOf i).toNat)
  case atStart => exact ⟨0, 0, by omega, rfl, rfl, rfl, rfl⟩
  case round =>
    obtain ⟨l, nq, hl, rfl, rfl, rfl, rfl⟩ := hrel
    by_cases hlt : l < L.routes.length
    · have hci : (confs L.routes)[l]? = some (conf L.routes l) := by simp [confs, hlt]
      have hc256 : conf L.routes l < 256 := confTo_small _ _ _ hn8
      have hcp := conf_pow L.routes l hn8
      obtain ⟨bc, oc, rfl, hbc, hcell⟩ := hrc.at_ (zs_some hci)
      have HX := Lib.hid (getD_of hci)
      have hcl2 := cntTo_le st l
      have HC1 : Hid (cntTo st (l + 1) = if st.testBit l then cntTo st l + 1 else cntTo st l) := rfl
      have HF1 : Hid (freeTo (confs L.routes) st (l + 1) = if st.testBit l then freeTo (confs L.routes) st l && decide ((confs L.routes).getD l 0 &&& st = 0) else freeTo (confs L.routes) st l) := rfl
      have tS := HS.out l hlt
      have tA := HA.out (conf L.routes l) hcp
      have HTA := Lib.hid tA
      have HTS := Lib.hid tS
      clear hci tS tA
      go_wp2_with fail
      go_loopw [15] (fun k w' => ∃ (m nr : Nat), m ≤ L.routes.length ∧ k = I m ∧ w' = w5.drewN nr) (fun k _ => L.routes.length - (intOf k).toNat)
      case atStart => exact ⟨0, nq, by omega, rfl, rfl⟩
      case round =>
        obtain ⟨m, nr, hm, rfl, rfl⟩ := hrel
        by_cases hlt2 : m < L.routes.length
        · have hck : (confs L.routes)[m]? = some (conf L.routes m) := by simp [confs, hlt2]
          have hk256 : conf L.routes m < 256 := confTo_small _ _ _ hn8
          obtain ⟨bk, ok, hAe, _, hcellk⟩ := hrc.at_ (zs_some hck)
          cases hAe
          have tE : (bits .and .i64 ((conf L.routes l : Int) / 2 ^ m) 1 != bits .and .i64 ((conf L.routes m : Int) / 2 ^ l) 1) = false := by
            rw [bit_i64 _ _ (by omega), bit_i64 _ _ (by omega), conf_sym L.routes l m hlt hlt2]
            simp
          clear hck
          by_cases e : l = m
          · have t1 : ((l : Int) == (m : Int)) = true := by simp [e]
            have t2 : (bits .and .i64 ((conf L.routes l : Int) / 2 ^ m) 1 == 1) = false := by
              rw [bit_eq1 _ _ (by omega), ← e, conf_self]
            clear e
            go_wp2_with fail
            go_quiet (fail)
            go_wp2_with fail
            go_roundw
            case rel => exact ⟨m + 1, _, by omega, by go_num, rfl⟩
            case measure => simp [intOf]; omega
          · have t1 : ((l : Int) == (m : Int)) = false := by simp; omega
            clear e
            go_wp2_with fail
            go_quiet (fail)
            go_wp2_with fail
            go_roundw
            case rel => exact ⟨m + 1, _, by omega, by go_num, rfl⟩
            case measure => simp [intOf]; omega
        · have hAnd : (bits .and .i64 (conf L.routes l : Int) set == 0) = decide (conf L.routes l &&& st = 0) := by
            rw [HTA.out]
            by_cases h : conf L.routes l &&& st = 0
            · simp [h]
            · simp [h]
          have HAnd := Lib.hid hAnd
          clear hAnd
          cases hb : st.testBit l with
          | true =>
            have t1 : (bits .and .i64 (set / 2 ^ l) 1 == 1) = true := by rw [HTS.out, hb]; rfl
            rw [hb] at HC1 HF1
            clear hb
            cases hf : freeTo (confs L.routes) st l with
            | true =>
              rw [hf] at HF1
              clear hf
              go_wp2_with fail
              go_roundw
              case rel =>
                have e := HAnd.out
                refine ⟨l + 1, _, by omega, by go_num, ?_, I_eq (by rw [HC1.out]; simp), rfl⟩
                rw [HF1.out, HX.out, e]
                rfl
              case measure => simp [intOf]; omega
            | false =>
              rw [hf] at HF1
              clear hf
              go_wp2_with fail
              go_roundw
              case rel => exact ⟨l + 1, _, by omega, by go_num, by rw [HF1.out]; rfl, I_eq (by rw [HC1.out]; simp), rfl⟩
              case measure => simp [intOf]; omega
          | false =>
            have t1 : (bits .and .i64 (set / 2 ^ l) 1 == 1) = false := by rw [HTS.out, hb]; rfl
            rw [hb] at HC1 HF1
            clear hb
            cases hf : freeTo (confs L.routes) st l with
            | true =>
              rw [hf] at HF1
              clear hf
              go_wp2_with fail
              go_roundw
              case rel =>
                exact ⟨l + 1, _, by omega, by go_num, by rw [HF1.out]; rfl, I_eq (by rw [HC1.out]; simp), rfl⟩
              case measure => simp [intOf]; omega
            | false =>
              rw [hf] at HF1
              clear hf
              go_wp2_with fail
              go_roundw
              case rel => exact ⟨l + 1, _, by omega, by go_num, by rw [HF1.out]; rfl, I_eq (by rw [HC1.out]; simp), rfl⟩
              case measure => simp [intOf]; omega
    · have hln : l = L.routes.length := by omega
      subst hln
      cases hf : freeTo (confs L.routes) st L.routes.length with
      | true =>
        have hcb := (HLaw hf).out
        clear hf
        go_wp2_with fail
        go_ret
        exact ⟨rfl, below_drewN hbw5 _⟩
      | false =>
        clear hf
        go_wp2_with fail
        go_ret
        exact ⟨rfl, below_drewN hbw5 _⟩
end Go.Proofs.YtdhekhlmdefcnaaDoor
