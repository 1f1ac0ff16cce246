/- The walk over layout.Most. -/
import Derived.Test.YtdhekhlmdefcnaaDoorMost
namespace Go.Proofs.YtdhekhlmdefcnaaDoor
open Go.RowKit
set_option maxHeartbeats 4000000 in
set_option maxRecDepth 100000 in
theorem most_ok (S d : Int) (A : Option Addr) (n c : Nat) (rs : List Nat) (w : World) (hxn : Hid (rs.length = n)) (h1 : 1 ≤ n) (hn : n ≤ 8) (hc : n ≤ c) (hr : Reads w w.heap.size A (ints (zs rs)))
    (hlt : Hid (∀ r ∈ rs, r < 4096)) (hok : Hid (chk S (zs rs) d = .ok)) (hT : Hid (TabIs w)) (hg : 1 < w.heap.size) :
    Calls Tryd.prog 15 #[.agg #[I S, .slice A n c, I d]] w fun e w' => e = .returned (.tuple #[I (bestTo (confs rs) (2 ^ n)), .nilIface]) ∧ Below w.heap.size w w' := by
  have hp := Lib.hid (shl1 n hn)
  go_enter Tryd.func15, Tryd.ntmps15
  go_wp2_with (go_at_call 14; refine (conflicts_ok _ _ _ _ _ rs _ hxn h1 hn hc ((hr.alloc (Nat.le_refl _) _).more (by simp)) hlt hok).mono ?_; rintro e w1 ⟨⟨Ac, nc, rfl, hown⟩, hb1⟩; obtain ⟨hq, hf⟩ := bcell hb1)
  have hw : Below w.heap.size w w1 := ((Below.refl _ _).alloc (Nat.le_refl _) _).trans (hb1.mono (by simp))
  have HT : Hid (TabIs w1) := Lib.hid (fun j v h => (hw.cell (p := ⟨1, j, none⟩) hg).trans (hT.out j v h))
  obtain ⟨_, _, he, hcc, -, hrc⟩ := own_reads hown
  injection he with e1 _ e3
  subst e1
  subst e3
  have hP : Hid ((2 : Nat) ^ n ≤ 256) := Lib.hid (Nat.pow_le_pow_right (n := 2) (by decide) hn)
  clear hq hf hb1 hown
  have e : wrap64 (2 ^ n) = ((2 ^ n : Nat) : Int) := by rw [shl1 n hn, Nat.shiftLeft_eq, Nat.one_mul]
  generalize wrap64 (2 ^ n) = z at *
  subst e
  clear hp
  generalize hNe : (2 : Nat) ^ n = N at *
  have hN2 : Hid ((2 : Nat) ^ n = N) := Lib.hid hNe
  clear hNe
  have hN := hP.out
  go_loop [6, 22] (fun b i => ∃ k : Nat, k ≤ N ∧ i = I k ∧ b = I (bestTo (confs rs) k)) (fun _ i => N - (intOf i).toNat)
  case atStart => exact ⟨0, by omega, rfl, rfl⟩
  case round =>
    obtain ⟨k, hk, rfl, rfl⟩ := hrel
    by_cases hlt1 : k < N
    · go_wp2_with fail
      go_loop [8, 9] (fun o m => ∃ q : Nat, q ≤ k ∧ m = I q ∧ o = .bool (okBut (confs rs) k q) ∧ Hid (∀ i, q.testBit i = true → k.testBit i = true)) (fun _ m => (intOf m).toNat)
      case atStart => exact ⟨k, Nat.le_refl _, rfl, by rw [okBut_self], fun _ h => h⟩
      case round =>
        obtain ⟨q, hq, rfl, rfl, hsub⟩ := hrel
        by_cases h0 : 0 < q
        · have hz := ctz_lt q (by omega) h0
          have HS := Lib.hid (okBut_step (cs := confs rs) (set := k) (m := q) (by omega) h0 hsub.out)
          have HA := Lib.hid (and_pred q h0 (by omega))
          have hcl := clr_less q h0
          have HB : Hid (∀ i, (q &&& (q - 1)).testBit i = true → k.testBit i = true) := Lib.hid (fun i hi => hsub.out i (by rw [Nat.testBit_and] at hi; simp at hi; exact hi.1))
          have tq : ((q : Int) != 0) = true := by simp; omega
          cases hok : okBut (confs rs) k q with
          | false =>
            go_wp2_with fail
            go_round
            case rel => exact ⟨q &&& (q - 1), by omega, I_eq HA.out, by rw [HS.out, hok]; rfl, HB⟩
            case measure =>
              have e := HA.out
              simp only [intOf, e]
              omega
          | true =>
            have hcn : ctz q < n := by
              have hb := ctz_bit q (by omega) h0
              rcases Nat.lt_or_ge (ctz q) n with h | h
              · exact h
              · have : q < 2 ^ ctz q := Nat.lt_of_lt_of_le (by omega : q < N) (by rw [← hN2.out]; exact Nat.pow_le_pow_right (by decide) h)
                rw [Nat.testBit_lt_two_pow this] at hb
                cases hb
            obtain ⟨x, hx⟩ := some_at (confs rs) (ctz q) (by rw [confs_length, hxn.out]; exact hcn)
            have hx256 : x < 256 := by
              have hx' := hx
              unfold confs at hx'
              rw [List.getElem?_map] at hx'
              obtain ⟨j, _, rfl⟩ := Option.map_eq_some_iff.1 hx'
              exact confTo_small _ _ _ (by rw [hxn.out]; exact hn)
            obtain ⟨bb, oo, rfl, hbb, hcell⟩ := hrc.at_ (zs_some hx)
            have HX := Lib.hid (getD_of hx)
            have tA : (bits .and .i64 (x : Int) (k : Int) == 0) = decide (x &&& k = 0) := by
              rw [and_i64 x k (by omega) (by omega)]
              by_cases h : x &&& k = 0
              · simp [h]
              · simp [h]
            have TA := Lib.hid tA
            clear hx tA
            go_wp2_with (go_at_call 71; refine (trailing_any q h0 (by omega) _ HT.out).mono ?_; rintro e w' ⟨rfl, rfl⟩)
            go_round
            case rel =>
              refine ⟨q &&& (q - 1), by omega, I_eq HA.out, ?_, HB⟩
              have e := TA.out
              rw [HS.out, hok, HX.out, Bool.true_and, ← e]
            case measure =>
              have e := HA.out
              simp only [intOf, e]
              omega
        · have hq0 : q = 0 := by omega
          subst hq0
          have HO : Hid (okBut (confs rs) k 0 = okSet (confs rs) k) := Lib.hid (okBut_zero _ _)
          have e := HO.out
          rw [e]
          clear e
          have hpop : pop k ≤ 8 := by unfold pop; exact Nat.le_trans (List.length_filter_le _ _) (by simp)
          have hbl := bestTo_le (confs rs) k
          have HL : Hid (bestTo (confs rs) (k + 1) = if okSet (confs rs) k then max (bestTo (confs rs) k) (pop k) else bestTo (confs rs) k) := rfl
          cases hos : okSet (confs rs) k with
          | false =>
            go_wp2_with fail
            go_round
            case rel => exact ⟨k + 1, by omega, by go_num, by rw [HL.out, hos]; rfl⟩
            case measure => simp [intOf]; omega
          | true =>
            go_wp2_with (go_at_call 72; refine (onesCount_any k (by omega) _).mono ?_; rintro e w' ⟨rfl, rfl⟩)
            go_round
            case rel =>
              refine ⟨k + 1, by omega, by go_num, I_eq ?_⟩
              rw [HL.out, hos, if_pos rfl]
              split <;> omega
            case measure => simp [intOf]; omega
    · go_wp2_with fail
      go_ret2
      have hkN : k = N := by omega
      exact ⟨by rw [hkN, ← hN2.out]; rfl, hw⟩
end Go.Proofs.YtdhekhlmdefcnaaDoor
