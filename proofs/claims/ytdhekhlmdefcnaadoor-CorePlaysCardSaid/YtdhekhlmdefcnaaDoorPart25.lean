/- Part 25 of the proof: RcState. -/
import Derived.Test.YtdhekhlmdefcnaaDoorPart24
/- The reference's State. -/
namespace Go.Proofs.YtdhekhlmdefcnaaDoor
open Go.RowKit
/-- of a state what its first k routes have -/
def partL (l : List Nat) (k : Nat) : List Nat := (List.range 8).map fun i => if i < k then l.getD i 0 else 0
def partS (s : St) (k : Nat) : St := ⟨s.set % 2 ^ k, partL s.used k, partL s.idle k⟩
theorem partL_length (l : List Nat) (k : Nat) : (partL l k).length = 8 := by simp [partL]
theorem partL_get (l : List Nat) (k i : Nat) (hi : i < 8) : (partL l k)[i]? = some (if i < k then l.getD i 0 else 0) := by simp [partL, hi]
theorem partL_zero (l : List Nat) : partL l 0 = List.replicate 8 0 := by simp [partL]; decide
theorem partL_set (l : List Nat) (k : Nat) (hk : k < 8) : (partL l k).set k (l.getD k 0) = partL l (k + 1) := by
  apply List.ext_getElem?
  intro i
  rw [List.getElem?_set, partL_length]
  by_cases e : k = i
  · subst e
    rw [if_pos rfl, if_pos hk, partL_get _ _ _ hk, if_pos (by omega)]
  · rw [if_neg e]
    by_cases hi : i < 8
    · rw [partL_get _ _ _ hi, partL_get _ _ _ hi]
      by_cases h : i < k
      · rw [if_pos h, if_pos (by omega)]
      · rw [if_neg h, if_neg (by omega)]
    · rw [List.getElem?_eq_none (by rw [partL_length]; omega), List.getElem?_eq_none (by rw [partL_length]; omega)]
theorem mod_next (x k : Nat) : x % 2 ^ (k + 1) = if x.testBit k then x % 2 ^ k + 2 ^ k else x % 2 ^ k := by
  rw [Nat.mod_pow_succ, Nat.testBit_eq_decide_div_mod_eq]
  have h2 : x / 2 ^ k % 2 = 0 ∨ x / 2 ^ k % 2 = 1 := by omega
  rcases h2 with h | h <;> simp [h]
/-- nothing is known of what there is not -/
structure Tidy (L : Lay) (s : St) : Prop where
  set : s.set < 2 ^ L.routes.length
  used : ∀ i, L.routes.length ≤ i → s.used.getD i 0 = 0
  idle : ∀ i, L.routes.length ≤ i → s.idle.getD i 0 = 0
theorem partL_all {l : List Nat} {n : Nat} (h8 : l.length = 8) (h : ∀ i, n ≤ i → l.getD i 0 = 0) : partL l n = l := by
  apply List.ext_getElem?
  intro i
  by_cases hi : i < 8
  · rw [partL_get _ _ _ hi]
    by_cases hn : i < n
    · rw [if_pos hn, List.getD_eq_getElem?_getD, List.getElem?_eq_getElem (by omega)]; rfl
    · rw [if_neg hn]
      have := h i (by omega)
      rw [List.getD_eq_getElem?_getD, List.getElem?_eq_getElem (by omega)] at this
      rw [List.getElem?_eq_getElem (by omega)]
      exact congrArg some this.symm
  · rw [List.getElem?_eq_none (by rw [partL_length]; omega), List.getElem?_eq_none (by omega)]
theorem partS_all {L : Lay} {s : St} {M : Nat} (hf : s.Fits M) (h : Tidy L s) : partS s L.routes.length = s := by
  unfold partS
  rw [Nat.mod_eq_of_lt h.set, partL_all hf.used8 h.used, partL_all hf.idle8 h.idle]
set_option maxHeartbeats 1000000 in
theorem state1_ok (u : Nat) (gb m i : Nat) (b d : Value) (w : World) (hg : Has w gb 169 #[b, .map (some m), d]) (hm : IMap Tryd.prog 3 w m 12 (usedM u)) (hi : i < 12) :
    Calls Tryd.prog 90 #[I (i : Int), .pointer (some ⟨gb, 0, none⟩)] w fun e w' => e = .returned (.bool (u.testBit i)) ∧ w = w' := by
  have c1 := hg.cellv 1 _ rfl
  have hz : (zeroValue 4).run Tryd.prog w = .ok (.bool false) w := by kernel_rfl
  go_enter Tryd.func90, Tryd.ntmps90
  go_wp2_with ((refine wpList_imap_look _ rfl (.tmp 5) (.tmp 6) 80 rfl 3 4 keyI mapB _ hz m 12 _ rfl hm (by decide) i rfl hi ?_))
  go_ret
  exact ⟨by show Ending.returned ((usedM u i).getD (.bool false)) = _; rw [usedM_getD], rfl⟩
theorem enters_state1 : Enters Tryd.prog 90 := enters_of Tryd.func90 (by kernel_rfl) rfl
theorem setB_lows {u S : Nat} (h : u < 2 ^ S) : setB (fun i => u.testBit i) S = u :=
  eq_of_bits (setB_lt _ S) h fun i hi => by rw [setB_bit]; simp [hi]
set_option maxHeartbeats 4000000 in
set_option maxRecDepth 100000 in
theorem rc_state {w : World} {B : Nat} {x : RcX} {A : Option Addr} {c : Nat} {L : Lay} {s : St} (h : RcAt w B x A c L s) (hL : L.Ok) (hU : UsedIn L s) (hf : s.Fits 2000000) (ht : Tidy L s) :
    Calls Tryd.prog 50 #[.pointer (some ⟨x.g, 0, none⟩)] w fun e w' => e = .returned (.agg (stC s)) ∧ Below w.heap.size w w' := by
  have hb1 : Below w.heap.size w ((w.alloc (.cells #[I 0, I 0, I 0, I 0, I 0, I 0, I 0, I 0, I 0, I 0, I 0, I 0, I 0, I 0, I 0, I 0, I 0] 38)).alloc (.cells #[I 0, I 0, I 0, I 0, I 0, I 0, I 0, I 0, I 0, I 0, I 0, I 0, I 0, I 0, I 0, I 0, I 0] 38)) := ((Below.refl _ _).alloc (Nat.le_refl _) _).alloc (by simp) _
  have H0 := Lib.hid (h.after hb1)
  go_enter Tryd.func50, Tryd.ntmps50
  go_upto_region 2 with fail
  have k1 := Has.new' (w.alloc (.cells #[I 0, I 0, I 0, I 0, I 0, I 0, I 0, I 0, I 0, I 0, I 0, I 0, I 0, I 0, I 0, I 0, I 0] 38)) 38 #[I 0, I 0, I 0, I 0, I 0, I 0, I 0, I 0, I 0, I 0, I 0, I 0, I 0, I 0, I 0, I 0, I 0] (w.heap.size + 1) (by simp)
  have k0 := (Has.new w 38 #[I 0, I 0, I 0, I 0, I 0, I 0, I 0, I 0, I 0, I 0, I 0, I 0, I 0, I 0, I 0, I 0, I 0]).alloc (.cells #[I 0, I 0, I 0, I 0, I 0, I 0, I 0, I 0, I 0, I 0, I 0, I 0, I 0, I 0, I 0, I 0, I 0] 38)
  have hz0 : stC (partS s 0) = #[I 0, I 0, I 0, I 0, I 0, I 0, I 0, I 0, I 0, I 0, I 0, I 0, I 0, I 0, I 0, I 0, I 0] := by
    unfold partS
    rw [partL_zero, partL_zero, Nat.pow_zero, Nat.mod_one]
    rfl
  have HZ := Lib.hid hz0
  have HB1 := Lib.hid hb1
  have HBB : Hid (B ≤ w.heap.size) := Lib.hid h.base
  have HP := Lib.hid (partS_all hf ht)
  have hs12 := hL.secs2
  have hn8 := hL.many2
  have HU := Lib.hid hU
  have HF := Lib.hid hf
  have g3 := H0.out.has.cellv 3 (.slice (some ⟨x.rb, 0, none⟩) L.routes.length x.cap) rfl
  clear hz0 hb1 h hf ht hU
  generalize (w.alloc (.cells #[I 0, I 0, I 0, I 0, I 0, I 0, I 0, I 0, I 0, I 0, I 0, I 0, I 0, I 0, I 0, I 0, I 0] 38)).alloc (.cells #[I 0, I 0, I 0, I 0, I 0, I 0, I 0, I 0, I 0, I 0, I 0, I 0, I 0, I 0, I 0, I 0, I 0] 38) = w1 at *
  generalize hG1 : w.heap.size + 1 = g1 at *
  generalize hG : w.heap.size = g0 at *
  have HG := Lib.hid hG
  have HG1 : Hid (g0 < g1) := Lib.hid (by omega)
  clear hG hG1
  have k1' : Has w1 g1 38 (stC (partS s 0)) := by rw [HZ.out]; exact k1
  have HK0 : Hid (Has w1 g0 38 (stC St.zero)) := Lib.hid k0
  clear k1 k0
  go_wp2_with fail
  clear g3
  go_loopw [11] (fun kv wr => ∃ k : Nat, k ≤ L.routes.length ∧ kv = I k ∧ Hid (RcAt wr B x A c L s) ∧ Has wr g1 38 (stC (partS s k)) ∧ Hid (Has wr g0 38 (stC St.zero)) ∧ Hid (Below g0 w wr)) (fun kv _ => L.routes.length - (intOf kv).toNat)
  case atStart => exact ⟨0, Nat.zero_le _, rfl, H0, k1', HK0, HB1⟩
  case round =>
    clear H0 k1' HK0 HB1 HZ
    obtain ⟨k, hk, rfl, HA, ks, HZ, HB⟩ := hrel
    by_cases hkn : k < L.routes.length
    · have hki : (k : Int) < (L.routes.length : Int) := by omega
      obtain ⟨c0, c1, c2⟩ := HA.out.cells hkn
      have lr := HA.out.rlt
      have HKN := Lib.hid hkn
      have hk8 : k < 8 := by omega
      clear hk hkn
      obtain ⟨d, hd⟩ : ∃ d, d = s.idle.getD k 0 := ⟨_, rfl⟩
      rw [← hd] at c2
      have HD := Lib.hid hd
      clear hd
      have HM := Lib.hid (HA.out.maps k HKN.out)
      have hku : k < s.used.length := by rw [HF.out.used8]; exact hk8
      have HU4 : Hid (s.used.getD k 0 < 2 ^ L.secs) := Lib.hid (Nat.lt_pow_two_of_testBit _ fun b hb => by
        cases h1 : (s.used.getD k 0).testBit b with
        | false => rfl
        | true =>
          have h2 := HU.out k HKN.out b h1
          rw [Nat.testBit_lt_two_pow (Nat.lt_of_lt_of_le (rt_small hL HKN.out).2 (Nat.pow_le_pow_right (by decide) hb))] at h2
          cases h2)
      have kb := Has.new wr 169 #[.bool (s.set.testBit k), .map (some (x.mb k)), I (d : Nat)]
      have hba : Below wr.heap.size wr (wr.alloc (.cells #[.bool (s.set.testBit k), .map (some (x.mb k)), I (d : Nat)] 169)) := (Below.refl _ _).alloc (Nat.le_refl _) _
      go_upto_region 5 with fail
      have ks2 := ks.after hba
      have HA2 := Lib.hid (HA.out.after hba)
      have HZ2 := Lib.hid (HZ.out.after hba)
      have HM2 := Lib.hid (HM.out.at_heap (hba.block _ HM.out.lt))
      have HGR : Hid (g0 ≤ wr.heap.size) := Lib.hid (by have := HB.out.size; have := HG.out; omega)
      have HB2 := Lib.hid (HB.out.trans (hba.mono HGR.out))
      clear ks HA HM HB HZ hba c0 c1 c2 lr
      generalize wr.alloc (.cells #[.bool (s.set.testBit k), .map (some (x.mb k)), I (d : Nat)] 169) = w2 at *
      have HGB : Hid (g0 ≤ wr.heap.size) := HGR
      generalize wr.heap.size = gb at *
      have b0 := kb.cellv 0 _ rfl
      have lb := kb.lt
      go_cut [17] (fun v wx => v = .bool (s.set.testBit k) ∧ w2 = wx)
      case first =>
        go_wp2_with fail
        go_meet
        case rel => exact ⟨rfl, rfl⟩
      obtain ⟨rfl, rfl⟩ := hcut
      have f0 := ks2.free 0
      have s0 := ks2.cellv 0 (I ((s.set % 2 ^ k : Nat) : Int)) rfl
      have l1 := ks2.lt
      have HN := Lib.hid (mod_next s.set k)
      have hmlt : s.set % 2 ^ k < 256 := Nat.lt_of_le_of_lt (Nat.mod_le _ _) HF.out.set
      have hsh := shl1 k (by omega)
      have hsl : 1 <<< k < 2 ^ 63 := shl1_lt k (by omega)
      have hsw : Hid ((1 <<< k : Nat) = 2 ^ k) := Lib.hid (by rw [Nat.shiftLeft_eq, Nat.one_mul])
      have hs256 : (1 <<< k : Nat) ≤ 128 := by rw [hsw.out]; exact Nat.pow_le_pow_right (n := 2) (by decide) (show k ≤ 7 by omega)
      have HK2 := Lib.hid ks2
      clear ks2
      refine (‹∀ (a : Act) (w : World), Code.wp _ _ _ a w → _› _ _ ?_)
      go_cut [] (fun wx => Hid (Has wx g1 38 (stC ⟨s.set % 2 ^ (k + 1), partL s.used k, partL s.idle k⟩)) ∧ Hid (Turned (fun b => b = g1) w2 wx))
      case first =>
        cases hbit : s.set.testBit k with
        | false =>
          rw [hbit, if_neg (by simp)] at HN
          go_wp2_with fail
          go_meet
          case rel => exact ⟨Lib.hid (by rw [HN.out]; exact HK2.out), Lib.hid (Turned.refl _ _)⟩
        | true =>
          rw [hbit, if_pos rfl] at HN
          have HS9 : Hid (Has (w2.setCell ⟨g1, 0, none⟩ (I ((s.set % 2 ^ k : Nat) + (1 <<< k : Nat) : Int))).drew g1 38 (stC ⟨s.set % 2 ^ (k + 1), partL s.used k, partL s.idle k⟩)) := Lib.hid (by
            have h1 := HK2.out.set 0 (I ((s.set % 2 ^ (k + 1) : Nat) : Int))
            rw [stC_setSet, HN.out, ← hsw.out] at h1
            rw [HN.out, ← hsw.out]
            exact h1)
          have HT9 : Hid (Turned (fun b => b = g1) w2 (w2.setCell ⟨g1, 0, none⟩ (I ((s.set % 2 ^ k : Nat) + (1 <<< k : Nat) : Int))).drew) := Lib.hid (((Turned.refl (fun b => b = g1) w2).setCell ⟨g1, 0, none⟩ _ (.inl rfl)).drew)
          have HS9' : Hid (Has (w2.drew.setCell ⟨g1, 0, none⟩ (I ((s.set % 2 ^ k : Nat) + (1 <<< k : Nat) : Int))) g1 38 (stC ⟨s.set % 2 ^ (k + 1), partL s.used k, partL s.idle k⟩)) := HS9
          have HT9' : Hid (Turned (fun b => b = g1) w2 (w2.drew.setCell ⟨g1, 0, none⟩ (I ((s.set % 2 ^ k : Nat) + (1 <<< k : Nat) : Int)))) := Lib.hid ((Turned.refl (fun b => b = g1) w2).drew.setCell ⟨g1, 0, none⟩ _ (.inl rfl))
          clear HN HK2 hbit
          generalize s.set % 2 ^ k = q0 at *
          generalize (1 <<< k : Nat) = q1 at *
          go_wp2_with fail
          go_region
          all_goals
            go_wp2_with fail
            go_meet
            case rel => first | exact ⟨HS9, HT9⟩ | exact ⟨HS9', HT9'⟩
      case rest =>
        obtain ⟨HK3, HT3⟩ := hcut
        clear HN hsw hs256 hsl hsh hmlt s0 f0 l1 b0 lb
        have HA3 := Lib.hid (HA2.out.turned HT3.out (Has.ne HA2.out.has HK2.out (by decide)) (fun b hb e => HA2.out.notF HK2.out (by decide) (e ▸ hb)) (fun b e => by have := HBB.out; have := HG1.out; omega))
        have HZ3 := Lib.hid (HZ2.out.turned HT3.out (by have := HG1.out; omega))
        have kb3 := kb.turned HT3.out (Has.ne kb HK2.out (by decide))
        have HM3 := Lib.hid (HM2.out.at_heap (HT3.out.block _ HM2.out.lt (imapC_ne HM2.out HK2.out)))
        have HB3 : Hid (Below g0 w wc) := Lib.hid (HB2.out.trans (HT3.out.below (fun b e => by have := HG1.out; omega) (Nat.le_trans (by have := HG.out; omega) HB2.out.size)))
        clear HA2 kb HM2 HB2 HT3 HK2 HZ2
        have g0' := HA3.out.has.cellv 0 (I L.secs) rfl
        have lg := HA3.out.has.lt
        have HCS : Hid (Calls Tryd.prog 34 #[I (L.secs : Int), .func (.func 90) #[] #[.pointer (some ⟨gb, 0, none⟩)]] wc fun e w' => e = .returned (I ((s.used.getD k 0 : Nat) : Int)) ∧ Below wc.heap.size wc w') := Lib.hid (by
          refine (set_ok L.secs _ _ (fun i => (s.used.getD k 0).testBit i) enters_state1 hs12 wc (Lib.hid fun W i hi hb => ?_)).mono ?_
          · refine (state1_ok (s.used.getD k 0) gb (x.mb k) i _ _ W (kb3.after hb) (HM3.out.at_heap (hb.block _ HM3.out.lt)) (by omega)).mono ?_
            rintro e w' ⟨rfl, rfl⟩
            exact ⟨rfl, Below.refl _ _⟩
          · rintro e w' ⟨rfl, hb⟩
            exact ⟨by rw [setB_lows HU4.out], hb⟩)
        generalize hu : s.used.getD k 0 = u at *
        have HUU := Lib.hid hu
        clear hu
        go_upto_region 8 with (go_at_call 34; refine HCS.out.mono ?_; rintro e w9 ⟨rfl, hb9⟩; have k9 := HK3.out.after hb9; have f9 := k9.free (1 + k); have c9 := k9.cellv (1 + k) (I ((0 : Nat) : Int)) (stC_used (by rw [partL_get _ _ _ hk8, if_neg (by omega)])); have l9 := k9.lt)
        have hne : gb ≠ g1 := Has.ne kb3 HK3.out (by decide)
        have k10 : Has (w9.setCell ⟨g1, 1 + k, none⟩ (I (u : Int))) g1 38 (stC ⟨s.set % 2 ^ (k + 1), partL s.used (k + 1), partL s.idle k⟩) := by
          have h1 := k9.set (1 + k) (I (u : Int))
          rw [stC_setUsed _ _ _ (by rw [partL_length]; exact hk8)] at h1
          dsimp only at h1
          rw [← HUU.out, partL_set _ _ hk8] at h1
          rw [HUU.out] at h1
          exact h1
        have hT10 : Turned (fun b => b = g1) wc (w9.setCell ⟨g1, 1 + k, none⟩ (I (u : Int))) := ((Turned.of_below hb9 _)).setCell ⟨g1, 1 + k, none⟩ _ (.inl rfl)
        have kb4 := kb3.turned hT10 hne
        have HK10 := Lib.hid k10
        have HT10 := Lib.hid hT10
        clear k9 f9 c9 l9 hb9 hT10 k10 kb3 HCS
        generalize w9.setCell ⟨g1, 1 + k, none⟩ (I (u : Int)) = w10 at *
        have d2 := kb4.cellv 2 (I (d : Nat)) rfl
        have ld := kb4.lt
        have f10 := HK10.out.free (9 + k)
        have c10 := HK10.out.cellv (9 + k) (I ((0 : Nat) : Int)) (stC_idle (partL_length _ _) (by rw [partL_get _ _ _ hk8, if_neg (by omega)]))
        have l10 := HK10.out.lt
        clear g0' lg
        go_wp2_with fail
        have k11 : Has (w10.setCell ⟨g1, 9 + k, none⟩ (I (d : Int))) g1 38 (stC (partS s (k + 1))) := by
          have h1 := HK10.out.set (9 + k) (I (d : Int))
          rw [stC_setIdle _ _ _ (partL_length _ _)] at h1
          dsimp only at h1
          rw [HD.out, partL_set _ _ hk8, ← HD.out] at h1
          exact h1
        have hT11 : Turned (fun b => b = g1) wc (w10.setCell ⟨g1, 9 + k, none⟩ (I (d : Int))) := HT10.out.setCell ⟨g1, 9 + k, none⟩ _ (.inl rfl)
        have HA4 := Lib.hid (HA3.out.turned hT11 (Has.ne HA3.out.has HK3.out (by decide)) (fun b hb e => HA3.out.notF HK3.out (by decide) (e ▸ hb)) (fun b e => by have := HBB.out; have := HG1.out; have := HG.out; omega))
        have HZ4 := Lib.hid (HZ3.out.turned hT11 (by have := HG1.out; omega))
        have HB4 : Hid (Below g0 w (w10.setCell ⟨g1, 9 + k, none⟩ (I (d : Int)))) := Lib.hid (HB3.out.trans (hT11.below (fun b e => by have := HG1.out; omega) (Nat.le_trans (by have := HG.out; omega) HB3.out.size)))
        go_roundw
        case rel => exact ⟨k + 1, HKN.out, by go_num, HA4, k11, HZ4, HB4⟩
        case measure => have := HKN.out; simp [intOf]; omega
    · have hkn2 : k = L.routes.length := by omega
      subst hkn2
      rw [HP.out] at ks
      have hki : ¬ (L.routes.length : Int) < (L.routes.length : Int) := by omega
      clear hk hkn
      have hi2 : (Tryd.prog.info? 38).map (·.size) = some (stC s).size := by rw [stC_size _ HF.out.used8 HF.out.idle8]; kernel_rfl
      have hz : (stC St.zero).size = (stC s).size := by rw [stC_size _ HF.out.used8 HF.out.idle8]; rfl
      have k0 := HZ.out
      go_wp2_with (first
        | (refine wpList_load_row rfl 38 (.tmp 3) rfl g1 rfl 38 (stC s) (0, 0) _ ks Tryd.underlying38 rfl hi2 ?_)
        | (refine wpList_store_row rfl 38 (.tmp 2) (.tmp 40) rfl g0 (stC s) rfl rfl 38 _ k0 hi2 hz (stC_one _) ?_))
      exact bodyPost_ret (results_cell_row rfl _ _ g0 _ (stC s) _ _ rfl (k0.setRow _) Tryd.underlying38 rfl hi2) rfl ⟨rfl, by rw [HG.out]; exact below_setRow HB.out (Nat.le_refl _) _⟩
end Go.Proofs.YtdhekhlmdefcnaaDoor
