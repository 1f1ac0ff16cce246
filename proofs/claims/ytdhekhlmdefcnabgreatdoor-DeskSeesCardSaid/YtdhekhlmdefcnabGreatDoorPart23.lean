/- Part 23 of the proof: CoreRight, ReTakeP, ReTakeQ, ReTakeA. -/
import Derived.Test.YtdhekhlmdefcnabGreatDoorPart20
import Derived.Test.YtdhekhlmdefcnabGreatDoorPart19
import Derived.Test.YtdhekhlmdefcnabGreatDoorPart4
import Derived.Test.YtdhekhlmdefcnabGreatDoorPart21
import Derived.Test.YtdhekhlmdefcnabGreatDoorPart22
import Derived.Test.YtdhekhlmdefcnabGreatDoorPart16
import Derived.BigQuiet
namespace Go.Proofs.YtdhekhlmdefcnabGreatDoor
open Go.RowKit
theorem crt_no {L : Lay} {l : List Int} {k : Nat} (hk : k < 8) (h : rightAt L (l.getD 0 0) ((l.drop 1).take 8) ((l.drop 9).take 8) k = false) : rightB L l = false := by
 unfold rightB
 have : (List.range 8).all (rightAt L (l.getD 0 0) ((l.drop 1).take 8) ((l.drop 9).take 8)) = false := by
  rw [List.all_eq_false]
  exact ⟨k, List.mem_range.2 hk, by rw [h]; decide⟩
 rw [this, Bool.and_false]
theorem crt_out {L : Lay} {l : List Int} (h : l.getD 0 0 < 0 ∨ 2 ^ L.routes.length ≤ l.getD 0 0) : rightB L l = false := by
 unfold rightB
 rcases h with h | h
 ·rw [decide_eq_false (by omega)]; rfl
 ·rw [decide_eq_false (p := l.getD 0 0 < 2 ^ L.routes.length) (by omega), Bool.and_false, Bool.false_and]
theorem crt_yes {L : Lay} {l : List Int} (h0 : 0 ≤ l.getD 0 0) (h1 : l.getD 0 0 < 2 ^ L.routes.length) (h : ∀ k, k < 8 → rightAt L (l.getD 0 0) ((l.drop 1).take 8) ((l.drop 9).take 8) k = true) : rightB L l = true := by
 unfold rightB
 rw [decide_eq_true h0, decide_eq_true h1]
 have : (List.range 8).all (rightAt L (l.getD 0 0) ((l.drop 1).take 8) ((l.drop 9).take 8)) = true := by
  rw [List.all_eq_true]
  exact fun k hk => h k (List.mem_range.1 hk)
 rw [this]
 rfl
theorem used_at {l : List Int} {k : Nat} (h : k < 8) : ((l.drop 1).take 8).getD k 0 = l.getD (1 + k) 0 := by
 rw [List.getD_eq_getElem?_getD, List.getD_eq_getElem?_getD, List.getElem?_take, if_pos h, List.getElem?_drop]
theorem idle_at {l : List Int} {k : Nat} (h : k < 8) : ((l.drop 9).take 8).getD k 0 = l.getD (9 + k) 0 := by
 rw [List.getD_eq_getElem?_getD, List.getD_eq_getElem?_getD, List.getElem?_take, if_pos h, List.getElem?_drop]
theorem right_at {L : Lay} {l : List Int} {k : Nat} (h : k < 8) : rightAt L (l.getD 0 0) ((l.drop 1).take 8) ((l.drop 9).take 8) k =
  if L.routes.length ≤ k ∨ (l.getD 0 0).toNat.testBit k = false then decide (l.getD (1 + k) 0 = 0) && decide (l.getD (9 + k) 0 = 0)
  else decide ((l.getD 0 0).toNat &&& conf L.routes k = 0) && decide (0 ≤ l.getD (1 + k) 0) && decide (nb (l.getD (1 + k) 0).toNat (L.routes.getD k 0) = 0) && decide (0 ≤ l.getD (9 + k) 0) && decide (l.getD (9 + k) 0 ≤ 1000) && !(decide (l.getD (1 + k) 0 = 0) && decide ((L.delay : Int) < l.getD (9 + k) 0)) := by
 unfold rightAt
 rw [used_at h, idle_at h]
theorem pow8 {n : Nat} (h : n ≤ 8) : 2 ^ n ≤ 256 := Nat.pow_le_pow_right (n := 2) (by decide) h
set_option maxHeartbeats 40000000 in
set_option maxRecDepth 100000 in
theorem core_right (g : Nat) (L : Lay) (l : List Int) (w : World) (hL : L.Ok) (hl : Hid (l.length = 17)) (hlo : Hid (∀ x ∈ l, -9223372036854775808 ≤ x ∧ x ≤ 9223372036854775807)) (hg : CoreAt w g L) :
  Calls Tryz.prog 108 #[.pointer (some ⟨g, 0, none⟩), .agg (ints l).toArray] w fun e w' => e = .returned (.bool (rightB L l)) ∧ Below w.heap.size w w' := by
 obtain ⟨vr, vc, hcore, hrow, hcon⟩ := hg
 obtain ⟨A, c, rfl, hc, -, hrd⟩ := own_reads hrow
 obtain ⟨A2, c2, rfl, hc2, -, hrd2⟩ := own_reads hcon
 have hn8 := hL.many2
 have hb1 : Below w.heap.size w (w.alloc (.cells (ints l).toArray 100)) := (Below.refl _ _).alloc (Nat.le_refl _) _
 have k0 := Has.new w 100 (ints l).toArray
 have hgl := hcore.lt
 have hc1 := hcore.after hb1
 have hr1 := hrd.below hb1
 have hr2 := hrd2.below hb1
 clear hcore hrow hcon hrd hrd2
 have HP := Lib.hid (shl1 L.routes.length hn8)
 have h256 := pow8 hn8
 obtain ⟨x0, hx0⟩ := some_at l 0 (by rw [hl.out]; decide)
 have HX0 : Hid (l.getD 0 0 = x0) := Lib.hid (by rw [List.getD_eq_getElem?_getD, hx0]; rfl)
 have c00 := k0.cellv 0 (I x0) (by simp [ints, hx0])
 obtain ⟨lo0, hi0⟩ := hlo.out x0 (List.mem_of_getElem? hx0)
 have HLL := Lib.hid (rfl : L.routes.length = L.routes.length)
 go_enter Tryz.func108, Tryz.ntmps108
 go_upto_region 1 with fail
 have HXL := Lib.hid hx0
 clear hx0
 generalize w.alloc (.cells (ints l).toArray 100) = w1 at *
 have hl1 := k0.lt
 generalize hG : w.heap.size = g0 at *
 have HG := Lib.hid hG
 clear hG
 have g0c := hc1.cellv 0 _ rfl
 have g1c := hc1.cellv 1 _ rfl
 have g2c := hc1.cellv 2 _ rfl
 have g3c := hc1.cellv 3 _ rfl
 by_cases h1 : x0 < 0
 ·have HE := Lib.hid (crt_out (L := L) (l := l) (.inl (by rw [HX0.out]; exact h1)))
  have t1 : decide (x0 < 0) = true := decide_eq_true h1
  clear h1
  go_quiet (fail)
  go_wp2_with fail
  go_ret
  exact ⟨by rw [HE.out]; rfl, HG.out ▸ below_drewN hb1 _⟩
 ·have t1 : decide (x0 < 0) = false := decide_eq_false h1
  have hle : 0 ≤ x0 := by omega
  have hpw : wrap64 (2 ^ L.routes.length) = ((2 ^ L.routes.length : Nat) : Int) := by rw [HP.out, Nat.shiftLeft_eq, Nat.one_mul]
  by_cases h2 : ((2 ^ L.routes.length : Nat) : Int) ≤ x0
  ·have HE := Lib.hid (crt_out (L := L) (l := l) (.inr (by rw [HX0.out]; simpa using h2)))
   have t2 : decide (wrap64 (2 ^ L.routes.length) ≤ x0) = true := by rw [hpw]; exact decide_eq_true h2
   clear h1 h2 hpw
   go_quiet (fail)
   go_wp2_with fail
   go_ret
   exact ⟨by rw [HE.out]; rfl, HG.out ▸ below_drewN hb1 _⟩
  ·have t2 : decide (wrap64 (2 ^ L.routes.length) ≤ x0) = false := by rw [hpw]; exact decide_eq_false h2
   have H2 := Lib.hid h2
   obtain ⟨s, rfl⟩ : ∃ s : Nat, x0 = (s : Int) := ⟨x0.toNat, by omega⟩
   have hs256 : s < 256 := by omega
   clear h1 h2 hpw hle
   go_upto_region 1 with fail
   go_quiet (fail)
   go_wp2_with fail
   have kq := hb1
   clear g0c t1 t2 c00
   go_loopw [21] (fun i wx => ∃ k : Nat, k ≤ 8 ∧ i = I k ∧ Hid (∀ j, j < k → rightAt L (l.getD 0 0) ((l.drop 1).take 8) ((l.drop 9).take 8) j = true) ∧ ∃ q, w1.drewN q = wx) (fun i _ => 8 - (intOf i).toNat)
   case atStart => exact ⟨0, by omega, rfl, Lib.hid (fun j hj => absurd hj (by omega)), _, rfl⟩
   case round =>
    obtain ⟨k, hk, rfl, hno, q, rfl⟩ := hrel
    by_cases hlt : k < 8
    ·have HAT := Lib.hid (right_at (L := L) (l := l) hlt)
     rw [HX0.out, Int.toNat_natCast] at HAT
     obtain ⟨u, hu⟩ := some_at l (1 + k) (by rw [hl.out]; omega)
     obtain ⟨d, hd⟩ := some_at l (9 + k) (by rw [hl.out]; omega)
     have HU : l.getD (1 + k) 0 = u := by rw [List.getD_eq_getElem?_getD, hu]; rfl
     have HD : l.getD (9 + k) 0 = d := by rw [List.getD_eq_getElem?_getD, hd]; rfl
     rw [HU, HD] at HAT
     have c0 := k0.cellv 0 (I (s : Int)) (by have := HXL.out; simp [ints, this])
     have cu := k0.cellv (1 + k) (I u) (by simp [ints, hu])
     have cd := k0.cellv (9 + k) (I d) (by simp [ints, hd])
     obtain ⟨lou, hiu⟩ := hlo.out u (List.mem_of_getElem? hu)
     obtain ⟨lod, hid⟩ := hlo.out d (List.mem_of_getElem? hd)
     have hki : (k : Int) < 8 := by omega
     clear hu hd HU HD
     have HNX : Hid (rightAt L ((s : Int)) ((l.drop 1).take 8) ((l.drop 9).take 8) k = true → ∀ j, j < k + 1 → rightAt L (l.getD 0 0) ((l.drop 1).take 8) ((l.drop 9).take 8) j = true) := Lib.hid (fun h j hj => by
      by_cases e : j = k
      ·subst e; rw [HX0.out]; exact h
      ·exact hno.out j (by omega))
     have HNO : Hid (rightAt L ((s : Int)) ((l.drop 1).take 8) ((l.drop 9).take 8) k = false → rightB L l = false) := Lib.hid (fun h => crt_no hlt (by rw [HX0.out]; exact h))
     by_cases hcase : L.routes.length ≤ k ∨ s.testBit k = false
     ·rw [if_pos hcase] at HAT
      have hcs : (L.routes.length ≤ k) ∨ (k < L.routes.length ∧ s.testBit k = false) := by
       rcases hcase with h | h
       ·exact .inl h
       ·by_cases h2 : L.routes.length ≤ k
        ·exact .inl h2
        ·exact .inr ⟨by omega, h⟩
      clear hcase
      by_cases hu0 : u = 0
      ·by_cases hd0 : d = 0
       ·have HT := Lib.hid (HNX.out (by rw [HAT.out, hu0, hd0]; rfl))
        have tu : (u != 0) = false := by simpa using hu0
        have td : (d != 0) = false := by simpa using hd0
        clear hu0 hd0 hno
        rcases hcs with h | ⟨h, hbit⟩
        ·go_wp2_with fail
         go_roundw
         case rel => exact ⟨k + 1, by omega, by go_num, Lib.hid HT.out, _, rfl⟩
         case measure => simp [intOf]; omega
        ·have tb : (bits .and .i64 ((s : Int) / 2 ^ k) 1 == 0) = true := by rw [bit_i64 _ _ (by omega), hbit]; rfl
         clear hbit
         go_wp2_with fail
         go_roundw
         case rel => exact ⟨k + 1, by omega, by go_num, Lib.hid HT.out, _, rfl⟩
         case measure => simp [intOf]; omega
       ·have HT := Lib.hid (HNO.out (by rw [HAT.out, decide_eq_false hd0, Bool.and_false]))
        have tu : (u != 0) = false := by simpa using hu0
        have td : (d != 0) = true := by simpa using hd0
        clear hu0 hd0 hno
        rcases hcs with h | ⟨h, hbit⟩
        ·go_wp2_with fail
         go_ret
         exact ⟨by rw [HT.out]; rfl, HG.out ▸ below_drewN hb1 _⟩
        ·have tb : (bits .and .i64 ((s : Int) / 2 ^ k) 1 == 0) = true := by rw [bit_i64 _ _ (by omega), hbit]; rfl
         clear hbit
         go_wp2_with fail
         go_ret
         exact ⟨by rw [HT.out]; rfl, HG.out ▸ below_drewN hb1 _⟩
      ·have HT := Lib.hid (HNO.out (by rw [HAT.out, decide_eq_false hu0, Bool.false_and]))
       have tu : (u != 0) = true := by simpa using hu0
       clear hu0 hno
       rcases hcs with h | ⟨h, hbit⟩
       ·go_wp2_with fail
        go_ret
        exact ⟨by rw [HT.out]; rfl, HG.out ▸ below_drewN hb1 _⟩
       ·have tb : (bits .and .i64 ((s : Int) / 2 ^ k) 1 == 0) = true := by rw [bit_i64 _ _ (by omega), hbit]; rfl
        clear hbit
        go_wp2_with fail
        go_ret
        exact ⟨by rw [HT.out]; rfl, HG.out ▸ below_drewN hb1 _⟩
     ·rw [if_neg hcase] at HAT
      have hkn : k < L.routes.length := by
       rcases Nat.lt_or_ge k L.routes.length with h | h
       ·exact h
       ·exact absurd (.inl h) hcase
      have hbit : s.testBit k = true := by
       cases h : s.testBit k with
       | true => rfl
       | false => exact absurd (.inr h) hcase
      have tb : (bits .and .i64 ((s : Int) / 2 ^ k) 1 == 0) = false := by rw [bit_i64 _ _ (by omega), hbit]; rfl
      clear hcase hbit
      obtain ⟨r, hr⟩ := some_at L.routes k hkn
      obtain ⟨bb, oo, rfl, hbb, hcr⟩ := hr1.at_ (zs_some hr)
      obtain ⟨cf, hcf⟩ := some_at (confs L.routes) k (by rw [confs_length]; exact hkn)
      obtain ⟨bb2, oo2, rfl, hbb2, hcc⟩ := hr2.at_ (zs_some hcf)
      have HCF : cf = conf L.routes k := by
       unfold confs at hcf
       rw [List.getElem?_map, List.getElem?_range hkn] at hcf
       simpa using hcf.symm
      rw [← HCF, getD_of hr] at HAT
      have hcf256 : cf < 256 := by rw [HCF]; exact confTo_small _ _ _ hn8
      clear hr hcf HCF
      have tA : (bits .and .i64 (s : Int) (cf : Int) != 0) = !decide (s &&& cf = 0) := by
       rw [and_i64 s cf (by omega) (by omega)]
       by_cases h : s &&& cf = 0
       ·simp [h]
       ·simp [h]
      by_cases hA : s &&& cf = 0
      ·rw [decide_eq_true hA] at HAT tA
       clear hA
       by_cases hB : u < 0
       ·rw [decide_eq_false (show ¬ 0 ≤ u by omega)] at HAT
        have HT := Lib.hid (HNO.out (by rw [HAT.out]; rfl))
        have tB : decide (u < 0) = true := decide_eq_true hB
        clear hB hno
        go_wp2_with fail
        go_quiet (fail)
        go_wp2_with fail
        go_ret
        exact ⟨by rw [HT.out]; rfl, HG.out ▸ below_drewN (below_drewN hb1 _) _⟩
       ·skip
        have tB : decide (u < 0) = false := decide_eq_false hB
        obtain ⟨U, rfl⟩ : ∃ U : Nat, u = (U : Int) := ⟨u.toNat, by omega⟩
        rw [decide_eq_true (show (0 : Int) ≤ (U : Int) by omega), Int.toNat_natCast] at HAT
        have tC : (bits .andNot .i64 (U : Int) (r : Int) != 0) = !decide (nb U r = 0) := by
         rw [andNot_i64 U r (by omega)]
         by_cases h : nb U r = 0
         ·simp [h]
         ·simp [h]
        clear hB
        by_cases hC : nb U r = 0
        ·rw [decide_eq_true hC] at HAT tC
         clear hC
         by_cases hD : d < 0
         ·rw [decide_eq_false (show ¬ 0 ≤ d by omega)] at HAT
          have HT := Lib.hid (HNO.out (by rw [HAT.out]; rfl))
          have tD : decide (d < 0) = true := decide_eq_true hD
          clear hD hno
          go_wp2_with fail
          go_quiet (fail)
          go_wp2_with fail
          go_ret
          exact ⟨by rw [HT.out]; rfl, HG.out ▸ below_drewN (below_drewN hb1 _) _⟩
         ·rw [decide_eq_true (show 0 ≤ d by omega)] at HAT
          have tD : decide (d < 0) = false := decide_eq_false hD
          clear hD
          by_cases hE : 1000 < d
          ·rw [decide_eq_false (show ¬ d ≤ 1000 by omega)] at HAT
           have HT := Lib.hid (HNO.out (by rw [HAT.out]; rfl))
           have tE : decide (1000 < d) = true := decide_eq_true hE
           clear hE hno
           go_wp2_with fail
           go_quiet (fail)
           go_wp2_with fail
           go_ret
           exact ⟨by rw [HT.out]; rfl, HG.out ▸ below_drewN (below_drewN hb1 _) _⟩
          ·rw [decide_eq_true (show d ≤ 1000 by omega)] at HAT
           have tE : decide (1000 < d) = false := decide_eq_false hE
           clear hE
           by_cases hU : U = 0
           ·have tU : ((U : Int) == 0) = true := by simp [hU]
            rw [decide_eq_true (show (U : Int) = 0 by omega)] at HAT
            clear hU
            by_cases hF : (L.delay : Int) < d
            ·rw [decide_eq_true hF] at HAT
             have HT := Lib.hid (HNO.out (by rw [HAT.out]; rfl))
             have tF : decide ((L.delay : Int) < d) = true := decide_eq_true hF
             clear hF hno
             go_wp2_with fail
             go_quiet (fail)
             go_wp2_with fail
             go_ret
             exact ⟨by rw [HT.out]; rfl, HG.out ▸ below_drewN (below_drewN hb1 _) _⟩
            ·rw [decide_eq_false hF] at HAT
             have HT := Lib.hid (HNX.out (by rw [HAT.out]; rfl))
             have tF : decide ((L.delay : Int) < d) = false := decide_eq_false hF
             clear hF hno
             go_wp2_with fail
             go_quiet (fail)
             go_wp2_with fail
             go_roundw
             case rel => exact ⟨k + 1, by omega, by go_num, Lib.hid HT.out, _, rfl⟩
             case measure => simp [intOf]; omega
           ·have tU : ((U : Int) == 0) = false := by simp; omega
            rw [decide_eq_false (show ¬ (U : Int) = 0 by omega)] at HAT
            have HT := Lib.hid (HNX.out (by rw [HAT.out]; rfl))
            clear hU hno
            go_wp2_with fail
            go_quiet (fail)
            go_wp2_with fail
            go_roundw
            case rel => exact ⟨k + 1, by omega, by go_num, Lib.hid HT.out, _, rfl⟩
            case measure => simp [intOf]; omega
        ·rw [decide_eq_false hC] at HAT tC
         have HT := Lib.hid (HNO.out (by rw [HAT.out]; rfl))
         clear hC hno
         go_wp2_with fail
         go_quiet (fail)
         go_wp2_with fail
         go_ret
         exact ⟨by rw [HT.out]; rfl, HG.out ▸ below_drewN (below_drewN hb1 _) _⟩
      ·rw [decide_eq_false hA] at HAT tA
       have HT := Lib.hid (HNO.out (by rw [HAT.out]; rfl))
       clear hA hno
       go_wp2_with fail
       go_quiet (fail)
       go_wp2_with fail
       go_ret
       exact ⟨by rw [HT.out]; rfl, HG.out ▸ below_drewN (below_drewN hb1 _) _⟩
    ·have hk8 : k = 8 := by omega
     subst hk8
     have HE := Lib.hid (crt_yes (L := L) (l := l) (by rw [HX0.out]; omega) (by have := H2.out; rw [HX0.out]; simp at this ⊢; omega) hno.out)
     clear hno
     go_wp2_with fail
     go_ret
     exact ⟨by rw [HE.out]; rfl, HG.out ▸ below_drewN hb1 _⟩
end Go.Proofs.YtdhekhlmdefcnabGreatDoor
namespace Go.Proofs.YtdhekhlmdefcnabGreatDoor
open Go.RowKit
structure FrIn (f : List Int) (kd fr cy c d : Nat) (s : St) : Prop where
 len : f.length = 23
 e0 : f.getD 0 0 = (kd : Int)
 e1 : f.getD 1 0 = (fr : Int)
 e2 : f.getD 2 0 = (cy : Int)
 e3 : f.getD 3 0 = (c : Int)
 e4 : f.getD 4 0 = (d : Int)
 hfr : fr ≤ 3
 hcy : cy ≤ 1048576
 hc : c ≤ 1048576
 hd : d ≤ 1048576
 st : stNat (stOf f) = s
 sl : ints (stOf f) = stL s
 sn : (stOf f).length = 17
 lo : ∀ x ∈ stOf f, 0 ≤ x ∧ x ≤ 1048576
theorem cp_all {f : List Int} (hm : mayB f = true) : ∀ n, ∀ x ∈ cpTo f n, 0 ≤ x ∧ x ≤ 1048576 := by
 intro n
 unfold cpTo
 have hk : 0 ≤ f.getD 0 0 ∧ f.getD 0 0 ≤ 1048576 := by
  unfold mayB headB at hm
  simp only [Bool.and_eq_true, decide_eq_true_eq] at hm
  omega
 have h0 : ∀ x ∈ zeroF.set 0 (f.getD 0 0), 0 ≤ x ∧ x ≤ 1048576 := by
  intro x hx
  rcases List.mem_or_eq_of_mem_set hx with h | h
  ·have := List.eq_of_mem_replicate h
   omega
  ·rw [h]; exact hk
 have hl : ∀ i ∈ (idx (f.getD 0 0)).take n, 0 ≤ f.getD i 0 ∧ f.getD i 0 ≤ 1048576 := fun i hi => may_all hm i (List.mem_of_mem_take hi)
 generalize (idx (f.getD 0 0)).take n = l at hl
 generalize zeroF.set 0 (f.getD 0 0) = g at h0
 induction l generalizing g with
 | nil => exact h0
 | cons i l ih =>
  refine ih (fun j hj => hl j (List.mem_cons_of_mem _ hj)) _ (fun x hx => ?_)
  rcases List.mem_or_eq_of_mem_set hx with h | h
  ·exact h0 x h
  ·rw [h]; exact hl i (List.mem_cons_self ..)
theorem ints_nat : ∀ (l : List Int), (∀ x ∈ l, 0 ≤ x) → ints l = ints (zs (l.map Int.toNat))
 | [], _ => rfl
 | x :: l, h => by
  have ih := ints_nat l fun y hy => h y (List.mem_cons_of_mem _ hy)
  have hx := h x (List.mem_cons_self ..)
  unfold ints zs at ih ⊢
  simp only [List.map_cons, List.map_map] at ih ⊢
  rw [ih, Int.toNat_of_nonneg hx]
theorem list17 (l : List Int) (h : l.length = 17) : ∃ x u d, l = x :: (u ++ d) ∧ u.length = 8 ∧ d.length = 8 := by
 match l, h with
 | x :: l, h =>
  refine ⟨x, l.take 8, l.drop 8, by rw [List.take_append_drop], ?_, ?_⟩
  ·simp at h ⊢; omega
  ·simp at h ⊢; omega
theorem st_of {l : List Int} (h : l.length = 17) (h0 : ∀ x ∈ l, 0 ≤ x) : ints l = stL (stNat l) ∧ (stNat l).used.length = 8 ∧ (stNat l).idle.length = 8 := by
 obtain ⟨x, u, d, rfl, hu, hd⟩ := list17 l h
 have e1 : (((x :: (u ++ d)).drop 1).take 8) = u := by simp [hu]
 have e2 : (((x :: (u ++ d)).drop 9).take 8) = d := by
  show ((u ++ d).drop 8).take 8 = d
  rw [List.drop_append_of_le_length (by omega), List.drop_of_length_le (by omega), List.nil_append, List.take_of_length_le (by omega)]
 refine ⟨?_, ?_, ?_⟩
 ·unfold stNat stL
  simp only [e1, e2]
  rw [← ints_nat u (fun y hy => h0 y (by simp [hy])), ← ints_nat d (fun y hy => h0 y (by simp [hy]))]
  have hx := h0 x (List.mem_cons_self ..)
  show I x :: (u ++ d).map I = I ((x.toNat : Nat) : Int) :: (u.map I ++ d.map I)
  rw [Int.toNat_of_nonneg hx, List.map_append]
 ·unfold stNat; simp only [e1, List.length_map, hu]
 ·unfold stNat; simp only [e2, List.length_map, hd]
theorem fr_in {f : List Int} (hm : mayB f = true) : ∃ kd fr cy c d s, FrIn f kd fr cy c d s := by
 have hcp := may_cp hm
 have hall : ∀ x ∈ f, 0 ≤ x ∧ x ≤ 1048576 := by rw [hcp]; exact cp_all hm _
 have hlen : f.length = 23 := by rw [hcp]; exact cpTo_length f _
 have hg : ∀ i, 0 ≤ f.getD i 0 ∧ f.getD i 0 ≤ 1048576 := fun i => by
  rw [List.getD_eq_getElem?_getD]
  cases h : f[i]? with
  | none => exact ⟨Int.le_refl _, by decide⟩
  | some x => exact hall x (List.mem_of_getElem? h)
 have hfr : f.getD 1 0 ≤ 3 := by
  have := hm
  unfold mayB headB at this
  simp only [Bool.and_eq_true, decide_eq_true_eq] at this
  omega
 have hsn : (stOf f).length = 17 := by unfold stOf; simp [hlen]
 have hlo : ∀ x ∈ stOf f, 0 ≤ x ∧ x ≤ 1048576 := fun x hx => hall x (List.mem_of_mem_drop hx)
 have e0 := hg 0
 have e1 := hg 1
 have e2 := hg 2
 have e3 := hg 3
 have e4 := hg 4
 exact ⟨(f.getD 0 0).toNat, (f.getD 1 0).toNat, (f.getD 2 0).toNat, (f.getD 3 0).toNat, (f.getD 4 0).toNat, stNat (stOf f), hlen, by omega, by omega, by omega, by omega, by omega, by omega, by omega, by omega, by omega, rfl, (st_of hsn fun x hx => (hlo x hx).1).1, hsn, hlo⟩
theorem right_fits {L : Lay} {l : List Int} (hL : L.Ok) (hl : l.length = 17) (hr : rightB L l = true) : (stNat l).Fits 1000 := by
 unfold rightB at hr
 simp only [Bool.and_eq_true, decide_eq_true_eq, List.all_eq_true, List.mem_range] at hr
 obtain ⟨⟨h0, h1⟩, h2⟩ := hr
 obtain ⟨x, u, d, rfl, hu, hd⟩ := list17 l hl
 have e1 : (((x :: (u ++ d)).drop 1).take 8) = u := by simp [hu]
 have e2 : (((x :: (u ++ d)).drop 9).take 8) = d := by
  show ((u ++ d).drop 8).take 8 = d
  rw [List.drop_append_of_le_length (by omega), List.drop_of_length_le (by omega), List.nil_append, List.take_of_length_le (by omega)]
 rw [e1, e2] at h2
 have hx : (x :: (u ++ d)).getD 0 0 = x := rfl
 rw [hx] at h0 h1
 have hp : (2 : Int) ^ L.routes.length ≤ 256 := by
  have h := Nat.pow_le_pow_right (n := 2) (by decide) hL.many2
  have : ((2 ^ L.routes.length : Nat) : Int) ≤ 256 := by omega
  simpa using this
 have hat : ∀ k, k < 8 → (u.getD k 0).toNat < 4096 ∧ (d.getD k 0).toNat ≤ 1000 := by
  intro k hk
  have h := h2 k hk
  unfold rightAt at h
  split at h
  ·simp only [Bool.and_eq_true, decide_eq_true_eq] at h
   rw [h.1, h.2]
   decide
  ·simp only [Bool.and_eq_true, decide_eq_true_eq] at h
   obtain ⟨⟨⟨⟨⟨_, hu0⟩, hnb⟩, hd0⟩, hd1⟩, _⟩ := h
   refine ⟨?_, by omega⟩
   generalize hU : (u.getD k 0).toNat = U at hnb ⊢
   have hkn : k < L.routes.length := by
    rename_i hc
    omega
   have hr : L.routes.getD k 0 < 4096 := by
    rw [List.getD_eq_getElem?_getD, List.getElem?_eq_getElem hkn]
    have h1 := hL.high _ (List.getElem_mem hkn)
    have h2 := Nat.pow_le_pow_right (n := 2) (by decide) hL.secs2
    simp only [Option.getD_some]
    omega
   refine Nat.lt_pow_two_of_testBit (n := 12) U fun i hi => ?_
   have ht := congrArg (fun x => Nat.testBit x i) hnb
   simp only [testBit_nb, Nat.zero_testBit] at ht
   have hri : (L.routes.getD k 0).testBit i = false := Nat.testBit_lt_two_pow (Nat.lt_of_lt_of_le hr (Nat.pow_le_pow_right (n := 2) (by decide) hi))
   rw [hri] at ht
   simpa using ht
 have hus : (stNat (x :: (u ++ d))).used = u.map Int.toNat := by unfold stNat; rw [e1]
 have hds : (stNat (x :: (u ++ d))).idle = d.map Int.toNat := by unfold stNat; rw [e2]
 refine ⟨?_, by rw [hus]; simpa using hu, by rw [hds]; simpa using hd, ?_, ?_⟩
 ·show x.toNat < 256
  omega
 ·rw [hus]
  intro y hy
  obtain ⟨k, hk, rfl⟩ := List.getElem_of_mem hy
  have hk8 : k < 8 := by simpa [hu] using hk
  have h := (hat k hk8).1
  rw [List.getD_eq_getElem?_getD, List.getElem?_eq_getElem (by omega)] at h
  simpa using h
 ·rw [hds]
  intro y hy
  obtain ⟨k, hk, rfl⟩ := List.getElem_of_mem hy
  have hk8 : k < 8 := by simpa [hd] using hk
  have h := (hat k hk8).2
  rw [List.getD_eq_getElem?_getD, List.getElem?_eq_getElem (by omega)] at h
  simpa using h
theorem ints_inj {a b : List Int} (h : ints a = ints b) : a = b := (List.map_inj_right (fun a b hab => by injection hab)).1 h
theorem zs_inj {a b : List Nat} (h : zs a = zs b) : a = b := (List.map_inj_right (fun a b hab => by omega)).1 h
theorem knL_eq {a b : Nat × St × Bool} (ha : a.2.1.used.length = 8) (ha2 : a.2.1.idle.length = 8) (hb : b.2.1.used.length = 8) (hb2 : b.2.1.idle.length = 8) : same2 a b = true ↔ (knL a).toArray = (knL b).toArray := by
 obtain ⟨ac, ⟨as_, au, ai⟩, ab⟩ := a
 obtain ⟨bc, ⟨bs, bu, bi⟩, bb⟩ := b
 simp only at ha ha2 hb hb2
 constructor
 ·intro h
  unfold same2 at h
  simp only [Bool.and_eq_true, decide_eq_true_eq, beq_iff_eq] at h
  obtain ⟨⟨⟨⟨h1, h2⟩, h3⟩, h4⟩, h5⟩ := h
  subst h1 h2 h3 h4 h5
  rfl
 ·intro h
  have h := Array.toList_inj.2 h
  simp only [knL, stL, List.cons_append, List.cons.injEq] at h
  obtain ⟨h1, h2, h3⟩ := h
  have h1' : ac = bc := by injection h1 with _ h1; omega
  have h2' : as_ = bs := by injection h2 with _ h2; omega
  obtain ⟨h4, h5⟩ := List.append_inj h3 (by simp [ints, zs, ha, ha2, hb, hb2])
  obtain ⟨h6, h7⟩ := List.append_inj h4 (by simp [ints, zs, ha, hb])
  have h6' := zs_inj (ints_inj h6)
  have h7' := zs_inj (ints_inj h7)
  have h5' : ab = bb := by simpa using h5
  subst h1' h2' h6' h7' h5'
  simp [same2]
theorem sigKnown : sig Tryz.prog 6 105 = some (List.replicate 18 (some .i64) ++ [none]) := by kernel_rfl
theorem Fit.append : ∀ {a b : List (Option IntKind)} {x y : List Value}, Fit a x → Fit b y → Fit (a ++ b) (x ++ y)
 | [], _, [], _, _, h => h
 | _ :: _, _, _ :: _, _, h, h' => ⟨h.1, Fit.append h.2 h'⟩
 | [], _, _ :: _, _, h, _ => h.elim
 | _ :: _, _, [], _, h, _ => h.elim
theorem fit_known {k : Nat × St × Bool} {M : Nat} (hM : M ≤ 1000000000000) (h : k.2.1.Fits M) (hc : k.1 ≤ 1000000000000) : Fit (List.replicate 18 (some .i64) ++ [none]) (knL k).toArray.toList := by
 have e : knL k = ints ((k.1 : Int) :: (k.2.1.set : Int) :: (zs k.2.1.used ++ zs k.2.1.idle)) ++ [.bool k.2.2] := by simp [knL, stL, ints]
 show Fit _ (knL k)
 rw [e]
 refine Fit.append ?_ ⟨trivial, trivial⟩
 have hl : ((k.1 : Int) :: (k.2.1.set : Int) :: (zs k.2.1.used ++ zs k.2.1.idle)).length = 18 := by simp [zs, h.used8, h.idle8]
 have := fit_ints ((k.1 : Int) :: (k.2.1.set : Int) :: (zs k.2.1.used ++ zs k.2.1.idle)) (fun x hx => by
  simp only [List.mem_cons, List.mem_append, zs, List.mem_map] at hx
  have h1 := h.set
  rcases hx with rfl | rfl | ⟨y, hy, rfl⟩ | ⟨y, hy, rfl⟩
  ·exact wf_i64 (by omega) (by omega)
  ·exact wf_i64 (by omega) (by omega)
  ·have := h.used y hy; exact wf_i64 (by omega) (by omega)
  ·have := h.idle y hy; exact wf_i64 (by omega) (by omega))
 rw [hl] at this
 exact this
theorem wp_known {o : Oper} {x : Act} {w : World} {K : Act → World → Prop} {Q : Exit → Act → World → Prop} (t2 : TypeId) (p q : Nat × St × Bool) {M : Nat} (hM : M ≤ 1000000000000) (hp : p.2.1.Fits M) (hp2 : p.1 ≤ 1000000000000) (hq : q.2.1.Fits M) (hq2 : q.1 ≤ 1000000000000)
  (u v : Operand) (ho : o.op = .binOp .eql 105 u v t2) (hu : x.eval u = .agg (knL p).toArray) (hv : x.eval v = .agg (knL q).toArray) (h : K (x.put o.dst (.bool (same2 p q))) w) : o.wp Tryz.prog x w K Q :=
 wp_eql_row 105 t2 6 _ _ _ u v ho hu hv (by decide) (by kernel_rfl) sigKnown (by kernel_rfl) (by kernel_rfl) (by kernel_rfl) (fit_known hM hp hp2) (fit_known hM hq hq2) _ (knL_eq hp.used8 hp.idle8 hq.used8 hq.idle8) h
def Told57 (l : List (Nat × St × Bool)) : List Value := knL (l.getD 0 kn0) ++ (knL (l.getD 1 kn0) ++ knL (l.getD 2 kn0))
theorem infoKnown : (Tryz.prog.info? 105).map (·.size) = some 19 := by kernel_rfl
theorem told57_length {l : List (Nat × St × Bool)} (h : ∀ k, (knL (l.getD k kn0)).length = 19) : (Told57 l).length = 57 := by unfold Told57; rw [List.length_append, List.length_append, h, h, h]
theorem told57_at {l : List (Nat × St × Bool)} (h : ∀ k, (knL (l.getD k kn0)).length = 19) {k i : Nat} (hk : k < 3) (hi : i < 19) : (Told57 l)[k * 19 + i]? = (knL (l.getD k kn0))[i]? := by
 have hc : k = 0 ∨ k = 1 ∨ k = 2 := by omega
 have h0 := h 0
 have h1 := h 1
 unfold Told57
 rcases hc with rfl | rfl | rfl
 ·rw [List.getElem?_append_left (by omega)]; congr 1; omega
 ·rw [List.getElem?_append_right (by omega), List.getElem?_append_left (by omega)]; congr 1; omega
 ·rw [List.getElem?_append_right (by omega), List.getElem?_append_right (by omega)]; congr 1; omega
theorem take19 {l : List (Nat × St × Bool)} (h : ∀ k, (knL (l.getD k kn0)).length = 19) {k : Nat} (hk : k < 3) : ((Told57 l).drop (k * 19)).take 19 = knL (l.getD k kn0) := by
 apply List.ext_getElem?
 intro i
 by_cases hi : i < 19
 ·rw [List.getElem?_take_of_lt hi, List.getElem?_drop, told57_at h hk hi]
 ·rw [List.getElem?_eq_none (by simp; omega), List.getElem?_eq_none (by rw [h]; omega)]
end Go.Proofs.YtdhekhlmdefcnabGreatDoor
namespace Go.Proofs.YtdhekhlmdefcnabGreatDoor
open Go.RowKit
def TK (w : World) (g gc gf : Nat) (L : Lay) (r : Re) (f : List Int) (wx : World) : Prop :=
 RepAt wx g gc L r ∧ Turned (fun b => b = g) w wx ∧ Has wx gf 110 (frC f) ∧ w.heap.size ≤ gf
theorem TK.after {w wx wy : World} {g gc gf : Nat} {L : Lay} {r : Re} {f : List Int} (h : TK w g gc gf L r f wx) (hb : Below wx.heap.size wx wy) : TK w g gc gf L r f wy :=
 ⟨h.1.after hb, h.2.1.thenBelow hb, h.2.2.1.after hb, h.2.2.2⟩
theorem TK.drew {w wx : World} {g gc gf : Nat} {L : Lay} {r : Re} {f : List Int} (h : TK w g gc gf L r f wx) : TK w g gc gf L r f wx.drew := h.after ((Below.refl _ _).drew)
theorem TK.drewN {w wx : World} {g gc gf : Nat} {L : Lay} {r : Re} {f : List Int} (h : TK w g gc gf L r f wx) (n : Nat) : TK w g gc gf L r f (wx.drewN n) := h.after (below_drewN (Below.refl _ _) n)
theorem TK.turn {w wx wy : World} {g gc gf : Nat} {L : Lay} {r r' : Re} {f : List Int} (h : TK w g gc gf L r f wx) (ht : Turned (fun b => b = g) wx wy) (k : RepAt wy g gc L r') : TK w g gc gf L r' f wy :=
 ⟨k, h.2.1.trans ht (fun _ _ e => e), h.2.2.1.turned ht (fun e => h.2.2.1.ne h.1.has (by decide) e), h.2.2.2⟩
theorem TK.set {w wx : World} {g gc gf : Nat} {L : Lay} {r r' : Re} {f : List Int} (h : TK w g gc gf L r f wx) (i : Nat) (v : Value) (he : ∀ j, j < 93 → (if j = i then v else reF r gc j) = reF r' gc j) : TK w g gc gf L r' f (wx.setCell ⟨g, i, none⟩ v) := by
 have ht : Turned (fun b => b = g) wx (wx.setCell ⟨g, i, none⟩ v) := (Turned.refl (fun b => b = g) wx).setCell ⟨g, i, none⟩ v (.inl rfl)
 exact h.turn ht (h.1.to ht (h.1.has.setF i v) he)
theorem TK.set2 {w wx : World} {g gc gf : Nat} {L : Lay} {r r' : Re} {f : List Int} (h : TK w g gc gf L r f wx) (i j : Nat) (u v : Value) (he : ∀ m, m < 93 → (if m = j then v else if m = i then u else reF r gc m) = reF r' gc m) : TK w g gc gf L r' f ((wx.setCell ⟨g, i, none⟩ u).setCell ⟨g, j, none⟩ v) := by
 have ht : Turned (fun b => b = g) wx ((wx.setCell ⟨g, i, none⟩ u).setCell ⟨g, j, none⟩ v) := ((Turned.refl (fun b => b = g) wx).setCell ⟨g, i, none⟩ u (.inl rfl)).setCell ⟨g, j, none⟩ v (.inl rfl)
 exact h.turn ht (h.1.to ht ((h.1.has.setF i u).setF j v) he)
theorem TK.sets {w wx : World} {g gc gf : Nat} {L : Lay} {r r' : Re} {f : List Int} (h : TK w g gc gf L r f wx) (o : Nat) (cs : List Value) (he : ∀ m, m < 93 → setsF (reF r gc) o cs m = reF r' gc m) : TK w g gc gf L r' f (wx.setCells g o cs) := by
 have ht : Turned (fun b => b = g) wx (wx.setCells g o cs) := Turned.setCells (F := fun b => b = g) (g := g) (.inl rfl) cs o (Turned.refl _ wx)
 exact h.turn ht (h.1.to ht (Has.setsF cs o h.1.has) he)
def TakePost (w : World) (g gc : Nat) (L : Lay) (r : Re) (f : List Int) (e : Ending) (w' : World) : Prop :=
 (∃ x, e = .returned x ∧ FramesAt w' w.heap.size x (reTake L r f).2) ∧ RepAt w' g gc L (reTake L r f).1 ∧ Turned (fun b => b = g) w w'
theorem fr_cells {f : List Int} {kd fr cy c d : Nat} {s : St} (h : FrIn f kd fr cy c d s) (wx : World) (gf : Nat) (hx : Has wx gf 110 (frC f)) :
  wx.cell? ⟨gf, 0, none⟩ = some (I (kd : Int)) ∧ wx.cell? ⟨gf, 1, none⟩ = some (I (fr : Int)) ∧ wx.cell? ⟨gf, 2, none⟩ = some (I (cy : Int)) ∧ wx.cell? ⟨gf, 3, none⟩ = some (I (c : Int)) ∧ wx.cell? ⟨gf, 4, none⟩ = some (I (d : Int)) := by
 have hg : ∀ i x, i < 23 → f.getD i 0 = x → wx.cell? ⟨gf, i, none⟩ = some (I x) := fun i x hi he => by
  refine hx.cellv i (I x) (frC_get f i x ?_)
  rw [List.getD_eq_getElem?_getD, List.getElem?_eq_getElem (by rw [h.len]; exact hi)] at he
  rw [List.getElem?_eq_getElem (by rw [h.len]; exact hi), ← he]
  rfl
 exact ⟨hg 0 _ (by decide) h.e0, hg 1 _ (by decide) h.e1, hg 2 _ (by decide) h.e2, hg 3 _ (by decide) h.e3, hg 4 _ (by decide) h.e4⟩
theorem fr_state {f : List Int} {kd fr cy c d : Nat} {s : St} (h : FrIn f kd fr cy c d s) (wx : World) (gf : Nat) (hx : Has wx gf 110 (frC f)) : wx.rangeAt gf 6 (stL s) := by
 intro j v hv
 have hs := h.sl
 rw [← hs] at hv
 refine hx.cellv (6 + j) v ?_
 unfold stOf at hv
 show (ints f).toArray[6 + j]? = some v
 unfold ints at hv ⊢
 rw [List.map_drop, List.getElem?_drop] at hv
 simpa using hv
theorem fr_stL {f : List Int} {kd fr cy c d : Nat} {s : St} (h : FrIn f kd fr cy c d s) : (stL s).length = 17 := by rw [← h.sl, ints_length, h.sn]
theorem other_yes {r : Re} {f : List Int} {kd fr cy c d : Nat} {s : St} (h : FrIn f kd fr cy c d s) : other r f = (decide (fr < 3) && decide (fr ≠ r.id)) := by
 unfold other
 rw [h.e1]
 have e1 : decide ((0 : Int) ≤ (fr : Int)) = true := by simp
 have e2 : decide ((fr : Int) < 3) = decide (fr < 3) := by rw [decide_eq_decide]; omega
 have e3 : decide ((fr : Int) ≠ (r.id : Int)) = decide (fr ≠ r.id) := by rw [decide_eq_decide]; omega
 rw [e1, e2, e3, Bool.true_and]
theorem wpStill_load_mid {P : Program} {ops : Array Oper} {rest : List Oper} {o : Oper} {a : Act} {w : World} {Q : Act → Prop} (hg : o.guard = none) (ty : TypeId) (x : Operand) (ho : o.op = .load ty x)
  (b off : Nat) (hx : a.eval x = .pointer (some ⟨b, off, none⟩)) (cs : Array Value) (hr : (Instr.loadAt ty (.pointer (some ⟨b, off, none⟩))).run P w = .ok (.agg cs) w)
  (h : wpStill P ops w Q rest (a.put o.dst (.agg cs))) : wpStill P ops w Q (o :: rest) a := by
 have hw : Region.wanted o (yielded ops a.tmps) = true := by unfold Region.wanted; rw [hg]
 unfold wpStill
 rw [if_pos hw]
 unfold Oper.still execOp
 simp only [ho, hx, Sem.run_bind, hr, Result.andThen_ok, Sem.run_pure, Oper.stillUpon_value]
 exact h
theorem take_eq (L : Lay) {r : Re} {f : List Int} {cy c d : Nat} {s : St} (h : FrIn f 3 3 cy c d s) (e : cy = r.cycle) :
  reTake L r f = (goes { r with ahead := max r.ahead cy, state := (step L c d r.state).1 } (r.cycle + 1), if (goes { r with ahead := max r.ahead cy, state := (step L c d r.state).1 } (r.cycle + 1)).cycle ≤ (goes { r with ahead := max r.ahead cy, state := (step L c d r.state).1 } (r.cycle + 1)).ahead then [asks (goes { r with ahead := max r.ahead cy, state := (step L c d r.state).1 } (r.cycle + 1))] else []) := by
 unfold reTake
 rw [h.e0, h.e1, h.e2, h.e3, h.e4, if_neg (by omega), if_pos ⟨rfl, rfl, by omega⟩]
 dsimp only
 rw [if_pos (by omega), Int.toNat_natCast]
theorem take_ne (L : Lay) {r : Re} {f : List Int} {cy c d : Nat} {s : St} (h : FrIn f 3 3 cy c d s) (e : r.cycle < cy) :
  reTake L r f = ({ r with ahead := max r.ahead cy }, if r.cycle ≤ max r.ahead cy then [asks { r with ahead := max r.ahead cy }] else []) := by
 unfold reTake
 rw [h.e0, h.e1, h.e2, h.e3, h.e4, if_neg (by omega), if_pos ⟨rfl, rfl, by omega⟩]
 dsimp only
 rw [if_neg (by omega), Int.toNat_natCast]
theorem take_known (L : Lay) {r : Re} {f : List Int} {fr cy c d : Nat} {s : St} (h : FrIn f 5 fr cy c d s) (h3 : fr < 3) (hne : fr ≠ r.id) (hcc : r.cycle < cy) (hr : rightB L (stOf f) = true) :
  reTake L r f = (if toldAlike (r.told.set fr (cy, s, true)) fr then goes { r with told := r.told.set fr (cy, s, true), state := s } cy else { r with told := r.told.set fr (cy, s, true) }, []) := by
 have ho : other r f = true := by rw [other_yes h]; simp [h3, hne]
 unfold reTake
 rw [h.e0, h.e1, h.e2, h.st, if_neg (by omega), if_neg (by omega), if_neg (by omega), if_pos ⟨rfl, ho, by omega, hr⟩]
 dsimp only
 rw [Int.toNat_natCast, Int.toNat_natCast]
theorem told_yes {l : List (Nat × St × Bool)} {j k : Nat} (hk : k < 3) (hne : ¬ k = j) (h : same2 (l.getD k kn0) (l.getD j kn0) = true) : toldAlike l j = true := by
 unfold toldAlike
 rw [List.any_eq_true]
 exact ⟨k, List.mem_range.2 hk, by unfold kn0 at h; rw [h, Bool.and_true]; exact decide_eq_true hne⟩
theorem told_no {l : List (Nat × St × Bool)} {j : Nat} (h : ∀ k, k < 3 → (decide (k ≠ j) && same2 (l.getD k kn0) (l.getD j kn0)) = false) : toldAlike l j = false := by
 unfold toldAlike
 rw [List.any_eq_false]
 intro k hk
 have := h k (List.mem_range.1 hk)
 unfold kn0 at this
 rw [this]
 decide
theorem put_none (a : Act) : a.put none undef = a := rfl
theorem take_none (L : Lay) {r : Re} {f : List Int} {kd fr cy c d : Nat} {s : St} (h : FrIn f kd fr cy c d s) (hn1 : ¬ (kd = 1 ∧ other r f = true ∧ cy = r.cycle)) (hn2 : ¬ (kd = 3 ∧ fr = 3 ∧ r.cycle ≤ cy)) (hn3 : ¬ (kd = 4 ∧ other r f = true)) (hn4 : ¬ (kd = 5 ∧ other r f = true ∧ r.cycle < cy ∧ rightB L (stOf f) = true)) :
  reTake L r f = (r, []) := by
 unfold reTake
 rw [h.e0, h.e1, h.e2]
 dsimp only
 rw [if_neg (fun e => hn1 ⟨by omega, e.2.1, by omega⟩), if_neg (fun e => hn2 ⟨by omega, by omega, by omega⟩), if_neg (fun e => hn3 ⟨by omega, e.2⟩), if_neg (fun e => hn4 ⟨by omega, e.2.1, by omega, e.2.2.2⟩)]
theorem take_cases {kd fr cy cyc : Nat} {o rb : Bool} (hn1 : ¬ (kd = 1 ∧ o = true ∧ cy = cyc)) (hn2 : ¬ (kd = 3 ∧ fr = 3 ∧ cyc ≤ cy)) (hn3 : ¬ (kd = 4 ∧ o = true)) (hn4 : ¬ (kd = 5 ∧ o = true ∧ cyc < cy ∧ rb = true)) :
  (kd = 1 ∧ o = false) ∨ (kd = 1 ∧ o = true ∧ ¬ cy = cyc) ∨ (kd = 3 ∧ ¬ fr = 3) ∨ (kd = 3 ∧ fr = 3 ∧ ¬ cyc ≤ cy) ∨ (kd = 4 ∧ o = false) ∨ (kd = 5 ∧ o = false) ∨ (kd = 5 ∧ o = true ∧ ¬ cyc < cy) ∨ (kd = 5 ∧ o = true ∧ cyc < cy ∧ rb = false) ∨ (¬ kd = 1 ∧ ¬ kd = 3 ∧ ¬ kd = 4 ∧ ¬ kd = 5) := by
 cases o <;> cases rb <;> simp_all <;> omega
theorem take_end {w : World} {g gc g0 : Nat} {L : Lay} {r : Re} {f : List Int} {wx : World} (h : TK w g gc g0 L r f wx) : (∃ x, Ending.returned (.slice none 0 0) = .returned x ∧ FramesAt wx w.heap.size x []) ∧ RepAt wx g gc L r ∧ Turned (fun b => b = g) w wx := ⟨⟨_, rfl, .inl ⟨rfl, rfl⟩⟩, h.1, h.2.1⟩
theorem knL_one (x : Nat × St × Bool) : (knL x).toArray.all (·.oneCell') = true := by
 unfold knL stL
 exact all_oneCell_toArray fun v hv => by
  simp only [List.mem_cons, List.mem_append, ints, List.mem_map, List.cons_append, List.not_mem_nil, or_false] at hv
  rcases hv with rfl | rfl | (⟨x, _, rfl⟩ | ⟨x, _, rfl⟩) | rfl <;> rfl
theorem St.Fits.mono {s : St} {M N : Nat} (h : s.Fits M) (hMN : M ≤ N) : s.Fits N := ⟨h.set, h.used8, h.idle8, h.used, fun x hx => Nat.le_trans (h.idle x hx) hMN⟩
theorem told_range {w : World} {g gc : Nat} {L : Lay} {r : Re} (h : RepAt w g gc L r) (hl : ∀ k, (knL (r.told.getD k kn0)).length = 19) : w.rangeAt g 34 (Told57 r.told) := h.has.rangeF 34 _ fun j v hv => by
 have hj : j < 57 := by rw [← told57_length hl]; exact (List.getElem?_eq_some_iff.1 hv).1
 obtain ⟨k, i, hk, hi, rfl⟩ : ∃ k i, k < 3 ∧ i < 19 ∧ j = k * 19 + i := ⟨j / 19, j % 19, by omega, by omega, by omega⟩
 rw [told57_at hl hk hi] at hv
 refine ⟨by omega, ?_⟩
 rw [← Nat.add_assoc, reF_told hk hi, List.getD_eq_getElem?_getD, hv]
 rfl
theorem list17v (l : List Value) (h : l.length = 17) : ∃ a0 a1 a2 a3 a4 a5 a6 a7 a8 a9 a10 a11 a12 a13 a14 a15 a16, l = [a0, a1, a2, a3, a4, a5, a6, a7, a8, a9, a10, a11, a12, a13, a14, a15, a16] := by
 match l, h with
 | [a0, a1, a2, a3, a4, a5, a6, a7, a8, a9, a10, a11, a12, a13, a14, a15, a16], _ => exact ⟨a0, a1, a2, a3, a4, a5, a6, a7, a8, a9, a10, a11, a12, a13, a14, a15, a16, rfl⟩
theorem ix_told {l : List (Nat × St × Bool)} (h : ∀ k, (knL (l.getD k kn0)).length = 19) {k : Nat} (hk : k < 3) (w : World) : (Instr.index 106 (.agg (Told57 l).toArray) (I (k : Int))).run Tryz.prog w = .ok (.agg (knL (l.getD k kn0)).toArray) w := by
 have hU : Tryz.prog.underlying 106 = some (.array 3 105) := by kernel_rfl
 have hU2 : ((Tryz.prog.underlying 105).map fun d => match d with | .struct _ | .array _ _ => true | _ => false) = some true := by kernel_rfl
 obtain ⟨i, hi, hz⟩ := Option.map_eq_some_iff.1 infoKnown
 obtain ⟨u, hu, hu2⟩ := Option.map_eq_some_iff.1 hU2
 have hn : (0 : Int) ≤ (k : Int) ∧ (k : Int) < ((3 : Nat) : Int) := by omega
 have hagg : (isAgg 105).run Tryz.prog w = .ok true w := by
  unfold isAgg
  rw [Sem.run_bind, run_underlying hu w]
  cases u <;> simp_all
 have hsz : (sizeOf 105).run Tryz.prog w = .ok 19 w := by simp [sizeOf, typeInfo, hi, hz]
 have hx : (Told57 l).toArray.extract (k * 19) (k * 19 + 19) = (knL (l.getD k kn0)).toArray := by
  rw [List.extract_toArray, List.extract_eq_take_drop, Nat.add_sub_cancel_left, take19 h hk]
 have e0 : (asIntOf (I (k : Int))).run Tryz.prog w = .ok (.i64, (k : Int)) w := rfl
 unfold Instr.index
 rw [Sem.run_bind, e0, Result.andThen_ok, Sem.run_bind, run_underlying hU w, Result.andThen_ok]
 simp only [hn, and_self, if_true, Sem.run_bind, hsz, Result.andThen_ok, Int.toNat_natCast, part, hagg, Sem.run_pure, hx]
end Go.Proofs.YtdhekhlmdefcnabGreatDoor
namespace Go.Proofs.YtdhekhlmdefcnabGreatDoor
open Go.RowKit
section
variable {w : World} {g gc : Nat} {L : Lay} {r : Re} {f : List Int} {kd fr cy c d : Nat} {s : St}
set_option maxHeartbeats 20000000 in
set_option maxRecDepth 100000 in
theorem re_take_ask (h : RepAt w g gc L r) (_hL : L.Ok) (T : Nat) (_hT : T ≤ 10000000000) (hf : Hid (r.Fits T)) (hin : Hid (FrIn f kd fr cy c d s)) (hk : kd = 4) (h3 : fr < 3) (hne : fr ≠ r.id) :
  Calls Tryz.prog 72 #[.pointer (some ⟨g, 0, none⟩), .agg (frC f)] w (TakePost w g gc L r f) := by
 have hb1 : Below w.heap.size w (w.alloc (.cells (frC f) 110)) := (Below.refl _ _).alloc (Nat.le_refl _) _
 have HT1 : Hid (TK w g gc w.heap.size L r f (w.alloc (.cells (frC f) 110))) := Lib.hid ⟨h.after hb1, Turned.of_below hb1 _, Has.new w 110 (frC f), Nat.le_refl _⟩
 have hgl := h.has.lt
 have hid3 := hf.out.id
 have hfr3 := hin.out.hfr
 have hcyB := hin.out.hcy
 obtain ⟨id, hid⟩ : ∃ id, r.id = id := ⟨_, rfl⟩
 obtain ⟨cyc, hcyc⟩ : ∃ cyc, r.cycle = cyc := ⟨_, rfl⟩
 rw [hid] at hid3
 have HID := Lib.hid hid
 have HCYC := Lib.hid hcyc
 have HFC := Lib.hid (fr_cells hin.out)
 have HRC : Hid (∀ wx, RepAt wx g gc L r → wx.cell? ⟨g, 0, none⟩ = some (I (id : Int)) ∧ wx.cell? ⟨g, 1, none⟩ = some (.pointer (some ⟨gc, 0, none⟩)) ∧ wx.cell? ⟨g, 2, none⟩ = some (I (cyc : Int)) ∧ wx.cell? ⟨g, 91, none⟩ = some (I (r.ticks : Int)) ∧ wx.cell? ⟨g, 92, none⟩ = some (I (r.ahead : Int))) := Lib.hid (fun wx hx =>
  ⟨hx.cell 0 (by decide) (by rw [reF_id, hid]), hx.cell 1 (by decide) reF_core, hx.cell 2 (by decide) (by rw [reF_cycle, hcyc]), hx.cell 91 (by decide) reF_ticks, hx.cell 92 (by decide) reF_ahead⟩)
 clear h hb1 hid hcyc
 go_enter Tryz.func72, Tryz.ntmps72
 go_upto_region 1 with fail
 generalize w.alloc (.cells (frC f) 110) = w1 at *
 generalize hG : w.heap.size = g0 at *
 have HG := Lib.hid hG
 clear hG
 obtain ⟨c0, c1, c2, c3, c4⟩ := HFC.out _ _ HT1.out.2.2.1
 obtain ⟨i0, i1, i2, i91, i92⟩ := HRC.out _ HT1.out.1
 have hl0 := HT1.out.2.2.1.lt
 have t0 : decide ((0 : Int) ≤ (fr : Int)) = true := decide_eq_true (by omega)
 have t1 : decide ((fr : Int) < 3) = true := decide_eq_true (by omega)
 have t2 : ((fr : Int) != (id : Int)) = true := by have := HID.out; simp; omega
 have HE : Hid (reTake L r f = (r, [frmK id cyc r.state])) := Lib.hid (by
  unfold reTake
  rw [hin.out.e0, other_yes hin.out, HID.out, HCYC.out, hk]
  have hne' : fr ≠ id := by have := HID.out; omega
  simp [h3, hne'])
 have HSR : Hid (∀ wx, RepAt wx g gc L r → wx.rangeAt g 3 (stL r.state)) := Lib.hid (fun wx hx => state_range hx (stL_length hf.out.state.used8 hf.out.state.idle8))
 subst hk
 clear c3 c4 i91 i92
 go_quiet (fail)
 go_wp2_with fail
 go_quiet (fail)
 go_wp2_with fail
 go_quiet (fail)
 go_upto_region 12 with fail
 generalize hW2 : World.drewN _ _ = w2
 have HT2 : Hid (TK w g gc g0 L r f w2) := Lib.hid (by rw [← hW2]; exact HT1.out.drewN _)
 clear hW2 HT1 c0 c1 c2 i0 i1 i2 t0 t1 t2 hl0
 obtain ⟨v0, v1, v2, v3, v4, v5, v6, v7, v8, v9, v10, v11, v12, v13, v14, v15, v16, hv⟩ := list17v (stL r.state) (stL_length hf.out.state.used8 hf.out.state.idle8)
 have hld := run_loadAt_mid (P := Tryz.prog) w2.drew g 3 100 (stL r.state) _ (HSR.out _ HT2.out.drew.1) Tryz.underlying100 rfl (by rw [hv]; exact infoState)
 obtain ⟨i0, i1, i2, i91, i92⟩ := HRC.out _ HT2.out.1
 have HFK : Hid (frC (frmK id cyc r.state) = #[I 5, I (id : Int), I (cyc : Int), I 0, I 0, I 0, v0, v1, v2, v3, v4, v5, v6, v7, v8, v9, v10, v11, v12, v13, v14, v15, v16]) := Lib.hid (by
  have e : frC (frmK id cyc r.state) = (I 5 :: I (id : Int) :: I (cyc : Int) :: I 0 :: I 0 :: I 0 :: stL r.state).toArray := by unfold frC frmK stL ints; simp
  rw [e, hv])
 rw [hv] at hld
 clear hv i1 i91 i92 HSR
 go_still_tail 13, (by kernel_rfl)
 refine wpStill_load_mid rfl 100 (.tmp 155) rfl g 3 rfl _ hld ?_
 repeat still_step
 refine wpStill_nil ?_
 change wpList _ _ _ _ _ w2.drew
 clear hld i0 i2
 refine wpList_frames1 rfl (.tmp 157) rfl _ rfl rfl ?_
 rw [← HFK.out]
 go_wp2_with fail
 go_ret
 unfold TakePost
 rw [HE.out]
 have hbz : Below w2.heap.size w2 (w2.drew.alloc (.cells (frC (frmK id cyc r.state)) 110)) := ((Below.refl _ _).drew).alloc (Nat.le_refl _) _
 exact ⟨⟨_, rfl, .inr ⟨_, rfl, by rw [HG.out]; exact Nat.le_of_lt HT2.out.2.2.1.lt, by rw [frsC_one]; exact Has.new w2.drew 110 _⟩⟩, HT2.out.1.after hbz, HT2.out.2.1.thenBelow hbz⟩
end
end Go.Proofs.YtdhekhlmdefcnabGreatDoor
