/- Part 19 of the proof: Step. -/
import Derived.Test.YtdhekhlmdefcnabGreatDoorPart8
import Derived.Deep.RegionWith
import Derived.Deep.DeepCutAuto
namespace Go.Proofs.YtdhekhlmdefcnabGreatDoor
open Go.RowKit
set_option maxHeartbeats 4000000 in
set_option maxRecDepth 100000 in
theorem step_ok (g : Nat) (L : Lay) (s : St) (M : Nat) (a b : Int) (w : World) (hL : L.Ok) (hM : M ≤ 4000000000000000000) (hs : s.Fits M) (hg : CoreAt w g L) :
  Calls Tryz.prog 77 #[.pointer (some ⟨g, 0, none⟩), .agg (stC s), .agg #[I a, I b]] w fun e w' =>
   e = .returned (.tuple #[.agg (stC (step L a b s).1), I (step L a b s).2]) ∧ Below w.heap.size w w' := by
 obtain ⟨vr, vc, hcore, hrow, hcon⟩ := hg
 obtain ⟨A, c, rfl, hc, -, hrd⟩ := own_reads hrow
 obtain ⟨A2, c2, rfl, hc2, -, hrd2⟩ := own_reads hcon
 have hgl := hcore.lt
 have g0 := hcore.cellv 0 _ rfl
 have g1 := hcore.cellv 1 _ rfl
 have g2 := hcore.cellv 2 _ rfl
 have g3 := hcore.cellv 3 _ rfl
 go_enter Tryz.func77, Tryz.ntmps77
 go_wp2_with fail
 have k0 : Has (((w.alloc (.cells (stC s) 100)).alloc (.cells #[I a, I b] 26)).alloc (.cells #[I 0, I 0, I 0, I 0, I 0, I 0, I 0, I 0, I 0, I 0, I 0, I 0, I 0, I 0, I 0, I 0, I 0] 100)) w.heap.size 100 (stC s) :=
  ((Has.new' w _ _ w.heap.size rfl).alloc _).alloc _
 have k1 : Has (((w.alloc (.cells (stC s) 100)).alloc (.cells #[I a, I b] 26)).alloc (.cells #[I 0, I 0, I 0, I 0, I 0, I 0, I 0, I 0, I 0, I 0, I 0, I 0, I 0, I 0, I 0, I 0, I 0] 100)) (w.heap.size + 1) 26 #[I a, I b] :=
  (Has.new' _ _ _ (w.heap.size + 1) (by simp)).alloc _
 have k2 : Has (((w.alloc (.cells (stC s) 100)).alloc (.cells #[I a, I b] 26)).alloc (.cells #[I 0, I 0, I 0, I 0, I 0, I 0, I 0, I 0, I 0, I 0, I 0, I 0, I 0, I 0, I 0, I 0, I 0] 100)) (w.heap.size + 2) 100 #[I 0, I 0, I 0, I 0, I 0, I 0, I 0, I 0, I 0, I 0, I 0, I 0, I 0, I 0, I 0, I 0, I 0] :=
  Has.new' _ _ _ (w.heap.size + 2) (by simp)
 have hb : Below w.heap.size w (((w.alloc (.cells (stC s) 100)).alloc (.cells #[I a, I b] 26)).alloc (.cells #[I 0, I 0, I 0, I 0, I 0, I 0, I 0, I 0, I 0, I 0, I 0, I 0, I 0, I 0, I 0, I 0, I 0] 100)) :=
  (((Below.refl _ _).alloc (Nat.le_refl _) _).alloc (by simp) _).alloc (by simp <;> omega) _
 generalize (((w.alloc (.cells (stC s) 100)).alloc (.cells #[I a, I b] 26)).alloc (.cells #[I 0, I 0, I 0, I 0, I 0, I 0, I 0, I 0, I 0, I 0, I 0, I 0, I 0, I 0, I 0, I 0, I 0] 100)) = w1 at *
 have hn8 := hL.many2
 have hs1 := hL.secs1
 have hs2 := hL.secs2
 have q0 := (hcore.after hb).cellv 0 _ rfl
 have q1 := (hcore.after hb).cellv 1 _ rfl
 have q2 := (hcore.after hb).cellv 2 _ rfl
 have i0 := k1.cellv 0 _ rfl
 have i1 := k1.cellv 1 _ rfl
 have HF := Lib.hid (fun W (hr : Reads W W.heap.size A (ints (zs L.routes))) => fit_ok L.secs L.delay A L.routes.length c (zs L.routes) a b W (Lib.hid (zs_length _)) hn8 hc hr (by omega) (by omega) (Lib.hid (chk_lay hL)))
 have hrd1 : Reads w1.drew w1.drew.heap.size A (ints (zs L.routes)) := (hrd.below hb).more hb.size
 have HR := Lib.hid hrd1
 clear hrd1 g0 g1 g2 g3 hcon hrow
 go_cut [] (fun wx => Below w.heap.size w wx ∧ Has wx w.heap.size 100 (stC s) ∧ Has wx (w.heap.size + 1) 26 #[I (msk a L.secs), I (msk b L.routes.length)] ∧ Has wx (w.heap.size + 2) 100 #[I 0, I 0, I 0, I 0, I 0, I 0, I 0, I 0, I 0, I 0, I 0, I 0, I 0, I 0, I 0, I 0, I 0])
 case first =>
  go_region_with (go_at_call 112; refine (HF.out _ HR.out).mono ?_; rintro e w2 ⟨rfl, hb2⟩; have j0 := (k1.drew.after hb2).cellv 0 _ rfl; have j1 := (k1.drew.after hb2).cellv 1 _ rfl; have f0 := (k1.drew.after hb2).free 0; have f1 := (k1.drew.after hb2).free 1)
  all_goals
   go_wp2_with fail
   go_meet
   exact ⟨(((below_drewN hb 1).trans (hb2.mono (by show w.heap.size ≤ w1.heap.size; exact hb.size))).setCell (by simp <;> omega) _).setCell (by simp <;> omega) _,
    ((k0.drew.after hb2).far (by simp) _).far (by simp) _, by simpa using (((k1.drew.after hb2).set 0 _).set 1 _), ((k2.drew.after hb2).far (by simp) _).far (by simp) _⟩
 case rest =>
  obtain ⟨hbc, kc0, kc1, kc2⟩ := hcut
  clear hb k0 k1 k2 q0 q1 q2 i0 i1 HF HR
  have q0 := (hcore.after hbc).cellv 0 _ rfl
  have q1 := (hcore.after hbc).cellv 1 _ rfl
  have i0 := kc1.cellv 0 _ rfl
  go_wp2_with fail
  have hcl : msk a L.secs < 4096 := Nat.lt_of_lt_of_le (msk_lt _ _) (Nat.pow_le_pow_right (n := 2) (by decide) hs2)
  have hwa : msk b L.routes.length < 256 := Nat.lt_of_lt_of_le (msk_lt _ _) (Nat.pow_le_pow_right (n := 2) (by decide) hn8)
  have HS : Hid (step L a b s = (stepS L (msk a L.secs) (msk b L.routes.length) s, outTo L.routes (msk a L.secs) (msk b L.routes.length) (stepS L (msk a L.secs) (msk b L.routes.length) s) L.routes.length)) := rfl
  generalize msk a L.secs = cl at *
  generalize msk b L.routes.length = wa at *
  go_loopw [34] (fun i wr => ∃ k : Nat, k ≤ L.routes.length ∧ i = I k ∧ Has wr w.heap.size 100 (stC (letGo L cl wa s k)) ∧ Has wr (w.heap.size + 1) 26 #[I cl, I wa] ∧
   Has wr (w.heap.size + 2) 100 #[I 0, I 0, I 0, I 0, I 0, I 0, I 0, I 0, I 0, I 0, I 0, I 0, I 0, I 0, I 0, I 0, I 0] ∧ Below w.heap.size w wr) (fun i _ => L.routes.length - (intOf i).toNat)
  case atStart => exact ⟨0, by omega, rfl, kc0, kc1, kc2, hbc⟩
  case round =>
   clear q0 q1 i0 kc0 kc1 kc2 hbc
   obtain ⟨k, hk, rfl, k0, k1, k2, hbr⟩ := hrel
   by_cases hlt : k < L.routes.length
   ·--<P1
    obtain ⟨r, hx⟩ := some_at L.routes k hlt
    obtain ⟨bb, oo, rfl, hbb, hcell⟩ := (hrd.below hbr).at_ (zs_some hx)
    have hr4 : r < 4096 := hL.small r (List.mem_of_getElem? hx)
    have HX := Lib.hid hx
    clear hx
    have hf := letGo_fits (cl := cl) (wa := wa) hL hs k (by omega)
    have HL : Hid (letGo L cl wa s (k + 1) = one L.delay cl wa (letGo L cl wa s k) k r) := by
     have h := getD_of HX.out
     show letGo L cl wa s (k + 1) = _
     rw [letGo, h]
    generalize letGo L cl wa s k = t at *
    obtain ⟨hf1, hf2, hf3, hf4, hf5⟩ := hf
    obtain ⟨x, hx⟩ := some_at t.used k (by omega)
    obtain ⟨y, hy⟩ := some_at t.idle k (by omega)
    have hx4 : x < 4096 := hf4 x (List.mem_of_getElem? hx)
    have hyM : y ≤ M + k := hf5 y (List.mem_of_getElem? hy)
    have s0 := k0.cellv 0 (I t.set) rfl
    have s1 := k0.cellv (1 + k) (I x) (stC_used hx)
    have s9 := k0.cellv (9 + k) (I y) (stC_idle hf2 hy)
    have i1 := k1.cellv 1 (I wa) rfl
    have z1 := k0.free (1 + k)
    have z9 := k0.free (9 + k)
    have z0 := k0.free 0
    have H8 := Lib.hid hf2
    have H8' := Lib.hid hf3
    have Hx := Lib.hid hx
    have Hy := Lib.hid hy
    have H4 := Lib.hid hf4
    have H5 := Lib.hid hf5
    clear hx hy hf2 hf3 hf4 hf5
    cases hset : t.set.testBit k with
    | false =>
     have tb : (bits .and .i64 ((t.set : Int) / 2 ^ k) 1 == 0) = true := by rw [bit_i64 _ _ (by omega), hset]; rfl
     have HO := Lib.hid (one_skip (d := L.delay) (cl := cl) (wa := wa) (r := r) hset)
     clear hset
     go_wp2_with fail
     go_roundw
     case rel => exact ⟨k + 1, by omega, by go_num, by rw [HL.out, HO.out]; exact k0, k1, k2, hbr⟩
     case measure => simp [intOf]; omega
    | true =>
     have tb : (bits .and .i64 ((t.set : Int) / 2 ^ k) 1 == 0) = false := by rw [bit_i64 _ _ (by omega), hset]; rfl
     have HSB := Lib.hid hset
     clear hset
     go_upto_if 60 with fail
     have hle : k < t.used.length := by rw [H8.out]; omega
     have E : bits .or .i64 (x : Int) (bits .and .i64 (r : Int) (bits .xor .i64 (-1) (cl : Int))) = ((x ||| nb r cl : Nat) : Int) := by
      rw [and_not_i64 r cl (by omega), or_i64 x _ (by omega) (nb_lt (by omega))]
     have hu4 : x ||| nb r cl < 4096 := Nat.or_lt_two_pow (n := 12) hx4 (nb_lt hr4)
     have HC : Hid (nb r cl = nb r cl) := rfl
     have kA := k0.set (1 + k) (I (x ||| nb r cl : Nat))
     rw [stC_setUsed _ _ _ hle, ← E] at kA
     have kB := k1.far (p := ⟨w.heap.size, 1 + k, none⟩) (by simp) (I (bits .or .i64 (x : Int) (bits .and .i64 (r : Int) (bits .xor .i64 (-1) (cl : Int)))))
     have kC := k2.far (p := ⟨w.heap.size, 1 + k, none⟩) (by simp) (I (bits .or .i64 (x : Int) (bits .and .i64 (r : Int) (bits .xor .i64 (-1) (cl : Int)))))
     have hbA := hbr.setCell (p := ⟨w.heap.size, 1 + k, none⟩) (Nat.le_refl _) (I (bits .or .i64 (x : Int) (bits .and .i64 (r : Int) (bits .xor .i64 (-1) (cl : Int)))))
     clear hcell
     generalize wr.setCell ⟨w.heap.size, 1 + k, none⟩ (I (bits .or .i64 (x : Int) (bits .and .i64 (r : Int) (bits .xor .i64 (-1) (cl : Int))))) = wA at *
     have HE := Lib.hid E
     clear E k0 k1 k2 hbr s0 s1 s9 i1 z1 z9 z0
     have s9 := kA.cellv (9 + k) (I y) (stC_idle (by simp [H8.out]) Hy.out)
     have z9 := kA.free (9 + k)
     go_cut [] (fun wx => Has wx w.heap.size 100 (stC ⟨t.set, t.used.set k (x ||| nb r cl), t.idle.set k (if wa.testBit k = true then 0 else y + 1)⟩) ∧ Has wx (w.heap.size + 1) 26 #[I cl, I wa] ∧
      Has wx (w.heap.size + 2) 100 #[I 0, I 0, I 0, I 0, I 0, I 0, I 0, I 0, I 0, I 0, I 0, I 0, I 0, I 0, I 0, I 0, I 0] ∧ Below w.heap.size w wx)
     case first =>
      go_wp2_with fail
      ·have hT : (bits .and .i64 ((wa : Int) / 2 ^ k) 1 == 1) = true := by assumption
       rw [bit_i64 _ _ (by omega)] at hT
       have hw1 : wa.testBit k = true := by
        cases h : wa.testBit k with
        | true => rfl
        | false => rw [h] at hT; simp at hT
       go_meet
       have kA' := kA.set (9 + k) (I (0 : Nat))
       rw [stC_setIdle _ _ _ (by simp [H8.out])] at kA'
       exact ⟨by rw [if_pos hw1]; exact kA', kB.far (by simp) _, kC.far (by simp) _, hbA.setCell (Nat.le_refl _) _⟩
      ·have hT : (bits .and .i64 ((wa : Int) / 2 ^ k) 1 == 1) = false := by assumption
       rw [bit_i64 _ _ (by omega)] at hT
       have hw1 : ¬ wa.testBit k = true := by
        intro h
        rw [h] at hT
        simp at hT
       go_meet
       have kA' := kA.set (9 + k) (I (y + 1 : Nat))
       rw [stC_setIdle _ _ _ (by simp [H8.out])] at kA'
       exact ⟨by rw [if_neg hw1]; exact kA', kB.far (by simp) _, kC.far (by simp) _, hbA.setCell (Nat.le_refl _) _⟩
     case rest =>
      clear kA kB kC hbA s9 z9
      obtain ⟨k0, k1, k2, hbr⟩ := hcut
      have HK := fun h => Lib.hid (one_keep (d := L.delay) (cl := cl) (wa := wa) (r := r) HSB.out Hx.out Hy.out h)
      have HG := fun h => Lib.hid (one_go (d := L.delay) (cl := cl) (wa := wa) (r := r) HSB.out Hx.out Hy.out h)
      have hi4 : (if wa.testBit k = true then 0 else y + 1) ≤ y + 1 := by split <;> omega
      have hr1 : 1 ≤ r := hL.low r (List.mem_of_getElem? HX.out)
      have hv63 : nb r cl < 4096 := nb_lt hr4
      generalize (if wa.testBit k = true then 0 else y + 1) = i at *
      generalize x ||| nb r cl = u at *
      have c0 := k0.cellv 0 (I t.set) rfl
      have c1 := k0.cellv (1 + k) (I u) (stC_used (by rw [List.getElem?_set_self hle]))
      have c9 := k0.cellv (9 + k) (I i) (stC_idle (by simp [H8.out]) (by rw [List.getElem?_set_self (by rw [H8'.out]; omega)]))
      have z0 := k0.free 0
      have z1 := k0.free (1 + k)
      have z9 := k0.free (9 + k)
      have q2 := (hcore.after hbr).cellv 2 _ rfl
      by_cases hA : u = r ∧ nb r cl = 0
      ·have t1 : ((u : Int) == (r : Int)) = true := by simp [hA.1]
       have t2 : (bits .and .i64 (r : Int) (bits .xor .i64 (-1) (cl : Int)) == 0) = true := by rw [and_not_i64 r cl (by omega), hA.2]; rfl
       have HG' := HG (.inl hA)
       clear hA HK HG HE
       go_wp2_with fail
       go_quiet (fail)
       go_wp2_with fail
       go_region
       go_wp2_with fail
       go_roundw
       case rel => exact ⟨k + 1, by omega, by go_num, by rw [HL.out, HG'.out]; exact gone_at k0 H8.out (by omega) hf1 _, (((k1.drewN _).far (by simp) _).far (by simp) _).far (by simp) _, (((k2.drewN _).far (by simp) _).far (by simp) _).far (by simp) _,
        (((below_drewN hbr _).setCell (Nat.le_refl _) _).setCell (Nat.le_refl _) _).setCell (Nat.le_refl _) _⟩
       case measure => simp [intOf]; omega
      by_cases hu : u = r
      ·have hv : nb r cl ≠ 0 := fun h => hA ⟨hu, h⟩
       have t1 : ((u : Int) == (r : Int)) = true := by simp [hu]
       have t2 : (bits .and .i64 (r : Int) (bits .xor .i64 (-1) (cl : Int)) == 0) = false := by rw [and_not_i64 r cl (by omega)]; simp; omega
       have t3 : ((u : Int) == 0) = false := by simp; omega
       have HK' := HK (by omega)
       clear hA HK HG HE hu hv
       go_wp2_with fail
       go_quiet (fail)
       go_wp2_with fail
       go_roundw
       case rel => exact ⟨k + 1, by omega, by go_num, by rw [HL.out, HK'.out]; exact k0.drewN _, k1.drewN _, k2.drewN _, below_drewN hbr _⟩
       case measure => simp [intOf]; omega
      ·have t1 : ((u : Int) == (r : Int)) = false := by simp; omega
       by_cases hu0 : u = 0
       ·have t3 : ((u : Int) == 0) = true := by simp [hu0]
        by_cases hd : L.delay < i
        ·have HG' := HG (.inr ⟨hu0, hd⟩)
         have t4 : decide ((L.delay : Int) < (i : Int)) = true := by simp; omega
         clear hA HK HG HE hu hu0
         go_wp2_with fail
         go_quiet (fail)
         go_wp2_with fail
         go_region
         go_wp2_with fail
         go_roundw
         case rel => exact ⟨k + 1, by omega, by go_num, by rw [HL.out, HG'.out]; exact gone_at k0 H8.out (by omega) hf1 _, (((k1.drewN _).far (by simp) _).far (by simp) _).far (by simp) _, (((k2.drewN _).far (by simp) _).far (by simp) _).far (by simp) _,
          (((below_drewN hbr _).setCell (Nat.le_refl _) _).setCell (Nat.le_refl _) _).setCell (Nat.le_refl _) _⟩
         case measure => simp [intOf]; omega
        ·have HK' := HK (by omega)
         have t4 : decide ((L.delay : Int) < (i : Int)) = false := by simp; omega
         clear hA HK HG HE hu hu0
         go_wp2_with fail
         go_quiet (fail)
         go_wp2_with fail
         go_roundw
         case rel => exact ⟨k + 1, by omega, by go_num, by rw [HL.out, HK'.out]; exact k0.drewN _, k1.drewN _, k2.drewN _, below_drewN hbr _⟩
         case measure => simp [intOf]; omega
       ·have t3 : ((u : Int) == 0) = false := by simp; omega
        have HK' := HK (by omega)
        clear hA HK HG HE hu hu0
        go_wp2_with fail
        go_quiet (fail)
        go_wp2_with fail
        go_roundw
        case rel => exact ⟨k + 1, by omega, by go_num, by rw [HL.out, HK'.out]; exact k0.drewN _, k1.drewN _, k2.drewN _, below_drewN hbr _⟩
        case measure => simp [intOf]; omega
    --P1>
   ·have hkn : k = L.routes.length := by omega
    have hf := letGo_fits (cl := cl) (wa := wa) hL hs k (by omega)
    have HT : Hid (stepS L cl wa s = { letGo L cl wa s k with set := setTo L.routes cl wa (letGo L cl wa s k).set L.routes.length }) := by rw [hkn]; rfl
    clear hkn
    generalize letGo L cl wa s k = t at *
    obtain ⟨hf1, hf2, hf3, hf4, hf5⟩ := hf
    have H8 := Lib.hid hf2
    have H8' := Lib.hid hf3
    clear hf2 hf3 hf4 hf5
    have q0 := (hcore.after hbr).cellv 0 _ rfl
    have q1 := (hcore.after hbr).cellv 1 _ rfl
    go_wp2_with fail
    go_loopw [121] (fun i wr2 => ∃ k : Nat, k ≤ L.routes.length ∧ i = I k ∧ Has wr2 w.heap.size 100 (stC { t with set := setTo L.routes cl wa t.set k }) ∧ Has wr2 (w.heap.size + 1) 26 #[I cl, I wa] ∧
     Has wr2 (w.heap.size + 2) 100 #[I 0, I 0, I 0, I 0, I 0, I 0, I 0, I 0, I 0, I 0, I 0, I 0, I 0, I 0, I 0, I 0, I 0] ∧ Below w.heap.size w wr2) (fun i _ => L.routes.length - (intOf i).toNat)
    case atStart => exact ⟨0, by omega, rfl, k0, k1, k2, hbr⟩
    case round =>
     clear q0 q1 k0 k1 k2 hbr hlt hk
     obtain ⟨j, hk, rfl, k0, k1, k2, hbr⟩ := hrel
     by_cases hlt : j < L.routes.length
     ·--<P2
      obtain ⟨r, hx⟩ := some_at L.routes j hlt
      obtain ⟨bb, oo, rfl, hbb, hcell⟩ := (hrd.below hbr).at_ (zs_some hx)
      have hcx : (confs L.routes)[j]? = some (conf L.routes j) := by simp [confs, hlt]
      obtain ⟨bb2, oo2, rfl, hbb2, hcell2⟩ := (hrd2.below hbr).at_ (zs_some hcx)
      have hcf : conf L.routes j < 256 := confTo_small _ _ _ (by omega)
      have hr4 : r < 4096 := hL.small r (List.mem_of_getElem? hx)
      have hst : setTo L.routes cl wa t.set j < 256 := setTo_lt _ _ _ _ hf1 j (by omega)
      have HX := Lib.hid hx
      clear hx hcx
      have HL : Hid (setTo L.routes cl wa t.set (j + 1) = if newOne L.routes cl wa (setTo L.routes cl wa t.set j) j then setTo L.routes cl wa t.set j ||| 1 <<< j else setTo L.routes cl wa t.set j) := rfl
      generalize setTo L.routes cl wa t.set j = u at *
      have s0 := k0.cellv 0 (I u) rfl
      have z0 := k0.free 0
      have i1 := k1.cellv 1 (I wa) rfl
      have q0 := (hcore.after hbr).cellv 0 _ rfl
      have q3 := (hcore.after hbr).cellv 3 _ rfl
      have tN := newOne_eq (cl := cl) (wa := wa) (u := u) HX.out
      have tW := bit_eq1 wa j (by omega)
      cases hw : wa.testBit j with
      | false =>
       rw [hw] at tN tW
       have HN := Lib.hid tN
       clear tN
       go_wp2_with fail
       go_quiet (fail)
       go_wp2_with fail
       go_roundw
       case rel => exact ⟨j + 1, by omega, by go_num, by rw [HL.out, HN.out]; exact k0.drewN _, k1.drewN _, k2.drewN _, below_drewN hbr _⟩
       case measure => simp [intOf]; omega
      | true =>
       have tU := bit_eq0 u j (by omega)
       cases hu : u.testBit j with
       | true =>
        rw [hw, hu] at tN
        rw [hw] at tW
        rw [hu] at tU
        have HN := Lib.hid tN
        clear tN
        go_wp2_with fail
        go_quiet (fail)
        go_wp2_with fail
        go_roundw
        case rel => exact ⟨j + 1, by omega, by go_num, by rw [HL.out, HN.out]; exact k0.drewN _, k1.drewN _, k2.drewN _, below_drewN hbr _⟩
        case measure => simp [intOf]; omega
       | false =>
        have tC := and_eq0 u (conf L.routes j) (by omega) (by omega)
        cases hc : decide (u &&& conf L.routes j = 0) with
        | false =>
         rw [hw, hu, hc] at tN
         rw [hw] at tW
         rw [hu] at tU
         rw [hc] at tC
         have HN := Lib.hid tN
         clear hc
         clear tN
         go_wp2_with fail
         go_quiet (fail)
         go_wp2_with fail
         go_roundw
         case rel => exact ⟨j + 1, by omega, by go_num, by rw [HL.out, HN.out]; exact k0.drewN _, k1.drewN _, k2.drewN _, below_drewN hbr _⟩
         case measure => simp [intOf]; omega
        | true =>
         have tV := busy_eq0 r cl hr4
         cases hv : decide (nb r cl = 0) with
         | false =>
          rw [hw, hu, hc, hv] at tN
          rw [hw] at tW
          rw [hu] at tU
          rw [hc] at tC
          rw [hv] at tV
          have HN := Lib.hid tN
          clear hc hv
          clear tN
          go_wp2_with fail
          go_quiet (fail)
          go_wp2_with fail
          go_roundw
          case rel => exact ⟨j + 1, by omega, by go_num, by rw [HL.out, HN.out]; exact k0.drewN _, k1.drewN _, k2.drewN _, below_drewN hbr _⟩
          case measure => simp [intOf]; omega
         | true =>
          rw [hw, hu, hc, hv] at tN
          rw [hw] at tW
          rw [hu] at tU
          rw [hc] at tC
          rw [hv] at tV
          have HN := Lib.hid tN
          clear hc hv
          clear tN
          go_wp2_with fail
          go_quiet (fail)
          go_wp2_with fail
          go_region
          go_wp2_with fail
          go_roundw
          case rel =>
           refine ⟨j + 1, by omega, by go_num, ?_, (k1.drewN _).far (by simp) _, (k2.drewN _).far (by simp) _, (below_drewN hbr _).setCell (Nat.le_refl _) _⟩
           have h := (k0.drewN (nq + 1)).set 0 (I (u ||| 1 <<< j : Nat))
           rw [stC_setSet] at h
           rw [HL.out, HN.out, shl1 j (by omega), or_i64 _ _ (by omega) (shl1_lt j (by omega))]
           exact h
          case measure => simp [intOf]; omega
      --P2>
     ·have hjn : j = L.routes.length := by omega
      rw [hjn, ← HT.out] at k0
      have hS1 : (stepS L cl wa s).set < 256 := by rw [HT.out]; exact setTo_lt _ _ _ _ hf1 _ hn8
      have H8 : Hid ((stepS L cl wa s).used.length = 8) := Lib.hid (by rw [HT.out]; exact H8.out)
      have H8' : Hid ((stepS L cl wa s).idle.length = 8) := Lib.hid (by rw [HT.out]; exact H8'.out)
      clear hjn HT hf1
      have HS2 : Hid (step L a b s = (stepS L cl wa s, outTo L.routes cl wa (stepS L cl wa s) L.routes.length)) := HS
      clear HS
      generalize stepS L cl wa s = t at *
      have q0 := (hcore.after hbr).cellv 0 _ rfl
      have q1 := (hcore.after hbr).cellv 1 _ rfl
      go_wp2_with fail
      go_loopw [13, 172] (fun v i wr3 => ∃ k : Nat, k ≤ L.routes.length ∧ i = I k ∧ v = I (outTo L.routes cl wa t k) ∧ Has wr3 w.heap.size 100 (stC t) ∧
       Has wr3 (w.heap.size + 2) 100 #[I 0, I 0, I 0, I 0, I 0, I 0, I 0, I 0, I 0, I 0, I 0, I 0, I 0, I 0, I 0, I 0, I 0] ∧ Has wr3 (w.heap.size + 1) 26 #[I cl, I wa] ∧ Below w.heap.size w wr3) (fun _ i _ => L.routes.length - (intOf i).toNat)
      case atStart => exact ⟨0, by omega, rfl, rfl, k0, k2, k1, hbr⟩
      case round =>
       clear q0 q1 k0 k1 k2 hbr hlt hk
       obtain ⟨j, hk, rfl, rfl, k0, k2, k1, hbr⟩ := hrel
       by_cases hlt : j < L.routes.length
       ·--<P3
        obtain ⟨r, hx⟩ := some_at L.routes j hlt
        obtain ⟨bb, oo, rfl, hbb, hcell⟩ := (hrd.below hbr).at_ (zs_some hx)
        obtain ⟨x, hux⟩ := some_at t.used j (by rw [H8.out]; omega)
        have hr4 : r < 4096 := hL.small r (List.mem_of_getElem? hx)
        have ho4 : outTo L.routes cl wa t j < 256 := outTo_lt _ _ _ _ j (by omega)
        have tN := shows_eq (cl := cl) (wa := wa) hx hux
        clear hx
        have HL : Hid (outTo L.routes cl wa t (j + 1) = if shows L.routes cl wa t j then outTo L.routes cl wa t j ||| 1 <<< j else outTo L.routes cl wa t j) := rfl
        generalize outTo L.routes cl wa t j = u at *
        have s0 := k0.cellv 0 (I t.set) rfl
        have s1 := k0.cellv (1 + j) (I x) (stC_used hux)
        clear hux
        have i1 := k1.cellv 1 (I wa) rfl
        have tS := bit_eq1 t.set j (by omega)
        cases hs' : t.set.testBit j with
        | false =>
         rw [hs'] at tN tS
         have HN := Lib.hid tN
         clear tN
         go_wp2_with fail
         go_roundw
         case rel => exact ⟨j + 1, by omega, by go_num, by rw [HL.out, HN.out]; rfl, k0, k2, k1, hbr⟩
         case measure => simp [intOf]; omega
        | true =>
         rw [hs'] at tN tS
         clear hs'
         by_cases hx0 : x = 0
         ·have tX : ((x : Int) == 0) = true := by simp [hx0]
          rw [show decide (x = 0) = true by simp [hx0]] at tN
          clear hx0
          have tV := busy_eq0 r cl hr4
          cases hv : decide (nb r cl = 0) with
          | false =>
           rw [hv] at tV tN
           clear hv
           have HN := Lib.hid tN
           clear tN
           go_wp2_with fail
           go_roundw
           case rel => exact ⟨j + 1, by omega, by go_num, by rw [HL.out, HN.out]; rfl, k0, k2, k1, hbr⟩
           case measure => simp [intOf]; omega
          | true =>
           rw [hv] at tV tN
           clear hv
           have tW := bit_eq1 wa j (by omega)
           cases hw : wa.testBit j with
           | false =>
            rw [hw] at tW tN
            clear hw
            have HN := Lib.hid tN
            clear tN
            go_wp2_with fail
            go_roundw
            case rel => exact ⟨j + 1, by omega, by go_num, by rw [HL.out, HN.out]; rfl, k0, k2, k1, hbr⟩
            case measure => simp [intOf]; omega
           | true =>
            rw [hw] at tW tN
            clear hw
            have HN := Lib.hid tN
            clear tN
            go_wp2_with fail
            go_roundw
            case rel =>
             refine ⟨j + 1, by omega, by go_num, ?_, k0, k2, k1, hbr⟩
             rw [HL.out, HN.out, shl1 j (by omega), or_i64 _ _ (by omega) (shl1_lt j (by omega))]
             rfl
            case measure => simp [intOf]; omega
         ·have tX : ((x : Int) == 0) = false := by simp [hx0]
          rw [show decide (x = 0) = false by simp [hx0]] at tN
          clear hx0
          have HN := Lib.hid tN
          clear tN
          go_wp2_with fail
          go_roundw
          case rel => exact ⟨j + 1, by omega, by go_num, by rw [HL.out, HN.out]; rfl, k0, k2, k1, hbr⟩
          case measure => simp [intOf]; omega
        --P3>
       ·have hjn : Hid (j = L.routes.length) := Lib.hid (by omega)
        have hsz := stC_size t H8.out H8'.out
        have hi17 : (Tryz.prog.info? 100).map (·.size) = some 17 := by kernel_rfl
        have hic : (Tryz.prog.info? 100).map (·.size) = some (stC t).size := by rw [hsz]; exact hi17
        have HSZ := Lib.hid hsz
        clear hsz hi17
        have HIC := Lib.hid hic
        clear hic
        go_wp2_with (first
         | (refine wpList_load_row rfl 100 _ rfl w.heap.size rfl 100 (stC t) (0, 0) _ k0 Tryz.underlying100 rfl HIC.out ?_)
         | (refine wpList_store_row rfl 100 _ _ rfl (w.heap.size + 2) (stC t) rfl rfl 100 _ k2 HIC.out (by rw [HSZ.out]; rfl) (stC_one t) ?_))
        refine bodyPost_ret (ret_cell_tmp rfl _ _ _ _ (stC t) _ rfl (k2.setRow _) Tryz.underlying100 rfl HIC.out) rfl ⟨?_, below_setRow hbr (by omega) _⟩
        rw [HS2.out, hjn.out]
        rfl
end Go.Proofs.YtdhekhlmdefcnabGreatDoor
