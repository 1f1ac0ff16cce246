/- Part 16 of the proof: BackLaw, BurstLaw, Decode, Frames. -/
import Derived.Test.YtdhekhlmdefcnabGreatDoorPart15
namespace Go.Proofs.YtdhekhlmdefcnabGreatDoor
open Go.RowKit
section
variable {f : List Int} (hm : mayB f = true)
include hm
theorem may_all : ∀ i, i ∈ idx (f.getD 0 0) → 0 ≤ f.getD i 0 ∧ f.getD i 0 ≤ 1048576 := by
 intro i hi
 unfold mayB at hm
 simp only [Bool.and_eq_true, List.all_eq_true] at hm
 have := hm.1.2 i hi
 unfold inB at this
 simpa using this
theorem may_cp : f = cpTo f (idx (f.getD 0 0)).length := by
 unfold mayB at hm
 simp only [Bool.and_eq_true, decide_eq_true_eq] at hm
 exact hm.2
omit hm in
theorem enc_len : (encB f).length = 3 * (idx (f.getD 0 0)).length + 4 := by
 unfold encB body
 rw [List.length_append, bodyTo_length f _ (Nat.le_refl _)]
 rfl
omit hm in
omit hm in
omit hm in
end
end Go.Proofs.YtdhekhlmdefcnabGreatDoor
namespace Go.Proofs.YtdhekhlmdefcnabGreatDoor
open Go.RowKit
end Go.Proofs.YtdhekhlmdefcnabGreatDoor
namespace Go.Proofs.YtdhekhlmdefcnabGreatDoor
open Go.RowKit
theorem frC_one (f : List Int) : (frC f).all (·.oneCell') = true := by
 rw [Array.all_eq_true_iff_forall_mem]
 intro u hu
 simp [frC, ints] at hu
 obtain ⟨x, _, rfl⟩ := hu
 rfl
theorem zeroSize : (Tryz.prog.info? 110).map (·.size) = some (frC zeroF).size := by rw [frC_size _ rfl]; exact infoFrame
set_option maxHeartbeats 2000000 in
set_option maxRecDepth 100000 in
theorem decode_size (A : Option Addr) (n c : Nat) (w : World) (h : n < 7 ∨ 80 < n) :
  Calls Tryz.prog 71 #[.slice A n c] w fun e w' => e = .returned (.tuple #[.agg (frC zeroF), .iface 73 (I 3)]) ∧ Below w.heap.size w w' := by
 rcases h with h | h
 all_goals
  go_enter Tryz.func71, Tryz.ntmps71
  go_upto_region 1 with (fail)
  have k2 : Has (w.alloc (.cells #[I 0, I 0, I 0, I 0, I 0, I 0, I 0, I 0, I 0, I 0, I 0, I 0, I 0, I 0, I 0, I 0, I 0, I 0, I 0, I 0, I 0, I 0, I 0] 110)) w.heap.size 110 (frC zeroF) := by rw [zeroFrame]; exact Has.new _ _ _
  have hb : Below w.heap.size w (w.alloc (.cells #[I 0, I 0, I 0, I 0, I 0, I 0, I 0, I 0, I 0, I 0, I 0, I 0, I 0, I 0, I 0, I 0, I 0, I 0, I 0, I 0, I 0, I 0, I 0] 110)) := (Below.refl _ _).alloc (Nat.le_refl _) _
  generalize w.alloc (.cells #[I 0, I 0, I 0, I 0, I 0, I 0, I 0, I 0, I 0, I 0, I 0, I 0, I 0, I 0, I 0, I 0, I 0, I 0, I 0, I 0, I 0, I 0, I 0] 110) = w1 at *
  generalize hG : w.heap.size = g2 at *
  have HG := Lib.hid hG
  clear hG
  go_wp2_with (refine wpList_store_row rfl 110 (.tmp 2) (.tmp 18) rfl g2 (frC zeroF) rfl rfl 110 _ k2 zeroSize rfl (frC_one _) ?_)
  exact bodyPost_ret (ret_cell_tmp rfl _ _ _ _ (frC zeroF) _ rfl (k2.setRow _) Tryz.underlying110 rfl zeroSize) rfl ⟨rfl, HG.out ▸ below_setRow hb (Nat.le_refl _) _⟩
set_option maxHeartbeats 4000000 in
set_option maxRecDepth 100000 in
theorem decode_in (bb oo m c : Nat) (l : List UInt8) (w : World) (hl : Hid (l.length = m + 4)) (h1 : 3 ≤ m) (h2 : m ≤ 76) (hc : m + 4 ≤ c) (hr : Reads w w.heap.size (some ⟨bb, oo, none⟩) (bytes l)) :
  Calls Tryz.prog 71 #[.slice (some ⟨bb, oo, none⟩) (m + 4) c] w fun e w' => e = .returned (.tuple #[.agg (frC (dec l).2), errV (dec l).1]) ∧ Below w.heap.size w w' := by
 have HR := Lib.hid hr
 clear hr
 go_enter Tryz.func71, Tryz.ntmps71
 go_upto_region 1 with (fail)
 have k2 : Has (w.alloc (.cells #[I 0, I 0, I 0, I 0, I 0, I 0, I 0, I 0, I 0, I 0, I 0, I 0, I 0, I 0, I 0, I 0, I 0, I 0, I 0, I 0, I 0, I 0, I 0] 110)) w.heap.size 110 (frC zeroF) := by rw [zeroFrame]; exact Has.new _ _ _
 have hb : Below w.heap.size w (w.alloc (.cells #[I 0, I 0, I 0, I 0, I 0, I 0, I 0, I 0, I 0, I 0, I 0, I 0, I 0, I 0, I 0, I 0, I 0, I 0, I 0, I 0, I 0, I 0, I 0] 110)) := (Below.refl _ _).alloc (Nat.le_refl _) _
 have HR1 : Hid (Reads (w.alloc (.cells #[I 0, I 0, I 0, I 0, I 0, I 0, I 0, I 0, I 0, I 0, I 0, I 0, I 0, I 0, I 0, I 0, I 0, I 0, I 0, I 0, I 0, I 0, I 0] 110)) w.heap.size (some ⟨bb, oo, none⟩) (bytes l)) := Lib.hid (HR.out.below hb)
 generalize w.alloc (.cells #[I 0, I 0, I 0, I 0, I 0, I 0, I 0, I 0, I 0, I 0, I 0, I 0, I 0, I 0, I 0, I 0, I 0, I 0, I 0, I 0, I 0, I 0, I 0] 110) = w1 at *
 generalize hG : w.heap.size = g2 at *
 have HG := Lib.hid hG
 have hg2 := k2.lt
 clear hG HR
 have HD : Hid (dec l = (if ¬ l.drop m = four (Crc.sum (l.take m)) then (15, zeroF) else if ¬ m % 3 = 0 then (3, zeroF) else if ¬ (idx (num3 l 0)).length * 3 = m then (3, zeroF) else if mayB (decF l) then (0, decF l) else (3, zeroF))) := Lib.hid (by
  unfold dec
  rw [if_neg (by rw [hl.out]; omega), hl.out, show m + 4 - 4 = m by omega])
 have HT : Hid ((l.take m).length = m) := Lib.hid (by rw [List.length_take, hl.out]; omega)
 have HDr : Hid ((l.drop m).length = 4) := Lib.hid (by rw [List.length_drop, hl.out]; omega)
 have hrt : Reads w1 w1.heap.size (some ⟨bb, oo, none⟩) (bytes (l.take m)) := by rw [bytes_take]; exact (HR1.out.take m).more (Nat.le_of_lt hg2)
 have HRt := Lib.hid hrt
 clear hrt
 go_wp2_with (go_at_call 103; refine (sum_ok (some ⟨bb, oo, none⟩) m _ (l.take m) _ HT (by omega) HRt.out).mono ?_; rintro e w2 ⟨rfl, rfl⟩)
 have hr4 : Reads (w1.alloc (.cells #[.int .u8 (((Crc.sum (l.take m)).toNat : Int) / 16777216), .int .u8 (((Crc.sum (l.take m)).toNat : Int) / 65536 % 256), .int .u8 (((Crc.sum (l.take m)).toNat : Int) / 256 % 256), .int .u8 (((Crc.sum (l.take m)).toNat : Int) % 256)] 5)) (w1.heap.size + 1) (some ⟨w1.heap.size, 0, none⟩) (bytes (four (Crc.sum (l.take m)))) := by
  rw [← four_vals]
  exact Reads.of_has (Has.new _ _ _) (by omega)
 have hsz : (w1.alloc (.cells #[.int .u8 (((Crc.sum (l.take m)).toNat : Int) / 16777216), .int .u8 (((Crc.sum (l.take m)).toNat : Int) / 65536 % 256), .int .u8 (((Crc.sum (l.take m)).toNat : Int) / 256 % 256), .int .u8 (((Crc.sum (l.take m)).toNat : Int) % 256)] 5)).heap.size = w1.heap.size + 1 := by simp
 have hbx : Below w1.heap.size w1 (w1.alloc (.cells #[.int .u8 (((Crc.sum (l.take m)).toNat : Int) / 16777216), .int .u8 (((Crc.sum (l.take m)).toNat : Int) / 65536 % 256), .int .u8 (((Crc.sum (l.take m)).toNat : Int) / 256 % 256), .int .u8 (((Crc.sum (l.take m)).toNat : Int) % 256)] 5)) := (Below.refl _ _).alloc (Nat.le_refl _) _
 rw [← hsz] at hr4
 generalize w1.alloc (.cells #[.int .u8 (((Crc.sum (l.take m)).toNat : Int) / 16777216), .int .u8 (((Crc.sum (l.take m)).toNat : Int) / 65536 % 256), .int .u8 (((Crc.sum (l.take m)).toNat : Int) / 256 % 256), .int .u8 (((Crc.sum (l.take m)).toNat : Int) % 256)] 5) = w3 at *
 have k3 := k2.after hbx
 have hb3 := hb.trans (hbx.mono (Nat.le_of_lt hg2))
 have HR3 : Hid (Reads w3 g2 (some ⟨bb, oo, none⟩) (bytes l)) := Lib.hid ((HR1.out.more (Nat.le_of_lt hg2)).below hbx |>.keep (fun _ _ _ => rfl) |> fun h => fun hn => by
  obtain ⟨b', o', e, _, hc⟩ := h hn
  obtain ⟨b2, o2, e', hlt, _⟩ := HR1.out hn
  rw [e] at e'
  injection e' with e'
  injection e' with e1 e2
  exact ⟨b', o', e, by rw [e1]; exact hlt, hc⟩)
 have hg3 := k3.lt
 have hrd : Reads w3 w3.heap.size (some ⟨bb, oo + m, none⟩) (bytes (l.drop m)) := by rw [bytes_drop]; exact ((HR3.out.drop m).more (Nat.le_of_lt hg3))
 clear hbx hsz k2 hb HR1 HRt
 refine (equal_ok _ _ 4 (c - m) 4 4 (l.drop m) (four (Crc.sum (l.take m))) w3 HDr (Lib.hid rfl) (by decide) (by decide) hrd hr4).mono ?_
 rintro e w4 ⟨rfl, q, rfl⟩
 clear hrd hr4
 have k4 := k3.drewN q
 have hb4 := below_drewN hb3 q
 have HR4 : Hid (Reads (w3.drewN q) g2 (some ⟨bb, oo, none⟩) (bytes l)) := HR3
 have hg4 := k4.lt
 clear k3 hb3 HR3 hg3
 generalize w3.drewN q = w4 at *
 by_cases he : l.drop m = four (Crc.sum (l.take m))
 ·have hde : decide (l.drop m = four (Crc.sum (l.take m))) = true := by simpa using he
  have HD1 : Hid (dec l = (if ¬ m % 3 = 0 then (3, zeroF) else if ¬ (idx (num3 l 0)).length * 3 = m then (3, zeroF) else if mayB (decF l) then (0, decF l) else (3, zeroF))) := Lib.hid (by rw [HD.out, if_neg (by simpa using he)])
  rw [hde]
  clear hde he HD
  go_upto_region 8 with (fail)
  have k6 : Has (w4.alloc (.cells #[I 0, I 0, I 0, I 0, I 0, I 0, I 0, I 0, I 0, I 0, I 0, I 0, I 0, I 0, I 0, I 0, I 0, I 0, I 0, I 0, I 0, I 0, I 0] 110)) w4.heap.size 110 (frC zeroF) := by rw [zeroFrame]; exact Has.new _ _ _
  have k5 := k4.alloc (.cells #[I 0, I 0, I 0, I 0, I 0, I 0, I 0, I 0, I 0, I 0, I 0, I 0, I 0, I 0, I 0, I 0, I 0, I 0, I 0, I 0, I 0, I 0, I 0] 110)
  have hbx : Below w4.heap.size w4 (w4.alloc (.cells #[I 0, I 0, I 0, I 0, I 0, I 0, I 0, I 0, I 0, I 0, I 0, I 0, I 0, I 0, I 0, I 0, I 0, I 0, I 0, I 0, I 0, I 0, I 0] 110)) := (Below.refl _ _).alloc (Nat.le_refl _) _
  have hb5 := hb4.trans (hbx.mono (Nat.le_of_lt hg4))
  have HR5 : Hid (Reads (w4.alloc (.cells #[I 0, I 0, I 0, I 0, I 0, I 0, I 0, I 0, I 0, I 0, I 0, I 0, I 0, I 0, I 0, I 0, I 0, I 0, I 0, I 0, I 0, I 0, I 0] 110)) g2 (some ⟨bb, oo, none⟩) (bytes l)) := Lib.hid (HR4.out.below (hbx.mono (Nat.le_of_lt hg4)))
  clear hbx k4 hb4 HR4
  generalize w4.alloc (.cells #[I 0, I 0, I 0, I 0, I 0, I 0, I 0, I 0, I 0, I 0, I 0, I 0, I 0, I 0, I 0, I 0, I 0, I 0, I 0, I 0, I 0, I 0, I 0] 110) = w5 at *
  generalize w4.heap.size = g6 at *
  have hg5 := k5.lt
  have hg6 := k6.lt
  by_cases he3 : m % 3 = 0
  ·have hde : ((m : Int) % 3 != 0) = false := by simp; omega
   have HD2 : Hid (dec l = (if ¬ (idx (num3 l 0)).length * 3 = m then (3, zeroF) else if mayB (decF l) then (0, decF l) else (3, zeroF))) := Lib.hid (by rw [HD1.out, if_neg (by simpa using he3)])
   clear he3 HD1
   go_upto_region 10 with (fail)
   obtain ⟨x0, hx0⟩ := some_at l 0 (by rw [hl.out]; omega)
   obtain ⟨x1, hx1⟩ := some_at l 1 (by rw [hl.out]; omega)
   obtain ⟨x2, hx2⟩ := some_at l 2 (by rw [hl.out]; omega)
   have HN : Hid (num3 l 0 = n3 x0 x1 x2) := Lib.hid (by unfold num3; simp [List.getD_eq_getElem?_getD, hx0, hx1, hx2])
   have c0 : w5.cell? ⟨bb, oo, none⟩ = some (U8 x0) := by obtain ⟨_, _, e, _, h⟩ := HR5.out.byte_ hx0; cases e; exact h
   have c1 : w5.cell? ⟨bb, oo + 1, none⟩ = some (U8 x1) := by obtain ⟨_, _, e, _, h⟩ := HR5.out.byte_ hx1; cases e; exact h
   have c2 : w5.cell? ⟨bb, oo + 2, none⟩ = some (U8 x2) := by obtain ⟨_, _, e, _, h⟩ := HR5.out.byte_ hx2; cases e; exact h
   have z0 := k6.cellv 0 (I 0) rfl
   have zf := k6.free 0
   have y0 := x0.toNat_lt
   have y1 := x1.toNat_lt
   have y2 := x2.toNat_lt
   clear hx0 hx1 hx2
   go_cut [] (fun wx => Hid (wx = w5.drew.setCell ⟨g6, 0, none⟩ (I (num3 l 0))))
   case first =>
    go_region
    all_goals
     go_wp2_with fail
     go_meet
     case rel => exact Lib.hid (by rw [HN.out, ← n3_or]; rfl)
   case rest =>
    have hb6 : Below g2 w (w5.drew.setCell ⟨g6, 0, none⟩ (I (num3 l 0))) := (hb5.drew).setCell (Nat.le_of_lt hg4) _
    have k6c : Has (w5.drew.setCell ⟨g6, 0, none⟩ (I (num3 l 0))) g6 110 (frC (decTo l 0)) := by
     have h := k6.drew.set 0 (I (num3 l 0))
     rw [frC_set] at h
     exact h
    have k5c : Has (w5.drew.setCell ⟨g6, 0, none⟩ (I (num3 l 0))) g2 110 (frC zeroF) := k5.drew.far (by simp; omega) _
    have HRc : Hid (Reads (w5.drew.setCell ⟨g6, 0, none⟩ (I (num3 l 0))) g2 (some ⟨bb, oo, none⟩) (bytes l)) := Lib.hid (HR5.out.drew.setCell (Nat.le_of_lt hg4) _)
    rw [← hcut.out] at hb6 k6c k5c HRc
    clear hcut c0 c1 c2 z0 zf y0 y1 y2 HN x0 x1 x2 k5 k6 hb5 HR5 hg5 hg6 hde
    clear w5
    have hk3 := n3_lt (l.getD (3 * 0) 0) (l.getD (3 * 0 + 1) 0) (l.getD (3 * 0 + 2) 0)
    have ck := k6c.cellv 0 (I (num3 l 0)) (frC_get _ 0 _ (by simp [decTo, zeroF]))
    have hk4 : num3 l 0 < 16777216 := hk3
    clear hk3
    have HF : Hid (decF l = decTo l (idx (num3 l 0)).length) := rfl
    have HDS : Hid (∀ n i, (idx (num3 l 0))[n]? = some i → decTo l (n + 1) = (decTo l n).set i (num3 l n)) := Lib.hid (fun n i h => by rw [decTo, List.getD_eq_getElem?_getD, h]; rfl)
    generalize hkk : ((num3 l 0 : Nat) : Int) = k at *
    clear hkk hk4
    have hid20 := idx_len k
    go_wp2_with fail
    refine (numbers_ok g6 _ k _ k6c ck).mono ?_
    rintro e w7 ⟨⟨A7, n7, rfl, own7⟩, hb7⟩
    have k67 := k6c.after hb7
    have k57 := k5c.after hb7
    have HR7 : Hid (Reads w7 g2 (some ⟨bb, oo, none⟩) (bytes l)) := Lib.hid (HRc.out.below (hb7.mono (Nat.le_of_lt k5c.lt)))
    have hbw7 := hb6.trans (hb7.mono (Nat.le_of_lt k5c.lt))
    have HO7 := Lib.hid (own_base own7 (Nat.zero_le _))
    clear own7 hb7 k6c k5c HRc hb6 ck
    by_cases he4 : (idx k).length * 3 = m
    ·have hde : (((idx k).length : Int) * 3 != (m : Int)) = false := by simp; omega
     have HD3 : Hid (dec l = (if mayB (decF l) then (0, decF l) else (3, zeroF))) := Lib.hid (by rw [HD2.out, if_neg (by simpa using he4)])
     have HE := Lib.hid he4
     clear he4 HD2
     go_wp2_with fail
     go_loopw [78] (fun i wr => ∃ j : Nat, j ≤ (idx k).length ∧ i = I j ∧ Has wr g6 110 (frC (decTo l j)) ∧ Has wr g2 110 (frC zeroF) ∧ Hid (Reads wr g2 (some ⟨bb, oo, none⟩) (bytes l)) ∧
      Hid (wr.ownsRow 0 166 1 (.slice A7 (idx k).length n7) (idx k).length (ptrs g6 (idx k))) ∧ Below g2 w wr) (fun i _ => (idx k).length - (intOf i).toNat)
     case atStart => exact ⟨0, by omega, rfl, k67, k57, HR7, HO7, hbw7⟩
     case round =>
      clear k67 k57 HR7 HO7 hbw7
      obtain ⟨j, hj, rfl, ka, kb, HR, HO, hbr⟩ := hrel
      by_cases hlt : j < (idx k).length
      ·have hjm : 3 * j + 2 < m := by have := HE.out; omega
       obtain ⟨i, hi⟩ := some_at (idx k) j hlt
       have hi23 : i < 23 := idx_lt k i (List.mem_of_getElem? hi)
       obtain ⟨y, hy⟩ := some_at (decTo l j) i (by rw [decTo_length]; exact hi23)
       obtain ⟨x0, hx0⟩ := some_at l (3 * j) (by rw [hl.out]; omega)
       obtain ⟨x1, hx1⟩ := some_at l (3 * j + 1) (by rw [hl.out]; omega)
       obtain ⟨x2, hx2⟩ := some_at l (3 * j + 2) (by rw [hl.out]; omega)
       have HN : Hid (num3 l j = n3 x0 x1 x2) := Lib.hid (by unfold num3; simp [List.getD_eq_getElem?_getD, hx0, hx1, hx2])
       have c0 : wr.cell? ⟨bb, oo + 3 * j, none⟩ = some (U8 x0) := by obtain ⟨_, _, e, _, h⟩ := HR.out.byte_ hx0; cases e; exact h
       have c1 : wr.cell? ⟨bb, oo + (3 * j + 1), none⟩ = some (U8 x1) := by obtain ⟨_, _, e, _, h⟩ := HR.out.byte_ hx1; cases e; exact h
       have c2 : wr.cell? ⟨bb, oo + (3 * j + 2), none⟩ = some (U8 x2) := by obtain ⟨_, _, e, _, h⟩ := HR.out.byte_ hx2; cases e; exact h
       obtain ⟨hc7, hr7⟩ := own_slice HO.out
       obtain ⟨b7, o7, rfl, _, e7⟩ := ptr_at hr7 hi
       have z0 := ka.cellv i _ (frC_get _ i y hy)
       have zf := ka.free i
       have y0 := x0.toNat_lt
       have y1 := x1.toNat_lt
       have y2 := x2.toNat_lt
       have HDj : Hid (decTo l (j + 1) = (decTo l j).set i (num3 l j)) := Lib.hid (HDS.out j i hi)
       clear hx0 hx1 hx2 hy hi hr7 hc7
       go_wp2_with fail
       go_region
       all_goals
        go_wp2_with fail
        go_roundw
        case rel =>
         refine ⟨j + 1, by omega, by go_num, ?_, kb.drew.far (by simp; omega) _, Lib.hid (HR.out.drew.setCell (Nat.le_of_lt hg4) _), Lib.hid (own_far (w := wr.drew) HO.out ka (by decide) _ _), hbr.drew.setCell (Nat.le_of_lt hg4) _⟩
         have h := ka.drew.set i (I (num3 l j))
         rw [frC_set, ← HDj.out, HN.out, ← n3_or] at h
         exact h
        case measure => simp [intOf]; omega
      ·have hjn : j = (idx k).length := by omega
       have HJ : Hid (decTo l j = decF l) := Lib.hid (by rw [HF.out, hjn])
       have hw := decTo_wf l j
       rw [HJ.out] at ka hw
       have HW := Lib.hid hw
       have hs6 : Hid ((Tryz.prog.info? 110).map (·.size) = some (frC (decF l)).size) := Lib.hid (by rw [frC_size _ hw.1]; exact infoFrame)
       have hs2 : Hid ((frC zeroF).size = (frC (decF l)).size) := Lib.hid (by rw [frC_size _ hw.1]; rfl)
       clear hw hjn HJ
       cases hm : mayB (decF l) with
       | true =>
        have HM := Lib.hid hm
        have HDD : Hid (dec l = (0, decF l)) := Lib.hid (by rw [HD3.out, hm]; rfl)
        clear hm HD3
        go_wp2_with (first
         | (refine wpList_load_row rfl 110 (.tmp 6) rfl g6 rfl 110 (frC (decF l)) (0, 0) _ (by assumption) Tryz.underlying110 rfl hs6.out ?_)
         | (go_at_call 106; refine (right_ok (decF l) HW.out _).mono ?_; rintro e w8 ⟨rfl, hb8⟩; rw [HM.out]; have ka8 := ka.after hb8; have kb8 := kb.after hb8; have hb9 := hbr.trans (hb8.mono (Nat.le_of_lt kb.lt)); clear hb8)
         | (refine wpList_store_row rfl 110 (.tmp 2) _ rfl g2 (frC (decF l)) rfl rfl 110 _ kb8 hs6.out hs2.out (frC_one _) ?_))
        exact bodyPost_ret (ret_cell_tmp rfl _ _ _ _ (frC (decF l)) _ rfl (kb8.setRow _) Tryz.underlying110 rfl hs6.out) rfl ⟨by rw [HDD.out]; rfl, HG.out ▸ below_setRow hb9 (Nat.le_refl _) _⟩
       | false =>
        have HM := Lib.hid hm
        have HD' : Hid (dec l = (3, zeroF)) := Lib.hid (by rw [HD3.out, hm]; rfl)
        clear hm HD3
        go_wp2_with (first
         | (refine wpList_load_row rfl 110 (.tmp 6) rfl g6 rfl 110 (frC (decF l)) (0, 0) _ (by assumption) Tryz.underlying110 rfl hs6.out ?_)
         | (go_at_call 106; refine (right_ok (decF l) HW.out _).mono ?_; rintro e w8 ⟨rfl, hb8⟩; rw [HM.out]; have kb8 := kb.after hb8; have hb9 := hbr.trans (hb8.mono (Nat.le_of_lt kb.lt)); clear hb8)
         | (refine wpList_store_row rfl 110 (.tmp 2) _ rfl g2 (frC zeroF) rfl rfl 110 _ kb8 zeroSize rfl (frC_one _) ?_))
        exact bodyPost_ret (ret_cell_tmp rfl _ _ _ _ (frC zeroF) _ rfl (kb8.setRow _) Tryz.underlying110 rfl zeroSize) rfl ⟨by rw [HD'.out]; rfl, HG.out ▸ below_setRow hb9 (Nat.le_refl _) _⟩
    ·have hde : (((idx k).length : Int) * 3 != (m : Int)) = true := by simp; omega
     have HD' : Hid (dec l = (3, zeroF)) := Lib.hid (by rw [HD2.out, if_pos he4])
     clear he4 HD2
     go_wp2_with (refine wpList_store_row rfl 110 (.tmp 2) _ rfl g2 (frC zeroF) rfl rfl 110 _ k57 zeroSize rfl (frC_one _) ?_)
     exact bodyPost_ret (ret_cell_tmp rfl _ _ _ _ (frC zeroF) _ rfl (k57.setRow _) Tryz.underlying110 rfl zeroSize) rfl ⟨by rw [HD'.out]; rfl, HG.out ▸ below_setRow hbw7 (Nat.le_refl _) _⟩
  ·have hde : ((m : Int) % 3 != 0) = true := by simp; omega
   have HD' : Hid (dec l = (3, zeroF)) := Lib.hid (by rw [HD1.out, if_pos he3])
   clear he3 HD1
   go_wp2_with (refine wpList_store_row rfl 110 (.tmp 2) _ rfl g2 (frC zeroF) rfl rfl 110 _ k5 zeroSize rfl (frC_one _) ?_)
   exact bodyPost_ret (ret_cell_tmp rfl _ _ _ _ (frC zeroF) _ rfl (k5.setRow _) Tryz.underlying110 rfl zeroSize) rfl ⟨by rw [HD'.out]; rfl, HG.out ▸ below_setRow hb5 (Nat.le_refl _) _⟩
 ·have hde : decide (l.drop m = four (Crc.sum (l.take m))) = false := by simpa using he
  have HD' : Hid (dec l = (15, zeroF)) := Lib.hid (by rw [HD.out, if_pos he])
  rw [hde]
  clear hde he HD
  go_wp2_with (refine wpList_store_row rfl 110 (.tmp 2) _ rfl g2 (frC zeroF) rfl rfl 110 _ k4 zeroSize rfl (frC_one _) ?_)
  exact bodyPost_ret (ret_cell_tmp rfl _ _ _ _ (frC zeroF) _ rfl (k4.setRow _) Tryz.underlying110 rfl zeroSize) rfl ⟨by rw [HD'.out]; rfl, HG.out ▸ below_setRow hb4 (Nat.le_refl _) _⟩
theorem decode_ok (A : Option Addr) (n c : Nat) (l : List UInt8) (w : World) (hl : l.length = n) (hc : n ≤ c) (hr : Reads w w.heap.size A (bytes l)) :
  Calls Tryz.prog 71 #[.slice A n c] w fun e w' => e = .returned (.tuple #[.agg (frC (dec l).2), errV (dec l).1]) ∧ Below w.heap.size w w' := by
 by_cases h : n < 7 ∨ 80 < n
 ·have hd : dec l = (3, zeroF) := by unfold dec; rw [if_pos (by rw [hl]; exact h)]
  rw [hd]
  exact decode_size A n c w h
 ·obtain ⟨b, o, rfl, _, _⟩ := hr (by rintro h0; have := congrArg List.length h0; rw [bytes_length, hl] at this; simp at this; omega)
  obtain ⟨m, rfl⟩ : ∃ m, n = m + 4 := ⟨n - 4, by omega⟩
  exact decode_in b o m c l w hl (by omega) (by omega) hc hr
end Go.Proofs.YtdhekhlmdefcnabGreatDoor
namespace Go.Proofs.YtdhekhlmdefcnabGreatDoor
open Go.RowKit
theorem arr23 (cs : Array Value) (h : cs.size = 23) : ∃ a0 a1 a2 a3 a4 a5 a6 a7 a8 a9 a10 a11 a12 a13 a14 a15 a16 a17 a18 a19 a20 a21 a22, cs = #[a0, a1, a2, a3, a4, a5, a6, a7, a8, a9, a10, a11, a12, a13, a14, a15, a16, a17, a18, a19, a20, a21, a22] := by
 obtain ⟨l⟩ := cs
 match l, h with
 | [a0, a1, a2, a3, a4, a5, a6, a7, a8, a9, a10, a11, a12, a13, a14, a15, a16, a17, a18, a19, a20, a21, a22], _ => exact ⟨a0, a1, a2, a3, a4, a5, a6, a7, a8, a9, a10, a11, a12, a13, a14, a15, a16, a17, a18, a19, a20, a21, a22, rfl⟩
theorem run_frames1' (a0 a1 a2 a3 a4 a5 a6 a7 a8 a9 a10 a11 a12 a13 a14 a15 a16 a17 a18 a19 a20 a21 a22 : Value) (w : World) : (Instr.buildSlice 136 1 #[(0, .agg #[a0, a1, a2, a3, a4, a5, a6, a7, a8, a9, a10, a11, a12, a13, a14, a15, a16, a17, a18, a19, a20, a21, a22])]).run Tryz.prog w = .ok (.slice (some ⟨w.heap.size, 0, none⟩) 1 1) (w.alloc (.cells #[a0, a1, a2, a3, a4, a5, a6, a7, a8, a9, a10, a11, a12, a13, a14, a15, a16, a17, a18, a19, a20, a21, a22] 110)) := by kernel_rfl
theorem run_frames2' (a0 a1 a2 a3 a4 a5 a6 a7 a8 a9 a10 a11 a12 a13 a14 a15 a16 a17 a18 a19 a20 a21 a22 : Value) (b0 b1 b2 b3 b4 b5 b6 b7 b8 b9 b10 b11 b12 b13 b14 b15 b16 b17 b18 b19 b20 b21 b22 : Value) (w : World) : (Instr.buildSlice 136 2 #[(0, .agg #[a0, a1, a2, a3, a4, a5, a6, a7, a8, a9, a10, a11, a12, a13, a14, a15, a16, a17, a18, a19, a20, a21, a22]), (1, .agg #[b0, b1, b2, b3, b4, b5, b6, b7, b8, b9, b10, b11, b12, b13, b14, b15, b16, b17, b18, b19, b20, b21, b22])]).run Tryz.prog w = .ok (.slice (some ⟨w.heap.size, 0, none⟩) 2 2) (w.alloc (.cells #[a0, a1, a2, a3, a4, a5, a6, a7, a8, a9, a10, a11, a12, a13, a14, a15, a16, a17, a18, a19, a20, a21, a22, b0, b1, b2, b3, b4, b5, b6, b7, b8, b9, b10, b11, b12, b13, b14, b15, b16, b17, b18, b19, b20, b21, b22] 110)) := by kernel_rfl
theorem run_frames1 (cs : Array Value) (h : cs.size = 23) (w : World) : (Instr.buildSlice 136 1 #[(0, .agg cs)]).run Tryz.prog w = .ok (.slice (some ⟨w.heap.size, 0, none⟩) 1 1) (w.alloc (.cells cs 110)) := by
 obtain ⟨a0, a1, a2, a3, a4, a5, a6, a7, a8, a9, a10, a11, a12, a13, a14, a15, a16, a17, a18, a19, a20, a21, a22, rfl⟩ := arr23 cs h
 exact run_frames1' _ _ _ _ _ _ _ _ _ _ _ _ _ _ _ _ _ _ _ _ _ _ _ w
theorem run_frames2 (cs ds : Array Value) (h : cs.size = 23) (h' : ds.size = 23) (w : World) : (Instr.buildSlice 136 2 #[(0, .agg cs), (1, .agg ds)]).run Tryz.prog w = .ok (.slice (some ⟨w.heap.size, 0, none⟩) 2 2) (w.alloc (.cells (cs ++ ds) 110)) := by
 obtain ⟨a0, a1, a2, a3, a4, a5, a6, a7, a8, a9, a10, a11, a12, a13, a14, a15, a16, a17, a18, a19, a20, a21, a22, rfl⟩ := arr23 cs h
 obtain ⟨b0, b1, b2, b3, b4, b5, b6, b7, b8, b9, b10, b11, b12, b13, b14, b15, b16, b17, b18, b19, b20, b21, b22, rfl⟩ := arr23 ds h'
 have e : (#[a0, a1, a2, a3, a4, a5, a6, a7, a8, a9, a10, a11, a12, a13, a14, a15, a16, a17, a18, a19, a20, a21, a22] ++ #[b0, b1, b2, b3, b4, b5, b6, b7, b8, b9, b10, b11, b12, b13, b14, b15, b16, b17, b18, b19, b20, b21, b22] : Array Value) = #[a0, a1, a2, a3, a4, a5, a6, a7, a8, a9, a10, a11, a12, a13, a14, a15, a16, a17, a18, a19, a20, a21, a22, b0, b1, b2, b3, b4, b5, b6, b7, b8, b9, b10, b11, b12, b13, b14, b15, b16, b17, b18, b19, b20, b21, b22] := by simp only [List.append_toArray, List.cons_append, List.nil_append]
 rw [e]
 exact run_frames2' _ _ _ _ _ _ _ _ _ _ _ _ _ _ _ _ _ _ _ _ _ _ _ _ _ _ _ _ _ _ _ _ _ _ _ _ _ _ _ _ _ _ _ _ _ _ w
section
variable {o : Oper} {a : Act} {w : World} {ops : Array Oper} {rest : List Oper} {Q : Exit → Act → World → Prop}
theorem wpList_frames1 (hg : o.guard = none) (x : Operand) (ho : o.op = .buildSlice 136 1 #[(0, x)]) (cs : Array Value) (hs : a.eval x = .agg cs) (h : cs.size = 23)
  (hk : wpList Tryz.prog ops Q rest (a.put o.dst (.slice (some ⟨w.heap.size, 0, none⟩) 1 1)) (w.alloc (.cells cs 110))) : wpList Tryz.prog ops Q (o :: rest) a w :=
 wpList_plain hg fun K hK => by
  unfold Oper.wp execOp
  simp only [ho, List.map_toArray, List.map_cons, List.map_nil, hs, Sem.run_bind, run_frames1 cs h, Result.andThen_ok]
  exact hK _ _ hk
theorem wpList_frames2 (hg : o.guard = none) (x y : Operand) (ho : o.op = .buildSlice 136 2 #[(0, x), (1, y)]) (cs ds : Array Value) (hs : a.eval x = .agg cs) (hs' : a.eval y = .agg ds) (h : cs.size = 23) (h' : ds.size = 23)
  (hk : wpList Tryz.prog ops Q rest (a.put o.dst (.slice (some ⟨w.heap.size, 0, none⟩) 2 2)) (w.alloc (.cells (cs ++ ds) 110))) : wpList Tryz.prog ops Q (o :: rest) a w :=
 wpList_plain hg fun K hK => by
  unfold Oper.wp execOp
  simp only [ho, List.map_toArray, List.map_cons, List.map_nil, hs, hs', Sem.run_bind, run_frames2 cs ds h h', Result.andThen_ok]
  exact hK _ _ hk
end
end Go.Proofs.YtdhekhlmdefcnabGreatDoor
