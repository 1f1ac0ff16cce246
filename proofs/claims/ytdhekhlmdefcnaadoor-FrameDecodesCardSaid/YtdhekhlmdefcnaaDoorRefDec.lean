/- The walk over the reference's Decode. -/
import Derived.Test.YtdhekhlmdefcnaaDoorRefMay
import Derived.Test.YtdhekhlmdefcnaaDoorRefSum
import Derived.Test.YtdhekhlmdefcnaaDoorRefEnc
namespace Go.Proofs.YtdhekhlmdefcnaaDoor
open Go.RowKit
/-- four bytes as a number: the first j -/
def n4To (l : List UInt8) : Nat → Nat
  | 0 => 0
  | j + 1 => n4To l j * 256 + (l.getD j 0).toNat
theorem n4To_lt (l : List UInt8) : ∀ j, n4To l j < 256 ^ j
  | 0 => by simp [n4To]
  | j + 1 => by
    have h := n4To_lt l j
    have := (l.getD j 0).toNat_lt
    rw [n4To, Nat.pow_succ]
    omega
theorem four_eq (l : List UInt8) (s : Crc.B32) (h : l.length = 4) : l = four s ↔ s.toNat = n4To l 4 := by
  match l, h with
  | [a, b, c, d], _ =>
    have ha := a.toNat_lt
    have hb := b.toNat_lt
    have hc := c.toNat_lt
    have hd := d.toNat_lt
    have hs := s.isLt
    have e : n4To [a, b, c, d] 4 = ((a.toNat * 256 + b.toNat) * 256 + c.toNat) * 256 + d.toNat := by simp [n4To]
    rw [e]
    unfold four
    constructor
    · intro h
      injection h with h1 h
      injection h with h2 h
      injection h with h3 h
      injection h with h4 h
      have e1 := congrArg UInt8.toNat h1
      have e2 := congrArg UInt8.toNat h2
      have e3 := congrArg UInt8.toNat h3
      have e4 := congrArg UInt8.toNat h4
      rw [UInt8.toNat_ofNat'] at e1 e2 e3 e4
      omega
    · intro h
      have e1 : a = UInt8.ofNat (s.toNat / 16777216) := UInt8.toNat_inj.1 (by rw [UInt8.toNat_ofNat']; omega)
      have e2 : b = UInt8.ofNat (s.toNat / 65536) := UInt8.toNat_inj.1 (by rw [UInt8.toNat_ofNat']; omega)
      have e3 : c = UInt8.ofNat (s.toNat / 256) := UInt8.toNat_inj.1 (by rw [UInt8.toNat_ofNat']; omega)
      have e4 : d = UInt8.ofNat s.toNat := UInt8.toNat_inj.1 (by rw [UInt8.toNat_ofNat']; omega)
      rw [← e1, ← e2, ← e3, ← e4]
/-- the numbers of bytes: the first j -/
def decL (l : List UInt8) (j : Nat) : List Int := (List.range j).map fun i => ((num3 l i : Nat) : Int)
theorem decL_length (l : List UInt8) (j : Nat) : (decL l j).length = j := by simp [decL]
theorem decL_succ (l : List UInt8) (j : Nat) : decL l (j + 1) = decL l j ++ [((num3 l j : Nat) : Int)] := by simp [decL, List.range_succ]
theorem decL_get (l : List UInt8) (j i : Nat) (h : i < j) : (decL l j).getD i 0 = ((num3 l i : Nat) : Int) := by simp [decL, List.getD_eq_getElem?_getD, h]
theorem made_decTo (l : List UInt8) (j : Nat) (hj : 1 ≤ j) : ∀ n, n ≤ j → 1 ≤ n → madeTo (decL l j) n = decTo l n
  | 0, _, h => by omega
  | n + 1, hn, _ => by
    have e0 := decL_get l j 0 (by omega)
    have en := decL_get l j n (by omega)
    rw [madeTo, decTo, e0, en]
    by_cases h1 : 1 ≤ n
    · rw [made_decTo l j hj n (by omega) h1]
    · have : n = 0 := by omega
      subst this
      have : (idx ((num3 l 0 : Nat) : Int)).getD 0 0 = 0 := (idx_t3 _).1
      rw [this]
      show zeroF.set 0 _ = (zeroF.set 0 _).set 0 _
      rw [List.set_set]
theorem made_dec (l : List UInt8) (j : Nat) (h1 : 1 ≤ j) : (if (made (decL l j)).2 = true ∧ mayB (made (decL l j)).1 = true then ((0 : Int), (made (decL l j)).1) else (3, zeroF)) =
    (if ¬ (idx (num3 l 0)).length * 3 = 3 * j then (3, zeroF) else if mayB (decF l) then (0, decF l) else (3, zeroF)) := by
  have h3 := idx_three ((num3 l 0 : Nat) : Int)
  have e0 := decL_get l j 0 (by omega)
  have hB : madeB (decL l j) = (decide (3 ≤ j) && (decide (1 ≤ ((num3 l 0 : Nat) : Int)) && decide (((num3 l 0 : Nat) : Int) ≤ 5)) && decide (j = (idx (num3 l 0)).length)) := by
    unfold madeB
    rw [decL_length, e0]
  unfold made
  rw [hB]
  by_cases hl : (idx (num3 l 0)).length = j
  · have hl2 : (idx (num3 l 0)).length * 3 = 3 * j := by omega
    rw [if_neg (show ¬ ¬ (idx (num3 l 0)).length * 3 = 3 * j by simpa using hl2)]
    have hdec : madeTo (decL l j) (decL l j).length = decF l := by
      rw [decL_length, made_decTo l j h1 j (Nat.le_refl _) h1]
      unfold decF
      rw [hl]
    rw [hdec]
    by_cases hk : 1 ≤ ((num3 l 0 : Nat) : Int) ∧ ((num3 l 0 : Nat) : Int) ≤ 5
    · have hb : (decide (3 ≤ j) && (decide (1 ≤ ((num3 l 0 : Nat) : Int)) && decide (((num3 l 0 : Nat) : Int) ≤ 5)) && decide (j = (idx (num3 l 0)).length)) = true := by
        simp only [Bool.and_eq_true, decide_eq_true_eq]
        exact ⟨⟨by omega, hk⟩, hl.symm⟩
      rw [hb]
      simp
    · have hb : (decide (3 ≤ j) && (decide (1 ≤ ((num3 l 0 : Nat) : Int)) && decide (((num3 l 0 : Nat) : Int) ≤ 5)) && decide (j = (idx (num3 l 0)).length)) = false := by
        rw [Bool.eq_false_iff]
        simp only [ne_eq, Bool.and_eq_true, decide_eq_true_eq]
        exact fun h => hk h.1.2
      rw [hb]
      have hm : mayB (decF l) = false := by
        rw [Bool.eq_false_iff]
        intro hm
        unfold mayB headB at hm
        simp only [Bool.and_eq_true, decide_eq_true_eq] at hm
        have hd0 : (decF l).getD 0 0 = ((num3 l 0 : Nat) : Int) := by
          have key : ∀ n, n ≤ (idx ((num3 l 0 : Nat) : Int)).length → (decTo l n).getD 0 0 = ((num3 l 0 : Nat) : Int) := by
            intro n
            induction n with
            | zero => intro _; rfl
            | succ n ih =>
              intro hn
              rw [decTo]
              by_cases hz : (idx ((num3 l 0 : Nat) : Int)).getD n 0 = 0
              · rw [hz]
                have hn0 : n = 0 := by
                  have hx : ∀ k : Int, ∀ n, n < (idx k).length → (idx k).getD n 0 = 0 → n = 0 := by
                    intro k
                    rcases idx_cases k with ⟨_, e⟩ | ⟨_, e⟩ | ⟨_, e⟩ | ⟨_, e⟩ | ⟨_, _, _, _, e⟩ <;> rw [e] <;> decide
                  exact hx _ n (by omega) hz
                subst hn0
                rw [List.getD_eq_getElem?_getD, List.getElem?_set_self (by rw [decTo_length]; decide)]
                rfl
              · rw [List.getD_eq_getElem?_getD, List.getElem?_set_ne hz, ← List.getD_eq_getElem?_getD, ih (by omega)]
          exact key _ (Nat.le_refl _)
        rw [hd0] at hm
        exact hk ⟨hm.1.1.1.1.1, hm.1.1.1.1.2⟩
      rw [hm]
      simp
  · have hl2 : ¬ (idx (num3 l 0)).length * 3 = 3 * j := by omega
    rw [if_pos hl2]
    have hb : (decide (3 ≤ j) && (decide (1 ≤ ((num3 l 0 : Nat) : Int)) && decide (((num3 l 0 : Nat) : Int) ≤ 5)) && decide (j = (idx (num3 l 0)).length)) = false := by
      rw [Bool.eq_false_iff]
      simp only [ne_eq, Bool.and_eq_true, decide_eq_true_eq]
      exact fun h => hl h.2.symm
    rw [hb]
    simp
theorem Reads.grown {w w' : World} {B : Nat} {A : Option Addr} {xs : List Value} {row : Option Nat} (h : Reads w B A xs) (hB : B ≤ w.heap.size) (hg : w.grownBy w' row) (hr : ∀ q, row = some q → B ≤ q) : Reads w' B A xs :=
  h.keep fun b o hb => by
    have := hg.block b (by omega) (fun e => by have := hr b e.symm; omega)
    simp [World.cell?, this]
theorem n3_wrap (x y z : UInt8) : IntKind.i64.wrap (IntKind.i64.wrap (IntKind.i64.wrap (IntKind.i64.wrap (x.toNat : Int) * 65536) + IntKind.i64.wrap (IntKind.i64.wrap (y.toNat : Int) * 256)) + IntKind.i64.wrap (z.toNat : Int)) = (x.toNat : Int) * 65536 + (y.toNat : Int) * 256 + (z.toNat : Int) := by
  have hx := x.toNat_lt
  have hy := y.toNat_lt
  have hz := z.toNat_lt
  rw [IntWalk.i64_in (x.toNat : Int) (by omega), IntWalk.i64_in (y.toNat : Int) (by omega), IntWalk.i64_in (z.toNat : Int) (by omega), IntWalk.i64_in ((x.toNat : Int) * 65536) (by omega), IntWalk.i64_in ((y.toNat : Int) * 256) (by omega), IntWalk.i64_in ((x.toNat : Int) * 65536 + (y.toNat : Int) * 256) (by omega), IntWalk.i64_in _ (by omega)]
theorem zeroFrameR : (#[I 0, I 0, I 0, I 0, I 0, I 0, I 0, I 0, I 0, I 0, I 0, I 0, I 0, I 0, I 0, I 0, I 0, I 0, I 0, I 0, I 0, I 0, I 0] : Array Value) = frC zeroF := zeroFrame
theorem zeroSizeR : (Tryd.prog.info? 45).map (·.size) = some (frC zeroF).size := refSize _ rfl
theorem num3_lt (l : List UInt8) (j : Nat) : num3 l j < 16777216 := n3_lt _ _ _
theorem made_wf (l : List UInt8) (j : Nat) : Wf (made (decL l j)).1 := by
  have hz : Wf zeroF := ⟨rfl, fun x hx => by have := List.eq_of_mem_replicate hx; omega⟩
  unfold made
  split
  · have key : ∀ n, Wf (madeTo (decL l j) n) := by
      intro n
      induction n with
      | zero => exact hz
      | succ n ih =>
        refine ⟨madeTo_length _ _, fun x hx => ?_⟩
        unfold madeTo at hx
        rcases List.mem_or_eq_of_mem_set hx with hx | rfl
        · exact ih.2 x hx
        · by_cases hn : n < j
          · rw [decL_get l j n hn]
            have := num3_lt l n
            omega
          · rw [List.getD_eq_getElem?_getD, List.getElem?_eq_none (by rw [decL_length]; omega)]
            simp
    exact key _
  · exact hz
set_option maxHeartbeats 2000000 in
set_option maxRecDepth 100000 in
theorem refDecode_size (A : Option Addr) (n c : Nat) (w : World) (h : n < 7 ∨ 80 < n) :
    Calls Tryd.prog 25 #[.slice A n c] w fun e w' => e = .returned (.tuple #[.agg (frC zeroF), I 3]) ∧ Below w.heap.size w w' := by
  have hin : inR (n : Int) 7 80 = false := by unfold inR; simp; omega
  go_enter Tryd.func25, Tryd.ntmps25
  go_upto_region 1 with (fail)
  have k2 : Has (w.alloc (.cells #[I 0, I 0, I 0, I 0, I 0, I 0, I 0, I 0, I 0, I 0, I 0, I 0, I 0, I 0, I 0, I 0, I 0, I 0, I 0, I 0, I 0, I 0, I 0] 45)) w.heap.size 45 (frC zeroF) := by rw [zeroFrameR]; exact Has.new _ _ _
  have hb : Below w.heap.size w (w.alloc (.cells #[I 0, I 0, I 0, I 0, I 0, I 0, I 0, I 0, I 0, I 0, I 0, I 0, I 0, I 0, I 0, I 0, I 0, I 0, I 0, I 0, I 0, I 0, I 0] 45)) := (Below.refl _ _).alloc (Nat.le_refl _) _
  generalize (w.alloc (.cells #[I 0, I 0, I 0, I 0, I 0, I 0, I 0, I 0, I 0, I 0, I 0, I 0, I 0, I 0, I 0, I 0, I 0, I 0, I 0, I 0, I 0, I 0, I 0] 45)) = w1 at *
  generalize hG : w.heap.size = g2 at *
  have HG := Lib.hid hG
  clear hG
  go_wp2_with (first
    | (go_at_call 78; refine (in_any _ _ _ _).mono ?_; rintro e w9 ⟨rfl, rfl⟩)
    | (refine wpList_store_row rfl 45 (.tmp 2) _ rfl g2 (frC zeroF) rfl rfl 45 _ k2 zeroSizeR rfl (frC_one _) ?_))
  exact bodyPost_ret (ret_cell_tmp rfl _ _ _ _ (frC zeroF) _ rfl (k2.setRow _) Tryd.underlying45 rfl zeroSizeR) rfl ⟨rfl, HG.out ▸ below_setRow hb (Nat.le_refl _) _⟩
set_option maxHeartbeats 4000000 in
set_option maxRecDepth 100000 in
theorem refDecode_in (bb oo m c : Nat) (l : List UInt8) (w : World) (hl : Hid (l.length = m + 4)) (h1 : 3 ≤ m) (h2 : m ≤ 76) (hc : m + 4 ≤ c) (hr : Reads w w.heap.size (some ⟨bb, oo, none⟩) (bytes l)) :
    Calls Tryd.prog 25 #[.slice (some ⟨bb, oo, none⟩) (m + 4) c] w fun e w' => e = .returned (.tuple #[.agg (frC (dec l).2), I (dec l).1]) ∧ Below w.heap.size w w' := by
  obtain ⟨i0, hi0, hz0, hz1, hz2⟩ := info_parts infoI
  have hin : inR ((m : Int) + 4) 7 80 = true := by unfold inR; simp; omega
  have HR := Lib.hid hr
  clear hr
  go_enter Tryd.func25, Tryd.ntmps25
  go_upto_region 1 with (fail)
  have k2 : Has (w.alloc (.cells #[I 0, I 0, I 0, I 0, I 0, I 0, I 0, I 0, I 0, I 0, I 0, I 0, I 0, I 0, I 0, I 0, I 0, I 0, I 0, I 0, I 0, I 0, I 0] 45)) w.heap.size 45 (frC zeroF) := by rw [zeroFrameR]; exact Has.new _ _ _
  have hb : Below w.heap.size w (w.alloc (.cells #[I 0, I 0, I 0, I 0, I 0, I 0, I 0, I 0, I 0, I 0, I 0, I 0, I 0, I 0, I 0, I 0, I 0, I 0, I 0, I 0, I 0, I 0, I 0] 45)) := (Below.refl _ _).alloc (Nat.le_refl _) _
  have HR1 : Hid (Reads (w.alloc (.cells #[I 0, I 0, I 0, I 0, I 0, I 0, I 0, I 0, I 0, I 0, I 0, I 0, I 0, I 0, I 0, I 0, I 0, I 0, I 0, I 0, I 0, I 0, I 0] 45)) w.heap.size (some ⟨bb, oo, none⟩) (bytes l)) := Lib.hid (HR.out.below hb)
  generalize (w.alloc (.cells #[I 0, I 0, I 0, I 0, I 0, I 0, I 0, I 0, I 0, I 0, I 0, I 0, I 0, I 0, I 0, I 0, I 0, I 0, I 0, I 0, I 0, I 0, I 0] 45)) = w1 at *
  generalize hG : w.heap.size = g2 at *
  have HG := Lib.hid hG
  have hg2 := k2.lt
  clear hG HR
  have HD : Hid (dec l = (if ¬ l.drop m = four (Crc.sum (l.take m)) then (15, zeroF) else if ¬ m % 3 = 0 then (3, zeroF) else if ¬ (idx (num3 l 0)).length * 3 = m then (3, zeroF) else if mayB (decF l) then (0, decF l) else (3, zeroF))) := Lib.hid (by
    unfold dec
    rw [if_neg (by rw [hl.out]; omega), hl.out, show m + 4 - 4 = m by omega])
  have HT : Hid ((l.take m).length = m) := Lib.hid (by rw [List.length_take, hl.out]; omega)
  have HDr : Hid ((l.drop m).length = 4) := Lib.hid (by rw [List.length_drop, hl.out]; omega)
  have hrt : Reads w1 w1.heap.size (some ⟨bb, oo, none⟩) (bytes (l.take m)) := by rw [bytes_take]; exact (HR1.out.take m).more (Nat.le_of_lt hg2)
  have HRt := Lib.hid hrt
  have hrd : Reads w1 w1.heap.size (some ⟨bb, oo + m, none⟩) (bytes (l.drop m)) := by rw [bytes_drop]; exact ((HR1.out.drop m).more (Nat.le_of_lt hg2))
  have HRd := Lib.hid hrd
  clear hrt hrd
  go_wp2_with (go_at_call 78; refine (in_any _ _ _ _).mono ?_; rintro e w9 ⟨rfl, rfl⟩)
  go_loop [5, 24] (fun v i => ∃ j : Nat, j ≤ 4 ∧ i = I j ∧ v = .int .u32 ((n4To (l.drop m) j : Nat) : Int)) (fun _ i => 4 - (intOf i).toNat)
  case atStart => exact ⟨0, by omega, rfl, rfl⟩
  case round =>
    obtain ⟨j, hj, rfl, rfl⟩ := hrel
    have hn4 := n4To_lt (l.drop m) j
    by_cases hlt : j < 4
    · obtain ⟨x, hx⟩ := some_at (l.drop m) j (by rw [HDr.out]; exact hlt)
      obtain ⟨b', o', e, _, hcell⟩ := HRd.out.byte_ hx
      cases e
      have hx8 := x.toNat_lt
      have HX : Hid (n4To (l.drop m) (j + 1) = n4To (l.drop m) j * 256 + x.toNat) := Lib.hid (by rw [n4To, List.getD_eq_getElem?_getD, hx]; rfl)
      have hn3 : n4To (l.drop m) j < 16777216 := Nat.lt_of_lt_of_le hn4 (show 256 ^ j ≤ 16777216 from Nat.le_trans (Nat.pow_le_pow_right (by decide) (show j ≤ 3 by omega)) (by decide))
      clear hx hn4
      generalize n4To (l.drop m) j = N at *
      go_wp2
      go_round
      case rel => exact ⟨j + 1, by omega, by go_num, U_eq (by rw [HX.out]; omega)⟩
      case measure => simp [intOf]; omega
    · have hj4 : j = 4 := by omega
      subst hj4
      have HF4 := Lib.hid (four_eq (l.drop m) (Crc.sum (l.take m)) HDr.out)
      have hn32 : n4To (l.drop m) 4 < 4294967296 := by simpa using hn4
      clear hn4
      generalize n4To (l.drop m) 4 = N at *
      have hs32 := (Crc.sum (l.take m)).isLt
      by_cases he : (Crc.sum (l.take m)).toNat = N
      · have HE := Lib.hid he
        have hde : (((Crc.sum (l.take m)).toNat : Int) != (N : Int)) = false := by simp; omega
        have HD1 : Hid (dec l = (if ¬ m % 3 = 0 then (3, zeroF) else if ¬ (idx (num3 l 0)).length * 3 = m then (3, zeroF) else if mayB (decF l) then (0, decF l) else (3, zeroF))) := Lib.hid (by rw [HD.out, if_neg (by simpa using HF4.out.2 HE.out)])
        clear he HD HF4
        by_cases he3 : m % 3 = 0
        · have hde3 : ((m : Int) % 3 != 0) = false := by simp; omega
          obtain ⟨q, hq⟩ : ∃ q, m = 3 * q := ⟨m / 3, by omega⟩
          have HQ := Lib.hid hq
          have HD2 : Hid (dec l = (if (made (decL l q)).2 = true ∧ mayB (made (decL l q)).1 = true then ((0 : Int), (made (decL l q)).1) else (3, zeroF))) := Lib.hid (by rw [made_dec l q (by omega), HD1.out, if_neg (by simpa using he3), hq])
          have hw := made_wf l q
          have HW := Lib.hid hw
          clear he3 HD1 hw hq
          go_wp2_with (go_at_call 21; refine (refSum_ok (some ⟨bb, oo, none⟩) m _ (l.take m) _ HT (by omega) HRt.out).mono ?_; rintro e w2 ⟨rfl, rfl⟩)
          go_loopw [8, 9] (fun v i wr => ∃ j J : Nat, Hid (J = 3 * j) ∧ J ≤ m ∧ i = I J ∧ Hid (wr.ownsRow g2 3 1 v j (ints (decL l j))) ∧ Has wr g2 45 (frC zeroF) ∧ Hid (Reads wr g2 (some ⟨bb, oo, none⟩) (bytes l)) ∧ Below g2 w wr) (fun _ i _ => m - (intOf i).toNat)
          case atStart => exact ⟨0, 0, Lib.hid rfl, by omega, rfl, Lib.hid (World.ownsRow_nil _ _ _ _), k2, HR1, hb⟩
          case round =>
            clear k2 hb HR1 HRt HRd hg2
            obtain ⟨j, J, HJ, hJ, rfl, HV, ka, HRr, hbr⟩ := hrel
            by_cases hlt : J < m
            · obtain ⟨x0, hx0⟩ := some_at l J (by rw [hl.out]; omega)
              obtain ⟨x1, hx1⟩ := some_at l (J + 1) (by rw [hl.out]; omega)
              obtain ⟨x2, hx2⟩ := some_at l (J + 2) (by rw [hl.out]; omega)
              have en : ((num3 l j : Nat) : Int) = (x0.toNat : Int) * 65536 + (x1.toNat : Int) * 256 + (x2.toNat : Int) := by
                unfold num3 n3
                rw [← HJ.out]
                simp [List.getD_eq_getElem?_getD, hx0, hx1, hx2]
              have HN : Hid (decL l (j + 1) = decL l j ++ [(x0.toNat : Int) * 65536 + (x1.toNat : Int) * 256 + (x2.toNat : Int)]) := Lib.hid (by rw [decL_succ, en])
              have c0 : wr.cell? ⟨bb, oo + J, none⟩ = some (U8 x0) := by obtain ⟨_, _, e, _, h⟩ := HRr.out.byte_ hx0; cases e; exact h
              have c1 : wr.cell? ⟨bb, oo + (J + 1), none⟩ = some (U8 x1) := by obtain ⟨_, _, e, _, h⟩ := HRr.out.byte_ hx1; cases e; exact h
              have c2 : wr.cell? ⟨bb, oo + (J + 2), none⟩ = some (U8 x2) := by obtain ⟨_, _, e, _, h⟩ := HRr.out.byte_ hx2; cases e; exact h
              have y0 := x0.toNat_lt
              have y1 := x1.toNat_lt
              have y2 := x2.toNat_lt
              have hga := ka.lt
              have hsr := Nat.le_of_lt hga
              have hj77 : j ≤ 77 := by have := HJ.out; omega
              have hI0 : (J : Int) < (m : Int) + 4 := by omega
              have hI1 : (J : Int) + 1 < (m : Int) + 4 := by omega
              have hI2 : (J : Int) + 2 < (m : Int) + 4 := by omega
              have hm1 : j + 1 ≤ maxLen := by unfold maxLen; omega
              have hm2 : (j + 1) * 8 ≤ 140737488355328 := by omega
              have hp1 : (0 : Int) ≤ (J : Int) + 1 := by omega
              have hp2 : (0 : Int) ≤ (J : Int) + 2 := by omega
              have hs1 : IntKind.i64.wrap ((J : Int) + 1) = (J : Int) + 1 := IntWalk.i64_in _ (by omega)
              have hs2 : IntKind.i64.wrap ((J : Int) + 2) = (J : Int) + 2 := IntWalk.i64_in _ (by omega)
              have hn1 : ((J : Int) + 1).toNat = J + 1 := by omega
              have hn2 : ((J : Int) + 2).toNat = J + 2 := by omega
              clear hx0 hx1 hx2 en
              go_wp2_with fail
              go_region_law ((refine step_append_own rfl _ _ 22 rfl g2 3 i0 (.int .i64 0) 1 8 Tryd.underlying22 hi0 hz0 hz1 hz2 rfl (by decide) _ j _ rfl (World.ownsRow.alloc HV.out _) _ 1 1 _ rfl rfl (cells_new _ _ _) (by intro u hu; simp at hu; subst hu; rfl) hm1 hm2 (Nat.le_trans hsr (by simp)) ?_; intro v4 w4 hown4 hgrow4))
              all_goals
                clear hs1 hs2 hn1 hn2
                have HO4 : Hid (w4.ownsRow g2 3 1 v4 (j + 1) (ints (decL l (j + 1)))) := Lib.hid (by
                  rw [HN.out, show ints (decL l j ++ [(x0.toNat : Int) * 65536 + (x1.toNat : Int) * 256 + (x2.toNat : Int)]) = ints (decL l j) ++ [I ((x0.toNat : Int) * 65536 + (x1.toNat : Int) * 256 + (x2.toNat : Int))] by simp [ints], ← n3_wrap]
                  exact hown4)
                have hb4 : Below g2 w w4 := ((hbr.alloc hsr _).drew).grown hgrow4 (by simp <;> omega) (fun q hq => (HV.out.lt q hq).1)
                have ka4 : Has w4 g2 45 (frC zeroF) := ((ka.alloc _).drew).grown hgrow4 (own_ne HV.out ka (by decide))
                have HR4 : Hid (Reads w4 g2 (some ⟨bb, oo, none⟩) (bytes l)) := Lib.hid (((HRr.out.alloc hsr _).drew).grown (by simp <;> omega) hgrow4 (fun q hq => (HV.out.lt q hq).1))
                clear hown4 hgrow4 HV ka HRr c0 c1 c2
                go_wp2_with fail
                go_roundw
                case rel => exact ⟨j + 1, J + 3, Lib.hid (by have := HJ.out; omega), by have := HJ.out; have := HQ.out; omega, by go_num, HO4, ka4, HR4, hb4⟩
                case measure => simp [intOf]; omega
            · have hjm : J = m := by omega
              have hjq : j = q := by have := HJ.out; have := HQ.out; omega
              subst hjq
              obtain ⟨A4, c4, rfl, hc4, -, hr4⟩ := own_reads HV.out
              have HLN : Hid ((decL l j).length = j) := Lib.hid (decL_length l j)
              have hj77 : j ≤ 77 := by have := HJ.out; omega
              have hga := ka.lt
              have hmf : ∃ mf mb, made (decL l j) = (mf, mb) := ⟨_, _, rfl⟩
              obtain ⟨mf, mb, hmf⟩ := hmf
              have HMF := Lib.hid hmf
              rw [hmf] at HW HD2
              clear hmf hjm HJ hJ
              have hs4 : Hid ((Tryd.prog.info? 45).map (·.size) = some (frC mf).size) := Lib.hid (refSize _ HW.out.1)
              have hs5 : Hid ((frC zeroF).size = (frC mf).size) := Lib.hid (by rw [frC_size _ HW.out.1]; rfl)
              have hbk := HV.out.lt
              generalize decL l j = ls at *
              go_upto_region 20 with (first
                | (go_at_call 79; refine (made_ok A4 j c4 ls _ HLN.out (by omega) hr4).mono ?_; rintro e w8 ⟨rfl, hb8⟩; rw [HMF.out]
                   have k8 : Has (w8.alloc (.cells #[I 0, I 0, I 0, I 0, I 0, I 0, I 0, I 0, I 0, I 0, I 0, I 0, I 0, I 0, I 0, I 0, I 0, I 0, I 0, I 0, I 0, I 0, I 0] 45)) w8.heap.size 45 (frC zeroF) := by rw [zeroFrameR]; exact Has.new _ _ _)
                | (refine wpList_store_row rfl 45 (.tmp 10) _ rfl w8.heap.size (frC mf) rfl rfl 45 _ k8 hs4.out hs5.out (frC_one _) ?_))
              have kf := (ka.after hb8).alloc (.cells #[I 0, I 0, I 0, I 0, I 0, I 0, I 0, I 0, I 0, I 0, I 0, I 0, I 0, I 0, I 0, I 0, I 0, I 0, I 0, I 0, I 0, I 0, I 0] 45)
              have hg8 : g2 < w8.heap.size := (ka.after hb8).lt
              have hbz := below_setRow ((hbr.trans (hb8.mono (Nat.le_of_lt ka.lt))).alloc (Nat.le_of_lt hg8) (.cells #[I 0, I 0, I 0, I 0, I 0, I 0, I 0, I 0, I 0, I 0, I 0, I 0, I 0, I 0, I 0, I 0, I 0, I 0, I 0, I 0, I 0, I 0, I 0] 45)) (Nat.le_of_lt hg8) (frC mf)
              have k6 := k8.setRow (frC mf)
              have kf2 := kf.farRow (Nat.ne_of_lt hg8) (frC mf)
              clear k8 kf ka hbr hb8 hr4 HV
              generalize (w8.alloc (.cells #[I 0, I 0, I 0, I 0, I 0, I 0, I 0, I 0, I 0, I 0, I 0, I 0, I 0, I 0, I 0, I 0, I 0, I 0, I 0, I 0, I 0, I 0, I 0] 45)).setRow w8.heap.size (frC mf) = wz at *
              generalize w8.heap.size = g8 at *
              cases mb with
              | false =>
                have HD' : Hid (dec l = (3, zeroF)) := Lib.hid (by rw [HD2.out, if_neg (by simp)])
                go_wp2_with (refine wpList_store_row rfl 45 (.tmp 2) _ rfl g2 (frC zeroF) rfl rfl 45 _ kf2 zeroSizeR rfl (frC_one _) ?_)
                exact bodyPost_ret (ret_cell_tmp rfl _ _ _ _ (frC zeroF) _ rfl (kf2.setRow _) Tryd.underlying45 rfl zeroSizeR) rfl ⟨by rw [HD'.out]; rfl, HG.out ▸ below_setRow hbz (Nat.le_refl _) _⟩
              | true =>
                cases hm : mayB mf with
                | true =>
                  have HM := Lib.hid hm
                  have HD' : Hid (dec l = (0, mf)) := Lib.hid (by rw [HD2.out, if_pos ⟨rfl, hm⟩])
                  clear hm
                  go_wp2_with (first
                    | (refine wpList_taken rfl (fun K hK => wp_load_row 45 (.tmp 10) rfl g8 rfl 45 (frC mf) (0, 0) _ k6 Tryd.underlying45 rfl hs4.out (hK _ _ ?_)))
                    | (go_at_call 63; refine (refMay_ok mf HW.out _).mono ?_; rintro e w10 ⟨rfl, hb10⟩; rw [HM.out]; have k7 := k6.after hb10; have kf7 := kf2.after hb10; have hbw := hbz.trans (hb10.mono (Nat.le_of_lt kf2.lt)); clear hb10)
                    | (refine wpList_load_row rfl 45 (.tmp 10) rfl g8 rfl 45 (frC mf) (0, 0) _ k7 Tryd.underlying45 rfl hs4.out ?_)
                    | (refine wpList_store_row rfl 45 (.tmp 2) _ rfl g2 (frC mf) rfl rfl 45 _ kf7 hs4.out hs5.out (frC_one _) ?_))
                  exact bodyPost_ret (ret_cell_tmp rfl _ _ _ _ (frC mf) _ rfl (kf7.setRow _) Tryd.underlying45 rfl hs4.out) rfl ⟨by rw [HD'.out]; rfl, HG.out ▸ below_setRow hbw (Nat.le_refl _) _⟩
                | false =>
                  have HM := Lib.hid hm
                  have HD' : Hid (dec l = (3, zeroF)) := Lib.hid (by rw [HD2.out, if_neg (fun h => by rw [hm] at h; cases h.2)])
                  clear hm
                  go_wp2_with (first
                    | (refine wpList_taken rfl (fun K hK => wp_load_row 45 (.tmp 10) rfl g8 rfl 45 (frC mf) (0, 0) _ k6 Tryd.underlying45 rfl hs4.out (hK _ _ ?_)))
                    | (go_at_call 63; refine (refMay_ok mf HW.out _).mono ?_; rintro e w10 ⟨rfl, hb10⟩; rw [HM.out]; have kf7 := kf2.after hb10; have hbw := hbz.trans (hb10.mono (Nat.le_of_lt kf2.lt)); clear hb10)
                    | (refine wpList_store_row rfl 45 (.tmp 2) _ rfl g2 (frC zeroF) rfl rfl 45 _ kf7 zeroSizeR rfl (frC_one _) ?_))
                  exact bodyPost_ret (ret_cell_tmp rfl _ _ _ _ (frC zeroF) _ rfl (kf7.setRow _) Tryd.underlying45 rfl zeroSizeR) rfl ⟨by rw [HD'.out]; rfl, HG.out ▸ below_setRow hbw (Nat.le_refl _) _⟩
        · have hde3 : ((m : Int) % 3 != 0) = true := by simp; omega
          have HD' : Hid (dec l = (3, zeroF)) := Lib.hid (by rw [HD1.out, if_pos he3])
          clear he3 HD1
          go_wp2_with (first
            | (go_at_call 21; refine (refSum_ok (some ⟨bb, oo, none⟩) m _ (l.take m) _ HT (by omega) HRt.out).mono ?_; rintro e w2 ⟨rfl, rfl⟩)
            | (refine wpList_store_row rfl 45 (.tmp 2) _ rfl g2 (frC zeroF) rfl rfl 45 _ k2 zeroSizeR rfl (frC_one _) ?_))
          exact bodyPost_ret (ret_cell_tmp rfl _ _ _ _ (frC zeroF) _ rfl (k2.setRow _) Tryd.underlying45 rfl zeroSizeR) rfl ⟨by rw [HD'.out]; rfl, HG.out ▸ below_setRow hb (Nat.le_refl _) _⟩
      · have HE := Lib.hid he
        have hde : (((Crc.sum (l.take m)).toNat : Int) != (N : Int)) = true := by simp; omega
        have HD' : Hid (dec l = (15, zeroF)) := Lib.hid (by rw [HD.out, if_pos (fun h => HE.out (HF4.out.1 h))])
        clear he HD HF4
        go_wp2_with (first
          | (go_at_call 21; refine (refSum_ok (some ⟨bb, oo, none⟩) m _ (l.take m) _ HT (by omega) HRt.out).mono ?_; rintro e w2 ⟨rfl, rfl⟩)
          | (refine wpList_store_row rfl 45 (.tmp 2) _ rfl g2 (frC zeroF) rfl rfl 45 _ k2 zeroSizeR rfl (frC_one _) ?_))
        exact bodyPost_ret (ret_cell_tmp rfl _ _ _ _ (frC zeroF) _ rfl (k2.setRow _) Tryd.underlying45 rfl zeroSizeR) rfl ⟨by rw [HD'.out]; rfl, HG.out ▸ below_setRow hb (Nat.le_refl _) _⟩
/-- the reference's Decode of whatever bytes -/
theorem refDecode_ok (A : Option Addr) (n c : Nat) (l : List UInt8) (w : World) (hl : l.length = n) (hc : n ≤ c) (hr : Reads w w.heap.size A (bytes l)) :
    Calls Tryd.prog 25 #[.slice A n c] w fun e w' => e = .returned (.tuple #[.agg (frC (dec l).2), I (dec l).1]) ∧ Below w.heap.size w w' := by
  by_cases h : n < 7 ∨ 80 < n
  · have hd : dec l = (3, zeroF) := by unfold dec; rw [if_pos (by rw [hl]; exact h)]
    rw [hd]
    exact refDecode_size A n c w h
  · obtain ⟨b, o, rfl, _, _⟩ := hr (by rintro h0; have := congrArg List.length h0; rw [bytes_length, hl] at this; simp at this; omega)
    obtain ⟨m, rfl⟩ : ∃ m, n = m + 4 := ⟨n - 4, by omega⟩
    exact refDecode_in b o m c l w (Lib.hid hl) (by omega) (by omega) hc hr
end Go.Proofs.YtdhekhlmdefcnaaDoor
