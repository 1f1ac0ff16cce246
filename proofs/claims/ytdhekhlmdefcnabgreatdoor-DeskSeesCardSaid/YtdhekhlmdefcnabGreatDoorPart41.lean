/- Part 41 of the proof: DkBegOk, DkBegM, DkTrace. -/
import Derived.Test.YtdhekhlmdefcnabGreatDoorPart40
import Derived.Test.YtdhekhlmdefcnabGreatDoorPart38
namespace Go.Proofs.YtdhekhlmdefcnabGreatDoor
open Go.RowKit
section
variable {w : World} {g : Nat} {A : Option Addr} {l : List ByteArray}
set_option maxHeartbeats 4000000 in
set_option maxRecDepth 100000 in
theorem begin_ok {n0 n1 n2 : Int} {rs : List Int} (L : Lay) {B : Nat} {a0 a1 a2 a3 : Value} (h : Has w g 46 #[a0, a1, a2, a3]) (hBg : B ≤ g) (hBw : B ≤ w.heap.size) (hL : Hid (L.Ok ∧ n2 = (L.secs : Int) ∧ rs = zs L.routes ∧ n1 = (L.delay : Int))) (hwin : Hid (1 ≤ n0 ∧ n0 ≤ 20)) (hr : Hid (numsOf l (-4) = some (n0 :: n1 :: n2 :: rs))) (hw : Hid (Words w A l)) (c : Nat) (hs : Hid (Std w)) :
  Calls Tryz.prog 13 #[.pointer (some ⟨g, 0, none⟩), .slice A l.length c] w (fun e w' => e = .returned (.string ⟨#[98, 101, 103, 105, 110]⟩) ∧ ∃ x vr, DkAt w' B g x vr ⟨L, Sys.new n0⟩ ∧ Turned (fun b => b = g) w w' ∧ ∀ b, FS x b → w.heap.size ≤ b) := by
 have HN := Lib.hid (dk_some hw c (-4) (by decide) (by decide) hs hr.out)
 have HRL : Hid (rs.length ≤ 100000) := Lib.hid (by have := numsOf_many hr.out; have h2 := hw.out.many; simp at this; omega)
 have HN4 : Hid (1 ≤ rs.length) := Lib.hid (by have := numsOf_four hr.out; simp at this; omega)
 clear hr hw
 go_enter Tryz.func13, Tryz.ntmps13
 go_upto_region 2 with (go_at_call 27; refine HN.out.mono ?_; rintro e w1 ⟨⟨v, rfl, ho⟩, hb⟩; have HB := Lib.hid hb; have HO := Lib.hid ho; clear hb ho)
 obtain ⟨bn, cb, cs, rfl, hcb, hh, hcs⟩ := own_cells HO.out (by simp)
 have hq0 : w1.cell? ⟨bn, 0, none⟩ = some (I n0) := by rw [hh.cell]; exact hcs 0 _ rfl
 have hq1 : w1.cell? ⟨bn, 1, none⟩ = some (I n1) := by rw [hh.cell]; exact hcs 1 _ rfl
 have hq2 : w1.cell? ⟨bn, 2, none⟩ = some (I n2) := by rw [hh.cell]; exact hcs 2 _ rfl
 have hbl := hh.lt
 have HRS : Hid (∀ (j : Nat) (u : Value), (ints rs)[j]? = some u → cs[3 + j]? = some u) := Lib.hid fun j u hu => hcs (3 + j) u (by rw [show 3 + j = j + 1 + 1 + 1 by omega]; exact hu)
 have HCS := Lib.hid hh
 have HS1 := Lib.hid (hs.out.after HB.out)
 obtain ⟨nl, hnl⟩ : ∃ nl, nl = (n0 :: n1 :: n2 :: rs).length := ⟨_, rfl⟩
 rw [← hnl] at hcb ⊢
 have hn3 : 4 ≤ nl := by rw [hnl]; have := HN4.out; simp; omega
 have hcb3 : ¬ cb = 3 := by omega
 have hi0 : 0 < nl := by omega
 have hi1 : (1 : Int) < (nl : Int) := by omega
 have hi2 : (2 : Int) < (nl : Int) := by rw [hnl]; simp; omega
 have hi3 : (3 : Int) ≤ (nl : Int) := by omega
 have HNL : Hid (nl - 3 = rs.length) := Lib.hid (by rw [hnl]; simp)
 have HCB : Hid (nl ≤ cb) := Lib.hid hcb
 clear hh hcs HO HN hnl hs
 refine region_gen (by kernel_rfl) (fun b0 => b0.tmps.getD 5 undef = .slice (some ⟨bn, 0, none⟩) nl cb ∧ b0.defers = []) ⟨rfl, rfl⟩ 38 rfl (fun _ => 0) (fun (Γ : Unk) i => ([.slice (some ⟨bn, 0, none⟩) nl cb, .pointer (some ⟨bn, 1, none⟩), I n1, .slice (some ⟨bn, 0, none⟩) nl cb, .pointer (some ⟨bn, 2, none⟩), I n2, .slice (some ⟨bn, 0, none⟩) nl cb, .slice (some ⟨bn, 3, none⟩) (nl - 3) (cb - 3), .agg #[I n2, .slice (some ⟨bn, 3, none⟩) (nl - 3) (cb - 3), I n1], .pointer (some ⟨Γ 0, 0, none⟩), undef] : List Value).getD i undef) [10] (by kernel_rfl) (fun i => ([[], [], [], [], [], [], [], [], [], [0], []] : List (List Nat)).getD i []) (fun i => ([[], [], [], [], [], [], [], [], [], [0], []] : List (List Nat)).getD i []) 9 (by kernel_rfl) ?_ (fun j Γ b => ([(fun Γ b => fun wx => Below w1.heap.size w1 wx ∧ (b = true → Has wx (Γ 0) 29 #[I 0, .slice none 0 0, I 0] ∧ w1.heap.size ≤ Γ 0)) Γ b, (fun Γ _ => fun wx => Below w1.heap.size w1 wx ∧ Has wx (Γ 0) 29 #[I n2, .slice (some ⟨bn, 3, none⟩) (nl - 3) (cb - 3), I n1] ∧ w1.heap.size ≤ Γ 0) Γ b] : List (World → Prop)).getD j (fun _ => True)) [11, 12, 13, 14, 15, 16, 17, 18, 19, 6] (by kernel_rfl) (by kernel_rfl) ⟨(Below.refl _ _).drew, fun h => by cases h⟩ ?_ ?_
 ·intro Γ Γ' j hj hu
  have hj2 : j < 11 := hj
  have hcase : j = 0 ∨ j = 1 ∨ j = 2 ∨ j = 3 ∨ j = 4 ∨ j = 5 ∨ j = 6 ∨ j = 7 ∨ j = 8 ∨ j = 9 ∨ j = 10 := by omega
  clear hj hj2
  rcases hcase with rfl | rfl | rfl | rfl | rfl | rfl | rfl | rfl | rfl | rfl | rfl
  ·rfl
  ·rfl
  ·rfl
  ·rfl
  ·rfl
  ·rfl
  ·rfl
  ·rfl
  ·rfl
  ·show (.pointer (some ⟨Γ 0, 0, none⟩) : Value) = .pointer (some ⟨Γ' 0, 0, none⟩); rw [hu 0 (by decide)]
  ·rfl
 ·intro b0 hb0 i o ho
  have hi : i < 11 := (Array.getElem?_eq_some_iff.1 ho).1
  obtain ⟨f5, fdf⟩ := hb0
  have hcase : i = 0 ∨ i = 1 ∨ i = 2 ∨ i = 3 ∨ i = 4 ∨ i = 5 ∨ i = 6 ∨ i = 7 ∨ i = 8 ∨ i = 9 ∨ i = 10 := by omega
  clear hi
  rcases hcase with rfl | rfl | rfl | rfl | rfl | rfl | rfl | rfl | rfl | rfl | rfl
  ·simp only [List.getElem?_toArray, List.getElem?_cons_zero] at ho
   cases ho
   refine .inl ⟨by decide, by decide, fun Γ M => stepA rfl (fun li ac wx H hn hed hM K hk => ?_)⟩
   have e5 : ac.tmps[5]?.getD undef = .slice (some ⟨bn, 0, none⟩) nl cb := slot_at ((H.frm.slot (by decide)).trans f5)
   clear hed H
   go_simp
   exact hk _ hM
  ·simp only [List.getElem?_toArray, List.getElem?_cons_zero, List.getElem?_cons_succ] at ho
   cases ho
   refine .inl ⟨by decide, by decide, fun Γ M => stepA rfl (fun li ac wx H hn hed hM K hk => ?_)⟩
   have e11 : ac.tmps[11]?.getD undef = .slice (some ⟨bn, 0, none⟩) nl cb := slot_at (H.known 0 _ rfl (hed ⟨0, .data⟩ (by simp) rfl) 11 rfl)
   clear hed H
   go_simp
   exact hk _ hM
  ·simp only [List.getElem?_toArray, List.getElem?_cons_zero, List.getElem?_cons_succ] at ho
   cases ho
   refine .inr (.inr (.inr ⟨by decide, by decide, 0, 10, rfl, by kernel_rfl, fun Γ b j hj => ?_⟩))
   have hj2 : j = 0 := by omega
   clear hj
   subst hj2
   ·refine stepA rfl (fun li ac wx H hn hed hM K hk => ?_)
    have e12 : ac.tmps[12]?.getD undef = .pointer (some ⟨bn, 1, none⟩) := slot_at (H.known 1 _ rfl (hed ⟨1, .data⟩ (by simp) rfl) 12 rfl)
    have hM1 : (fun Γ b => fun wx => Below w1.heap.size w1 wx ∧ (b = true → Has wx (Γ 0) 29 #[I 0, .slice none 0 0, I 0] ∧ w1.heap.size ≤ Γ 0)) Γ b wx := hM
    clear hed H
    have c1 := (Below.cell hM1.1 (p := ⟨bn, 1, none⟩) hbl).trans hq1
    go_simp
    exact hk _ hM
  ·simp only [List.getElem?_toArray, List.getElem?_cons_zero, List.getElem?_cons_succ] at ho
   cases ho
   refine .inl ⟨by decide, by decide, fun Γ M => stepA rfl (fun li ac wx H hn hed hM K hk => ?_)⟩
   have e5 : ac.tmps[5]?.getD undef = .slice (some ⟨bn, 0, none⟩) nl cb := slot_at ((H.frm.slot (by decide)).trans f5)
   clear hed H
   go_simp
   exact hk _ hM
  ·simp only [List.getElem?_toArray, List.getElem?_cons_zero, List.getElem?_cons_succ] at ho
   cases ho
   refine .inl ⟨by decide, by decide, fun Γ M => stepA rfl (fun li ac wx H hn hed hM K hk => ?_)⟩
   have e14 : ac.tmps[14]?.getD undef = .slice (some ⟨bn, 0, none⟩) nl cb := slot_at (H.known 3 _ rfl (hed ⟨3, .data⟩ (by simp) rfl) 14 rfl)
   clear hed H
   go_simp
   exact hk _ hM
  ·simp only [List.getElem?_toArray, List.getElem?_cons_zero, List.getElem?_cons_succ] at ho
   cases ho
   refine .inr (.inr (.inr ⟨by decide, by decide, 0, 10, rfl, by kernel_rfl, fun Γ b j hj => ?_⟩))
   have hj2 : j = 0 := by omega
   clear hj
   subst hj2
   ·refine stepA rfl (fun li ac wx H hn hed hM K hk => ?_)
    have e15 : ac.tmps[15]?.getD undef = .pointer (some ⟨bn, 2, none⟩) := slot_at (H.known 4 _ rfl (hed ⟨4, .data⟩ (by simp) rfl) 15 rfl)
    have hM1 : (fun Γ b => fun wx => Below w1.heap.size w1 wx ∧ (b = true → Has wx (Γ 0) 29 #[I 0, .slice none 0 0, I 0] ∧ w1.heap.size ≤ Γ 0)) Γ b wx := hM
    clear hed H
    have c2 := (Below.cell hM1.1 (p := ⟨bn, 2, none⟩) hbl).trans hq2
    go_simp
    exact hk _ hM
  ·simp only [List.getElem?_toArray, List.getElem?_cons_zero, List.getElem?_cons_succ] at ho
   cases ho
   refine .inl ⟨by decide, by decide, fun Γ M => stepA rfl (fun li ac wx H hn hed hM K hk => ?_)⟩
   have e5 : ac.tmps[5]?.getD undef = .slice (some ⟨bn, 0, none⟩) nl cb := slot_at ((H.frm.slot (by decide)).trans f5)
   clear hed H
   go_simp
   exact hk _ hM
  ·simp only [List.getElem?_toArray, List.getElem?_cons_zero, List.getElem?_cons_succ] at ho
   cases ho
   refine .inl ⟨by decide, by decide, fun Γ M => stepA rfl (fun li ac wx H hn hed hM K hk => ?_)⟩
   have e17 : ac.tmps[17]?.getD undef = .slice (some ⟨bn, 0, none⟩) nl cb := slot_at (H.known 6 _ rfl (hed ⟨6, .data⟩ (by simp) rfl) 17 rfl)
   clear hed H
   go_simp
   exact hk _ hM
  ·simp only [List.getElem?_toArray, List.getElem?_cons_zero, List.getElem?_cons_succ] at ho
   cases ho
   refine .inl ⟨by decide, by decide, fun Γ M => stepA rfl (fun li ac wx H hn hed hM K hk => ?_)⟩
   have e13 : ac.tmps[13]?.getD undef = I n1 := slot_at (H.known 2 _ rfl (hed ⟨2, .data⟩ (by simp) rfl) 13 rfl)
   have e16 : ac.tmps[16]?.getD undef = I n2 := slot_at (H.known 5 _ rfl (hed ⟨5, .data⟩ (by simp) rfl) 16 rfl)
   have e18 : ac.tmps[18]?.getD undef = .slice (some ⟨bn, 3, none⟩) (nl - 3) (cb - 3) := slot_at (H.known 7 _ rfl (hed ⟨7, .data⟩ (by simp) rfl) 18 rfl)
   clear hed H
   go_simp
   exact hk _ hM
  ·simp only [List.getElem?_toArray, List.getElem?_cons_zero, List.getElem?_cons_succ] at ho
   cases ho
   refine .inr (.inl ⟨rfl, by decide, 0, 10, rfl, by kernel_rfl, fun Γ j hj => ?_⟩)
   have hj2 : j = 0 := by omega
   clear hj
   subst hj2
   ·refine stepC rfl (fun li ac wx H hn hed hM K hk => ?_)
    have hM1 : (fun Γ b => fun wx => Below w1.heap.size w1 wx ∧ (b = true → Has wx (Γ 0) 29 #[I 0, .slice none 0 0, I 0] ∧ w1.heap.size ≤ Γ 0)) Γ false wx := hM
    clear hed H
    go_simp
    exact hk (Γ.set 0 wx.heap.size) _ (chg1 _ _ _) ⟨Below.alloc hM1.1 hM1.1.size _, fun _ => ⟨Has.new _ _ _, hM1.1.size⟩⟩
  ·simp only [List.getElem?_toArray, List.getElem?_cons_zero, List.getElem?_cons_succ] at ho
   cases ho
   refine .inr (.inr (.inl ⟨by decide, 0, rfl, fun Γ b hba => stepC rfl (fun li ac wx H hn hed hM K hk => ?_)⟩))
   have e6 : ac.tmps[6]?.getD undef = .pointer (some ⟨Γ 0, 0, none⟩) := slot_at (H.known 9 _ rfl (hed ⟨9, .data⟩ (by simp) rfl) 6 rfl)
   have e19 : ac.tmps[19]?.getD undef = .agg #[I n2, .slice (some ⟨bn, 3, none⟩) (nl - 3) (cb - 3), I n1] := slot_at (H.known 8 _ rfl (hed ⟨8, .data⟩ (by simp) rfl) 19 rfl)
   have hM1 : (fun Γ b => fun wx => Below w1.heap.size w1 wx ∧ (b = true → Has wx (Γ 0) 29 #[I 0, .slice none 0 0, I 0] ∧ w1.heap.size ≤ Γ 0)) Γ b wx := hM
   have hdf := Lib.hid (H.frm.defers.trans fdf)
   clear hed H
   have hal := hM1.2 (hba (by kernel_rfl))
   refine wp_store_row 29 (.tmp 6) (.tmp 19) rfl (Γ 0) #[I n2, .slice (some ⟨bn, 3, none⟩) (nl - 3) (cb - 3), I n1] (eval_at e6) (eval_at e19) 29 #[I 0, .slice none 0 0, I 0] hal.1 infoLay rfl (by simp [Value.oneCell']) ?_
   exact hk Γ _ (chg0 Γ) ⟨below_setRow hM1.1 hal.2 _, hal.1.setRow _, hal.2⟩
 ·intro Γ b ac wx hF hK hM0
  have hM : (fun Γ _ => fun wx => Below w1.heap.size w1 wx ∧ Has wx (Γ 0) 29 #[I n2, .slice (some ⟨bn, 3, none⟩) (nl - 3) (cb - 3), I n1] ∧ w1.heap.size ≤ Γ 0) Γ b wx := hM0
  have E6 : ac.tmps.getD 6 undef = .pointer (some ⟨Γ 0, 0, none⟩) := hK 9 _ rfl 6 rfl
  have hMet := hF.meet
  simp only [List.foldl_cons, List.foldl_nil, List.setIfInBounds_toArray, List.set_cons_succ, List.set_cons_zero, E6] at hMet
  generalize ac.tmps.getD 11 undef = v11 at hMet
  generalize ac.tmps.getD 12 undef = v12 at hMet
  generalize ac.tmps.getD 13 undef = v13 at hMet
  generalize ac.tmps.getD 14 undef = v14 at hMet
  generalize ac.tmps.getD 15 undef = v15 at hMet
  generalize ac.tmps.getD 16 undef = v16 at hMet
  generalize ac.tmps.getD 17 undef = v17 at hMet
  generalize ac.tmps.getD 18 undef = v18 at hMet
  generalize ac.tmps.getD 19 undef = v19 at hMet
  clear hF hK hM0 E6
  subst hMet
  obtain ⟨hM1, hM2, hM3⟩ := hM
  have HBX := Lib.hid (HB.out.trans (hM1.mono HB.out.size))
  have HSX := Lib.hid (HS1.out.after hM1)
  have hq0 := (Below.cell hM1 (p := ⟨bn, 0, none⟩) hbl).trans hq0
  have hbl : bn < wx.heap.size := Nat.lt_of_lt_of_le hbl hM1.size
  have HCX := Lib.hid (HCS.out.after hM1)
  have HL := Lib.hid hM2
  have hgl := hM2.lt
  have HRX : Hid (Reads wx wx.heap.size (some ⟨bn, 3, none⟩) (ints rs)) := Lib.hid fun _ => ⟨bn, 3, rfl, hbl, fun j u hu => by rw [HCX.out.cell]; exact HRS.out j u hu⟩
  clear hM1 hM2 hM3 hq1 hq2 HCS HS1 HB
  generalize Γ 0 = gl at *
  go_upto_region 3 with fail
  have HX' : Hid (∀ wy, Below wx.heap.size wx wy → Calls Tryz.prog 7 #[.agg #[I n2, .slice (some ⟨bn, 3, none⟩) (nl - 3) (cb - 3), I n1], I n0] wy fun e w' => (∃ x, e = .returned (.tuple #[.pointer (some ⟨x.g, 0, none⟩), .nilIface]) ∧ SyAt w' wy.heap.size x L (Sys.new n0)) ∧ Below wy.heap.size wy w') := Lib.hid fun wy hb => by
   obtain ⟨h1, h2, h3, h4⟩ := hL.out
   have hrd : Reads wy wy.heap.size (some ⟨bn, 3, none⟩) (ints (zs L.routes)) := by rw [← h3]; exact (HRX.out.below hb).more hb.size
   have hlen : L.routes.length = nl - 3 := by rw [HNL.out, h3, zs_length]
   have h5 := sy_new (some ⟨bn, 3, none⟩) (nl - 3) (cb - 3) L wy h1 (Lib.hid hlen) (by have := HCB.out; omega) hrd n0 hwin.out.1 hwin.out.2
   rw [h2, h4]
   exact h5
  refine region_gen (by kernel_rfl) (fun b0 => b0.tmps.getD 5 undef = .slice (some ⟨bn, 0, none⟩) nl cb ∧ b0.tmps.getD 6 undef = .pointer (some ⟨gl, 0, none⟩) ∧ b0.defers = []) ⟨rfl, rfl, rfl⟩ 38 rfl (fun _ => 0) (fun (Γ : Unk) i => ([.agg #[I n2, .slice (some ⟨bn, 3, none⟩) (nl - 3) (cb - 3), I n1], .slice (some ⟨bn, 0, none⟩) nl cb, .pointer (some ⟨bn, 0, none⟩), I n0, .tuple #[.pointer (some ⟨Γ 0, 0, none⟩), .nilIface], .tuple #[.pointer (some ⟨Γ 0, 0, none⟩), .nilIface], .pointer (some ⟨Γ 0, 0, none⟩), .nilIface, .pointer (some ⟨Γ 0, 0, none⟩), .nilIface] : List Value).getD i undef) [4] (by kernel_rfl) (fun i => ([[], [], [], [], [0], [], [], [], [], []] : List (List Nat)).getD i []) (fun i => ([[], [], [], [], [0], [0], [0], [], [0], []] : List (List Nat)).getD i []) 10 (by kernel_rfl) ?_ (fun j Γ b => ([(fun _ _ => fun wy => Below wx.heap.size wx wy) Γ b, (fun Γ _ => fun wy => Below wx.heap.size wx wy ∧ ∃ x, x.g = Γ 0 ∧ SyAt wy wx.heap.size x L (Sys.new n0)) Γ b] : List (World → Prop)).getD j (fun _ => True)) [21, 22, 23, 24, 25, 20, 26, 27, 7, 8] (by kernel_rfl) (by kernel_rfl) ((Below.refl _ _).drew) ?_ ?_
  ·intro Γ Γ' j hj hu
   have hj2 : j < 10 := hj
   have hcase : j = 0 ∨ j = 1 ∨ j = 2 ∨ j = 3 ∨ j = 4 ∨ j = 5 ∨ j = 6 ∨ j = 7 ∨ j = 8 ∨ j = 9 := by omega
   clear hj hj2
   rcases hcase with rfl | rfl | rfl | rfl | rfl | rfl | rfl | rfl | rfl | rfl
   ·rfl
   ·rfl
   ·rfl
   ·rfl
   ·show (.tuple #[.pointer (some ⟨Γ 0, 0, none⟩), .nilIface] : Value) = .tuple #[.pointer (some ⟨Γ' 0, 0, none⟩), .nilIface]; rw [hu 0 (by decide)]
   ·show (.tuple #[.pointer (some ⟨Γ 0, 0, none⟩), .nilIface] : Value) = .tuple #[.pointer (some ⟨Γ' 0, 0, none⟩), .nilIface]; rw [hu 0 (by decide)]
   ·show (.pointer (some ⟨Γ 0, 0, none⟩) : Value) = .pointer (some ⟨Γ' 0, 0, none⟩); rw [hu 0 (by decide)]
   ·rfl
   ·show (.pointer (some ⟨Γ 0, 0, none⟩) : Value) = .pointer (some ⟨Γ' 0, 0, none⟩); rw [hu 0 (by decide)]
   ·rfl
  ·intro b0 hb0 i o ho
   have hi : i < 10 := (Array.getElem?_eq_some_iff.1 ho).1
   obtain ⟨f5, f6, fdf⟩ := hb0
   have hcase : i = 0 ∨ i = 1 ∨ i = 2 ∨ i = 3 ∨ i = 4 ∨ i = 5 ∨ i = 6 ∨ i = 7 ∨ i = 8 ∨ i = 9 := by omega
   clear hi
   rcases hcase with rfl | rfl | rfl | rfl | rfl | rfl | rfl | rfl | rfl | rfl
   ·simp only [List.getElem?_toArray, List.getElem?_cons_zero] at ho
    cases ho
    refine .inr (.inr (.inr ⟨by decide, by decide, 0, 4, rfl, by kernel_rfl, fun Γ b j hj => ?_⟩))
    have hj2 : j = 0 := by omega
    clear hj
    subst hj2
    ·refine stepA rfl (fun li ac wx' H hn hed hM K hk => ?_)
     have e6 : ac.tmps[6]?.getD undef = .pointer (some ⟨gl, 0, none⟩) := slot_at ((H.frm.slot (by decide)).trans f6)
     have hM1 : (fun _ _ => fun wy => Below wx.heap.size wx wy) Γ b wx' := hM
     clear hed H
     have kl := HL.out.after hM1
     have c0 := kl.cellv 0 _ rfl
     have c1 := kl.cellv 1 _ rfl
     have c2 := kl.cellv 2 _ rfl
     have hgl := kl.lt
     go_simp
     exact hk _ hM
   ·simp only [List.getElem?_toArray, List.getElem?_cons_zero, List.getElem?_cons_succ] at ho
    cases ho
    refine .inl ⟨by decide, by decide, fun Γ M => stepA rfl (fun li ac wx' H hn hed hM K hk => ?_)⟩
    have e5 : ac.tmps[5]?.getD undef = .slice (some ⟨bn, 0, none⟩) nl cb := slot_at ((H.frm.slot (by decide)).trans f5)
    clear hed H
    go_simp
    exact hk _ hM
   ·simp only [List.getElem?_toArray, List.getElem?_cons_zero, List.getElem?_cons_succ] at ho
    cases ho
    refine .inl ⟨by decide, by decide, fun Γ M => stepA rfl (fun li ac wx' H hn hed hM K hk => ?_)⟩
    have e22 : ac.tmps[22]?.getD undef = .slice (some ⟨bn, 0, none⟩) nl cb := slot_at (H.known 1 _ rfl (hed ⟨1, .data⟩ (by simp) rfl) 22 rfl)
    clear hed H
    go_simp
    exact hk _ hM
   ·simp only [List.getElem?_toArray, List.getElem?_cons_zero, List.getElem?_cons_succ] at ho
    cases ho
    refine .inr (.inr (.inr ⟨by decide, by decide, 0, 4, rfl, by kernel_rfl, fun Γ b j hj => ?_⟩))
    have hj2 : j = 0 := by omega
    clear hj
    subst hj2
    ·refine stepA rfl (fun li ac wx' H hn hed hM K hk => ?_)
     have e23 : ac.tmps[23]?.getD undef = .pointer (some ⟨bn, 0, none⟩) := slot_at (H.known 2 _ rfl (hed ⟨2, .data⟩ (by simp) rfl) 23 rfl)
     have hM1 : (fun _ _ => fun wy => Below wx.heap.size wx wy) Γ b wx' := hM
     clear hed H
     have c0 := (Below.cell hM1 (p := ⟨bn, 0, none⟩) hbl).trans hq0
     go_simp
     exact hk _ hM
   ·simp only [List.getElem?_toArray, List.getElem?_cons_zero, List.getElem?_cons_succ] at ho
    cases ho
    refine .inr (.inr (.inl ⟨by decide, 0, rfl, fun Γ b hba => stepC rfl (fun li ac wx' H hn hed hM K hk => ?_)⟩))
    have e21 : ac.tmps[21]?.getD undef = .agg #[I n2, .slice (some ⟨bn, 3, none⟩) (nl - 3) (cb - 3), I n1] := slot_at (H.known 0 _ rfl (hed ⟨0, .data⟩ (by simp) rfl) 21 rfl)
    have e24 : ac.tmps[24]?.getD undef = I n0 := slot_at (H.known 3 _ rfl (hed ⟨3, .data⟩ (by simp) rfl) 24 rfl)
    have hM1 : (fun _ _ => fun wy => Below wx.heap.size wx wy) Γ b wx' := hM
    have hdf := Lib.hid (H.frm.defers.trans fdf)
    clear hed H
    go_simp
    refine (HX'.out wx' hM1).mono ?_
    rintro e w' ⟨⟨x', rfl, hsy⟩, hb⟩
    exact hk (Γ.set 0 x'.g) _ (chg1 _ _ _) ⟨hM1.trans (hb.mono hM1.size), x', rfl, syAt_base hsy hM1.size⟩
   ·simp only [List.getElem?_toArray, List.getElem?_cons_zero, List.getElem?_cons_succ] at ho
    cases ho
    refine .inl ⟨by decide, by decide, fun Γ M => stepA rfl (fun li ac wx' H hn hed hM K hk => ?_)⟩
    have e25 : ac.tmps[25]?.getD undef = .tuple #[.pointer (some ⟨Γ 0, 0, none⟩), .nilIface] := slot_at (H.known 4 _ rfl (hed ⟨4, .data⟩ (by simp) rfl) 25 rfl)
    clear hed H
    go_simp
    exact hk _ hM
   ·simp only [List.getElem?_toArray, List.getElem?_cons_zero, List.getElem?_cons_succ] at ho
    cases ho
    refine .inl ⟨by decide, by decide, fun Γ M => stepA rfl (fun li ac wx' H hn hed hM K hk => ?_)⟩
    have e20 : ac.tmps[20]?.getD undef = .tuple #[.pointer (some ⟨Γ 0, 0, none⟩), .nilIface] := slot_at (H.known 5 _ rfl (hed ⟨5, .data⟩ (by simp) rfl) 20 rfl)
    clear hed H
    go_simp
    exact hk _ hM
   ·simp only [List.getElem?_toArray, List.getElem?_cons_zero, List.getElem?_cons_succ] at ho
    cases ho
    refine .inl ⟨by decide, by decide, fun Γ M => stepA rfl (fun li ac wx' H hn hed hM K hk => ?_)⟩
    have e20 : ac.tmps[20]?.getD undef = .tuple #[.pointer (some ⟨Γ 0, 0, none⟩), .nilIface] := slot_at (H.known 5 _ rfl (hed ⟨5, .data⟩ (by simp) rfl) 20 rfl)
    clear hed H
    go_simp
    exact hk _ hM
   ·simp only [List.getElem?_toArray, List.getElem?_cons_zero, List.getElem?_cons_succ] at ho
    cases ho
    refine .inl ⟨by decide, by decide, fun Γ M => stepA rfl (fun li ac wx' H hn hed hM K hk => ?_)⟩
    have e26 : ac.tmps[26]?.getD undef = .pointer (some ⟨Γ 0, 0, none⟩) := slot_at (H.known 6 _ rfl (hed ⟨6, .data⟩ (by simp) rfl) 26 rfl)
    clear hed H
    go_simp
    exact hk _ hM
   ·simp only [List.getElem?_toArray, List.getElem?_cons_zero, List.getElem?_cons_succ] at ho
    cases ho
    refine .inl ⟨by decide, by decide, fun Γ M => stepA rfl (fun li ac wx' H hn hed hM K hk => ?_)⟩
    have e27 : ac.tmps[27]?.getD undef = .nilIface := slot_at (H.known 7 _ rfl (hed ⟨7, .data⟩ (by simp) rfl) 27 rfl)
    clear hed H
    go_simp
    exact hk _ hM
  ·intro Γ b ac wy hF hK hM0
   have hM : (fun Γ _ => fun wy => Below wx.heap.size wx wy ∧ ∃ x, x.g = Γ 0 ∧ SyAt wy wx.heap.size x L (Sys.new n0)) Γ b wy := hM0
   have E7 : ac.tmps.getD 7 undef = .pointer (some ⟨Γ 0, 0, none⟩) := hK 8 _ rfl 7 rfl
   have E8 : ac.tmps.getD 8 undef = .nilIface := hK 9 _ rfl 8 rfl
   have hMet := hF.meet
   simp only [List.foldl_cons, List.foldl_nil, List.setIfInBounds_toArray, List.set_cons_succ, List.set_cons_zero, E7, E8] at hMet
   generalize ac.tmps.getD 21 undef = v21 at hMet
   generalize ac.tmps.getD 22 undef = v22 at hMet
   generalize ac.tmps.getD 23 undef = v23 at hMet
   generalize ac.tmps.getD 24 undef = v24 at hMet
   generalize ac.tmps.getD 25 undef = v25 at hMet
   generalize ac.tmps.getD 20 undef = v20 at hMet
   generalize ac.tmps.getD 26 undef = v26 at hMet
   generalize ac.tmps.getD 27 undef = v27 at hMet
   clear hF hK hM0 E7 E8
   subst hMet
   obtain ⟨hM1, x, hxg, hsy⟩ := hM
   have HM := Lib.hid hM1
   have HSY := Lib.hid hsy
   have HXG := Lib.hid hxg
   have kl := HL.out.after hM1
   have KD := Lib.hid (((h.after HBX.out)).after hM1)
   have c0 := kl.cellv 0 (I n2) rfl
   have c1 := kl.cellv 1 (.slice (some ⟨bn, 3, none⟩) (nl - 3) (cb - 3)) rfl
   have c2 := kl.cellv 2 (I n1) rfl
   have hgl := kl.lt
   generalize Γ 0 = gx at *
   have d0 := KD.out.cellv 0 a0 rfl
   have d1 := KD.out.cellv 1 a1 rfl
   have d2 := KD.out.cellv 2 a2 rfl
   have d3 := KD.out.cellv 3 a3 rfl
   have f0 := KD.out.free 0
   have f1 := KD.out.free 1
   have f2 := KD.out.free 2
   have f3 := KD.out.free 3
   have hgd := KD.out.lt
   clear hM1 hsy hxg kl
   go_wp2_with (go_at_call 28; refine (must_nil wy).mono ?_; rintro e w3 ⟨rfl, rfl⟩)
   go_ret
   have hn0 : ∀ b, b = g → Own dkT wy b := fun b e => ⟨_, _, e ▸ KD.out, rfl⟩
   have ht : Turned (fun b => b = g) wy ((((wy.setCell ⟨g, 0, none⟩ (I n2)).setCell ⟨g, 1, none⟩ (.slice (some ⟨bn, 3, none⟩) (nl - 3) (cb - 3))).setCell ⟨g, 2, none⟩ (I n1)).setCell ⟨g, 3, none⟩ (.pointer (some ⟨gx, 0, none⟩))) := ((((Turned.refl (fun b => b = g) wy).setCell ⟨g, 0, none⟩ (I n2) (.inl rfl)).setCell ⟨g, 1, none⟩ (.slice (some ⟨bn, 3, none⟩) (nl - 3) (cb - 3)) (.inl rfl)).setCell ⟨g, 2, none⟩ (I n1) (.inl rfl)).setCell ⟨g, 3, none⟩ (.pointer (some ⟨gx, 0, none⟩)) (.inl rfl)
   have hd := (((KD.out.set 0 (I n2)).set 1 (.slice (some ⟨bn, 3, none⟩) (nl - 3) (cb - 3))).set 2 (I n1)).set 3 (.pointer (some ⟨gx, 0, none⟩))
   obtain ⟨h1, h2, h3, h4⟩ := hL.out
   have hll : L.routes.length = nl - 3 := by rw [HNL.out, h3, zs_length]
   have hcn := (HCX.out.after HM.out).keepG ht hn0 rfl
   refine ⟨rfl, x, .slice (some ⟨bn, 3, none⟩) (nl - 3) (cb - 3), ⟨?_, ?_, HSY.out.desk ht hn0 |> (syAt_base · (Nat.le_trans hBw HBX.out.size)), hBg, h1, ?_⟩, ?_, fun b hb => Nat.le_trans HBX.out.size (HSY.out.ge hb)⟩
   ·show Has _ g _ #[I L.secs, _, I L.delay, .pointer (some ⟨x.g, 0, none⟩)]
    rw [HXG.out, ← h2, ← h4]
    exact hd
   ·refine ⟨bn, 3, cb - 3, cs, by rw [← hll], by show L.routes.length ≤ _; omega, hcn, fun j u hu => HRS.out j u (by rw [h3]; exact hu)⟩
   ·exact Nat.le_trans hBw (Nat.le_trans (HBX.out.trans (HM.out.mono HBX.out.size)).size ht.size)
   ·exact (Turned.of_below (HBX.out.trans (HM.out.mono HBX.out.size)) _).trans ht (fun k hk hf => hf)
end
end Go.Proofs.YtdhekhlmdefcnabGreatDoor
namespace Go.Proofs.YtdhekhlmdefcnabGreatDoor
open Go.RowKit
section
variable {w : World} {B g : Nat} {x : SyX} {vr : Value} {d : Dk} {A : Option Addr} {l : List ByteArray}
set_option maxHeartbeats 1000000 in
theorem begin_none (h : DkAt w B g x vr d) (hw : Words w A l) (c : Nat) (hs : Std w) (hr : numsOf l (-4) = none) : Calls Tryz.prog 13 #[.pointer (some ⟨g, 0, none⟩), .slice A l.length c] w (MPost w B g x (d, .err 3)) := by
 have HH := Lib.hid h
 have HN := Lib.hid (dk_none (Lib.hid hw) c (-4) (by decide) (by decide) (Lib.hid hs) hr)
 clear h hw hs hr
 go_enter Tryz.func13, Tryz.ntmps13
 go_wp2_with (go_at_call 27; refine HN.out.mono ?_; rintro e w1 ⟨rfl, hb⟩)
 exact ⟨rfl, MPost.same HH.out hb rfl⟩
theorem m_begin (h : DkAt w B g x vr d) (hw : Words w A l) (c : Nat) (hs : Std w) : Calls Tryz.prog 13 #[.pointer (some ⟨g, 0, none⟩), .slice A l.length c] w (MPost w B g x (does' .begin d l)) := by
 cases hr : numsOf l (-4) with
 | none =>
  have hE : does' .begin d l = (d, .err 3) := by simp only [does', hr]
  rw [hE]
  exact begin_none h hw c hs hr
 | some n =>
  have hE : does' .begin d l = doBegin d n := by simp only [does', hr]
  rw [hE]
  obtain ⟨n0, n1, n2, rs, rfl⟩ : ∃ n0 n1 n2 rs, n = n0 :: n1 :: n2 :: rs := by
   match n, numsOf_four hr with
   | n0 :: n1 :: n2 :: rs, _ => exact ⟨n0, n1, n2, rs, rfl⟩
  have hck : chkOf (n0 :: n1 :: n2 :: rs) = chk n2 rs n1 := rfl
  have ha : at0 (n0 :: n1 :: n2 :: rs) = n0 := rfl
  unfold doBegin
  rw [hck, ha]
  cases hc : chk n2 rs n1 with
  | bare e =>
   refine (begin_bare e (Lib.hid fun bn cb nl wx h1 h2 h3 h4 => ?_) (Lib.hid hr) (Lib.hid hw) c (Lib.hid hs)).mono ?_
   ·have := sy_new_lay n2 n1 (some ⟨bn, 3, none⟩) (cb - 3) rs n0 wx (by omega) (by omega) h4 (Lib.hid (by rw [hc]; intro hh; cases hh))
    rw [← h1, hc] at this
    refine this.mono ?_
    rintro e w' ⟨⟨v, rfl, rfl⟩, hb⟩
    exact ⟨rfl, hb⟩
   ·rintro e w' ⟨rfl, hb⟩
    exact MPost.same h hb rfl
  | place e p =>
   refine (begin_at e p (Lib.hid fun bn cb nl wx h1 h2 h3 h4 => ?_) (Lib.hid hr) (Lib.hid hw) c (Lib.hid hs)).mono ?_
   ·have := sy_new_lay n2 n1 (some ⟨bn, 3, none⟩) (cb - 3) rs n0 wx (by omega) (by omega) h4 (Lib.hid (by rw [hc]; intro hh; cases hh))
    rw [← h1, hc] at this
    refine this.mono ?_
    rintro e w' ⟨⟨v, rfl, b, _, rfl, hb2⟩, hb⟩
    exact ⟨⟨b, rfl, hb2⟩, hb⟩
   ·rintro e w' ⟨rfl, hb⟩
    exact MPost.same h hb rfl
  | ok =>
   by_cases hwin : 1 ≤ n0 ∧ n0 ≤ 20
   ·obtain ⟨L, hL, rfl, rfl, rfl⟩ := lay_of_chk hc
    refine (begin_ok L h.has h.low h.hB (Lib.hid ⟨hL, rfl, rfl, rfl⟩) (Lib.hid hwin) (Lib.hid hr) (Lib.hid hw) c (Lib.hid hs)).mono ?_
    rintro e w' ⟨rfl, x', vr', hd, ht, hf⟩
    have hlo : layOf (n0 :: (L.delay : Int) :: (L.secs : Int) :: zs L.routes) = L := by
     show (⟨Int.toNat (L.secs : Int), (zs L.routes).map Int.toNat, Int.toNat (L.delay : Int)⟩ : Lay) = L
     have : (zs L.routes).map Int.toNat = L.routes := by
      unfold zs
      rw [List.map_map]
      exact (List.map_congr_left (g := id) fun _ _ => rfl).trans (List.map_id _)
     rw [this]
     rfl
    rw [hlo]
    show MPost w B g x (if 1 ≤ n0 ∧ n0 ≤ 20 then _ else _) _ _
    rw [if_pos hwin]
    refine ⟨rfl, x', vr', hd, ht.mono fun k _ hk => .inl hk, fun b hb => ?_⟩
    rcases hb with rfl | hb
    ·exact .inl (.inl rfl)
    ·exact .inr (hf b hb)
   ·show Calls _ _ _ _ (MPost w B g x (if 1 ≤ n0 ∧ n0 ≤ 20 then _ else _))
    rw [if_neg hwin]
    refine (begin_bare 2 (Lib.hid fun bn cb nl wx h1 h2 h3 h4 => ?_) (Lib.hid hr) (Lib.hid hw) c (Lib.hid hs)).mono ?_
    ·have := sy_new_win n2 n1 (some ⟨bn, 3, none⟩) (cb - 3) rs n0 wx (by omega) (by omega) h4 (Lib.hid hc) hwin
     rw [← h1] at this
     exact this
    ·rintro e w' ⟨rfl, hb⟩
     exact MPost.same h hb rfl
end
end Go.Proofs.YtdhekhlmdefcnabGreatDoor
namespace Go.Proofs.YtdhekhlmdefcnabGreatDoor
open Go.RowKit
theorem cmsC_at : ∀ (l : List Cm) (i : Nat) (c : Cm), l[i]? = some c → (cmsC l)[i * 3]? = some (I c.1) ∧ (cmsC l)[i * 3 + 1]? = some (I c.2.1) ∧ (cmsC l)[i * 3 + 2]? = some (I c.2.2)
 | [], i, c, h => by simp at h
 | a :: l, 0, c, h => by
  have e : a = c := by simpa using h
  subst e
  exact ⟨rfl, rfl, rfl⟩
 | a :: l, i + 1, c, h => by
  have ih := cmsC_at l i c (by simpa using h)
  have e : cmsC (a :: l) = I a.1 :: I a.2.1 :: I a.2.2 :: cmsC l := rfl
  rw [e, show (i + 1) * 3 = i * 3 + 1 + 1 + 1 by omega]
  exact ih
theorem own_cms {w : World} {base : Nat} {v : Value} {l : List Cm} (h : w.ownsRow base 42 3 v l.length (cmsC l)) : ∃ A c, v = .slice A l.length c ∧ l.length ≤ c ∧ ∀ i cm, l[i]? = some cm → ∃ b, A = some ⟨b, 0, none⟩ ∧ b < w.heap.size ∧ w.cell? ⟨b, i * 3, none⟩ = some (I cm.1) ∧ w.cell? ⟨b, i * 3 + 1, none⟩ = some (I cm.2.1) ∧ w.cell? ⟨b, i * 3 + 2, none⟩ = some (I cm.2.2) := by
 rcases h.2 with ⟨rfl, hn⟩ | ⟨g, cap, cur, rfl, _, hh, hc, _, _, ht⟩
 ·refine ⟨none, 0, by rw [hn], by omega, fun i cm hi => ?_⟩
  have := (List.getElem?_eq_some_iff.1 hi).1
  omega
 ·refine ⟨_, _, rfl, hc, fun i cm hi => ⟨g, rfl, (Array.getElem?_eq_some_iff.1 hh).1, ?_⟩⟩
  have kg : Has w g 42 cur := hh
  have hil := (List.getElem?_eq_some_iff.1 hi).1
  obtain ⟨a0, a1, a2⟩ := cmsC_at l i cm hi
  have get : ∀ j u, j < l.length * 3 → (cmsC l)[j]? = some u → w.cell? ⟨g, j, none⟩ = some u := fun j u hj hu => by
   rw [← ht, List.getElem?_take, if_pos hj] at hu
   rw [kg.cell]
   simpa using hu
  exact ⟨get _ _ (by omega) a0, get _ _ (by omega) a1, get _ _ (by omega) a2⟩
def cmTs (l : List Cm) : List ByteArray := l.map fun c => ⟨(cmText c).toArray⟩
theorem cmTs_data (l : List Cm) : (cmTs l).map (·.data.toList) = l.map cmText := by simp [cmTs]
theorem cmText_le {c : Cm} (h : Cm64 c) : (cmText c).length ≤ 66 := by
 unfold cmText joinI
 refine Nat.le_trans (join_le 21 [32] _ (fun y hy => ?_)) (by simp)
 obtain ⟨z, hz, rfl⟩ := List.mem_map.1 hy
 obtain ⟨h1, h2, h3⟩ := h
 have : I64 z := by
  simp at hz
  rcases hz with rfl | rfl | rfl <;> assumption
 exact Lib.itoa_length_le z this.1 this.2
section
variable {w : World} {B g : Nat} {x : SyX} {vr : Value} {d : Dk} {T : Nat} {A : Option Addr} {l : List ByteArray}
set_option maxHeartbeats 4000000 in
set_option maxRecDepth 100000 in
theorem m_trace (h : DkAt w B g x vr d) (hf : Fine T d.s) (hw : Words w A l) (c : Nat) (hs : Std w) : Calls Tryz.prog 66 #[.pointer (some ⟨g, 0, none⟩), .slice A l.length c] w (MPost w B g x (does' .trace d l)) := by
 have HH := Lib.hid h
 have HW := Lib.hid hw
 have HS := Lib.hid hs
 have HF := Lib.hid hf
 clear h hw hs hf
 cases hr : numsOf l 0 with
 | none =>
  have HE : Hid (does' .trace d l = (d, .err 3)) := Lib.hid (by simp only [does', hr])
  rw [HE.out]
  have HN := Lib.hid (dk_none HW c 0 (by decide) (by decide) HS hr)
  clear hr HE
  go_enter Tryz.func66, Tryz.ntmps66
  go_wp2_with (go_at_call 27; refine HN.out.mono ?_; rintro e w1 ⟨rfl, hb⟩)
  exact ⟨rfl, MPost.same HH.out hb rfl⟩
 | some n =>
  have HE : Hid (does' .trace d l = (d, .txt (Lib.join (d.s.v.trace.map cmText) [44, 32]))) := Lib.hid (by simp only [does', hr])
  rw [HE.out]
  have HN := Lib.hid (dk_zero HW c HS hr)
  clear hr HE
  obtain ⟨i0, hi0, hz0, hz1, hz2⟩ := info_parts infoStr
  go_enter Tryz.func66, Tryz.ntmps66
  go_upto_region 2 with (go_at_call 27; refine HN.out.mono ?_; rintro e w1 ⟨⟨v, rfl⟩, hb⟩; have HB := Lib.hid hb; clear hb)
  have H1 := Lib.hid (HH.out.after HB.out)
  have HS1 := Lib.hid (HS.out.after HB.out)
  have hc3 := H1.out.c3
  have hg := H1.out.has.lt
  have hn := HF.out.vo.many
  have HM := Lib.hid hn
  have HT : Hid (∀ c ∈ d.s.v.trace, Cm64 c) := Lib.hid HF.out.trace
  have HTR := Lib.hid (sy_trace H1.out.sys hn)
  have HDF : Hid (∀ w', Below w.heap.size w w' → MPost w B g x (d, .txt (Lib.join (d.s.v.trace.map cmText) [44, 32])) (ansE (.txt (Lib.join (d.s.v.trace.map cmText) [44, 32]))) w') := Lib.hid (fun w' hb => MPost.same HH.out hb rfl)
  generalize d.s.v.trace = tr at *
  clear hn HF
  go_wp2_with (go_at_call 12; refine HTR.out.mono ?_; rintro e w2 ⟨⟨vr2, rfl, ho⟩, hb2⟩; obtain ⟨A2, c2, rfl, hcc, hget⟩ := own_cms ho; have HG := Lib.hid hget; have HB2 : Hid (Below w.heap.size w w2) := Lib.hid (HB.out.trans (hb2.mono HB.out.size)); have HS2 := Lib.hid (HS1.out.after hb2); clear ho hb2 hget hc3)
  clear hg
  go_loopw [5, 16] (fun v iv wr => ∃ i : Nat, i ≤ tr.length ∧ iv = I i ∧ Hid (wr.ownsRow w2.heap.size 9 1 v i (strs (cmTs (tr.take i)))) ∧ Hid (Below w2.heap.size w2 wr)) (fun _ iv _ => tr.length - (intOf iv).toNat)
  case atStart => exact ⟨0, Nat.zero_le _, rfl, Lib.hid (by simpa [cmTs] using World.ownsRow_nil _ _ _ _), Lib.hid (Below.refl _ _)⟩
  case round =>
   obtain ⟨i, hi, rfl, HO, HW⟩ := hrel
   by_cases hlt : i < tr.length
   ·obtain ⟨cm, hcm⟩ := some_at tr i hlt
    obtain ⟨b, rfl, hbb, c0, c1, c2⟩ := HG.out i _ hcm
    have k0 := (Below.cell HW.out (p := ⟨b, i * 3, none⟩) hbb).trans c0
    have k1 := (Below.cell HW.out (p := ⟨b, i * 3 + 1, none⟩) hbb).trans c1
    have k2 := (Below.cell HW.out (p := ⟨b, i * 3 + 2, none⟩) hbb).trans c2
    have hbr := Nat.lt_of_lt_of_le hbb HW.out.size
    have hii : (i : Int) < (tr.length : Int) := by omega
    have h64 := HT.out cm (List.mem_of_getElem? hcm)
    have HLT := Lib.hid hlt
    have HE : Hid (strs (cmTs (tr.take (i + 1))) = strs (cmTs (tr.take i)) ++ [.string ⟨(cmText cm).toArray⟩]) := Lib.hid (by
     rw [List.take_add_one, hcm]
     simp [cmTs])
    obtain ⟨x0, x1, x2⟩ := cm
    have HJ : Hid (∀ (bb : Nat) (cc : Nat) (wx : World), Has wx bb 3 #[I x0, I x1, I x2] → Below w2.heap.size w2 wx → Calls Tryz.prog 89 #[.slice (some ⟨bb, 0, none⟩) 3 cc] wx fun e w' => e = .returned (.string ⟨(cmText (x0, x1, x2)).toArray⟩) ∧ Below wx.heap.size wx w') := Lib.hid (fun bb cc wx hh hb => dk_join (some ⟨bb, 0, none⟩) cc [x0, x1, x2] (by simp) (fun y hy => by
     obtain ⟨h1, h2, h3⟩ := h64
     simp at hy
     rcases hy with rfl | rfl | rfl <;> assumption) wx (Reads.of_has hh hh.lt) (Lib.hid (HS2.out.after hb)))
    clear h64 c0 c1 c2 hcm hbb hlt hi
    generalize (⟨(cmText (x0, x1, x2)).toArray⟩ : ByteArray) = sv at *
    dsimp only at k0 k1 k2
    go_upto_region 6 with fail
    have kh := Has.new wr 42 #[I x0, I x1, I x2]
    have kl : wr.heap.size < (wr.alloc (.cells #[I x0, I x1, I x2] 42)).heap.size := by simp
    have KB : Hid (Below w2.heap.size w2 (wr.alloc (.cells #[I x0, I x1, I x2] 42))) := Lib.hid (HW.out.alloc HW.out.size _)
    have KO := Lib.hid (World.ownsRow.alloc HO.out (.cells #[I x0, I x1, I x2] 42))
    have kc0 := kh.cellv 0 _ rfl
    have kc1 := kh.cellv 1 _ rfl
    have kc2 := kh.cellv 2 _ rfl
    clear kh k0 k1 k2 hbr HO HW HG
    generalize (wr.alloc (.cells #[I x0, I x1, I x2] 42)) = wa at *
    generalize wr.heap.size = ga at *
    go_upto_region 7 with (first
     | (go_at_call 89; refine (HJ.out wa.heap.size 3 _ (Has.new _ _ _) (KB.out.alloc KB.out.size _)).mono ?_; rintro e w3 ⟨rfl, hb3⟩; have HW3 : Hid (Below w2.heap.size w2 w3) := Lib.hid ((KB.out.alloc KB.out.size _).trans (hb3.mono (KB.out.alloc KB.out.size _).size)); have HO3 := Lib.hid (own_after (World.ownsRow.alloc KO.out _) hb3); clear hb3 kc0 kc1 kc2)
     | (at_builtin; refine wpList_append_own _ rfl _ _ 48 rfl w2.heap.size 9 i0 (.string ⟨#[]⟩) 1 16 Tryz.underlying48 hi0 hz0 hz1 hz2 rfl (by decide) _ _ _ rfl (World.ownsRow.alloc HO3.out _) ⟨w3.heap.size, 0, none⟩ 1 1 [.string sv] rfl rfl (cell_one_new _ _ _) (fun u hu => by rw [List.mem_singleton.1 hu]; rfl) ?c3 ?c4 ?c5 ?_))
    case c3 => have hm : tr.length ≤ 1000 := HM.out; have hl : i < tr.length := HLT.out; unfold maxLen; omega
    case c4 => have hm : tr.length ≤ 1000 := HM.out; have hl : i < tr.length := HLT.out; omega
    case c5 => have := HW3.out.size; simp; omega
    intro v' w' hown' hgrow _
    have HW4 : Hid (Below w2.heap.size w2 w') := Lib.hid ((HW3.out.alloc HW3.out.size _).grown hgrow (by have := HW3.out.size; simp; omega) (fun q hq => (HO3.out.lt q hq).1))
    have HO4 : Hid (w'.ownsRow w2.heap.size 9 1 v' (i + 1) (strs (cmTs (tr.take (i + 1))))) := Lib.hid (by
     rw [HE.out]
     exact hown')
    clear hown' hgrow HO3 HE HW3
    have hm : tr.length ≤ 1000 := HM.out
    have hl : i < tr.length := HLT.out
    go_wp2_with fail
    go_roundw
    case rel => exact ⟨i + 1, HLT.out, by go_num, HO4, HW4⟩
    case measure => have := HLT.out; simp [intOf]; omega
   ·have hil : i = tr.length := by omega
    subst hil
    have hlen : (cmTs tr).length = tr.length := by simp [cmTs]
    have HO2 : Hid (wr.ownsRow w2.heap.size 9 1 _ (cmTs tr).length (strs (cmTs tr))) := Lib.hid (by
     have := HO.out
     rw [List.take_of_length_le (Nat.le_refl _)] at this
     rw [hlen]
     exact this)
    have HJ := Lib.hid (joined ⟨#[44, 32]⟩ 66 HO2.out (fun y hy => by
     obtain ⟨z, hz, rfl⟩ := List.mem_map.1 hy
     exact cmText_le (HT.out z hz)) (by decide) (by rw [hlen]; have := HM.out; omega) (by decide))
    have e2 : Lib.join ((cmTs tr).map (·.data.toList)) (⟨#[44, 32]⟩ : ByteArray).data.toList = Lib.join (tr.map cmText) [44, 32] := by rw [cmTs_data]
    rw [e2] at HJ
    clear e2 HO
    go_wp2_with (go_at_call 101; refine HJ.out.mono ?_; rintro e w3 ⟨rfl, hb3⟩)
    go_ret
    exact HDF.out _ (HB2.out.trans ((HW.out.trans (hb3.mono HW.out.size)).mono HB2.out.size))
end
end Go.Proofs.YtdhekhlmdefcnabGreatDoor
