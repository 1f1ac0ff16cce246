/- Part 42 of the proof: DkRep, DkAll, DkCatch. -/
import Derived.Test.YtdhekhlmdefcnabGreatDoorPart39
import Derived.Test.YtdhekhlmdefcnabGreatDoorPart35
import Derived.Test.YtdhekhlmdefcnabGreatDoorPart41
import Derived.Recover
import Derived.Lib.ItoaLen
import Derived.Laws.Pointers
namespace Go.Proofs.YtdhekhlmdefcnabGreatDoor
open Go.RowKit
section
variable {w : World} {B g : Nat} {x : SyX} {vr : Value} {d : Dk} {T : Nat} {A : Option Addr} {l : List ByteArray}
set_option maxHeartbeats 4000000 in
set_option maxRecDepth 100000 in
theorem m_replica (h : DkAt w B g x vr d) (hf : Fine T d.s) (_hT : T ≤ 9900000000) (hw : Words w A l) (c : Nat) (hs : Std w) : Calls Tryz.prog 62 #[.pointer (some ⟨g, 0, none⟩), .slice A l.length c] w (MPost w B g x (does' .replica d l)) := by
 have HH := Lib.hid h
 have HW := Lib.hid hw
 have HS := Lib.hid hs
 have HF := Lib.hid hf
 have hc3 := h.c3
 have hg := h.has.lt
 clear h hw hs hf
 cases hr : numsOf l 1 with
 | none =>
  have HE : Hid (does' .replica d l = (d, .err 3)) := Lib.hid (by simp only [does', hr])
  rw [HE.out]
  have HN := Lib.hid (fun w1 (hb : Below w.heap.size w w1) => dk_none (wd_after HW hb) c 1 (by decide) (by decide) (st_after HS hb) hr)
  clear hr HE
  go_enter Tryz.func62, Tryz.ntmps62
  go_upto_region 1 with fail
  refine region_gen (by kernel_rfl) (fun b0 => b0.tmps.getD 0 undef = .pointer (some ⟨g, 0, none⟩) ∧ b0.tmps.getD 1 undef = .slice A l.length c ∧ b0.defers = []) ⟨rfl, rfl, rfl⟩ 28 rfl (fun _ => 0) (fun (Γ : Unk) i => ([.pointer (some ⟨g, 0, none⟩), .pointer (some ⟨g, 0, none⟩), .pointer (some ⟨g, 3, none⟩), .pointer (some ⟨x.g, 0, none⟩), .slice A l.length c, .slice (some ⟨Γ 0, 0, none⟩) 1 (Γ 1), .pointer (some ⟨Γ 0, 0, none⟩), I 0, .tuple #[I 0, I 0, I 0], .tuple #[I 0, I 0, I 0], I 0, I 0, I 0, .pointer (some ⟨Γ 2, 0, none⟩), I 0, undef, I 0] : List Value).getD i undef) [5, 7, 8, 15] (by kernel_rfl) (fun i => ([[], [], [], [], [], [0, 1], [], [], [], [], [], [], [], [2], [], [], []] : List (List Nat)).getD i []) (fun i => ([[], [], [], [], [], [0, 1], [0], [], [], [], [], [], [], [2], [], [], []] : List (List Nat)).getD i []) 13 (by kernel_rfl) ?_ (fun j Γ b => ([(fun Γ b => fun wx => Below w.heap.size w wx ∧ (b = true → Has wx (Γ 2) 100 #[I 0, I 0, I 0, I 0, I 0, I 0, I 0, I 0, I 0, I 0, I 0, I 0, I 0, I 0, I 0, I 0, I 0] ∧ w.heap.size ≤ Γ 2)) Γ b, (fun _ _ => fun _ => False) Γ b, (fun _ _ => fun _ => False) Γ b, (fun _ _ => fun _ => False) Γ b, (fun _ _ => fun _ => False) Γ b] : List (World → Prop)).getD j (fun _ => True)) [9, 10, 11, 12, 13, 14, 15, 16, 17, 8, 18, 19, 20, 6, 5, 7] (by kernel_rfl) (by kernel_rfl) ⟨(Below.refl _ _).drew, fun h => by cases h⟩ ?_ ?_
  ·intro Γ Γ' j hj hu
   have hj2 : j < 17 := hj
   have hcase : j = 0 ∨ j = 1 ∨ j = 2 ∨ j = 3 ∨ j = 4 ∨ j = 5 ∨ j = 6 ∨ j = 7 ∨ j = 8 ∨ j = 9 ∨ j = 10 ∨ j = 11 ∨ j = 12 ∨ j = 13 ∨ j = 14 ∨ j = 15 ∨ j = 16 := by omega
   clear hj hj2
   rcases hcase with rfl | rfl | rfl | rfl | rfl | rfl | rfl | rfl | rfl | rfl | rfl | rfl | rfl | rfl | rfl | rfl | rfl
   ·rfl
   ·rfl
   ·rfl
   ·rfl
   ·rfl
   ·show (.slice (some ⟨Γ 0, 0, none⟩) 1 (Γ 1) : Value) = .slice (some ⟨Γ' 0, 0, none⟩) 1 (Γ' 1); rw [hu 0 (by decide), hu 1 (by decide)]
   ·show (.pointer (some ⟨Γ 0, 0, none⟩) : Value) = .pointer (some ⟨Γ' 0, 0, none⟩); rw [hu 0 (by decide)]
   ·rfl
   ·rfl
   ·rfl
   ·rfl
   ·rfl
   ·rfl
   ·show (.pointer (some ⟨Γ 2, 0, none⟩) : Value) = .pointer (some ⟨Γ' 2, 0, none⟩); rw [hu 2 (by decide)]
   ·rfl
   ·rfl
   ·rfl
  ·intro b0 hb0 i o ho
   have hi : i < 17 := (Array.getElem?_eq_some_iff.1 ho).1
   obtain ⟨f0, f1, fdf⟩ := hb0
   have hcase : i = 0 ∨ i = 1 ∨ i = 2 ∨ i = 3 ∨ i = 4 ∨ i = 5 ∨ i = 6 ∨ i = 7 ∨ i = 8 ∨ i = 9 ∨ i = 10 ∨ i = 11 ∨ i = 12 ∨ i = 13 ∨ i = 14 ∨ i = 15 ∨ i = 16 := by omega
   clear hi
   rcases hcase with rfl | rfl | rfl | rfl | rfl | rfl | rfl | rfl | rfl | rfl | rfl | rfl | rfl | rfl | rfl | rfl | rfl
   ·simp only [List.getElem?_toArray, List.getElem?_cons_zero] at ho
    cases ho
    refine .inl ⟨by decide, by decide, fun Γ M => stepA rfl (fun li ac wx H hn hed hM K hk => ?_)⟩
    have e0 : ac.tmps[0]?.getD undef = .pointer (some ⟨g, 0, none⟩) := slot_at ((H.frm.slot (by decide)).trans f0)
    clear hed H
    go_simp
    exact hk _ hM
   ·simp only [List.getElem?_toArray, List.getElem?_cons_zero, List.getElem?_cons_succ] at ho
    cases ho
    refine .inl ⟨by decide, by decide, fun Γ M => stepA rfl (fun li ac wx H hn hed hM K hk => ?_)⟩
    have e9 : ac.tmps[9]?.getD undef = .pointer (some ⟨g, 0, none⟩) := slot_at (H.known 0 _ rfl (hed ⟨0, .data⟩ (by simp) rfl) 9 rfl)
    clear hed H
    go_simp
    exact hk _ hM
   ·simp only [List.getElem?_toArray, List.getElem?_cons_zero, List.getElem?_cons_succ] at ho
    cases ho
    refine .inl ⟨by decide, by decide, fun Γ M => stepA rfl (fun li ac wx H hn hed hM K hk => ?_)⟩
    have e10 : ac.tmps[10]?.getD undef = .pointer (some ⟨g, 0, none⟩) := slot_at (H.known 1 _ rfl (hed ⟨1, .data⟩ (by simp) rfl) 10 rfl)
    clear hed H
    go_simp
    exact hk _ hM
   ·simp only [List.getElem?_toArray, List.getElem?_cons_zero, List.getElem?_cons_succ] at ho
    cases ho
    refine .inr (.inr (.inr ⟨by decide, by decide, 2, 8, rfl, by kernel_rfl, fun Γ b j hj => ?_⟩))
    have hj2 : j = 0 ∨ j = 1 ∨ j = 2 := by omega
    clear hj
    rcases hj2 with rfl | rfl | rfl
    ·refine stepA rfl (fun li ac wx H hn hed hM K hk => ?_)
     have e11 : ac.tmps[11]?.getD undef = .pointer (some ⟨g, 3, none⟩) := slot_at (H.known 2 _ rfl (hed ⟨2, .data⟩ (by simp) rfl) 11 rfl)
     have hM1 : (fun Γ b => fun wx => Below w.heap.size w wx ∧ (b = true → Has wx (Γ 2) 100 #[I 0, I 0, I 0, I 0, I 0, I 0, I 0, I 0, I 0, I 0, I 0, I 0, I 0, I 0, I 0, I 0, I 0] ∧ w.heap.size ≤ Γ 2)) Γ b wx := hM
     clear hed H
     first | exact hM1.elim | (have hMb : Below w.heap.size w wx := (by first | exact hM1.1 | exact hM1.1.1); have c3 := (Below.cell hMb (p := ⟨g, 3, none⟩) hg).trans hc3; clear hMb; go_simp; exact hk _ hM)
    ·refine stepA rfl (fun li ac wx H hn hed hM K hk => ?_)
     have e11 : ac.tmps[11]?.getD undef = .pointer (some ⟨g, 3, none⟩) := slot_at (H.known 2 _ rfl (hed ⟨2, .data⟩ (by simp) rfl) 11 rfl)
     have hM1 : (fun _ _ => fun _ => False) Γ b wx := hM
     clear hed H
     first | exact hM1.elim | (have hMb : Below w.heap.size w wx := (by first | exact hM1.1 | exact hM1.1.1); have c3 := (Below.cell hMb (p := ⟨g, 3, none⟩) hg).trans hc3; clear hMb; go_simp; exact hk _ hM)
    ·refine stepA rfl (fun li ac wx H hn hed hM K hk => ?_)
     have e11 : ac.tmps[11]?.getD undef = .pointer (some ⟨g, 3, none⟩) := slot_at (H.known 2 _ rfl (hed ⟨2, .data⟩ (by simp) rfl) 11 rfl)
     have hM1 : (fun _ _ => fun _ => False) Γ b wx := hM
     clear hed H
     first | exact hM1.elim | (have hMb : Below w.heap.size w wx := (by first | exact hM1.1 | exact hM1.1.1); have c3 := (Below.cell hMb (p := ⟨g, 3, none⟩) hg).trans hc3; clear hMb; go_simp; exact hk _ hM)
   ·simp only [List.getElem?_toArray, List.getElem?_cons_zero, List.getElem?_cons_succ] at ho
    cases ho
    refine .inl ⟨by decide, by decide, fun Γ M => stepA rfl (fun li ac wx H hn hed hM K hk => ?_)⟩
    have e1 : ac.tmps[1]?.getD undef = .slice A l.length c := slot_at ((H.frm.slot (by decide)).trans f1)
    clear hed H
    go_simp
    exact hk _ hM
   ·simp only [List.getElem?_toArray, List.getElem?_cons_zero, List.getElem?_cons_succ] at ho
    cases ho
    refine .inr (.inr (.inl ⟨by decide, 0, rfl, fun Γ b hba => stepC rfl (fun li ac wx H hn hed hM K hk => ?_)⟩))
    have e13 : ac.tmps[13]?.getD undef = .slice A l.length c := slot_at (H.known 4 _ rfl (hed ⟨4, .data⟩ (by simp) rfl) 13 rfl)
    have hM1 : (fun Γ b => fun wx => Below w.heap.size w wx ∧ (b = true → Has wx (Γ 2) 100 #[I 0, I 0, I 0, I 0, I 0, I 0, I 0, I 0, I 0, I 0, I 0, I 0, I 0, I 0, I 0, I 0, I 0] ∧ w.heap.size ≤ Γ 2)) Γ b wx := hM
    have hdf := Lib.hid (H.frm.defers.trans fdf)
    clear hed H
    go_simp
    refine (HN.out wx hM1.1).mono ?_
    rintro e w' ⟨rfl, hb⟩
    exact ⟨hdf.out, MPost.same HH.out (hM1.1.trans (hb.mono hM1.1.size)) rfl⟩
   ·simp only [List.getElem?_toArray, List.getElem?_cons_zero, List.getElem?_cons_succ] at ho
    cases ho
    refine .inl ⟨by decide, by decide, fun Γ M => stepA rfl (fun li ac wx H hn hed hM K hk => ?_)⟩
    have e14 : ac.tmps[14]?.getD undef = .slice (some ⟨Γ 0, 0, none⟩) 1 (Γ 1) := slot_at (H.known 5 _ rfl (hed ⟨5, .data⟩ (by simp) rfl) 14 rfl)
    clear hed H
    go_simp
    exact hk _ hM
   ·simp only [List.getElem?_toArray, List.getElem?_cons_zero, List.getElem?_cons_succ] at ho
    cases ho
    refine .inr (.inr (.inl ⟨by decide, 1, rfl, fun Γ b hba => stepC rfl (fun li ac wx H hn hed hM K hk => ?_)⟩))
    have e15 : ac.tmps[15]?.getD undef = .pointer (some ⟨Γ 0, 0, none⟩) := slot_at (H.known 6 _ rfl (hed ⟨6, .data⟩ (by simp) rfl) 15 rfl)
    have hM1 : (fun _ _ => fun _ => False) Γ b wx := hM
    have hdf := Lib.hid (H.frm.defers.trans fdf)
    clear hed H
    exact hM1.elim
   ·simp only [List.getElem?_toArray, List.getElem?_cons_zero, List.getElem?_cons_succ] at ho
    cases ho
    refine .inr (.inr (.inl ⟨by decide, 2, rfl, fun Γ b hba => stepC rfl (fun li ac wx H hn hed hM K hk => ?_)⟩))
    have e12 : ac.tmps[12]?.getD undef = .pointer (some ⟨x.g, 0, none⟩) := slot_at (H.known 3 _ rfl (hed ⟨3, .data⟩ (by simp) rfl) 12 rfl)
    have e16 : ac.tmps[16]?.getD undef = I 0 := slot_at (H.known 7 _ rfl (hed ⟨7, .data⟩ (by simp) rfl) 16 rfl)
    have hM1 : (fun _ _ => fun _ => False) Γ b wx := hM
    have hdf := Lib.hid (H.frm.defers.trans fdf)
    clear hed H
    exact hM1.elim
   ·simp only [List.getElem?_toArray, List.getElem?_cons_zero, List.getElem?_cons_succ] at ho
    cases ho
    refine .inl ⟨by decide, by decide, fun Γ M => stepA rfl (fun li ac wx H hn hed hM K hk => ?_)⟩
    have e17 : ac.tmps[17]?.getD undef = .tuple #[I 0, I 0, I 0] := slot_at (H.known 8 _ rfl (hed ⟨8, .data⟩ (by simp) rfl) 17 rfl)
    clear hed H
    go_simp
    exact hk _ hM
   ·simp only [List.getElem?_toArray, List.getElem?_cons_zero, List.getElem?_cons_succ] at ho
    cases ho
    refine .inl ⟨by decide, by decide, fun Γ M => stepA rfl (fun li ac wx H hn hed hM K hk => ?_)⟩
    have e8 : ac.tmps[8]?.getD undef = .tuple #[I 0, I 0, I 0] := slot_at (H.known 9 _ rfl (hed ⟨9, .data⟩ (by simp) rfl) 8 rfl)
    clear hed H
    go_simp
    exact hk _ hM
   ·simp only [List.getElem?_toArray, List.getElem?_cons_zero, List.getElem?_cons_succ] at ho
    cases ho
    refine .inl ⟨by decide, by decide, fun Γ M => stepA rfl (fun li ac wx H hn hed hM K hk => ?_)⟩
    have e8 : ac.tmps[8]?.getD undef = .tuple #[I 0, I 0, I 0] := slot_at (H.known 9 _ rfl (hed ⟨9, .data⟩ (by simp) rfl) 8 rfl)
    clear hed H
    go_simp
    exact hk _ hM
   ·simp only [List.getElem?_toArray, List.getElem?_cons_zero, List.getElem?_cons_succ] at ho
    cases ho
    refine .inl ⟨by decide, by decide, fun Γ M => stepA rfl (fun li ac wx H hn hed hM K hk => ?_)⟩
    have e8 : ac.tmps[8]?.getD undef = .tuple #[I 0, I 0, I 0] := slot_at (H.known 9 _ rfl (hed ⟨9, .data⟩ (by simp) rfl) 8 rfl)
    clear hed H
    go_simp
    exact hk _ hM
   ·simp only [List.getElem?_toArray, List.getElem?_cons_zero, List.getElem?_cons_succ] at ho
    cases ho
    refine .inr (.inl ⟨rfl, by decide, 3, 15, rfl, by kernel_rfl, fun Γ j hj => ?_⟩)
    have hj2 : j = 0 ∨ j = 1 ∨ j = 2 ∨ j = 3 := by omega
    clear hj
    rcases hj2 with rfl | rfl | rfl | rfl
    ·refine stepC rfl (fun li ac wx H hn hed hM K hk => ?_)
     have hM1 : (fun Γ b => fun wx => Below w.heap.size w wx ∧ (b = true → Has wx (Γ 2) 100 #[I 0, I 0, I 0, I 0, I 0, I 0, I 0, I 0, I 0, I 0, I 0, I 0, I 0, I 0, I 0, I 0, I 0] ∧ w.heap.size ≤ Γ 2)) Γ false wx := hM
     clear hed H
     first
      | exact hM1.elim
      | (go_simp; exact hk (Γ.set 2 wx.heap.size) _ (chg1 _ _ _) ⟨Below.alloc hM1.1 hM1.1.size _, fun _ => ⟨Has.new _ _ _, hM1.1.size⟩⟩)
      | (go_simp; exact hk (Γ.set 2 wx.heap.size) _ (chg1 _ _ _) ⟨⟨Below.alloc hM1.1.1 hM1.1.1.size _, fun _ => ⟨Has.new _ _ _, hM1.1.1.size⟩⟩, (World.cell?_alloc_lt _ _ ⟨Γ 0, 0, none⟩ hM1.2.2).trans hM1.2.1, Nat.lt_of_lt_of_le hM1.2.2 (by simp)⟩)
    ·refine stepC rfl (fun li ac wx H hn hed hM K hk => ?_)
     have hM1 : (fun _ _ => fun _ => False) Γ false wx := hM
     clear hed H
     first
      | exact hM1.elim
      | (go_simp; exact hk (Γ.set 2 wx.heap.size) _ (chg1 _ _ _) ⟨Below.alloc hM1.1 hM1.1.size _, fun _ => ⟨Has.new _ _ _, hM1.1.size⟩⟩)
      | (go_simp; exact hk (Γ.set 2 wx.heap.size) _ (chg1 _ _ _) ⟨⟨Below.alloc hM1.1.1 hM1.1.1.size _, fun _ => ⟨Has.new _ _ _, hM1.1.1.size⟩⟩, (World.cell?_alloc_lt _ _ ⟨Γ 0, 0, none⟩ hM1.2.2).trans hM1.2.1, Nat.lt_of_lt_of_le hM1.2.2 (by simp)⟩)
    ·refine stepC rfl (fun li ac wx H hn hed hM K hk => ?_)
     have hM1 : (fun _ _ => fun _ => False) Γ false wx := hM
     clear hed H
     first
      | exact hM1.elim
      | (go_simp; exact hk (Γ.set 2 wx.heap.size) _ (chg1 _ _ _) ⟨Below.alloc hM1.1 hM1.1.size _, fun _ => ⟨Has.new _ _ _, hM1.1.size⟩⟩)
      | (go_simp; exact hk (Γ.set 2 wx.heap.size) _ (chg1 _ _ _) ⟨⟨Below.alloc hM1.1.1 hM1.1.1.size _, fun _ => ⟨Has.new _ _ _, hM1.1.1.size⟩⟩, (World.cell?_alloc_lt _ _ ⟨Γ 0, 0, none⟩ hM1.2.2).trans hM1.2.1, Nat.lt_of_lt_of_le hM1.2.2 (by simp)⟩)
    ·refine stepC rfl (fun li ac wx H hn hed hM K hk => ?_)
     have hM1 : (fun _ _ => fun _ => False) Γ false wx := hM
     clear hed H
     first
      | exact hM1.elim
      | (go_simp; exact hk (Γ.set 2 wx.heap.size) _ (chg1 _ _ _) ⟨Below.alloc hM1.1 hM1.1.size _, fun _ => ⟨Has.new _ _ _, hM1.1.size⟩⟩)
      | (go_simp; exact hk (Γ.set 2 wx.heap.size) _ (chg1 _ _ _) ⟨⟨Below.alloc hM1.1.1 hM1.1.1.size _, fun _ => ⟨Has.new _ _ _, hM1.1.1.size⟩⟩, (World.cell?_alloc_lt _ _ ⟨Γ 0, 0, none⟩ hM1.2.2).trans hM1.2.1, Nat.lt_of_lt_of_le hM1.2.2 (by simp)⟩)
   ·simp only [List.getElem?_toArray, List.getElem?_cons_zero, List.getElem?_cons_succ] at ho
    cases ho
    refine .inl ⟨by decide, by decide, fun Γ M => stepA rfl (fun li ac wx H hn hed hM K hk => ?_)⟩
    have e18 : ac.tmps[18]?.getD undef = I 0 := slot_at (H.known 10 _ rfl (hed ⟨10, .data⟩ (by simp) rfl) 18 rfl)
    clear hed H
    go_simp
    exact hk _ hM
   ·simp only [List.getElem?_toArray, List.getElem?_cons_zero, List.getElem?_cons_succ] at ho
    cases ho
    refine .inr (.inr (.inl ⟨by decide, 3, rfl, fun Γ b hba => stepC rfl (fun li ac wx H hn hed hM K hk => ?_)⟩))
    have e6 : ac.tmps[6]?.getD undef = .pointer (some ⟨Γ 2, 0, none⟩) := slot_at (H.known 13 _ rfl (hed ⟨13, .data⟩ (by simp) rfl) 6 rfl)
    have e19 : ac.tmps[19]?.getD undef = I 0 := slot_at (H.known 11 _ rfl (hed ⟨11, .data⟩ (by simp) rfl) 19 rfl)
    have hM1 : (fun _ _ => fun _ => False) Γ b wx := hM
    have hdf := Lib.hid (H.frm.defers.trans fdf)
    clear hed H
    exact hM1.elim
   ·simp only [List.getElem?_toArray, List.getElem?_cons_zero, List.getElem?_cons_succ] at ho
    cases ho
    refine .inl ⟨by decide, by decide, fun Γ M => stepA rfl (fun li ac wx H hn hed hM K hk => ?_)⟩
    have e20 : ac.tmps[20]?.getD undef = I 0 := slot_at (H.known 12 _ rfl (hed ⟨12, .data⟩ (by simp) rfl) 20 rfl)
    clear hed H
    go_simp
    exact hk _ hM
  ·intro Γ b ac wx hF hK hM0
   have hM : (fun _ _ => fun _ => False) Γ b wx := hM0
   exact hM.elim
 | some n =>
  have HE : Hid (does' .replica d l = if isRep (at0 n) then (d, .txt (joinI [((re d.s (at0 n).toNat).cycle : Int), ((re d.s (at0 n).toNat).state.set : Int)])) else (d, .err 2)) := Lib.hid (by simp only [does', hr])
  rw [HE.out]
  have HN := Lib.hid (fun w1 (hb : Below w.heap.size w w1) => dk_one (wd_after HW hb) c (st_after HS hb) hr)
  clear hr HE
  generalize at0 n = n0 at *
  obtain ⟨cy, cs, er, st, res, HR, HX, HI2, HI3, HI4, HC0, H64⟩ : ∃ (cy : Int) (cs : Array Value) (er : Value) (st : Int) (res : Dk × An),
    Hid ((if isRep n0 then (d, .txt (joinI [((re d.s n0.toNat).cycle : Int), ((re d.s n0.toNat).state.set : Int)])) else (d, .err 2)) = res ∧ ((er = .nilIface ∧ res = (d, .txt (joinI [cy, st]))) ∨ (er = rangeV ∧ res = (d, .err 2)))) ∧
    Hid (∀ wx, Below w.heap.size w wx → Calls Tryz.prog 96 #[.pointer (some ⟨x.g, 0, none⟩), I n0] wx fun e w' => e = .returned (.tuple #[I cy, .agg cs, er]) ∧ Below wx.heap.size wx w') ∧
    Hid ((Tryz.prog.info? 100).map (·.size) = some cs.size) ∧ Hid ((#[I 0, I 0, I 0, I 0, I 0, I 0, I 0, I 0, I 0, I 0, I 0, I 0, I 0, I 0, I 0, I 0, I 0] : Array Value).size = cs.size) ∧ Hid (cs.all (·.oneCell') = true) ∧ Hid (cs[0]? = some (I st)) ∧ Hid (I64 cy ∧ I64 st) := by
   by_cases hok : isRep n0 = true
   ·obtain ⟨k, hk, hk3⟩ : ∃ k : Nat, n0 = k ∧ k < 3 := by unfold isRep at hok; simp only [Bool.and_eq_true, decide_eq_true_eq] at hok; exact ⟨n0.toNat, by omega, by omega⟩
    have hfit := HF.out.fits k hk3
    have hs17 := stL_17 hfit.state
    have hsz : (stC (re d.s k).state).size = 17 := by unfold stC; rw [List.size_toArray, hs17]
    refine ⟨((re d.s k).cycle : Int), stC (re d.s k).state, .nilIface, ((re d.s k).state.set : Nat), _, Lib.hid ⟨rfl, .inl ⟨rfl, ?_⟩⟩, Lib.hid fun wx hb => ?_, Lib.hid (by rw [hsz]; exact infoState), Lib.hid (by rw [hsz]; rfl), Lib.hid (stC_one _), Lib.hid rfl, Lib.hid ⟨I64.nat (by have := hfit.cycle; omega), I64.nat (by have := hfit.state.set; omega)⟩⟩
    ·rw [hok, hk, Int.toNat_natCast]
     rfl
    ·rw [hk]
     exact sy_replica (HH.out.after hb).sys HF.out k hk3
   ·refine ⟨0, stC St.zero, rangeV, 0, _, Lib.hid ⟨rfl, .inr ⟨rfl, ?_⟩⟩, Lib.hid fun wx hb => ?_, Lib.hid infoState, Lib.hid rfl, Lib.hid (stC_one _), Lib.hid rfl, Lib.hid ⟨⟨by decide, by decide⟩, by decide, by decide⟩⟩
    ·rw [Bool.eq_false_iff.2 hok]
     rfl
    ·exact bad_replica x.g n0 (by unfold isRep at hok; simpa using hok) wx
  rw [HR.out.1]
  go_enter Tryz.func62, Tryz.ntmps62
  go_upto_region 1 with fail
  refine region_gen (by kernel_rfl) (fun b0 => b0.tmps.getD 0 undef = .pointer (some ⟨g, 0, none⟩) ∧ b0.tmps.getD 1 undef = .slice A l.length c ∧ b0.defers = []) ⟨rfl, rfl, rfl⟩ 28 rfl (fun _ => 0) (fun (Γ : Unk) i => ([.pointer (some ⟨g, 0, none⟩), .pointer (some ⟨g, 0, none⟩), .pointer (some ⟨g, 3, none⟩), .pointer (some ⟨x.g, 0, none⟩), .slice A l.length c, .slice (some ⟨Γ 0, 0, none⟩) 1 (Γ 1), .pointer (some ⟨Γ 0, 0, none⟩), I n0, .tuple #[I cy, .agg cs, er], .tuple #[I cy, .agg cs, er], I cy, .agg cs, er, .pointer (some ⟨Γ 2, 0, none⟩), I cy, undef, er] : List Value).getD i undef) [5, 7, 8, 15] (by kernel_rfl) (fun i => ([[], [], [], [], [], [0, 1], [], [], [], [], [], [], [], [2], [], [], []] : List (List Nat)).getD i []) (fun i => ([[], [], [], [], [], [0, 1], [0], [], [], [], [], [], [], [2], [], [], []] : List (List Nat)).getD i []) 13 (by kernel_rfl) ?_ (fun j Γ b => ([(fun Γ b => fun wx => Below w.heap.size w wx ∧ (b = true → Has wx (Γ 2) 100 #[I 0, I 0, I 0, I 0, I 0, I 0, I 0, I 0, I 0, I 0, I 0, I 0, I 0, I 0, I 0, I 0, I 0] ∧ w.heap.size ≤ Γ 2)) Γ b, (fun Γ b => fun wx => (Below w.heap.size w wx ∧ (b = true → Has wx (Γ 2) 100 #[I 0, I 0, I 0, I 0, I 0, I 0, I 0, I 0, I 0, I 0, I 0, I 0, I 0, I 0, I 0, I 0, I 0] ∧ w.heap.size ≤ Γ 2)) ∧ wx.cell? ⟨Γ 0, 0, none⟩ = some (I n0) ∧ Γ 0 < wx.heap.size) Γ b, (fun Γ b => fun wx => (Below w.heap.size w wx ∧ (b = true → Has wx (Γ 2) 100 #[I 0, I 0, I 0, I 0, I 0, I 0, I 0, I 0, I 0, I 0, I 0, I 0, I 0, I 0, I 0, I 0, I 0] ∧ w.heap.size ≤ Γ 2)) ∧ wx.cell? ⟨Γ 0, 0, none⟩ = some (I n0) ∧ Γ 0 < wx.heap.size) Γ b, (fun Γ b => fun wx => Below w.heap.size w wx ∧ (b = true → Has wx (Γ 2) 100 #[I 0, I 0, I 0, I 0, I 0, I 0, I 0, I 0, I 0, I 0, I 0, I 0, I 0, I 0, I 0, I 0, I 0] ∧ w.heap.size ≤ Γ 2)) Γ b, (fun Γ _ => fun wx => Below w.heap.size w wx ∧ Has wx (Γ 2) 100 cs) Γ b] : List (World → Prop)).getD j (fun _ => True)) [9, 10, 11, 12, 13, 14, 15, 16, 17, 8, 18, 19, 20, 6, 5, 7] (by kernel_rfl) (by kernel_rfl) ⟨(Below.refl _ _).drew, fun h => by cases h⟩ ?_ ?_
  ·intro Γ Γ' j hj hu
   have hj2 : j < 17 := hj
   have hcase : j = 0 ∨ j = 1 ∨ j = 2 ∨ j = 3 ∨ j = 4 ∨ j = 5 ∨ j = 6 ∨ j = 7 ∨ j = 8 ∨ j = 9 ∨ j = 10 ∨ j = 11 ∨ j = 12 ∨ j = 13 ∨ j = 14 ∨ j = 15 ∨ j = 16 := by omega
   clear hj hj2
   rcases hcase with rfl | rfl | rfl | rfl | rfl | rfl | rfl | rfl | rfl | rfl | rfl | rfl | rfl | rfl | rfl | rfl | rfl
   ·rfl
   ·rfl
   ·rfl
   ·rfl
   ·rfl
   ·show (.slice (some ⟨Γ 0, 0, none⟩) 1 (Γ 1) : Value) = .slice (some ⟨Γ' 0, 0, none⟩) 1 (Γ' 1); rw [hu 0 (by decide), hu 1 (by decide)]
   ·show (.pointer (some ⟨Γ 0, 0, none⟩) : Value) = .pointer (some ⟨Γ' 0, 0, none⟩); rw [hu 0 (by decide)]
   ·rfl
   ·rfl
   ·rfl
   ·rfl
   ·rfl
   ·rfl
   ·show (.pointer (some ⟨Γ 2, 0, none⟩) : Value) = .pointer (some ⟨Γ' 2, 0, none⟩); rw [hu 2 (by decide)]
   ·rfl
   ·rfl
   ·rfl
  ·intro b0 hb0 i o ho
   have hi : i < 17 := (Array.getElem?_eq_some_iff.1 ho).1
   obtain ⟨f0, f1, fdf⟩ := hb0
   have hcase : i = 0 ∨ i = 1 ∨ i = 2 ∨ i = 3 ∨ i = 4 ∨ i = 5 ∨ i = 6 ∨ i = 7 ∨ i = 8 ∨ i = 9 ∨ i = 10 ∨ i = 11 ∨ i = 12 ∨ i = 13 ∨ i = 14 ∨ i = 15 ∨ i = 16 := by omega
   clear hi
   rcases hcase with rfl | rfl | rfl | rfl | rfl | rfl | rfl | rfl | rfl | rfl | rfl | rfl | rfl | rfl | rfl | rfl | rfl
   ·simp only [List.getElem?_toArray, List.getElem?_cons_zero] at ho
    cases ho
    refine .inl ⟨by decide, by decide, fun Γ M => stepA rfl (fun li ac wx H hn hed hM K hk => ?_)⟩
    have e0 : ac.tmps[0]?.getD undef = .pointer (some ⟨g, 0, none⟩) := slot_at ((H.frm.slot (by decide)).trans f0)
    clear hed H
    go_simp
    exact hk _ hM
   ·simp only [List.getElem?_toArray, List.getElem?_cons_zero, List.getElem?_cons_succ] at ho
    cases ho
    refine .inl ⟨by decide, by decide, fun Γ M => stepA rfl (fun li ac wx H hn hed hM K hk => ?_)⟩
    have e9 : ac.tmps[9]?.getD undef = .pointer (some ⟨g, 0, none⟩) := slot_at (H.known 0 _ rfl (hed ⟨0, .data⟩ (by simp) rfl) 9 rfl)
    clear hed H
    go_simp
    exact hk _ hM
   ·simp only [List.getElem?_toArray, List.getElem?_cons_zero, List.getElem?_cons_succ] at ho
    cases ho
    refine .inl ⟨by decide, by decide, fun Γ M => stepA rfl (fun li ac wx H hn hed hM K hk => ?_)⟩
    have e10 : ac.tmps[10]?.getD undef = .pointer (some ⟨g, 0, none⟩) := slot_at (H.known 1 _ rfl (hed ⟨1, .data⟩ (by simp) rfl) 10 rfl)
    clear hed H
    go_simp
    exact hk _ hM
   ·simp only [List.getElem?_toArray, List.getElem?_cons_zero, List.getElem?_cons_succ] at ho
    cases ho
    refine .inr (.inr (.inr ⟨by decide, by decide, 2, 8, rfl, by kernel_rfl, fun Γ b j hj => ?_⟩))
    have hj2 : j = 0 ∨ j = 1 ∨ j = 2 := by omega
    clear hj
    rcases hj2 with rfl | rfl | rfl
    ·refine stepA rfl (fun li ac wx H hn hed hM K hk => ?_)
     have e11 : ac.tmps[11]?.getD undef = .pointer (some ⟨g, 3, none⟩) := slot_at (H.known 2 _ rfl (hed ⟨2, .data⟩ (by simp) rfl) 11 rfl)
     have hM1 : (fun Γ b => fun wx => Below w.heap.size w wx ∧ (b = true → Has wx (Γ 2) 100 #[I 0, I 0, I 0, I 0, I 0, I 0, I 0, I 0, I 0, I 0, I 0, I 0, I 0, I 0, I 0, I 0, I 0] ∧ w.heap.size ≤ Γ 2)) Γ b wx := hM
     clear hed H
     first | exact hM1.elim | (have hMb : Below w.heap.size w wx := (by first | exact hM1.1 | exact hM1.1.1); have c3 := (Below.cell hMb (p := ⟨g, 3, none⟩) hg).trans hc3; clear hMb; go_simp; exact hk _ hM)
    ·refine stepA rfl (fun li ac wx H hn hed hM K hk => ?_)
     have e11 : ac.tmps[11]?.getD undef = .pointer (some ⟨g, 3, none⟩) := slot_at (H.known 2 _ rfl (hed ⟨2, .data⟩ (by simp) rfl) 11 rfl)
     have hM1 : (fun Γ b => fun wx => (Below w.heap.size w wx ∧ (b = true → Has wx (Γ 2) 100 #[I 0, I 0, I 0, I 0, I 0, I 0, I 0, I 0, I 0, I 0, I 0, I 0, I 0, I 0, I 0, I 0, I 0] ∧ w.heap.size ≤ Γ 2)) ∧ wx.cell? ⟨Γ 0, 0, none⟩ = some (I n0) ∧ Γ 0 < wx.heap.size) Γ b wx := hM
     clear hed H
     first | exact hM1.elim | (have hMb : Below w.heap.size w wx := (by first | exact hM1.1 | exact hM1.1.1); have c3 := (Below.cell hMb (p := ⟨g, 3, none⟩) hg).trans hc3; clear hMb; go_simp; exact hk _ hM)
    ·refine stepA rfl (fun li ac wx H hn hed hM K hk => ?_)
     have e11 : ac.tmps[11]?.getD undef = .pointer (some ⟨g, 3, none⟩) := slot_at (H.known 2 _ rfl (hed ⟨2, .data⟩ (by simp) rfl) 11 rfl)
     have hM1 : (fun Γ b => fun wx => (Below w.heap.size w wx ∧ (b = true → Has wx (Γ 2) 100 #[I 0, I 0, I 0, I 0, I 0, I 0, I 0, I 0, I 0, I 0, I 0, I 0, I 0, I 0, I 0, I 0, I 0] ∧ w.heap.size ≤ Γ 2)) ∧ wx.cell? ⟨Γ 0, 0, none⟩ = some (I n0) ∧ Γ 0 < wx.heap.size) Γ b wx := hM
     clear hed H
     first | exact hM1.elim | (have hMb : Below w.heap.size w wx := (by first | exact hM1.1 | exact hM1.1.1); have c3 := (Below.cell hMb (p := ⟨g, 3, none⟩) hg).trans hc3; clear hMb; go_simp; exact hk _ hM)
   ·simp only [List.getElem?_toArray, List.getElem?_cons_zero, List.getElem?_cons_succ] at ho
    cases ho
    refine .inl ⟨by decide, by decide, fun Γ M => stepA rfl (fun li ac wx H hn hed hM K hk => ?_)⟩
    have e1 : ac.tmps[1]?.getD undef = .slice A l.length c := slot_at ((H.frm.slot (by decide)).trans f1)
    clear hed H
    go_simp
    exact hk _ hM
   ·simp only [List.getElem?_toArray, List.getElem?_cons_zero, List.getElem?_cons_succ] at ho
    cases ho
    refine .inr (.inr (.inl ⟨by decide, 0, rfl, fun Γ b hba => stepC rfl (fun li ac wx H hn hed hM K hk => ?_)⟩))
    have e13 : ac.tmps[13]?.getD undef = .slice A l.length c := slot_at (H.known 4 _ rfl (hed ⟨4, .data⟩ (by simp) rfl) 13 rfl)
    have hM1 : (fun Γ b => fun wx => Below w.heap.size w wx ∧ (b = true → Has wx (Γ 2) 100 #[I 0, I 0, I 0, I 0, I 0, I 0, I 0, I 0, I 0, I 0, I 0, I 0, I 0, I 0, I 0, I 0, I 0] ∧ w.heap.size ≤ Γ 2)) Γ b wx := hM
    have hdf := Lib.hid (H.frm.defers.trans fdf)
    clear hed H
    go_simp
    refine (HN.out wx hM1.1).mono ?_
    rintro e w' ⟨⟨bn, c', rfl, hlt, hcb⟩, hb⟩
    exact hk ((Γ.set 0 bn).set 1 c') _ (chg2 _ _ _ _ _) ⟨⟨hM1.1.trans (hb.mono hM1.1.size), fun h => ⟨(hM1.2 h).1.after hb, (hM1.2 h).2⟩⟩, hcb, hlt⟩
   ·simp only [List.getElem?_toArray, List.getElem?_cons_zero, List.getElem?_cons_succ] at ho
    cases ho
    refine .inl ⟨by decide, by decide, fun Γ M => stepA rfl (fun li ac wx H hn hed hM K hk => ?_)⟩
    have e14 : ac.tmps[14]?.getD undef = .slice (some ⟨Γ 0, 0, none⟩) 1 (Γ 1) := slot_at (H.known 5 _ rfl (hed ⟨5, .data⟩ (by simp) rfl) 14 rfl)
    clear hed H
    go_simp
    exact hk _ hM
   ·simp only [List.getElem?_toArray, List.getElem?_cons_zero, List.getElem?_cons_succ] at ho
    cases ho
    refine .inr (.inr (.inl ⟨by decide, 1, rfl, fun Γ b hba => stepC rfl (fun li ac wx H hn hed hM K hk => ?_)⟩))
    have e15 : ac.tmps[15]?.getD undef = .pointer (some ⟨Γ 0, 0, none⟩) := slot_at (H.known 6 _ rfl (hed ⟨6, .data⟩ (by simp) rfl) 15 rfl)
    have hM1 : (fun Γ b => fun wx => (Below w.heap.size w wx ∧ (b = true → Has wx (Γ 2) 100 #[I 0, I 0, I 0, I 0, I 0, I 0, I 0, I 0, I 0, I 0, I 0, I 0, I 0, I 0, I 0, I 0, I 0] ∧ w.heap.size ≤ Γ 2)) ∧ wx.cell? ⟨Γ 0, 0, none⟩ = some (I n0) ∧ Γ 0 < wx.heap.size) Γ b wx := hM
    have hdf := Lib.hid (H.frm.defers.trans fdf)
    clear hed H
    have c0 := hM1.2.1
    go_simp
    exact hk Γ _ (chg0 Γ) hM1
   ·simp only [List.getElem?_toArray, List.getElem?_cons_zero, List.getElem?_cons_succ] at ho
    cases ho
    refine .inr (.inr (.inl ⟨by decide, 2, rfl, fun Γ b hba => stepC rfl (fun li ac wx H hn hed hM K hk => ?_)⟩))
    have e12 : ac.tmps[12]?.getD undef = .pointer (some ⟨x.g, 0, none⟩) := slot_at (H.known 3 _ rfl (hed ⟨3, .data⟩ (by simp) rfl) 12 rfl)
    have e16 : ac.tmps[16]?.getD undef = I n0 := slot_at (H.known 7 _ rfl (hed ⟨7, .data⟩ (by simp) rfl) 16 rfl)
    have hM1 : (fun Γ b => fun wx => (Below w.heap.size w wx ∧ (b = true → Has wx (Γ 2) 100 #[I 0, I 0, I 0, I 0, I 0, I 0, I 0, I 0, I 0, I 0, I 0, I 0, I 0, I 0, I 0, I 0, I 0] ∧ w.heap.size ≤ Γ 2)) ∧ wx.cell? ⟨Γ 0, 0, none⟩ = some (I n0) ∧ Γ 0 < wx.heap.size) Γ b wx := hM
    have hdf := Lib.hid (H.frm.defers.trans fdf)
    clear hed H
    go_simp
    refine (HX.out wx hM1.1.1).mono ?_
    rintro e w' ⟨rfl, hb⟩
    exact hk Γ _ (chg0 Γ) ⟨hM1.1.1.trans (hb.mono hM1.1.1.size), fun h => ⟨(hM1.1.2 h).1.after hb, (hM1.1.2 h).2⟩⟩
   ·simp only [List.getElem?_toArray, List.getElem?_cons_zero, List.getElem?_cons_succ] at ho
    cases ho
    refine .inl ⟨by decide, by decide, fun Γ M => stepA rfl (fun li ac wx H hn hed hM K hk => ?_)⟩
    have e17 : ac.tmps[17]?.getD undef = .tuple #[I cy, .agg cs, er] := slot_at (H.known 8 _ rfl (hed ⟨8, .data⟩ (by simp) rfl) 17 rfl)
    clear hed H
    go_simp
    exact hk _ hM
   ·simp only [List.getElem?_toArray, List.getElem?_cons_zero, List.getElem?_cons_succ] at ho
    cases ho
    refine .inl ⟨by decide, by decide, fun Γ M => stepA rfl (fun li ac wx H hn hed hM K hk => ?_)⟩
    have e8 : ac.tmps[8]?.getD undef = .tuple #[I cy, .agg cs, er] := slot_at (H.known 9 _ rfl (hed ⟨9, .data⟩ (by simp) rfl) 8 rfl)
    clear hed H
    go_simp
    exact hk _ hM
   ·simp only [List.getElem?_toArray, List.getElem?_cons_zero, List.getElem?_cons_succ] at ho
    cases ho
    refine .inl ⟨by decide, by decide, fun Γ M => stepA rfl (fun li ac wx H hn hed hM K hk => ?_)⟩
    have e8 : ac.tmps[8]?.getD undef = .tuple #[I cy, .agg cs, er] := slot_at (H.known 9 _ rfl (hed ⟨9, .data⟩ (by simp) rfl) 8 rfl)
    clear hed H
    go_simp
    exact hk _ hM
   ·simp only [List.getElem?_toArray, List.getElem?_cons_zero, List.getElem?_cons_succ] at ho
    cases ho
    refine .inl ⟨by decide, by decide, fun Γ M => stepA rfl (fun li ac wx H hn hed hM K hk => ?_)⟩
    have e8 : ac.tmps[8]?.getD undef = .tuple #[I cy, .agg cs, er] := slot_at (H.known 9 _ rfl (hed ⟨9, .data⟩ (by simp) rfl) 8 rfl)
    clear hed H
    go_simp
    exact hk _ hM
   ·simp only [List.getElem?_toArray, List.getElem?_cons_zero, List.getElem?_cons_succ] at ho
    cases ho
    refine .inr (.inl ⟨rfl, by decide, 3, 15, rfl, by kernel_rfl, fun Γ j hj => ?_⟩)
    have hj2 : j = 0 ∨ j = 1 ∨ j = 2 ∨ j = 3 := by omega
    clear hj
    rcases hj2 with rfl | rfl | rfl | rfl
    ·refine stepC rfl (fun li ac wx H hn hed hM K hk => ?_)
     have hM1 : (fun Γ b => fun wx => Below w.heap.size w wx ∧ (b = true → Has wx (Γ 2) 100 #[I 0, I 0, I 0, I 0, I 0, I 0, I 0, I 0, I 0, I 0, I 0, I 0, I 0, I 0, I 0, I 0, I 0] ∧ w.heap.size ≤ Γ 2)) Γ false wx := hM
     clear hed H
     first
      | exact hM1.elim
      | (go_simp; exact hk (Γ.set 2 wx.heap.size) _ (chg1 _ _ _) ⟨Below.alloc hM1.1 hM1.1.size _, fun _ => ⟨Has.new _ _ _, hM1.1.size⟩⟩)
      | (go_simp; exact hk (Γ.set 2 wx.heap.size) _ (chg1 _ _ _) ⟨⟨Below.alloc hM1.1.1 hM1.1.1.size _, fun _ => ⟨Has.new _ _ _, hM1.1.1.size⟩⟩, (World.cell?_alloc_lt _ _ ⟨Γ 0, 0, none⟩ hM1.2.2).trans hM1.2.1, Nat.lt_of_lt_of_le hM1.2.2 (by simp)⟩)
    ·refine stepC rfl (fun li ac wx H hn hed hM K hk => ?_)
     have hM1 : (fun Γ b => fun wx => (Below w.heap.size w wx ∧ (b = true → Has wx (Γ 2) 100 #[I 0, I 0, I 0, I 0, I 0, I 0, I 0, I 0, I 0, I 0, I 0, I 0, I 0, I 0, I 0, I 0, I 0] ∧ w.heap.size ≤ Γ 2)) ∧ wx.cell? ⟨Γ 0, 0, none⟩ = some (I n0) ∧ Γ 0 < wx.heap.size) Γ false wx := hM
     clear hed H
     first
      | exact hM1.elim
      | (go_simp; exact hk (Γ.set 2 wx.heap.size) _ (chg1 _ _ _) ⟨Below.alloc hM1.1 hM1.1.size _, fun _ => ⟨Has.new _ _ _, hM1.1.size⟩⟩)
      | (go_simp; exact hk (Γ.set 2 wx.heap.size) _ (chg1 _ _ _) ⟨⟨Below.alloc hM1.1.1 hM1.1.1.size _, fun _ => ⟨Has.new _ _ _, hM1.1.1.size⟩⟩, (World.cell?_alloc_lt _ _ ⟨Γ 0, 0, none⟩ hM1.2.2).trans hM1.2.1, Nat.lt_of_lt_of_le hM1.2.2 (by simp)⟩)
    ·refine stepC rfl (fun li ac wx H hn hed hM K hk => ?_)
     have hM1 : (fun Γ b => fun wx => (Below w.heap.size w wx ∧ (b = true → Has wx (Γ 2) 100 #[I 0, I 0, I 0, I 0, I 0, I 0, I 0, I 0, I 0, I 0, I 0, I 0, I 0, I 0, I 0, I 0, I 0] ∧ w.heap.size ≤ Γ 2)) ∧ wx.cell? ⟨Γ 0, 0, none⟩ = some (I n0) ∧ Γ 0 < wx.heap.size) Γ false wx := hM
     clear hed H
     first
      | exact hM1.elim
      | (go_simp; exact hk (Γ.set 2 wx.heap.size) _ (chg1 _ _ _) ⟨Below.alloc hM1.1 hM1.1.size _, fun _ => ⟨Has.new _ _ _, hM1.1.size⟩⟩)
      | (go_simp; exact hk (Γ.set 2 wx.heap.size) _ (chg1 _ _ _) ⟨⟨Below.alloc hM1.1.1 hM1.1.1.size _, fun _ => ⟨Has.new _ _ _, hM1.1.1.size⟩⟩, (World.cell?_alloc_lt _ _ ⟨Γ 0, 0, none⟩ hM1.2.2).trans hM1.2.1, Nat.lt_of_lt_of_le hM1.2.2 (by simp)⟩)
    ·refine stepC rfl (fun li ac wx H hn hed hM K hk => ?_)
     have hM1 : (fun Γ b => fun wx => Below w.heap.size w wx ∧ (b = true → Has wx (Γ 2) 100 #[I 0, I 0, I 0, I 0, I 0, I 0, I 0, I 0, I 0, I 0, I 0, I 0, I 0, I 0, I 0, I 0, I 0] ∧ w.heap.size ≤ Γ 2)) Γ false wx := hM
     clear hed H
     first
      | exact hM1.elim
      | (go_simp; exact hk (Γ.set 2 wx.heap.size) _ (chg1 _ _ _) ⟨Below.alloc hM1.1 hM1.1.size _, fun _ => ⟨Has.new _ _ _, hM1.1.size⟩⟩)
      | (go_simp; exact hk (Γ.set 2 wx.heap.size) _ (chg1 _ _ _) ⟨⟨Below.alloc hM1.1.1 hM1.1.1.size _, fun _ => ⟨Has.new _ _ _, hM1.1.1.size⟩⟩, (World.cell?_alloc_lt _ _ ⟨Γ 0, 0, none⟩ hM1.2.2).trans hM1.2.1, Nat.lt_of_lt_of_le hM1.2.2 (by simp)⟩)
   ·simp only [List.getElem?_toArray, List.getElem?_cons_zero, List.getElem?_cons_succ] at ho
    cases ho
    refine .inl ⟨by decide, by decide, fun Γ M => stepA rfl (fun li ac wx H hn hed hM K hk => ?_)⟩
    have e18 : ac.tmps[18]?.getD undef = I cy := slot_at (H.known 10 _ rfl (hed ⟨10, .data⟩ (by simp) rfl) 18 rfl)
    clear hed H
    go_simp
    exact hk _ hM
   ·simp only [List.getElem?_toArray, List.getElem?_cons_zero, List.getElem?_cons_succ] at ho
    cases ho
    refine .inr (.inr (.inl ⟨by decide, 3, rfl, fun Γ b hba => stepC rfl (fun li ac wx H hn hed hM K hk => ?_)⟩))
    have e6 : ac.tmps[6]?.getD undef = .pointer (some ⟨Γ 2, 0, none⟩) := slot_at (H.known 13 _ rfl (hed ⟨13, .data⟩ (by simp) rfl) 6 rfl)
    have e19 : ac.tmps[19]?.getD undef = .agg cs := slot_at (H.known 11 _ rfl (hed ⟨11, .data⟩ (by simp) rfl) 19 rfl)
    have hM1 : (fun Γ b => fun wx => Below w.heap.size w wx ∧ (b = true → Has wx (Γ 2) 100 #[I 0, I 0, I 0, I 0, I 0, I 0, I 0, I 0, I 0, I 0, I 0, I 0, I 0, I 0, I 0, I 0, I 0] ∧ w.heap.size ≤ Γ 2)) Γ b wx := hM
    have hdf := Lib.hid (H.frm.defers.trans fdf)
    clear hed H
    have hal := hM1.2 (hba (by kernel_rfl))
    refine wp_store_row 100 (.tmp 6) (.tmp 19) rfl (Γ 2) cs (eval_at e6) (eval_at e19) 100 _ hal.1 HI2.out HI3.out HI4.out ?_
    exact hk Γ _ (chg0 Γ) ⟨below_setRow hM1.1 hal.2 _, hal.1.setRow _⟩
   ·simp only [List.getElem?_toArray, List.getElem?_cons_zero, List.getElem?_cons_succ] at ho
    cases ho
    refine .inl ⟨by decide, by decide, fun Γ M => stepA rfl (fun li ac wx H hn hed hM K hk => ?_)⟩
    have e20 : ac.tmps[20]?.getD undef = er := slot_at (H.known 12 _ rfl (hed ⟨12, .data⟩ (by simp) rfl) 20 rfl)
    clear hed H
    go_simp
    exact hk _ hM
  ·intro Γ b ac wx hF hK hM0
   have hM : (fun Γ _ => fun wx => Below w.heap.size w wx ∧ Has wx (Γ 2) 100 cs) Γ b wx := hM0
   have E5 : ac.tmps.getD 5 undef = I cy := hK 14 _ rfl 5 rfl
   have E6 : ac.tmps.getD 6 undef = .pointer (some ⟨Γ 2, 0, none⟩) := hK 13 _ rfl 6 rfl
   have E7 : ac.tmps.getD 7 undef = er := hK 16 _ rfl 7 rfl
   have hMet := hF.meet
   simp only [List.foldl_cons, List.foldl_nil, List.setIfInBounds_toArray, List.set_cons_succ, List.set_cons_zero, E5, E6, E7] at hMet
   generalize ac.tmps.getD 9 undef = v9 at hMet
   generalize ac.tmps.getD 10 undef = v10 at hMet
   generalize ac.tmps.getD 11 undef = v11 at hMet
   generalize ac.tmps.getD 12 undef = v12 at hMet
   generalize ac.tmps.getD 13 undef = v13 at hMet
   generalize ac.tmps.getD 14 undef = v14 at hMet
   generalize ac.tmps.getD 15 undef = v15 at hMet
   generalize ac.tmps.getD 16 undef = v16 at hMet
   generalize ac.tmps.getD 17 undef = v17 at hMet
   generalize ac.tmps.getD 8 undef = v8 at hMet
   generalize ac.tmps.getD 18 undef = v18 at hMet
   generalize ac.tmps.getD 19 undef = v19 at hMet
   generalize ac.tmps.getD 20 undef = v20 at hMet
   clear hF hK hM0 E5 E6 E7
   subst hMet
   have HB := Lib.hid hM.1
   have KS := Lib.hid hM.2
   generalize Γ 2 = ga at *
   clear hM HN HX HI2 HI3 HI4 hc3 hg
   have HS1 := Lib.hid (HS.out.after HB.out)
   rcases HR.out.2 with ⟨rfl, hres⟩ | ⟨rfl, hres⟩
   ·have HRS := Lib.hid hres
    have c0 := KS.out.cellv 0 (I st) HC0.out
    have hga := KS.out.lt
    clear hres HR
    go_upto_region 3 with (go_at_call 28; refine (must_nil wx).mono ?_; rintro e w3 ⟨rfl, rfl⟩)
    have HJ : Hid (Calls Tryz.prog 89 #[.slice (some ⟨wx.heap.size, 0, none⟩) 2 2] (wx.alloc (.cells #[I cy, I st] 3)) fun e w' => e = .returned (.string ⟨(joinI [cy, st]).toArray⟩) ∧ Below (wx.alloc (.cells #[I cy, I st] 3)).heap.size (wx.alloc (.cells #[I cy, I st] 3)) w') := Lib.hid (dk_join _ _ [cy, st] (by show 2 ≤ 1000; decide) (by intro y hy; simp at hy; rcases hy with rfl | rfl; exact H64.out.1; exact H64.out.2) _ (two_reads (Has.new _ _ _)) (Lib.hid (HS1.out.after ((Below.refl _ _).alloc (Nat.le_refl _) _))))
    go_wp2_with (go_at_call 89; refine HJ.out.mono ?_; rintro e w4 ⟨rfl, hb4⟩)
    go_ret
    rw [HRS.out]
    exact MPost.same HH.out (HB.out.trans ((((Below.refl _ _).alloc (Nat.le_refl _) _).trans (hb4.mono (by simp))).mono HB.out.size)) rfl
   ·have HRS := Lib.hid hres
    clear hres HR
    go_wp2_with (go_at_call 28; refine (must_errno 2 wx (Lib.hid HS1.out.et)).mono ?_; rintro e w3 ⟨rfl, hb3⟩)
    exact ⟨rfl, by rw [HRS.out]; exact MPost.same HH.out (HB.out.trans (hb3.mono HB.out.size)) rfl⟩
end
end Go.Proofs.YtdhekhlmdefcnabGreatDoor
namespace Go.Proofs.YtdhekhlmdefcnabGreatDoor
open Go.RowKit
section
variable {w : World} {B g : Nat} {x : SyX} {vr : Value} {d : Dk} {T : Nat} {A : Option Addr} {l : List ByteArray}
theorem cmd_ok (h : DkAt w B g x vr d) (hf : Fine T d.s) (hT : T ≤ 9900000000) (hw : Words w A l) (c : Nat) (hs : Std w) : ∀ p ∈ cmdL, Calls Tryz.prog p.2.2 #[.pointer (some ⟨g, 0, none⟩), .slice A l.length c] w (MPost w B g x (does' p.2.1 d l)) := by
 unfold cmdL
 simp only [List.forall_mem_cons]
 exact ⟨m_ask h hf hT hw c hs, m_begin h hw c hs, m_calm h hf hT hw c hs, m_conflicts h hw c hs, m_crash h hf hT hw c hs, m_deliver h hf hT hw c hs, m_help h hw c hs, m_latch h hw c hs, m_lose h hf hT hw c hs, m_many h hf hT hw c hs, m_most h hw c hs, m_replica h hf hT hw c hs, m_see h hf hT hw c hs, m_show h hf hT hw c hs, m_tick h hf hT hw c hs, m_trace h hf hw c hs, m_twice h hf hT hw c hs, fun _ hh => by cases hh⟩
end
theorem cmd_enters : ∀ p ∈ cmdL, ∀ args w, (callFunc p.2.2 args).run Tryz.prog w = .ok (.enter p.2.2 args) w := by
 unfold cmdL
 simp only [List.forall_mem_cons]
 exact ⟨enters_of Tryz.func52 (by kernel_rfl) rfl, enters_of Tryz.func13 (by kernel_rfl) rfl, enters_of Tryz.func53 (by kernel_rfl) rfl, enters_of Tryz.func54 (by kernel_rfl) rfl, enters_of Tryz.func55 (by kernel_rfl) rfl, enters_of Tryz.func56 (by kernel_rfl) rfl, enters_of Tryz.func57 (by kernel_rfl) rfl, enters_of Tryz.func58 (by kernel_rfl) rfl, enters_of Tryz.func59 (by kernel_rfl) rfl, enters_of Tryz.func60 (by kernel_rfl) rfl, enters_of Tryz.func61 (by kernel_rfl) rfl, enters_of Tryz.func62 (by kernel_rfl) rfl, enters_of Tryz.func63 (by kernel_rfl) rfl, enters_of Tryz.func64 (by kernel_rfl) rfl, enters_of Tryz.func65 (by kernel_rfl) rfl, enters_of Tryz.func66 (by kernel_rfl) rfl, enters_of Tryz.func67 (by kernel_rfl) rfl, fun _ hh => by cases hh⟩
def anT : An → By
 | .txt t => t
 | .err n => [101, 114, 114, 111, 114, 32] ++ Lib.itoa n
def lineOf (d : Dk) (s : ByteArray) : Dk × By :=
 match fieldsB s with
 | [] => (d, [111, 107])
 | a :: l => match cmdL.find? (isNm a.data.toList) with
  | none => (d, anT (.err 3))
  | some p => ((does' p.2.1 d l).1, anT (does' p.2.1 d l).2)
theorem errNo_small (S : Int) (rs : List Int) (dl : Int) : 0 ≤ errNo (chk S rs dl) ∧ errNo (chk S rs dl) ≤ 9 := by
 unfold chk
 repeat' split
 all_goals simp [errNo]
theorem err_small (c : Cmd) (d : Dk) (l : List ByteArray) (n : Int) (h : (does' c d l).2 = .err n) : 0 ≤ n ∧ n ≤ 9 := by
 have hd : ∀ (ok : Bool) (s : Sys) (t : By), (dOne d ok s t).2 = .err n → 0 ≤ n ∧ n ≤ 9 := fun ok s t hh => by
  unfold dOne at hh
  split at hh
  ·cases hh
  ·injection hh with hh; omega
 have hb : ∀ m, (doBegin d m).2 = .err n → 0 ≤ n ∧ n ≤ 9 := fun m hh => by
  have := errNo_small (m.getD 2 0) (m.drop 3) (m.getD 1 0)
  unfold doBegin at hh
  split at hh
  ·split at hh
   ·cases hh
   ·injection hh with hh; omega
  ·injection hh with hh
   unfold chkOf at hh
   omega
 cases c <;> simp only [does'] at h <;> split at h <;> first
  | (injection h with h; omega)
  | exact hd _ _ _ h
  | exact hb _ h
  | (cases h; done)
  | (split at h; first | (cases h; done) | (injection h with h; omega))
  | skip
end Go.Proofs.YtdhekhlmdefcnabGreatDoor
namespace Go.Proofs.YtdhekhlmdefcnabGreatDoor
open Go.RowKit
theorem blank_ok (x : Nat) (w : World) : FnGives Tryz.prog 35 #[] #[encR x] (.bool (isBl x)) w := by
 unfold FnGives
 go_enter Tryz.func35, Tryz.ntmps35
 go_wp2
 go_ret
 refine ⟨?_, 0, rfl⟩
 show Ending.returned (.bool ((x : Int) == 32)) = _
 have e : ((x : Int) == 32) = isBl x := by
  unfold isBl
  rw [Bool.eq_iff_iff, beq_iff_eq, beq_iff_eq]
  omega
 rw [e]
theorem blank_at (w : World) : PredAt Tryz.prog 35 #[] encR isBl w := fun W x _ => blank_ok x W
def slots32 (p : Addr) (v : Value) : Array Value := #[.pointer (some p), v, undef, undef, v, undef, undef, undef, undef, undef, undef, undef, undef, undef, undef, undef, undef, undef, undef]
theorem slots32_eq (p : Addr) (v : Value) : #[Value.pointer (some p)] ++ ((Array.replicate 18 undef).setIfInBounds 3 v).setIfInBounds 0 v = slots32 p v := by simp [Array.replicate, slots32, List.replicate]
theorem catch_idle (p : Addr) (w : World) :
  CallsD Tryz.prog 32 #[.pointer (some p)] .returning w fun e u' w' => e = .returned (.tuple #[]) ∧ u' = .returning ∧ w' = w := by
 refine callsD_of_wpS Tryz.func32 rfl fun c₀ cs hu => ?_
 apply wpS_seq
 apply wpS_region
 simp [wpOpsS, go_sem, recoverD, hu, Tryz.ntmps32, Exit.thenS]
 rw [slots32_eq]
 unfold slots32
 refine wpS_of_wp ?_
 go_wp2
 cases c₀
 simp_all [bodyPostS, results, Tryz.results32]
theorem run_assert (a : TypeId) (n : Int) (w : World) : (Instr.typeAssert (.iface 80 (.agg #[I n])) a 80 true).run Tryz.prog w = .ok (.tuple #[.agg #[I n], .bool true]) w := by
 simp [Instr.typeAssert, run_underlying Tryz.underlying80, Result.andThen]
set_option maxHeartbeats 1000000 in
set_option maxRecDepth 100000 in
theorem catch_wrong (gl : Nat) (t : ByteArray) (n : Int) (hn : I64 n) (w : World) (hh : Has w gl 9 #[.string t]) (hs : Std w) :
  CallsD Tryz.prog 32 #[.pointer (some ⟨gl, 0, none⟩)] (.panicking (pan n)) w fun e u' w' =>
   e = .returned (.tuple #[]) ∧ u' = .panicking [{ v := .iface 80 (.agg #[I n]), recovered := true }] ∧ ∃ w1, Below w.heap.size w w1 ∧ w' = w1.setCell ⟨gl, 0, none⟩ (.string (⟨#[101, 114, 114, 111, 114, 32]⟩ ++ ⟨(Lib.itoa n).toArray⟩)) := by
 have HH := Lib.hid hh
 have HS := Lib.hid hs
 have HN := Lib.hid hn
 have hw0 : Has (w.alloc (.cells #[I n] 80)) w.heap.size 80 #[I n] := Has.new _ _ _
 have hb0 : Below w.heap.size w (w.alloc (.cells #[I n] 80)) := (Below.refl _ _).alloc (Nat.le_refl _) _
 have HB0 := Lib.hid hb0
 have HIT : Hid (Calls Tryz.prog 33 #[I n] (w.alloc (.cells #[I n] 80)) fun e w' => e = .returned (.string ⟨(Lib.itoa n).toArray⟩) ∧ Below (w.alloc (.cells #[I n] 80)).heap.size (w.alloc (.cells #[I n] 80)) w') := Lib.hid (itoa_ok n hn _ (Lib.hid (hs.after hb0)))
 have c0 := hw0.cellv 0 (I n) rfl
 have hl0 := hw0.lt
 have HZ : Hid (¬ 9223372036854775807 < 6 + (⟨(Lib.itoa n).toArray⟩ : ByteArray).size) := Lib.hid (by have := Lib.itoa_length_le n hn.1 hn.2; show ¬ _ < 6 + (Lib.itoa n).toArray.size; simp; omega)
 clear hh hs hn hb0
 refine callsD_of_wpS Tryz.func32 rfl fun c₀ cs hu => ?_
 unfold pan at hu
 apply wpS_seq
 apply wpS_region
 simp [wpOpsS, go_sem, recoverD, hu, Tryz.ntmps32, Exit.thenS]
 rw [slots32_eq]
 unfold slots32
 refine wpS_of_wp ?_
 have hta := fun a w => run_assert a n w
 go_wp2_with (go_at_call 33; refine HIT.out.mono ?_; rintro e w2 ⟨rfl, hb2⟩; have kg := HH.out.after (HB0.out.trans (hb2.mono HB0.out.size)); have q0 := kg.cellv 0 _ rfl; have q1 := kg.free 0; have q2 := kg.lt; have q3 : ¬ 9223372036854775807 < 6 + (⟨(Lib.itoa n).toArray⟩ : ByteArray).size := HZ.out)
 refine ⟨rfl, _, rfl, .tuple #[], by simp [results, Tryz.results32, go_sem], rfl, rfl, w2, HB0.out.trans (hb2.mono HB0.out.size), rfl⟩
end Go.Proofs.YtdhekhlmdefcnabGreatDoor
