/- Part 39 of the proof: DkFree. -/
import Derived.Test.YtdhekhlmdefcnabGreatDoorPart38
import Derived.Test.YtdhekhlmdefcnabGreatDoorPart7
namespace Go.Proofs.YtdhekhlmdefcnabGreatDoor
open Go.RowKit
section
variable {w : World} {B g : Nat} {x : SyX} {vr : Value} {d : Dk} {T : Nat} {A : Option Addr} {l : List ByteArray}
theorem two_reads {w : World} {g : Nat} {a b : Int} (h : Has w g 3 #[I a, I b]) : Reads w w.heap.size (some ⟨g, 0, none⟩) (ints [a, b]) := fun _ => ⟨g, 0, rfl, h.lt, fun j u hu => by rw [Nat.zero_add, h.cell]; simpa [ints] using hu⟩
theorem ba_app (a b : List UInt8) : (⟨a.toArray⟩ : ByteArray) ++ (⟨b.toArray⟩ : ByteArray) = ⟨(a ++ b).toArray⟩ := by
 apply Go.WideShapes.bytes_inj
 simp [ByteArray.data_append]
theorem two_len {a b : Int} (ha : I64 a) (hb : I64 b) : (⟨(joinI [a, b]).toArray⟩ : ByteArray).size ≤ 1000 := by
 have h := join_le 21 [32] [Lib.itoa a, Lib.itoa b] (by intro y hy; simp at hy; rcases hy with rfl | rfl; exact Lib.itoa_length_le _ ha.1 ha.2; exact Lib.itoa_length_le _ hb.1 hb.2)
 have e : (⟨(joinI [a, b]).toArray⟩ : ByteArray).size = (Lib.join [Lib.itoa a, Lib.itoa b] [32]).length := by simp [ByteArray.size, joinI]
 rw [e]
 exact Nat.le_trans h (show (21 + 1) * 2 ≤ 1000 by decide)
theorem shown64 {s : Sys} {T : Nat} (h : Fine T s) : I64 (voShown s.v) := by
 unfold voShown
 split
 ·exact ⟨by decide, by decide⟩
 ·split
  ·rename_i c hc
   exact (h.trace c (List.mem_of_getLast? hc)).2.2
  ·exact ⟨by decide, by decide⟩
theorem dk_some {w : World} (hw : Hid (Words w A l)) (c : Nat) (k : Int) (hk1 : -100 ≤ k) (hk2 : k ≤ 100) (hs : Hid (Std w)) {n : List Int} (hr : numsOf l k = some n) :
  Calls Tryz.prog 27 #[.slice A l.length c, I k] w fun e w' => (∃ v, e = .returned v ∧ w'.ownsRow w.heap.size 3 1 v n.length (ints n)) ∧ Below w.heap.size w w' :=
 dk_numbers A c l k hk1 hk2 hw.out.many hw.out.size w hw.out.reads hs _ (Lib.hid hr)
theorem numsOf_len {l : List ByteArray} {k : Int} {n : List Int} (h : numsOf l k = some n) (hk : 0 ≤ k) : (n.length : Int) = k := by
 unfold numsOf at h
 split at h
 ·cases h
 ·rename_i hb
  rw [numsTo_length h]
  unfold lenBad at hb
  rw [if_pos hk] at hb
  simpa using hb
theorem three_of {n : List Int} (h : (n.length : Int) = 3) : ∃ n0 n1 n2, n = [n0, n1, n2] := by
 match n, h with
 | [a, b, c], _ => exact ⟨a, b, c, rfl⟩
set_option maxHeartbeats 4000000 in
set_option maxRecDepth 100000 in
theorem m_many (h : DkAt w B g x vr d) (hf : Fine T d.s) (_hT : T ≤ 9900000000) (hw : Words w A l) (c : Nat) (hs : Std w) : Calls Tryz.prog 60 #[.pointer (some ⟨g, 0, none⟩), .slice A l.length c] w (MPost w B g x (does' .many d l)) := by
 have HH := Lib.hid h
 have HW := Lib.hid hw
 have HS := Lib.hid hs
 have HF := Lib.hid hf
 clear h hw hs hf
 cases hr : numsOf l 0 with
 | none =>
  have HE : Hid (does' .many d l = (d, .err 3)) := Lib.hid (by simp only [does', hr])
  rw [HE.out]
  have HN := Lib.hid (dk_none HW c 0 (by decide) (by decide) HS hr)
  clear hr HE
  go_enter Tryz.func60, Tryz.ntmps60
  go_wp2_with (go_at_call 27; refine HN.out.mono ?_; rintro e w1 ⟨rfl, hb⟩)
  exact ⟨rfl, MPost.same HH.out hb rfl⟩
 | some n =>
  have HE : Hid (does' .many d l = (d, .txt (joinI [(d.s.way.length : Int), (d.s.lost : Int)]))) := Lib.hid (by simp only [does', hr])
  rw [HE.out]
  have HN := Lib.hid (dk_zero HW c HS hr)
  clear hr HE
  go_enter Tryz.func60, Tryz.ntmps60
  go_upto_region 2 with (go_at_call 27; refine HN.out.mono ?_; rintro e w1 ⟨⟨v, rfl⟩, hb⟩; have HB := Lib.hid hb; clear hb)
  have H1 := Lib.hid (HH.out.after HB.out)
  have HS1 := Lib.hid (HS.out.after HB.out)
  have hc3 := H1.out.c3
  have hg := H1.out.has.lt
  have hn1 : I64 (d.s.way.length : Int) := I64.nat (by have := HF.out.way; omega)
  have hn2 : I64 (d.s.lost : Int) := I64.nat (by have := HF.out.lost; omega)
  have HI := Lib.hid (And.intro hn1 hn2)
  have HMC : Hid (∀ wx, Below w1.heap.size w1 wx → Calls Tryz.prog 93 #[.pointer (some ⟨x.g, 0, none⟩)] wx fun e w' => e = .returned (I (d.s.way.length : Int)) ∧ wx = w') := Lib.hid (fun wx hb => sy_many (H1.out.after hb).sys)
  have HLC : Hid (∀ wx, Below w1.heap.size w1 wx → Calls Tryz.prog 94 #[.pointer (some ⟨x.g, 0, none⟩)] wx fun e w' => e = .returned (I (d.s.lost : Int)) ∧ wx = w') := Lib.hid (fun wx hb => sy_lost (H1.out.after hb).sys)
  clear hn1 hn2
  generalize (d.s.way.length : Int) = p1 at *
  generalize (d.s.lost : Int) = p2 at *
  refine region_gen (by kernel_rfl) (fun b0 => b0.tmps.getD 0 undef = .pointer (some ⟨g, 0, none⟩) ∧ b0.defers = []) ⟨rfl, rfl⟩ 19 rfl (fun _ => 0) (fun (Γ : Unk) i => ([.pointer (some ⟨g, 0, none⟩), .pointer (some ⟨g, 0, none⟩), .pointer (some ⟨g, 3, none⟩), .pointer (some ⟨x.g, 0, none⟩), I p1, .pointer (some ⟨g, 0, none⟩), .pointer (some ⟨g, 0, none⟩), .pointer (some ⟨g, 3, none⟩), .pointer (some ⟨x.g, 0, none⟩), I p2, .slice (some ⟨Γ 0, 0, none⟩) 2 2, .string ⟨(joinI [p1, p2]).toArray⟩, .string ⟨(joinI [p1, p2]).toArray⟩] : List Value).getD i undef) [4, 9, 10, 11] (by kernel_rfl) (fun i => ([[], [], [], [], [], [], [], [], [], [], [0], [], []] : List (List Nat)).getD i []) (fun i => ([[], [], [], [], [], [], [], [], [], [], [0], [], []] : List (List Nat)).getD i []) 13 (by kernel_rfl) ?_ (fun j Γ b => ([(fun _ _ => fun wx => Below w1.heap.size w1 wx) Γ b, (fun _ _ => fun wx => Below w1.heap.size w1 wx) Γ b, (fun _ _ => fun wx => Below w1.heap.size w1 wx) Γ b, (fun Γ _ => fun wx => Below w1.heap.size w1 wx ∧ Has wx (Γ 0) 3 #[I p1, I p2]) Γ b, (fun _ _ => fun wx => Below w1.heap.size w1 wx) Γ b] : List (World → Prop)).getD j (fun _ => True)) [7, 8, 9, 10, 11, 12, 13, 14, 15, 16, 17, 18, 4] (by kernel_rfl) (by kernel_rfl) ((Below.refl _ _).drew) ?_ ?_
  ·intro Γ Γ' j hj hu
   have hj2 : j < 13 := hj
   have hcase : j = 0 ∨ j = 1 ∨ j = 2 ∨ j = 3 ∨ j = 4 ∨ j = 5 ∨ j = 6 ∨ j = 7 ∨ j = 8 ∨ j = 9 ∨ j = 10 ∨ j = 11 ∨ j = 12 := by omega
   clear hj hj2
   rcases hcase with rfl | rfl | rfl | rfl | rfl | rfl | rfl | rfl | rfl | rfl | rfl | rfl | rfl
   ·rfl
   ·rfl
   ·rfl
   ·rfl
   ·rfl
   ·rfl
   ·rfl
   ·rfl
   ·rfl
   ·rfl
   ·show (.slice (some ⟨Γ 0, 0, none⟩) 2 2 : Value) = .slice (some ⟨Γ' 0, 0, none⟩) 2 2; rw [hu 0 (by decide)]
   ·rfl
   ·rfl
  ·intro b0 hb0 i o ho
   have hi : i < 13 := (Array.getElem?_eq_some_iff.1 ho).1
   obtain ⟨f0, fdf⟩ := hb0
   have hcase : i = 0 ∨ i = 1 ∨ i = 2 ∨ i = 3 ∨ i = 4 ∨ i = 5 ∨ i = 6 ∨ i = 7 ∨ i = 8 ∨ i = 9 ∨ i = 10 ∨ i = 11 ∨ i = 12 := by omega
   clear hi
   rcases hcase with rfl | rfl | rfl | rfl | rfl | rfl | rfl | rfl | rfl | rfl | rfl | rfl | rfl
   ·simp only [List.getElem?_toArray, List.getElem?_cons_zero] at ho
    cases ho
    refine .inl ⟨by decide, by decide, fun Γ M => stepA rfl (fun li ac wx H hn hed hM K hk => ?_)⟩
    have e0 : ac.tmps[0]?.getD undef = .pointer (some ⟨g, 0, none⟩) := slot_at ((H.frm.slot (by decide)).trans f0)
    clear hed H
    go_simp
    exact hk _ hM
   ·simp only [List.getElem?_toArray, List.getElem?_cons_zero, List.getElem?_cons_succ] at ho
    cases ho
    refine .inl ⟨by decide, by decide, fun Γ M => stepA rfl (fun li ac wx H hn hed hM K hk => ?_)⟩
    have e7 : ac.tmps[7]?.getD undef = .pointer (some ⟨g, 0, none⟩) := slot_at (H.known 0 _ rfl (hed ⟨0, .data⟩ (by simp) rfl) 7 rfl)
    clear hed H
    go_simp
    exact hk _ hM
   ·simp only [List.getElem?_toArray, List.getElem?_cons_zero, List.getElem?_cons_succ] at ho
    cases ho
    refine .inl ⟨by decide, by decide, fun Γ M => stepA rfl (fun li ac wx H hn hed hM K hk => ?_)⟩
    have e8 : ac.tmps[8]?.getD undef = .pointer (some ⟨g, 0, none⟩) := slot_at (H.known 1 _ rfl (hed ⟨1, .data⟩ (by simp) rfl) 8 rfl)
    clear hed H
    go_simp
    exact hk _ hM
   ·simp only [List.getElem?_toArray, List.getElem?_cons_zero, List.getElem?_cons_succ] at ho
    cases ho
    refine .inr (.inr (.inr ⟨by decide, by decide, 0, 4, rfl, by kernel_rfl, fun Γ b j hj => ?_⟩))
    have hj2 : j = 0 := by omega
    clear hj
    subst hj2
    ·refine stepA rfl (fun li ac wx H hn hed hM K hk => ?_)
     have e9 : ac.tmps[9]?.getD undef = .pointer (some ⟨g, 3, none⟩) := slot_at (H.known 2 _ rfl (hed ⟨2, .data⟩ (by simp) rfl) 9 rfl)
     have hM1 : (fun _ _ => fun wx => Below w1.heap.size w1 wx) Γ b wx := hM
     clear hed H
     have c3 := (Below.cell hM1 (p := ⟨g, 3, none⟩) hg).trans hc3
     go_simp
     exact hk _ hM
   ·simp only [List.getElem?_toArray, List.getElem?_cons_zero, List.getElem?_cons_succ] at ho
    cases ho
    refine .inr (.inr (.inl ⟨by decide, 0, rfl, fun Γ b hba => stepC rfl (fun li ac wx H hn hed hM K hk => ?_)⟩))
    have e10 : ac.tmps[10]?.getD undef = .pointer (some ⟨x.g, 0, none⟩) := slot_at (H.known 3 _ rfl (hed ⟨3, .data⟩ (by simp) rfl) 10 rfl)
    have hM1 : (fun _ _ => fun wx => Below w1.heap.size w1 wx) Γ b wx := hM
    have hdf := Lib.hid (H.frm.defers.trans fdf)
    clear hed H
    go_simp
    refine (HMC.out wx hM1).mono ?_
    rintro e w' ⟨rfl, rfl⟩
    exact hk Γ _ (chg0 Γ) hM1
   ·simp only [List.getElem?_toArray, List.getElem?_cons_zero, List.getElem?_cons_succ] at ho
    cases ho
    refine .inl ⟨by decide, by decide, fun Γ M => stepA rfl (fun li ac wx H hn hed hM K hk => ?_)⟩
    have e0 : ac.tmps[0]?.getD undef = .pointer (some ⟨g, 0, none⟩) := slot_at ((H.frm.slot (by decide)).trans f0)
    clear hed H
    go_simp
    exact hk _ hM
   ·simp only [List.getElem?_toArray, List.getElem?_cons_zero, List.getElem?_cons_succ] at ho
    cases ho
    refine .inl ⟨by decide, by decide, fun Γ M => stepA rfl (fun li ac wx H hn hed hM K hk => ?_)⟩
    have e12 : ac.tmps[12]?.getD undef = .pointer (some ⟨g, 0, none⟩) := slot_at (H.known 5 _ rfl (hed ⟨5, .data⟩ (by simp) rfl) 12 rfl)
    clear hed H
    go_simp
    exact hk _ hM
   ·simp only [List.getElem?_toArray, List.getElem?_cons_zero, List.getElem?_cons_succ] at ho
    cases ho
    refine .inl ⟨by decide, by decide, fun Γ M => stepA rfl (fun li ac wx H hn hed hM K hk => ?_)⟩
    have e13 : ac.tmps[13]?.getD undef = .pointer (some ⟨g, 0, none⟩) := slot_at (H.known 6 _ rfl (hed ⟨6, .data⟩ (by simp) rfl) 13 rfl)
    clear hed H
    go_simp
    exact hk _ hM
   ·simp only [List.getElem?_toArray, List.getElem?_cons_zero, List.getElem?_cons_succ] at ho
    cases ho
    refine .inr (.inr (.inr ⟨by decide, by decide, 1, 9, rfl, by kernel_rfl, fun Γ b j hj => ?_⟩))
    have hj2 : j = 0 ∨ j = 1 := by omega
    clear hj
    rcases hj2 with rfl | rfl
    ·refine stepA rfl (fun li ac wx H hn hed hM K hk => ?_)
     have e14 : ac.tmps[14]?.getD undef = .pointer (some ⟨g, 3, none⟩) := slot_at (H.known 7 _ rfl (hed ⟨7, .data⟩ (by simp) rfl) 14 rfl)
     have hM1 : (fun _ _ => fun wx => Below w1.heap.size w1 wx) Γ b wx := hM
     clear hed H
     have c3 := (Below.cell hM1 (p := ⟨g, 3, none⟩) hg).trans hc3
     go_simp
     exact hk _ hM
    ·refine stepA rfl (fun li ac wx H hn hed hM K hk => ?_)
     have e14 : ac.tmps[14]?.getD undef = .pointer (some ⟨g, 3, none⟩) := slot_at (H.known 7 _ rfl (hed ⟨7, .data⟩ (by simp) rfl) 14 rfl)
     have hM1 : (fun _ _ => fun wx => Below w1.heap.size w1 wx) Γ b wx := hM
     clear hed H
     have c3 := (Below.cell hM1 (p := ⟨g, 3, none⟩) hg).trans hc3
     go_simp
     exact hk _ hM
   ·simp only [List.getElem?_toArray, List.getElem?_cons_zero, List.getElem?_cons_succ] at ho
    cases ho
    refine .inr (.inr (.inl ⟨by decide, 1, rfl, fun Γ b hba => stepC rfl (fun li ac wx H hn hed hM K hk => ?_)⟩))
    have e15 : ac.tmps[15]?.getD undef = .pointer (some ⟨x.g, 0, none⟩) := slot_at (H.known 8 _ rfl (hed ⟨8, .data⟩ (by simp) rfl) 15 rfl)
    have hM1 : (fun _ _ => fun wx => Below w1.heap.size w1 wx) Γ b wx := hM
    have hdf := Lib.hid (H.frm.defers.trans fdf)
    clear hed H
    go_simp
    refine (HLC.out wx hM1).mono ?_
    rintro e w' ⟨rfl, rfl⟩
    exact hk Γ _ (chg0 Γ) hM1
   ·simp only [List.getElem?_toArray, List.getElem?_cons_zero, List.getElem?_cons_succ] at ho
    cases ho
    refine .inr (.inr (.inl ⟨by decide, 2, rfl, fun Γ b hba => stepC rfl (fun li ac wx H hn hed hM K hk => ?_)⟩))
    have e11 : ac.tmps[11]?.getD undef = I p1 := slot_at (H.known 4 _ rfl (hed ⟨4, .data⟩ (by simp) rfl) 11 rfl)
    have e16 : ac.tmps[16]?.getD undef = I p2 := slot_at (H.known 9 _ rfl (hed ⟨9, .data⟩ (by simp) rfl) 16 rfl)
    have hM1 : (fun _ _ => fun wx => Below w1.heap.size w1 wx) Γ b wx := hM
    have hdf := Lib.hid (H.frm.defers.trans fdf)
    clear hed H
    go_simp
    exact hk (Γ.set 0 wx.heap.size) _ (chg1 _ _ _) ⟨Below.alloc hM1 hM1.size _, Has.new _ _ _⟩
   ·simp only [List.getElem?_toArray, List.getElem?_cons_zero, List.getElem?_cons_succ] at ho
    cases ho
    refine .inr (.inr (.inl ⟨by decide, 3, rfl, fun Γ b hba => stepC rfl (fun li ac wx H hn hed hM K hk => ?_)⟩))
    have e17 : ac.tmps[17]?.getD undef = .slice (some ⟨Γ 0, 0, none⟩) 2 2 := slot_at (H.known 10 _ rfl (hed ⟨10, .data⟩ (by simp) rfl) 17 rfl)
    have hM1 : (fun Γ _ => fun wx => Below w1.heap.size w1 wx ∧ Has wx (Γ 0) 3 #[I p1, I p2]) Γ b wx := hM
    have hdf := Lib.hid (H.frm.defers.trans fdf)
    clear hed H
    go_simp
    refine (dk_join _ _ [p1, p2] (by show 2 ≤ 1000; decide) (by intro y hy; simp at hy; rcases hy with rfl | rfl; exact HI.out.1; exact HI.out.2) wx (two_reads hM1.2) (Lib.hid (HS1.out.after hM1.1))).mono ?_
    rintro e w' ⟨rfl, hb⟩
    exact hk Γ _ (chg0 Γ) (hM1.1.trans (hb.mono hM1.1.size))
   ·simp only [List.getElem?_toArray, List.getElem?_cons_zero, List.getElem?_cons_succ] at ho
    cases ho
    refine .inl ⟨by decide, by decide, fun Γ M => stepA rfl (fun li ac wx H hn hed hM K hk => ?_)⟩
    have e18 : ac.tmps[18]?.getD undef = .string ⟨(joinI [p1, p2]).toArray⟩ := slot_at (H.known 11 _ rfl (hed ⟨11, .data⟩ (by simp) rfl) 18 rfl)
    clear hed H
    go_simp
    exact hk _ hM
  ·intro Γ b ac wx hF hK hM0
   have hM : (fun _ _ => fun wx => Below w1.heap.size w1 wx) Γ b wx := hM0
   have E4 : ac.tmps.getD 4 undef = .string ⟨(joinI [p1, p2]).toArray⟩ := hK 12 _ rfl 4 rfl
   have hMet := hF.meet
   simp only [List.foldl_cons, List.foldl_nil, List.setIfInBounds_toArray, List.set_cons_succ, List.set_cons_zero, E4] at hMet
   generalize ac.tmps.getD 7 undef = v7 at hMet
   generalize ac.tmps.getD 8 undef = v8 at hMet
   generalize ac.tmps.getD 9 undef = v9 at hMet
   generalize ac.tmps.getD 10 undef = v10 at hMet
   generalize ac.tmps.getD 11 undef = v11 at hMet
   generalize ac.tmps.getD 12 undef = v12 at hMet
   generalize ac.tmps.getD 13 undef = v13 at hMet
   generalize ac.tmps.getD 14 undef = v14 at hMet
   generalize ac.tmps.getD 15 undef = v15 at hMet
   generalize ac.tmps.getD 16 undef = v16 at hMet
   generalize ac.tmps.getD 17 undef = v17 at hMet
   generalize ac.tmps.getD 18 undef = v18 at hMet
   clear hF hK hM0 E4
   subst hMet
   go_wp2
   go_ret
   exact MPost.same HH.out (HB.out.trans (hM.mono HB.out.size)) rfl
set_option maxHeartbeats 4000000 in
set_option maxRecDepth 100000 in
theorem m_show (h : DkAt w B g x vr d) (hf : Fine T d.s) (_hT : T ≤ 9900000000) (hw : Words w A l) (c : Nat) (hs : Std w) : Calls Tryz.prog 64 #[.pointer (some ⟨g, 0, none⟩), .slice A l.length c] w (MPost w B g x (does' .show d l)) := by
 have HH := Lib.hid h
 have HW := Lib.hid hw
 have HS := Lib.hid hs
 have HF := Lib.hid hf
 clear h hw hs hf
 cases hr : numsOf l 0 with
 | none =>
  have HE : Hid (does' .show d l = (d, .err 3)) := Lib.hid (by simp only [does', hr])
  rw [HE.out]
  have HN := Lib.hid (dk_none HW c 0 (by decide) (by decide) HS hr)
  clear hr HE
  go_enter Tryz.func64, Tryz.ntmps64
  go_wp2_with (go_at_call 27; refine HN.out.mono ?_; rintro e w1 ⟨rfl, hb⟩)
  exact ⟨rfl, MPost.same HH.out hb rfl⟩
 | some n =>
  have HE : Hid (does' .show d l = (d, .txt (joinI [voShown d.s.v, (d.s.v.out : Int)] ++ [32] ++ Lib.formatBool d.s.v.latched))) := Lib.hid (by simp only [does', hr])
  rw [HE.out]
  have HN := Lib.hid (dk_zero HW c HS hr)
  clear hr HE
  go_enter Tryz.func64, Tryz.ntmps64
  go_upto_region 2 with (go_at_call 27; refine HN.out.mono ?_; rintro e w1 ⟨⟨v, rfl⟩, hb⟩; have HB := Lib.hid hb; clear hb)
  have H1 := Lib.hid (HH.out.after HB.out)
  have HS1 := Lib.hid (HS.out.after HB.out)
  have hc3 := H1.out.c3
  have hg := H1.out.has.lt
  have hn1 : I64 (voShown d.s.v) := shown64 HF.out
  have hn2 : I64 (d.s.v.out : Int) := I64.nat (by have := HF.out.vo.out; omega)
  have HI := Lib.hid (And.intro hn1 hn2)
  have HMC : Hid (∀ wx, Below w1.heap.size w1 wx → Calls Tryz.prog 97 #[.pointer (some ⟨x.g, 0, none⟩)] wx fun e w' => e = .returned (I (voShown d.s.v)) ∧ ∃ q, wx.drewN q = w') := Lib.hid (fun wx hb => sy_shown (H1.out.after hb).sys HF.out.vo.many)
  have HLC : Hid (∀ wx, Below w1.heap.size w1 wx → Calls Tryz.prog 98 #[.pointer (some ⟨x.g, 0, none⟩)] wx fun e w' => e = .returned (I (d.s.v.out : Int)) ∧ wx = w') := Lib.hid (fun wx hb => sy_out (H1.out.after hb).sys)
  have HTC : Hid (∀ wx, Below w1.heap.size w1 wx → Calls Tryz.prog 100 #[.pointer (some ⟨x.g, 0, none⟩)] wx fun e w' => e = .returned (.bool d.s.v.latched) ∧ wx = w') := Lib.hid (fun wx hb => sy_latched (H1.out.after hb).sys)
  clear hn1 hn2
  generalize voShown d.s.v = p1 at *
  generalize (d.s.v.out : Int) = p2 at *
  generalize d.s.v.latched = bl at *
  have HJ : Hid (∀ wx b, Below w1.heap.size w1 wx → Has wx b 3 #[I p1, I p2] → Calls Tryz.prog 89 #[.slice (some ⟨b, 0, none⟩) 2 2] wx fun e w' => e = .returned (.string ⟨(joinI [p1, p2]).toArray⟩) ∧ Below wx.heap.size wx w') := Lib.hid (fun wx b hb hh => dk_join _ _ [p1, p2] (by show 2 ≤ 1000; decide) (by intro y hy; simp at hy; rcases hy with rfl | rfl; exact HI.out.1; exact HI.out.2) wx (two_reads hh) (Lib.hid (HS1.out.after hb)))
  have HFB : Hid (∀ wx : World, Calls Tryz.prog 99 #[.bool bl] wx fun e w' => e = .returned (.string ⟨(Lib.formatBool bl).toArray⟩) ∧ w' = wx) := Lib.hid (fun wx => Tryz.strconv_FormatBool bl wx)
  have HT : Hid ((⟨(joinI [p1, p2]).toArray⟩ : ByteArray) ++ ⟨#[32]⟩ ++ ⟨(Lib.formatBool bl).toArray⟩ = ⟨(joinI [p1, p2] ++ [32] ++ Lib.formatBool bl).toArray⟩) := Lib.hid (by
   rw [show (⟨#[32]⟩ : ByteArray) = ⟨[32].toArray⟩ from rfl, ba_app, ba_app])
  have HZ : Hid ((⟨(joinI [p1, p2]).toArray⟩ : ByteArray).size ≤ 1000 ∧ (⟨(Lib.formatBool bl).toArray⟩ : ByteArray).size ≤ 1000) := Lib.hid ⟨two_len HI.out.1 HI.out.2, by cases bl <;> decide⟩
  generalize (⟨(joinI [p1, p2]).toArray⟩ : ByteArray) = T1 at *
  generalize (⟨(Lib.formatBool bl).toArray⟩ : ByteArray) = T2 at *
  refine region_gen (by kernel_rfl) (fun b0 => b0.tmps.getD 0 undef = .pointer (some ⟨g, 0, none⟩) ∧ b0.defers = []) ⟨rfl, rfl⟩ 27 rfl (fun _ => 0) (fun (Γ : Unk) i => ([.pointer (some ⟨g, 0, none⟩), .pointer (some ⟨g, 0, none⟩), .pointer (some ⟨g, 3, none⟩), .pointer (some ⟨x.g, 0, none⟩), I p1, .pointer (some ⟨g, 0, none⟩), .pointer (some ⟨g, 0, none⟩), .pointer (some ⟨g, 3, none⟩), .pointer (some ⟨x.g, 0, none⟩), I p2, .slice (some ⟨Γ 0, 0, none⟩) 2 2, .string T1, .string (T1 ++ ⟨#[32]⟩), .pointer (some ⟨g, 0, none⟩), .pointer (some ⟨g, 0, none⟩), .pointer (some ⟨g, 3, none⟩), .pointer (some ⟨x.g, 0, none⟩), .bool bl, .string T2, .string (T1 ++ ⟨#[32]⟩ ++ T2), .string (T1 ++ ⟨#[32]⟩ ++ T2)] : List Value).getD i undef) [4, 9, 10, 11, 17, 18] (by kernel_rfl) (fun i => ([[], [], [], [], [], [], [], [], [], [], [0], [], [], [], [], [], [], [], [], [], []] : List (List Nat)).getD i []) (fun i => ([[], [], [], [], [], [], [], [], [], [], [0], [], [], [], [], [], [], [], [], [], []] : List (List Nat)).getD i []) 21 (by kernel_rfl) ?_ (fun j Γ b => ([(fun _ _ => fun wx => Below w1.heap.size w1 wx) Γ b, (fun _ _ => fun wx => Below w1.heap.size w1 wx) Γ b, (fun _ _ => fun wx => Below w1.heap.size w1 wx) Γ b, (fun Γ _ => fun wx => Below w1.heap.size w1 wx ∧ Has wx (Γ 0) 3 #[I p1, I p2]) Γ b, (fun _ _ => fun wx => Below w1.heap.size w1 wx) Γ b, (fun _ _ => fun wx => Below w1.heap.size w1 wx) Γ b, (fun _ _ => fun wx => Below w1.heap.size w1 wx) Γ b] : List (World → Prop)).getD j (fun _ => True)) [7, 8, 9, 10, 11, 12, 13, 14, 15, 16, 17, 18, 19, 20, 21, 22, 23, 24, 25, 26, 4] (by kernel_rfl) (by kernel_rfl) ((Below.refl _ _).drew) ?_ ?_
  ·intro Γ Γ' j hj hu
   have hj2 : j < 21 := hj
   have hcase : j = 0 ∨ j = 1 ∨ j = 2 ∨ j = 3 ∨ j = 4 ∨ j = 5 ∨ j = 6 ∨ j = 7 ∨ j = 8 ∨ j = 9 ∨ j = 10 ∨ j = 11 ∨ j = 12 ∨ j = 13 ∨ j = 14 ∨ j = 15 ∨ j = 16 ∨ j = 17 ∨ j = 18 ∨ j = 19 ∨ j = 20 := by omega
   clear hj hj2
   rcases hcase with rfl | rfl | rfl | rfl | rfl | rfl | rfl | rfl | rfl | rfl | rfl | rfl | rfl | rfl | rfl | rfl | rfl | rfl | rfl | rfl | rfl
   ·rfl
   ·rfl
   ·rfl
   ·rfl
   ·rfl
   ·rfl
   ·rfl
   ·rfl
   ·rfl
   ·rfl
   ·show (.slice (some ⟨Γ 0, 0, none⟩) 2 2 : Value) = .slice (some ⟨Γ' 0, 0, none⟩) 2 2; rw [hu 0 (by decide)]
   ·rfl
   ·rfl
   ·rfl
   ·rfl
   ·rfl
   ·rfl
   ·rfl
   ·rfl
   ·rfl
   ·rfl
  ·intro b0 hb0 i o ho
   have hi : i < 21 := (Array.getElem?_eq_some_iff.1 ho).1
   obtain ⟨f0, fdf⟩ := hb0
   have hcase : i = 0 ∨ i = 1 ∨ i = 2 ∨ i = 3 ∨ i = 4 ∨ i = 5 ∨ i = 6 ∨ i = 7 ∨ i = 8 ∨ i = 9 ∨ i = 10 ∨ i = 11 ∨ i = 12 ∨ i = 13 ∨ i = 14 ∨ i = 15 ∨ i = 16 ∨ i = 17 ∨ i = 18 ∨ i = 19 ∨ i = 20 := by omega
   clear hi
   rcases hcase with rfl | rfl | rfl | rfl | rfl | rfl | rfl | rfl | rfl | rfl | rfl | rfl | rfl | rfl | rfl | rfl | rfl | rfl | rfl | rfl | rfl
   ·simp only [List.getElem?_toArray, List.getElem?_cons_zero] at ho
    cases ho
    refine .inl ⟨by decide, by decide, fun Γ M => stepA rfl (fun li ac wx H hn hed hM K hk => ?_)⟩
    have e0 : ac.tmps[0]?.getD undef = .pointer (some ⟨g, 0, none⟩) := slot_at ((H.frm.slot (by decide)).trans f0)
    clear hed H
    go_simp
    exact hk _ hM
   ·simp only [List.getElem?_toArray, List.getElem?_cons_zero, List.getElem?_cons_succ] at ho
    cases ho
    refine .inl ⟨by decide, by decide, fun Γ M => stepA rfl (fun li ac wx H hn hed hM K hk => ?_)⟩
    have e7 : ac.tmps[7]?.getD undef = .pointer (some ⟨g, 0, none⟩) := slot_at (H.known 0 _ rfl (hed ⟨0, .data⟩ (by simp) rfl) 7 rfl)
    clear hed H
    go_simp
    exact hk _ hM
   ·simp only [List.getElem?_toArray, List.getElem?_cons_zero, List.getElem?_cons_succ] at ho
    cases ho
    refine .inl ⟨by decide, by decide, fun Γ M => stepA rfl (fun li ac wx H hn hed hM K hk => ?_)⟩
    have e8 : ac.tmps[8]?.getD undef = .pointer (some ⟨g, 0, none⟩) := slot_at (H.known 1 _ rfl (hed ⟨1, .data⟩ (by simp) rfl) 8 rfl)
    clear hed H
    go_simp
    exact hk _ hM
   ·simp only [List.getElem?_toArray, List.getElem?_cons_zero, List.getElem?_cons_succ] at ho
    cases ho
    refine .inr (.inr (.inr ⟨by decide, by decide, 0, 4, rfl, by kernel_rfl, fun Γ b j hj => ?_⟩))
    have hj2 : j = 0 := by omega
    clear hj
    subst hj2
    ·refine stepA rfl (fun li ac wx H hn hed hM K hk => ?_)
     have e9 : ac.tmps[9]?.getD undef = .pointer (some ⟨g, 3, none⟩) := slot_at (H.known 2 _ rfl (hed ⟨2, .data⟩ (by simp) rfl) 9 rfl)
     have hM1 : (fun _ _ => fun wx => Below w1.heap.size w1 wx) Γ b wx := hM
     clear hed H
     have c3 := (Below.cell hM1 (p := ⟨g, 3, none⟩) hg).trans hc3
     go_simp
     exact hk _ hM
   ·simp only [List.getElem?_toArray, List.getElem?_cons_zero, List.getElem?_cons_succ] at ho
    cases ho
    refine .inr (.inr (.inl ⟨by decide, 0, rfl, fun Γ b hba => stepC rfl (fun li ac wx H hn hed hM K hk => ?_)⟩))
    have e10 : ac.tmps[10]?.getD undef = .pointer (some ⟨x.g, 0, none⟩) := slot_at (H.known 3 _ rfl (hed ⟨3, .data⟩ (by simp) rfl) 10 rfl)
    have hM1 : (fun _ _ => fun wx => Below w1.heap.size w1 wx) Γ b wx := hM
    have hdf := Lib.hid (H.frm.defers.trans fdf)
    clear hed H
    go_simp
    refine (HMC.out wx hM1).mono ?_
    rintro e w' ⟨rfl, q, rfl⟩
    exact hk Γ _ (chg0 Γ) (below_drewN hM1 q)
   ·simp only [List.getElem?_toArray, List.getElem?_cons_zero, List.getElem?_cons_succ] at ho
    cases ho
    refine .inl ⟨by decide, by decide, fun Γ M => stepA rfl (fun li ac wx H hn hed hM K hk => ?_)⟩
    have e0 : ac.tmps[0]?.getD undef = .pointer (some ⟨g, 0, none⟩) := slot_at ((H.frm.slot (by decide)).trans f0)
    clear hed H
    go_simp
    exact hk _ hM
   ·simp only [List.getElem?_toArray, List.getElem?_cons_zero, List.getElem?_cons_succ] at ho
    cases ho
    refine .inl ⟨by decide, by decide, fun Γ M => stepA rfl (fun li ac wx H hn hed hM K hk => ?_)⟩
    have e12 : ac.tmps[12]?.getD undef = .pointer (some ⟨g, 0, none⟩) := slot_at (H.known 5 _ rfl (hed ⟨5, .data⟩ (by simp) rfl) 12 rfl)
    clear hed H
    go_simp
    exact hk _ hM
   ·simp only [List.getElem?_toArray, List.getElem?_cons_zero, List.getElem?_cons_succ] at ho
    cases ho
    refine .inl ⟨by decide, by decide, fun Γ M => stepA rfl (fun li ac wx H hn hed hM K hk => ?_)⟩
    have e13 : ac.tmps[13]?.getD undef = .pointer (some ⟨g, 0, none⟩) := slot_at (H.known 6 _ rfl (hed ⟨6, .data⟩ (by simp) rfl) 13 rfl)
    clear hed H
    go_simp
    exact hk _ hM
   ·simp only [List.getElem?_toArray, List.getElem?_cons_zero, List.getElem?_cons_succ] at ho
    cases ho
    refine .inr (.inr (.inr ⟨by decide, by decide, 1, 9, rfl, by kernel_rfl, fun Γ b j hj => ?_⟩))
    have hj2 : j = 0 ∨ j = 1 := by omega
    clear hj
    rcases hj2 with rfl | rfl
    ·refine stepA rfl (fun li ac wx H hn hed hM K hk => ?_)
     have e14 : ac.tmps[14]?.getD undef = .pointer (some ⟨g, 3, none⟩) := slot_at (H.known 7 _ rfl (hed ⟨7, .data⟩ (by simp) rfl) 14 rfl)
     have hM1 : (fun _ _ => fun wx => Below w1.heap.size w1 wx) Γ b wx := hM
     clear hed H
     have c3 := (Below.cell hM1 (p := ⟨g, 3, none⟩) hg).trans hc3
     go_simp
     exact hk _ hM
    ·refine stepA rfl (fun li ac wx H hn hed hM K hk => ?_)
     have e14 : ac.tmps[14]?.getD undef = .pointer (some ⟨g, 3, none⟩) := slot_at (H.known 7 _ rfl (hed ⟨7, .data⟩ (by simp) rfl) 14 rfl)
     have hM1 : (fun _ _ => fun wx => Below w1.heap.size w1 wx) Γ b wx := hM
     clear hed H
     have c3 := (Below.cell hM1 (p := ⟨g, 3, none⟩) hg).trans hc3
     go_simp
     exact hk _ hM
   ·simp only [List.getElem?_toArray, List.getElem?_cons_zero, List.getElem?_cons_succ] at ho
    cases ho
    refine .inr (.inr (.inl ⟨by decide, 1, rfl, fun Γ b hba => stepC rfl (fun li ac wx H hn hed hM K hk => ?_)⟩))
    have e15 : ac.tmps[15]?.getD undef = .pointer (some ⟨x.g, 0, none⟩) := slot_at (H.known 8 _ rfl (hed ⟨8, .data⟩ (by simp) rfl) 15 rfl)
    have hM1 : (fun _ _ => fun wx => Below w1.heap.size w1 wx) Γ b wx := hM
    have hdf := Lib.hid (H.frm.defers.trans fdf)
    clear hed H
    go_simp
    refine (HLC.out wx hM1).mono ?_
    rintro e w' ⟨rfl, rfl⟩
    exact hk Γ _ (chg0 Γ) hM1
   ·simp only [List.getElem?_toArray, List.getElem?_cons_zero, List.getElem?_cons_succ] at ho
    cases ho
    refine .inr (.inr (.inl ⟨by decide, 2, rfl, fun Γ b hba => stepC rfl (fun li ac wx H hn hed hM K hk => ?_)⟩))
    have e11 : ac.tmps[11]?.getD undef = I p1 := slot_at (H.known 4 _ rfl (hed ⟨4, .data⟩ (by simp) rfl) 11 rfl)
    have e16 : ac.tmps[16]?.getD undef = I p2 := slot_at (H.known 9 _ rfl (hed ⟨9, .data⟩ (by simp) rfl) 16 rfl)
    have hM1 : (fun _ _ => fun wx => Below w1.heap.size w1 wx) Γ b wx := hM
    have hdf := Lib.hid (H.frm.defers.trans fdf)
    clear hed H
    go_simp
    exact hk (Γ.set 0 wx.heap.size) _ (chg1 _ _ _) ⟨Below.alloc hM1 hM1.size _, Has.new _ _ _⟩
   ·simp only [List.getElem?_toArray, List.getElem?_cons_zero, List.getElem?_cons_succ] at ho
    cases ho
    refine .inr (.inr (.inl ⟨by decide, 3, rfl, fun Γ b hba => stepC rfl (fun li ac wx H hn hed hM K hk => ?_)⟩))
    have e17 : ac.tmps[17]?.getD undef = .slice (some ⟨Γ 0, 0, none⟩) 2 2 := slot_at (H.known 10 _ rfl (hed ⟨10, .data⟩ (by simp) rfl) 17 rfl)
    have hM1 : (fun Γ _ => fun wx => Below w1.heap.size w1 wx ∧ Has wx (Γ 0) 3 #[I p1, I p2]) Γ b wx := hM
    have hdf := Lib.hid (H.frm.defers.trans fdf)
    clear hed H
    go_simp
    refine (HJ.out wx _ hM1.1 hM1.2).mono ?_
    rintro e w' ⟨rfl, hb⟩
    exact hk Γ _ (chg0 Γ) (hM1.1.trans (hb.mono hM1.1.size))
   ·simp only [List.getElem?_toArray, List.getElem?_cons_zero, List.getElem?_cons_succ] at ho
    cases ho
    refine .inl ⟨by decide, by decide, fun Γ M => stepA rfl (fun li ac wx H hn hed hM K hk => ?_)⟩
    have e18 : ac.tmps[18]?.getD undef = .string T1 := slot_at (H.known 11 _ rfl (hed ⟨11, .data⟩ (by simp) rfl) 18 rfl)
    have hz := HZ.out
    have z1 : ¬ 9223372036854775807 < T1.size + 1 := by omega
    clear hz
    clear hed H
    go_simp
    exact hk _ hM
   ·simp only [List.getElem?_toArray, List.getElem?_cons_zero, List.getElem?_cons_succ] at ho
    cases ho
    refine .inl ⟨by decide, by decide, fun Γ M => stepA rfl (fun li ac wx H hn hed hM K hk => ?_)⟩
    have e0 : ac.tmps[0]?.getD undef = .pointer (some ⟨g, 0, none⟩) := slot_at ((H.frm.slot (by decide)).trans f0)
    clear hed H
    go_simp
    exact hk _ hM
   ·simp only [List.getElem?_toArray, List.getElem?_cons_zero, List.getElem?_cons_succ] at ho
    cases ho
    refine .inl ⟨by decide, by decide, fun Γ M => stepA rfl (fun li ac wx H hn hed hM K hk => ?_)⟩
    have e20 : ac.tmps[20]?.getD undef = .pointer (some ⟨g, 0, none⟩) := slot_at (H.known 13 _ rfl (hed ⟨13, .data⟩ (by simp) rfl) 20 rfl)
    clear hed H
    go_simp
    exact hk _ hM
   ·simp only [List.getElem?_toArray, List.getElem?_cons_zero, List.getElem?_cons_succ] at ho
    cases ho
    refine .inl ⟨by decide, by decide, fun Γ M => stepA rfl (fun li ac wx H hn hed hM K hk => ?_)⟩
    have e21 : ac.tmps[21]?.getD undef = .pointer (some ⟨g, 0, none⟩) := slot_at (H.known 14 _ rfl (hed ⟨14, .data⟩ (by simp) rfl) 21 rfl)
    clear hed H
    go_simp
    exact hk _ hM
   ·simp only [List.getElem?_toArray, List.getElem?_cons_zero, List.getElem?_cons_succ] at ho
    cases ho
    refine .inr (.inr (.inr ⟨by decide, by decide, 4, 17, rfl, by kernel_rfl, fun Γ b j hj => ?_⟩))
    have hj2 : j = 0 ∨ j = 1 ∨ j = 2 ∨ j = 3 ∨ j = 4 := by omega
    clear hj
    rcases hj2 with rfl | rfl | rfl | rfl | rfl
    ·refine stepA rfl (fun li ac wx H hn hed hM K hk => ?_)
     have e22 : ac.tmps[22]?.getD undef = .pointer (some ⟨g, 3, none⟩) := slot_at (H.known 15 _ rfl (hed ⟨15, .data⟩ (by simp) rfl) 22 rfl)
     have hM1 : (fun _ _ => fun wx => Below w1.heap.size w1 wx) Γ b wx := hM
     clear hed H
     have hMb : Below w1.heap.size w1 wx := by first | exact hM1 | exact hM1.1
     have c3 := (Below.cell hMb (p := ⟨g, 3, none⟩) hg).trans hc3
     go_simp
     exact hk _ hM
    ·refine stepA rfl (fun li ac wx H hn hed hM K hk => ?_)
     have e22 : ac.tmps[22]?.getD undef = .pointer (some ⟨g, 3, none⟩) := slot_at (H.known 15 _ rfl (hed ⟨15, .data⟩ (by simp) rfl) 22 rfl)
     have hM1 : (fun _ _ => fun wx => Below w1.heap.size w1 wx) Γ b wx := hM
     clear hed H
     have hMb : Below w1.heap.size w1 wx := by first | exact hM1 | exact hM1.1
     have c3 := (Below.cell hMb (p := ⟨g, 3, none⟩) hg).trans hc3
     go_simp
     exact hk _ hM
    ·refine stepA rfl (fun li ac wx H hn hed hM K hk => ?_)
     have e22 : ac.tmps[22]?.getD undef = .pointer (some ⟨g, 3, none⟩) := slot_at (H.known 15 _ rfl (hed ⟨15, .data⟩ (by simp) rfl) 22 rfl)
     have hM1 : (fun _ _ => fun wx => Below w1.heap.size w1 wx) Γ b wx := hM
     clear hed H
     have hMb : Below w1.heap.size w1 wx := by first | exact hM1 | exact hM1.1
     have c3 := (Below.cell hMb (p := ⟨g, 3, none⟩) hg).trans hc3
     go_simp
     exact hk _ hM
    ·refine stepA rfl (fun li ac wx H hn hed hM K hk => ?_)
     have e22 : ac.tmps[22]?.getD undef = .pointer (some ⟨g, 3, none⟩) := slot_at (H.known 15 _ rfl (hed ⟨15, .data⟩ (by simp) rfl) 22 rfl)
     have hM1 : (fun Γ _ => fun wx => Below w1.heap.size w1 wx ∧ Has wx (Γ 0) 3 #[I p1, I p2]) Γ b wx := hM
     clear hed H
     have hMb : Below w1.heap.size w1 wx := by first | exact hM1 | exact hM1.1
     have c3 := (Below.cell hMb (p := ⟨g, 3, none⟩) hg).trans hc3
     go_simp
     exact hk _ hM
    ·refine stepA rfl (fun li ac wx H hn hed hM K hk => ?_)
     have e22 : ac.tmps[22]?.getD undef = .pointer (some ⟨g, 3, none⟩) := slot_at (H.known 15 _ rfl (hed ⟨15, .data⟩ (by simp) rfl) 22 rfl)
     have hM1 : (fun _ _ => fun wx => Below w1.heap.size w1 wx) Γ b wx := hM
     clear hed H
     have hMb : Below w1.heap.size w1 wx := by first | exact hM1 | exact hM1.1
     have c3 := (Below.cell hMb (p := ⟨g, 3, none⟩) hg).trans hc3
     go_simp
     exact hk _ hM
   ·simp only [List.getElem?_toArray, List.getElem?_cons_zero, List.getElem?_cons_succ] at ho
    cases ho
    refine .inr (.inr (.inl ⟨by decide, 4, rfl, fun Γ b hba => stepC rfl (fun li ac wx H hn hed hM K hk => ?_)⟩))
    have e23 : ac.tmps[23]?.getD undef = .pointer (some ⟨x.g, 0, none⟩) := slot_at (H.known 16 _ rfl (hed ⟨16, .data⟩ (by simp) rfl) 23 rfl)
    have hM1 : (fun _ _ => fun wx => Below w1.heap.size w1 wx) Γ b wx := hM
    have hdf := Lib.hid (H.frm.defers.trans fdf)
    clear hed H
    go_simp
    refine (HTC.out wx hM1).mono ?_
    rintro e w' ⟨rfl, rfl⟩
    exact hk Γ _ (chg0 Γ) hM1
   ·simp only [List.getElem?_toArray, List.getElem?_cons_zero, List.getElem?_cons_succ] at ho
    cases ho
    refine .inr (.inr (.inl ⟨by decide, 5, rfl, fun Γ b hba => stepC rfl (fun li ac wx H hn hed hM K hk => ?_)⟩))
    have e24 : ac.tmps[24]?.getD undef = .bool bl := slot_at (H.known 17 _ rfl (hed ⟨17, .data⟩ (by simp) rfl) 24 rfl)
    have hM1 : (fun _ _ => fun wx => Below w1.heap.size w1 wx) Γ b wx := hM
    have hdf := Lib.hid (H.frm.defers.trans fdf)
    clear hed H
    go_simp
    refine (HFB.out wx).mono ?_
    rintro e w' ⟨rfl, rfl⟩
    exact hk Γ _ (chg0 Γ) hM1
   ·simp only [List.getElem?_toArray, List.getElem?_cons_zero, List.getElem?_cons_succ] at ho
    cases ho
    refine .inl ⟨by decide, by decide, fun Γ M => stepA rfl (fun li ac wx H hn hed hM K hk => ?_)⟩
    have e19 : ac.tmps[19]?.getD undef = .string (T1 ++ ⟨#[32]⟩) := slot_at (H.known 12 _ rfl (hed ⟨12, .data⟩ (by simp) rfl) 19 rfl)
    have e25 : ac.tmps[25]?.getD undef = .string T2 := slot_at (H.known 18 _ rfl (hed ⟨18, .data⟩ (by simp) rfl) 25 rfl)
    have hz := HZ.out
    have z1 : ¬ 9223372036854775807 < T1.size + 1 + T2.size := by omega
    clear hz
    clear hed H
    go_simp
    exact hk _ hM
   ·simp only [List.getElem?_toArray, List.getElem?_cons_zero, List.getElem?_cons_succ] at ho
    cases ho
    refine .inl ⟨by decide, by decide, fun Γ M => stepA rfl (fun li ac wx H hn hed hM K hk => ?_)⟩
    have e26 : ac.tmps[26]?.getD undef = .string (T1 ++ ⟨#[32]⟩ ++ T2) := slot_at (H.known 19 _ rfl (hed ⟨19, .data⟩ (by simp) rfl) 26 rfl)
    clear hed H
    go_simp
    exact hk _ hM
  ·intro Γ b ac wx hF hK hM0
   have hM : (fun _ _ => fun wx => Below w1.heap.size w1 wx) Γ b wx := hM0
   have E4 : ac.tmps.getD 4 undef = .string (T1 ++ ⟨#[32]⟩ ++ T2) := hK 20 _ rfl 4 rfl
   have hMet := hF.meet
   simp only [List.foldl_cons, List.foldl_nil, List.setIfInBounds_toArray, List.set_cons_succ, List.set_cons_zero, E4] at hMet
   generalize ac.tmps.getD 7 undef = v7 at hMet
   generalize ac.tmps.getD 8 undef = v8 at hMet
   generalize ac.tmps.getD 9 undef = v9 at hMet
   generalize ac.tmps.getD 10 undef = v10 at hMet
   generalize ac.tmps.getD 11 undef = v11 at hMet
   generalize ac.tmps.getD 12 undef = v12 at hMet
   generalize ac.tmps.getD 13 undef = v13 at hMet
   generalize ac.tmps.getD 14 undef = v14 at hMet
   generalize ac.tmps.getD 15 undef = v15 at hMet
   generalize ac.tmps.getD 16 undef = v16 at hMet
   generalize ac.tmps.getD 17 undef = v17 at hMet
   generalize ac.tmps.getD 18 undef = v18 at hMet
   generalize ac.tmps.getD 19 undef = v19 at hMet
   generalize ac.tmps.getD 20 undef = v20 at hMet
   generalize ac.tmps.getD 21 undef = v21 at hMet
   generalize ac.tmps.getD 22 undef = v22 at hMet
   generalize ac.tmps.getD 23 undef = v23 at hMet
   generalize ac.tmps.getD 24 undef = v24 at hMet
   generalize ac.tmps.getD 25 undef = v25 at hMet
   generalize ac.tmps.getD 26 undef = v26 at hMet
   clear hF hK hM0 E4
   subst hMet
   go_wp2
   go_ret
   exact ⟨by show Ending.returned (.string _) = .returned (.string _); rw [HT.out]; simp, (MPost.same (a := .txt []) HH.out (HB.out.trans (hM.mono HB.out.size)) rfl).2⟩
set_option maxHeartbeats 4000000 in
set_option maxRecDepth 100000 in
theorem m_see (h : DkAt w B g x vr d) (hf : Fine T d.s) (_hT : T ≤ 9900000000) (hw : Words w A l) (c : Nat) (hs : Std w) : Calls Tryz.prog 63 #[.pointer (some ⟨g, 0, none⟩), .slice A l.length c] w (MPost w B g x (does' .see d l)) := by
 have HH := Lib.hid h
 have HW := Lib.hid hw
 have HS := Lib.hid hs
 have HF := Lib.hid hf
 clear h hw hs hf
 cases hr : numsOf l 3 with
 | none =>
  have HE : Hid (does' .see d l = (d, .err 3)) := Lib.hid (by simp only [does', hr])
  rw [HE.out]
  have HN := Lib.hid (dk_none HW c 3 (by decide) (by decide) HS hr)
  clear hr HE
  go_enter Tryz.func63, Tryz.ntmps63
  go_wp2_with (go_at_call 27; refine HN.out.mono ?_; rintro e w1 ⟨rfl, hb⟩)
  exact ⟨rfl, MPost.same HH.out hb rfl⟩
 | some n =>
  have HE : Hid (does' .see d l = dOne d (isRep (at0 n)) (sysSee d.s (at0 n).toNat (n.getD 1 0, n.getD 2 0)) [115, 101, 101]) := Lib.hid (by simp only [does', hr])
  rw [HE.out]
  obtain ⟨n0, n1, n2, rfl⟩ : ∃ n0 n1 n2, n = [n0, n1, n2] := three_of (numsOf_len hr (by decide))
  have HN := Lib.hid (dk_some HW c 3 (by decide) (by decide) HS hr)
  clear hr HE
  go_enter Tryz.func63, Tryz.ntmps63
  go_upto_region 2 with (go_at_call 27; refine HN.out.mono ?_; rintro e w1 ⟨⟨v, rfl, ho⟩, hb⟩; have HB := Lib.hid hb; have HO := Lib.hid ho; clear hb ho)
  obtain ⟨bn, cb, cs, rfl, -, hh, hcs⟩ := own_cells HO.out (by show 0 < 3; decide)
  have hq0 : w1.cell? ⟨bn, 0, none⟩ = some (I n0) := by rw [hh.cell]; exact hcs 0 _ rfl
  have hq1 : w1.cell? ⟨bn, 1, none⟩ = some (I n1) := by rw [hh.cell]; exact hcs 1 _ rfl
  have hq2 : w1.cell? ⟨bn, 2, none⟩ = some (I n2) := by rw [hh.cell]; exact hcs 2 _ rfl
  have hbl := hh.lt
  have H1 := Lib.hid (HH.out.after HB.out)
  have HS1 := Lib.hid (HS.out.after HB.out)
  have hc3 := H1.out.c3
  have hg := H1.out.has.lt
  clear hh hcs HO HN
  by_cases hok : isRep n0 = true
  ·have HE2 : Hid (dOne d (isRep (at0 [n0, n1, n2])) (sysSee d.s (at0 [n0, n1, n2]).toNat (n1, n2)) [115, 101, 101] = ({ d with s := sysSee d.s n0.toNat (n1, n2) }, .txt [115, 101, 101])) := Lib.hid (by
    rw [show at0 [n0, n1, n2] = n0 from rfl, hok]
    rfl)
   have HX := Lib.hid (fun wx (hb : Below w1.heap.size w1 wx) => show Calls Tryz.prog 9 #[.pointer (some ⟨x.g, 0, none⟩), I n0, .agg #[I n1, I n2]] wx (fun e w' => e = .returned .nilIface ∧ SyIn wx B x d.L (sysSee d.s n0.toNat (n1, n2)) w' ∧ Stay wx w') from by
    obtain ⟨k, hk, hk3⟩ : ∃ k : Nat, n0 = k ∧ k < 3 := by unfold isRep at hok; simp only [Bool.and_eq_true, decide_eq_true_eq] at hok; exact ⟨n0.toNat, by omega, by omega⟩
    rw [hk, Int.toNat_natCast]
    refine (in_see (SyIn.start (H1.out.after hb).sys (H1.out.after hb).hB) k hk3 n1 n2).mono ?_
    rintro e w' ⟨⟨v, rfl, rfl⟩, h2, h3⟩
    exact ⟨rfl, h2, h3⟩)
   clear hok
   refine region_gen (by kernel_rfl) (fun b0 => b0.tmps.getD 0 undef = .pointer (some ⟨g, 0, none⟩) ∧ b0.tmps.getD 5 undef = .slice (some ⟨bn, 0, none⟩) 3 cb ∧ b0.defers = []) ⟨rfl, rfl, rfl⟩ 24 rfl (fun _ => 0) (fun (Γ : Unk) i => ([.pointer (some ⟨g, 0, none⟩), .pointer (some ⟨g, 0, none⟩), .pointer (some ⟨g, 3, none⟩), .pointer (some ⟨x.g, 0, none⟩), .slice (some ⟨bn, 0, none⟩) 3 cb, .pointer (some ⟨bn, 0, none⟩), I n0, .slice (some ⟨bn, 0, none⟩) 3 cb, .pointer (some ⟨bn, 1, none⟩), I n1, .slice (some ⟨bn, 0, none⟩) 3 cb, .pointer (some ⟨bn, 2, none⟩), I n2, .agg #[I n1, I n2], .nilIface, .tuple #[]] : List Value).getD i undef) [14, 15] (by kernel_rfl) (fun i => ([[], [], [], [], [], [], [], [], [], [], [], [], [], [], [], []] : List (List Nat)).getD i []) (fun i => ([[], [], [], [], [], [], [], [], [], [], [], [], [], [], [], []] : List (List Nat)).getD i []) 16 (by kernel_rfl) ?_ (fun j Γ b => ([(fun _ _ => fun wx => Below w1.heap.size w1 wx) Γ b, (fun _ _ => fun wx => Hid (∃ w2, Below w1.heap.size w1 w2 ∧ SyIn w2 B x d.L (sysSee d.s n0.toNat (n1, n2)) wx ∧ Stay w2 wx)) Γ b, (fun _ _ => fun wx => Hid (∃ w2, Below w1.heap.size w1 w2 ∧ SyIn w2 B x d.L (sysSee d.s n0.toNat (n1, n2)) wx ∧ Stay w2 wx)) Γ b] : List (World → Prop)).getD j (fun _ => True)) [8, 9, 10, 11, 12, 13, 14, 15, 16, 17, 18, 19, 20, 21, 22, 23] (by kernel_rfl) (by kernel_rfl) ((Below.refl _ _).drew) ?_ ?_
   ·intro Γ Γ' j hj hu
    have hj2 : j < 16 := hj
    have hcase : j = 0 ∨ j = 1 ∨ j = 2 ∨ j = 3 ∨ j = 4 ∨ j = 5 ∨ j = 6 ∨ j = 7 ∨ j = 8 ∨ j = 9 ∨ j = 10 ∨ j = 11 ∨ j = 12 ∨ j = 13 ∨ j = 14 ∨ j = 15 := by omega
    clear hj hj2
    rcases hcase with rfl | rfl | rfl | rfl | rfl | rfl | rfl | rfl | rfl | rfl | rfl | rfl | rfl | rfl | rfl | rfl
    ·rfl
    ·rfl
    ·rfl
    ·rfl
    ·rfl
    ·rfl
    ·rfl
    ·rfl
    ·rfl
    ·rfl
    ·rfl
    ·rfl
    ·rfl
    ·rfl
    ·rfl
    ·rfl
   ·intro b0 hb0 i o ho
    have hi : i < 16 := (Array.getElem?_eq_some_iff.1 ho).1
    obtain ⟨f0, f5, fdf⟩ := hb0
    have hcase : i = 0 ∨ i = 1 ∨ i = 2 ∨ i = 3 ∨ i = 4 ∨ i = 5 ∨ i = 6 ∨ i = 7 ∨ i = 8 ∨ i = 9 ∨ i = 10 ∨ i = 11 ∨ i = 12 ∨ i = 13 ∨ i = 14 ∨ i = 15 := by omega
    clear hi
    rcases hcase with rfl | rfl | rfl | rfl | rfl | rfl | rfl | rfl | rfl | rfl | rfl | rfl | rfl | rfl | rfl | rfl
    ·simp only [List.getElem?_toArray, List.getElem?_cons_zero] at ho
     cases ho
     refine .inl ⟨by decide, by decide, fun Γ M => stepA rfl (fun li ac wx H hn hed hM K hk => ?_)⟩
     have e0 : ac.tmps[0]?.getD undef = .pointer (some ⟨g, 0, none⟩) := slot_at ((H.frm.slot (by decide)).trans f0)
     clear hed H
     go_simp
     exact hk _ hM
    ·simp only [List.getElem?_toArray, List.getElem?_cons_zero, List.getElem?_cons_succ] at ho
     cases ho
     refine .inl ⟨by decide, by decide, fun Γ M => stepA rfl (fun li ac wx H hn hed hM K hk => ?_)⟩
     have e8 : ac.tmps[8]?.getD undef = .pointer (some ⟨g, 0, none⟩) := slot_at (H.known 0 _ rfl (hed ⟨0, .data⟩ (by simp) rfl) 8 rfl)
     clear hed H
     go_simp
     exact hk _ hM
    ·simp only [List.getElem?_toArray, List.getElem?_cons_zero, List.getElem?_cons_succ] at ho
     cases ho
     refine .inl ⟨by decide, by decide, fun Γ M => stepA rfl (fun li ac wx H hn hed hM K hk => ?_)⟩
     have e9 : ac.tmps[9]?.getD undef = .pointer (some ⟨g, 0, none⟩) := slot_at (H.known 1 _ rfl (hed ⟨1, .data⟩ (by simp) rfl) 9 rfl)
     clear hed H
     go_simp
     exact hk _ hM
    ·simp only [List.getElem?_toArray, List.getElem?_cons_zero, List.getElem?_cons_succ] at ho
     cases ho
     refine .inr (.inr (.inr ⟨by decide, by decide, 0, 14, rfl, by kernel_rfl, fun Γ b j hj => ?_⟩))
     have hj2 : j = 0 := by omega
     clear hj
     subst hj2
     ·refine stepA rfl (fun li ac wx H hn hed hM K hk => ?_)
      have e10 : ac.tmps[10]?.getD undef = .pointer (some ⟨g, 3, none⟩) := slot_at (H.known 2 _ rfl (hed ⟨2, .data⟩ (by simp) rfl) 10 rfl)
      have hM1 : (fun _ _ => fun wx => Below w1.heap.size w1 wx) Γ b wx := hM
      clear hed H
      have c3 := (Below.cell hM1 (p := ⟨g, 3, none⟩) hg).trans hc3
      go_simp
      exact hk _ hM
    ·simp only [List.getElem?_toArray, List.getElem?_cons_zero, List.getElem?_cons_succ] at ho
     cases ho
     refine .inl ⟨by decide, by decide, fun Γ M => stepA rfl (fun li ac wx H hn hed hM K hk => ?_)⟩
     have e5 : ac.tmps[5]?.getD undef = .slice (some ⟨bn, 0, none⟩) 3 cb := slot_at ((H.frm.slot (by decide)).trans f5)
     clear hed H
     go_simp
     exact hk _ hM
    ·simp only [List.getElem?_toArray, List.getElem?_cons_zero, List.getElem?_cons_succ] at ho
     cases ho
     refine .inl ⟨by decide, by decide, fun Γ M => stepA rfl (fun li ac wx H hn hed hM K hk => ?_)⟩
     have e12 : ac.tmps[12]?.getD undef = .slice (some ⟨bn, 0, none⟩) 3 cb := slot_at (H.known 4 _ rfl (hed ⟨4, .data⟩ (by simp) rfl) 12 rfl)
     clear hed H
     go_simp
     exact hk _ hM
    ·simp only [List.getElem?_toArray, List.getElem?_cons_zero, List.getElem?_cons_succ] at ho
     cases ho
     refine .inr (.inr (.inr ⟨by decide, by decide, 0, 14, rfl, by kernel_rfl, fun Γ b j hj => ?_⟩))
     have hj2 : j = 0 := by omega
     clear hj
     subst hj2
     ·refine stepA rfl (fun li ac wx H hn hed hM K hk => ?_)
      have e13 : ac.tmps[13]?.getD undef = .pointer (some ⟨bn, 0, none⟩) := slot_at (H.known 5 _ rfl (hed ⟨5, .data⟩ (by simp) rfl) 13 rfl)
      have hM1 : (fun _ _ => fun wx => Below w1.heap.size w1 wx) Γ b wx := hM
      clear hed H
      have c0 := (Below.cell hM1 (p := ⟨bn, 0, none⟩) hbl).trans hq0
      go_simp
      exact hk _ hM
    ·simp only [List.getElem?_toArray, List.getElem?_cons_zero, List.getElem?_cons_succ] at ho
     cases ho
     refine .inl ⟨by decide, by decide, fun Γ M => stepA rfl (fun li ac wx H hn hed hM K hk => ?_)⟩
     have e5 : ac.tmps[5]?.getD undef = .slice (some ⟨bn, 0, none⟩) 3 cb := slot_at ((H.frm.slot (by decide)).trans f5)
     clear hed H
     go_simp
     exact hk _ hM
    ·simp only [List.getElem?_toArray, List.getElem?_cons_zero, List.getElem?_cons_succ] at ho
     cases ho
     refine .inl ⟨by decide, by decide, fun Γ M => stepA rfl (fun li ac wx H hn hed hM K hk => ?_)⟩
     have e15 : ac.tmps[15]?.getD undef = .slice (some ⟨bn, 0, none⟩) 3 cb := slot_at (H.known 7 _ rfl (hed ⟨7, .data⟩ (by simp) rfl) 15 rfl)
     clear hed H
     go_simp
     exact hk _ hM
    ·simp only [List.getElem?_toArray, List.getElem?_cons_zero, List.getElem?_cons_succ] at ho
     cases ho
     refine .inr (.inr (.inr ⟨by decide, by decide, 0, 14, rfl, by kernel_rfl, fun Γ b j hj => ?_⟩))
     have hj2 : j = 0 := by omega
     clear hj
     subst hj2
     ·refine stepA rfl (fun li ac wx H hn hed hM K hk => ?_)
      have e16 : ac.tmps[16]?.getD undef = .pointer (some ⟨bn, 1, none⟩) := slot_at (H.known 8 _ rfl (hed ⟨8, .data⟩ (by simp) rfl) 16 rfl)
      have hM1 : (fun _ _ => fun wx => Below w1.heap.size w1 wx) Γ b wx := hM
      clear hed H
      have c1 := (Below.cell hM1 (p := ⟨bn, 1, none⟩) hbl).trans hq1
      go_simp
      exact hk _ hM
    ·simp only [List.getElem?_toArray, List.getElem?_cons_zero, List.getElem?_cons_succ] at ho
     cases ho
     refine .inl ⟨by decide, by decide, fun Γ M => stepA rfl (fun li ac wx H hn hed hM K hk => ?_)⟩
     have e5 : ac.tmps[5]?.getD undef = .slice (some ⟨bn, 0, none⟩) 3 cb := slot_at ((H.frm.slot (by decide)).trans f5)
     clear hed H
     go_simp
     exact hk _ hM
    ·simp only [List.getElem?_toArray, List.getElem?_cons_zero, List.getElem?_cons_succ] at ho
     cases ho
     refine .inl ⟨by decide, by decide, fun Γ M => stepA rfl (fun li ac wx H hn hed hM K hk => ?_)⟩
     have e18 : ac.tmps[18]?.getD undef = .slice (some ⟨bn, 0, none⟩) 3 cb := slot_at (H.known 10 _ rfl (hed ⟨10, .data⟩ (by simp) rfl) 18 rfl)
     clear hed H
     go_simp
     exact hk _ hM
    ·simp only [List.getElem?_toArray, List.getElem?_cons_zero, List.getElem?_cons_succ] at ho
     cases ho
     refine .inr (.inr (.inr ⟨by decide, by decide, 0, 14, rfl, by kernel_rfl, fun Γ b j hj => ?_⟩))
     have hj2 : j = 0 := by omega
     clear hj
     subst hj2
     ·refine stepA rfl (fun li ac wx H hn hed hM K hk => ?_)
      have e19 : ac.tmps[19]?.getD undef = .pointer (some ⟨bn, 2, none⟩) := slot_at (H.known 11 _ rfl (hed ⟨11, .data⟩ (by simp) rfl) 19 rfl)
      have hM1 : (fun _ _ => fun wx => Below w1.heap.size w1 wx) Γ b wx := hM
      clear hed H
      have c2 := (Below.cell hM1 (p := ⟨bn, 2, none⟩) hbl).trans hq2
      go_simp
      exact hk _ hM
    ·simp only [List.getElem?_toArray, List.getElem?_cons_zero, List.getElem?_cons_succ] at ho
     cases ho
     refine .inl ⟨by decide, by decide, fun Γ M => stepA rfl (fun li ac wx H hn hed hM K hk => ?_)⟩
     have e17 : ac.tmps[17]?.getD undef = I n1 := slot_at (H.known 9 _ rfl (hed ⟨9, .data⟩ (by simp) rfl) 17 rfl)
     have e20 : ac.tmps[20]?.getD undef = I n2 := slot_at (H.known 12 _ rfl (hed ⟨12, .data⟩ (by simp) rfl) 20 rfl)
     clear hed H
     go_simp
     exact hk _ hM
    ·simp only [List.getElem?_toArray, List.getElem?_cons_zero, List.getElem?_cons_succ] at ho
     cases ho
     refine .inr (.inr (.inl ⟨by decide, 0, rfl, fun Γ b hba => stepC rfl (fun li ac wx H hn hed hM K hk => ?_)⟩))
     have e11 : ac.tmps[11]?.getD undef = .pointer (some ⟨x.g, 0, none⟩) := slot_at (H.known 3 _ rfl (hed ⟨3, .data⟩ (by simp) rfl) 11 rfl)
     have e14 : ac.tmps[14]?.getD undef = I n0 := slot_at (H.known 6 _ rfl (hed ⟨6, .data⟩ (by simp) rfl) 14 rfl)
     have e21 : ac.tmps[21]?.getD undef = .agg #[I n1, I n2] := slot_at (H.known 13 _ rfl (hed ⟨13, .data⟩ (by simp) rfl) 21 rfl)
     have hM1 : (fun _ _ => fun wx => Below w1.heap.size w1 wx) Γ b wx := hM
     have hdf := Lib.hid (H.frm.defers.trans fdf)
     clear hed H
     go_simp
     refine (HX.out wx hM1).mono ?_
     rintro e w' ⟨rfl, hi⟩
     exact hk Γ _ (chg0 Γ) (Lib.hid ⟨wx, hM1, hi⟩)
    ·simp only [List.getElem?_toArray, List.getElem?_cons_zero, List.getElem?_cons_succ] at ho
     cases ho
     refine .inr (.inr (.inl ⟨by decide, 1, rfl, fun Γ b hba => stepC rfl (fun li ac wx H hn hed hM K hk => ?_)⟩))
     have e22 : ac.tmps[22]?.getD undef = .nilIface := slot_at (H.known 14 _ rfl (hed ⟨14, .data⟩ (by simp) rfl) 22 rfl)
     have hM1 : (fun _ _ => fun wx => Hid (∃ w2, Below w1.heap.size w1 w2 ∧ SyIn w2 B x d.L (sysSee d.s n0.toNat (n1, n2)) wx ∧ Stay w2 wx)) Γ b wx := hM
     have hdf := Lib.hid (H.frm.defers.trans fdf)
     clear hed H
     go_simp
     refine (must_nil wx).mono ?_
     rintro e w' ⟨rfl, rfl⟩
     exact hk Γ _ (chg0 Γ) hM1
   ·intro Γ b ac wx hF hK hM0
    have hM : (fun _ _ => fun wx => Hid (∃ w2, Below w1.heap.size w1 w2 ∧ SyIn w2 B x d.L (sysSee d.s n0.toNat (n1, n2)) wx ∧ Stay w2 wx)) Γ b wx := hM0
    have hMet := hF.meet
    simp only [List.foldl_cons, List.foldl_nil, List.setIfInBounds_toArray, List.set_cons_succ, List.set_cons_zero] at hMet
    generalize ac.tmps.getD 8 undef = v8 at hMet
    generalize ac.tmps.getD 9 undef = v9 at hMet
    generalize ac.tmps.getD 10 undef = v10 at hMet
    generalize ac.tmps.getD 11 undef = v11 at hMet
    generalize ac.tmps.getD 12 undef = v12 at hMet
    generalize ac.tmps.getD 13 undef = v13 at hMet
    generalize ac.tmps.getD 14 undef = v14 at hMet
    generalize ac.tmps.getD 15 undef = v15 at hMet
    generalize ac.tmps.getD 16 undef = v16 at hMet
    generalize ac.tmps.getD 17 undef = v17 at hMet
    generalize ac.tmps.getD 18 undef = v18 at hMet
    generalize ac.tmps.getD 19 undef = v19 at hMet
    generalize ac.tmps.getD 20 undef = v20 at hMet
    generalize ac.tmps.getD 21 undef = v21 at hMet
    generalize ac.tmps.getD 22 undef = v22 at hMet
    generalize ac.tmps.getD 23 undef = v23 at hMet
    clear hF hK hM0
    subst hMet
    obtain ⟨w2, h1, h2, h3⟩ := hM.out
    go_wp2
    go_ret
    rw [HE2.out]
    exact MPost.next HH.out (HB.out.trans (h1.mono HB.out.size)) h2 h3 rfl
  ·have HE2 : Hid (dOne d (isRep (at0 [n0, n1, n2])) (sysSee d.s (at0 [n0, n1, n2]).toNat (n1, n2)) [115, 101, 101] = (d, .err 2)) := Lib.hid (by
    rw [show at0 [n0, n1, n2] = n0 from rfl, Bool.eq_false_iff.2 hok]
    rfl)
   have HX := Lib.hid (fun wx (_ : Below w1.heap.size w1 wx) => bad_see x.g n0 n1 n2 (by unfold isRep at hok; simpa using hok) wx)
   clear hok
   refine region_gen (by kernel_rfl) (fun b0 => b0.tmps.getD 0 undef = .pointer (some ⟨g, 0, none⟩) ∧ b0.tmps.getD 5 undef = .slice (some ⟨bn, 0, none⟩) 3 cb ∧ b0.defers = []) ⟨rfl, rfl, rfl⟩ 24 rfl (fun _ => 0) (fun (Γ : Unk) i => ([.pointer (some ⟨g, 0, none⟩), .pointer (some ⟨g, 0, none⟩), .pointer (some ⟨g, 3, none⟩), .pointer (some ⟨x.g, 0, none⟩), .slice (some ⟨bn, 0, none⟩) 3 cb, .pointer (some ⟨bn, 0, none⟩), I n0, .slice (some ⟨bn, 0, none⟩) 3 cb, .pointer (some ⟨bn, 1, none⟩), I n1, .slice (some ⟨bn, 0, none⟩) 3 cb, .pointer (some ⟨bn, 2, none⟩), I n2, .agg #[I n1, I n2], rangeV, undef] : List Value).getD i undef) [14, 15] (by kernel_rfl) (fun i => ([[], [], [], [], [], [], [], [], [], [], [], [], [], [], [], []] : List (List Nat)).getD i []) (fun i => ([[], [], [], [], [], [], [], [], [], [], [], [], [], [], [], []] : List (List Nat)).getD i []) 16 (by kernel_rfl) ?_ (fun j Γ b => ([(fun _ _ => fun wx => Below w1.heap.size w1 wx) Γ b, (fun _ _ => fun wx => Below w1.heap.size w1 wx) Γ b, (fun _ _ => fun _ => False) Γ b] : List (World → Prop)).getD j (fun _ => True)) [8, 9, 10, 11, 12, 13, 14, 15, 16, 17, 18, 19, 20, 21, 22, 23] (by kernel_rfl) (by kernel_rfl) ((Below.refl _ _).drew) ?_ ?_
   ·intro Γ Γ' j hj hu
    have hj2 : j < 16 := hj
    have hcase : j = 0 ∨ j = 1 ∨ j = 2 ∨ j = 3 ∨ j = 4 ∨ j = 5 ∨ j = 6 ∨ j = 7 ∨ j = 8 ∨ j = 9 ∨ j = 10 ∨ j = 11 ∨ j = 12 ∨ j = 13 ∨ j = 14 ∨ j = 15 := by omega
    clear hj hj2
    rcases hcase with rfl | rfl | rfl | rfl | rfl | rfl | rfl | rfl | rfl | rfl | rfl | rfl | rfl | rfl | rfl | rfl
    ·rfl
    ·rfl
    ·rfl
    ·rfl
    ·rfl
    ·rfl
    ·rfl
    ·rfl
    ·rfl
    ·rfl
    ·rfl
    ·rfl
    ·rfl
    ·rfl
    ·rfl
    ·rfl
   ·intro b0 hb0 i o ho
    have hi : i < 16 := (Array.getElem?_eq_some_iff.1 ho).1
    obtain ⟨f0, f5, fdf⟩ := hb0
    have hcase : i = 0 ∨ i = 1 ∨ i = 2 ∨ i = 3 ∨ i = 4 ∨ i = 5 ∨ i = 6 ∨ i = 7 ∨ i = 8 ∨ i = 9 ∨ i = 10 ∨ i = 11 ∨ i = 12 ∨ i = 13 ∨ i = 14 ∨ i = 15 := by omega
    clear hi
    rcases hcase with rfl | rfl | rfl | rfl | rfl | rfl | rfl | rfl | rfl | rfl | rfl | rfl | rfl | rfl | rfl | rfl
    ·simp only [List.getElem?_toArray, List.getElem?_cons_zero] at ho
     cases ho
     refine .inl ⟨by decide, by decide, fun Γ M => stepA rfl (fun li ac wx H hn hed hM K hk => ?_)⟩
     have e0 : ac.tmps[0]?.getD undef = .pointer (some ⟨g, 0, none⟩) := slot_at ((H.frm.slot (by decide)).trans f0)
     clear hed H
     go_simp
     exact hk _ hM
    ·simp only [List.getElem?_toArray, List.getElem?_cons_zero, List.getElem?_cons_succ] at ho
     cases ho
     refine .inl ⟨by decide, by decide, fun Γ M => stepA rfl (fun li ac wx H hn hed hM K hk => ?_)⟩
     have e8 : ac.tmps[8]?.getD undef = .pointer (some ⟨g, 0, none⟩) := slot_at (H.known 0 _ rfl (hed ⟨0, .data⟩ (by simp) rfl) 8 rfl)
     clear hed H
     go_simp
     exact hk _ hM
    ·simp only [List.getElem?_toArray, List.getElem?_cons_zero, List.getElem?_cons_succ] at ho
     cases ho
     refine .inl ⟨by decide, by decide, fun Γ M => stepA rfl (fun li ac wx H hn hed hM K hk => ?_)⟩
     have e9 : ac.tmps[9]?.getD undef = .pointer (some ⟨g, 0, none⟩) := slot_at (H.known 1 _ rfl (hed ⟨1, .data⟩ (by simp) rfl) 9 rfl)
     clear hed H
     go_simp
     exact hk _ hM
    ·simp only [List.getElem?_toArray, List.getElem?_cons_zero, List.getElem?_cons_succ] at ho
     cases ho
     refine .inr (.inr (.inr ⟨by decide, by decide, 0, 14, rfl, by kernel_rfl, fun Γ b j hj => ?_⟩))
     have hj2 : j = 0 := by omega
     clear hj
     subst hj2
     ·refine stepA rfl (fun li ac wx H hn hed hM K hk => ?_)
      have e10 : ac.tmps[10]?.getD undef = .pointer (some ⟨g, 3, none⟩) := slot_at (H.known 2 _ rfl (hed ⟨2, .data⟩ (by simp) rfl) 10 rfl)
      have hM1 : (fun _ _ => fun wx => Below w1.heap.size w1 wx) Γ b wx := hM
      clear hed H
      have c3 := (Below.cell hM1 (p := ⟨g, 3, none⟩) hg).trans hc3
      go_simp
      exact hk _ hM
    ·simp only [List.getElem?_toArray, List.getElem?_cons_zero, List.getElem?_cons_succ] at ho
     cases ho
     refine .inl ⟨by decide, by decide, fun Γ M => stepA rfl (fun li ac wx H hn hed hM K hk => ?_)⟩
     have e5 : ac.tmps[5]?.getD undef = .slice (some ⟨bn, 0, none⟩) 3 cb := slot_at ((H.frm.slot (by decide)).trans f5)
     clear hed H
     go_simp
     exact hk _ hM
    ·simp only [List.getElem?_toArray, List.getElem?_cons_zero, List.getElem?_cons_succ] at ho
     cases ho
     refine .inl ⟨by decide, by decide, fun Γ M => stepA rfl (fun li ac wx H hn hed hM K hk => ?_)⟩
     have e12 : ac.tmps[12]?.getD undef = .slice (some ⟨bn, 0, none⟩) 3 cb := slot_at (H.known 4 _ rfl (hed ⟨4, .data⟩ (by simp) rfl) 12 rfl)
     clear hed H
     go_simp
     exact hk _ hM
    ·simp only [List.getElem?_toArray, List.getElem?_cons_zero, List.getElem?_cons_succ] at ho
     cases ho
     refine .inr (.inr (.inr ⟨by decide, by decide, 0, 14, rfl, by kernel_rfl, fun Γ b j hj => ?_⟩))
     have hj2 : j = 0 := by omega
     clear hj
     subst hj2
     ·refine stepA rfl (fun li ac wx H hn hed hM K hk => ?_)
      have e13 : ac.tmps[13]?.getD undef = .pointer (some ⟨bn, 0, none⟩) := slot_at (H.known 5 _ rfl (hed ⟨5, .data⟩ (by simp) rfl) 13 rfl)
      have hM1 : (fun _ _ => fun wx => Below w1.heap.size w1 wx) Γ b wx := hM
      clear hed H
      have c0 := (Below.cell hM1 (p := ⟨bn, 0, none⟩) hbl).trans hq0
      go_simp
      exact hk _ hM
    ·simp only [List.getElem?_toArray, List.getElem?_cons_zero, List.getElem?_cons_succ] at ho
     cases ho
     refine .inl ⟨by decide, by decide, fun Γ M => stepA rfl (fun li ac wx H hn hed hM K hk => ?_)⟩
     have e5 : ac.tmps[5]?.getD undef = .slice (some ⟨bn, 0, none⟩) 3 cb := slot_at ((H.frm.slot (by decide)).trans f5)
     clear hed H
     go_simp
     exact hk _ hM
    ·simp only [List.getElem?_toArray, List.getElem?_cons_zero, List.getElem?_cons_succ] at ho
     cases ho
     refine .inl ⟨by decide, by decide, fun Γ M => stepA rfl (fun li ac wx H hn hed hM K hk => ?_)⟩
     have e15 : ac.tmps[15]?.getD undef = .slice (some ⟨bn, 0, none⟩) 3 cb := slot_at (H.known 7 _ rfl (hed ⟨7, .data⟩ (by simp) rfl) 15 rfl)
     clear hed H
     go_simp
     exact hk _ hM
    ·simp only [List.getElem?_toArray, List.getElem?_cons_zero, List.getElem?_cons_succ] at ho
     cases ho
     refine .inr (.inr (.inr ⟨by decide, by decide, 0, 14, rfl, by kernel_rfl, fun Γ b j hj => ?_⟩))
     have hj2 : j = 0 := by omega
     clear hj
     subst hj2
     ·refine stepA rfl (fun li ac wx H hn hed hM K hk => ?_)
      have e16 : ac.tmps[16]?.getD undef = .pointer (some ⟨bn, 1, none⟩) := slot_at (H.known 8 _ rfl (hed ⟨8, .data⟩ (by simp) rfl) 16 rfl)
      have hM1 : (fun _ _ => fun wx => Below w1.heap.size w1 wx) Γ b wx := hM
      clear hed H
      have c1 := (Below.cell hM1 (p := ⟨bn, 1, none⟩) hbl).trans hq1
      go_simp
      exact hk _ hM
    ·simp only [List.getElem?_toArray, List.getElem?_cons_zero, List.getElem?_cons_succ] at ho
     cases ho
     refine .inl ⟨by decide, by decide, fun Γ M => stepA rfl (fun li ac wx H hn hed hM K hk => ?_)⟩
     have e5 : ac.tmps[5]?.getD undef = .slice (some ⟨bn, 0, none⟩) 3 cb := slot_at ((H.frm.slot (by decide)).trans f5)
     clear hed H
     go_simp
     exact hk _ hM
    ·simp only [List.getElem?_toArray, List.getElem?_cons_zero, List.getElem?_cons_succ] at ho
     cases ho
     refine .inl ⟨by decide, by decide, fun Γ M => stepA rfl (fun li ac wx H hn hed hM K hk => ?_)⟩
     have e18 : ac.tmps[18]?.getD undef = .slice (some ⟨bn, 0, none⟩) 3 cb := slot_at (H.known 10 _ rfl (hed ⟨10, .data⟩ (by simp) rfl) 18 rfl)
     clear hed H
     go_simp
     exact hk _ hM
    ·simp only [List.getElem?_toArray, List.getElem?_cons_zero, List.getElem?_cons_succ] at ho
     cases ho
     refine .inr (.inr (.inr ⟨by decide, by decide, 0, 14, rfl, by kernel_rfl, fun Γ b j hj => ?_⟩))
     have hj2 : j = 0 := by omega
     clear hj
     subst hj2
     ·refine stepA rfl (fun li ac wx H hn hed hM K hk => ?_)
      have e19 : ac.tmps[19]?.getD undef = .pointer (some ⟨bn, 2, none⟩) := slot_at (H.known 11 _ rfl (hed ⟨11, .data⟩ (by simp) rfl) 19 rfl)
      have hM1 : (fun _ _ => fun wx => Below w1.heap.size w1 wx) Γ b wx := hM
      clear hed H
      have c2 := (Below.cell hM1 (p := ⟨bn, 2, none⟩) hbl).trans hq2
      go_simp
      exact hk _ hM
    ·simp only [List.getElem?_toArray, List.getElem?_cons_zero, List.getElem?_cons_succ] at ho
     cases ho
     refine .inl ⟨by decide, by decide, fun Γ M => stepA rfl (fun li ac wx H hn hed hM K hk => ?_)⟩
     have e17 : ac.tmps[17]?.getD undef = I n1 := slot_at (H.known 9 _ rfl (hed ⟨9, .data⟩ (by simp) rfl) 17 rfl)
     have e20 : ac.tmps[20]?.getD undef = I n2 := slot_at (H.known 12 _ rfl (hed ⟨12, .data⟩ (by simp) rfl) 20 rfl)
     clear hed H
     go_simp
     exact hk _ hM
    ·simp only [List.getElem?_toArray, List.getElem?_cons_zero, List.getElem?_cons_succ] at ho
     cases ho
     refine .inr (.inr (.inl ⟨by decide, 0, rfl, fun Γ b hba => stepC rfl (fun li ac wx H hn hed hM K hk => ?_)⟩))
     have e11 : ac.tmps[11]?.getD undef = .pointer (some ⟨x.g, 0, none⟩) := slot_at (H.known 3 _ rfl (hed ⟨3, .data⟩ (by simp) rfl) 11 rfl)
     have e14 : ac.tmps[14]?.getD undef = I n0 := slot_at (H.known 6 _ rfl (hed ⟨6, .data⟩ (by simp) rfl) 14 rfl)
     have e21 : ac.tmps[21]?.getD undef = .agg #[I n1, I n2] := slot_at (H.known 13 _ rfl (hed ⟨13, .data⟩ (by simp) rfl) 21 rfl)
     have hM1 : (fun _ _ => fun wx => Below w1.heap.size w1 wx) Γ b wx := hM
     have hdf := Lib.hid (H.frm.defers.trans fdf)
     clear hed H
     go_simp
     refine (HX.out wx hM1).mono ?_
     rintro e w' ⟨rfl, hb⟩
     exact hk Γ _ (chg0 Γ) (hM1.trans (hb.mono hM1.size))
    ·simp only [List.getElem?_toArray, List.getElem?_cons_zero, List.getElem?_cons_succ] at ho
     cases ho
     refine .inr (.inr (.inl ⟨by decide, 1, rfl, fun Γ b hba => stepC rfl (fun li ac wx H hn hed hM K hk => ?_)⟩))
     have e22 : ac.tmps[22]?.getD undef = rangeV := slot_at (H.known 14 _ rfl (hed ⟨14, .data⟩ (by simp) rfl) 22 rfl)
     have hM1 : (fun _ _ => fun wx => Below w1.heap.size w1 wx) Γ b wx := hM
     have hdf := Lib.hid (H.frm.defers.trans fdf)
     clear hed H
     go_simp
     refine (must_errno 2 wx (Lib.hid (HS1.out.after hM1).et)).mono ?_
     rintro e w' ⟨rfl, hb⟩
     exact ⟨hdf.out, by rw [HE2.out]; exact MPost.same (a := .err 2) HH.out (HB.out.trans ((hM1.trans (hb.mono hM1.size)).mono HB.out.size)) rfl⟩
   ·intro Γ b ac wx hF hK hM0
    have hM : (fun _ _ => fun _ => False) Γ b wx := hM0
    exact hM.elim
set_option maxHeartbeats 4000000 in
set_option maxRecDepth 100000 in
theorem m_calm (h : DkAt w B g x vr d) (hf : Fine T d.s) (hT : T ≤ 9900000000) (hw : Words w A l) (c : Nat) (hs : Std w) : Calls Tryz.prog 53 #[.pointer (some ⟨g, 0, none⟩), .slice A l.length c] w (MPost w B g x (does' .calm d l)) := by
 have HH := Lib.hid h
 have HW := Lib.hid hw
 have HS := Lib.hid hs
 have HF := Lib.hid hf
 clear h hw hs hf
 cases hr : numsOf l 1 with
 | none =>
  have HE : Hid (does' .calm d l = (d, .err 3)) := Lib.hid (by simp only [does', hr])
  rw [HE.out]
  have HN := Lib.hid (dk_none HW c 1 (by decide) (by decide) HS hr)
  clear hr HE
  go_enter Tryz.func53, Tryz.ntmps53
  go_wp2_with (go_at_call 27; refine HN.out.mono ?_; rintro e w1 ⟨rfl, hb⟩)
  exact ⟨rfl, MPost.same HH.out hb rfl⟩
 | some n =>
  obtain ⟨cnd, hcnd⟩ : ∃ cnd, cnd = (decide (0 ≤ at0 n) && decide (at0 n ≤ 100)) := ⟨_, rfl⟩
  have HE : Hid (does' .calm d l = dOne d cnd (calm d.L 1200 d.s (at0 n).toNat) [99, 97, 108, 109]) := Lib.hid (by simp only [does', hr, hcnd])
  rw [HE.out]
  have HCN := Lib.hid hcnd
  clear hcnd
  have HN := Lib.hid (dk_one HW c HS hr)
  clear hr HE
  generalize at0 n = n0 at *
  go_enter Tryz.func53, Tryz.ntmps53
  go_upto_region 2 with (go_at_call 27; refine HN.out.mono ?_; rintro e w1 ⟨⟨bn, cb, rfl, hbl, hq0⟩, hb⟩; have HB := Lib.hid hb; clear hb)
  have H1 := Lib.hid (HH.out.after HB.out)
  have HS1 := Lib.hid (HS.out.after HB.out)
  have hc3 := H1.out.c3
  have hg := H1.out.has.lt
  clear HN
  by_cases h0 : n0 < 0
  ·have hE2 : cnd = false := by rw [HCN.out]; simp; omega
   have HE2 := Lib.hid hE2
   clear hE2
   go_wp2_with (go_at_call 28; refine (must_errno 2 w1 (Lib.hid HS1.out.et)).mono ?_; rintro e w3 ⟨rfl, hb3⟩)
   exact ⟨rfl, by rw [HE2.out]; exact MPost.same (a := .err 2) HH.out (HB.out.trans (hb3.mono HB.out.size)) rfl⟩
  ·by_cases h1 : 100 < n0
   ·have hE2 : cnd = false := by rw [HCN.out]; simp; omega
    have HE2 := Lib.hid hE2
    clear hE2
    go_wp2_with (go_at_call 28; refine (must_errno 2 w1 (Lib.hid HS1.out.et)).mono ?_; rintro e w3 ⟨rfl, hb3⟩)
    exact ⟨rfl, by rw [HE2.out]; exact MPost.same (a := .err 2) HH.out (HB.out.trans (hb3.mono HB.out.size)) rfl⟩
   ·have hE2 : cnd = true := by rw [HCN.out]; simp; omega
    have HE2 := Lib.hid hE2
    clear hE2
    go_upto_region 4 with fail
    have HX := Lib.hid (fun wx (hb : Below w1.heap.size w1 wx) => show Calls Tryz.prog 11 #[.pointer (some ⟨x.g, 0, none⟩), I n0] wx (fun e w' => e = .returned (.tuple #[]) ∧ SyIn wx B x d.L (calm d.L 1200 d.s n0.toNat) w' ∧ Stay wx w') from by
     obtain ⟨k, hk, hk3⟩ : ∃ k : Nat, n0 = k ∧ k ≤ 100 := ⟨n0.toNat, by omega, by omega⟩
     rw [hk, Int.toNat_natCast]
     refine (in_calm 1200 rfl (SyIn.start (H1.out.after hb).sys (H1.out.after hb).hB) HF.out H1.out.ok k hk3 (by omega)).mono ?_
     rintro e w' ⟨⟨v, rfl, rfl⟩, h2, h3⟩
     exact ⟨rfl, h2, h3⟩)
    clear h0 h1
    refine region_gen (by kernel_rfl) (fun b0 => b0.tmps.getD 0 undef = .pointer (some ⟨g, 0, none⟩) ∧ b0.tmps.getD 5 undef = .slice (some ⟨bn, 0, none⟩) 1 cb ∧ b0.defers = []) ⟨rfl, rfl, rfl⟩ 28 rfl (fun _ => 0) (fun (Γ : Unk) i => ([.pointer (some ⟨g, 0, none⟩), .pointer (some ⟨g, 0, none⟩), .pointer (some ⟨g, 3, none⟩), .pointer (some ⟨x.g, 0, none⟩), .slice (some ⟨bn, 0, none⟩) 1 cb, .pointer (some ⟨bn, 0, none⟩), I n0, .tuple #[]] : List Value).getD i undef) [7] (by kernel_rfl) (fun i => ([[], [], [], [], [], [], [], []] : List (List Nat)).getD i []) (fun i => ([[], [], [], [], [], [], [], []] : List (List Nat)).getD i []) 8 (by kernel_rfl) ?_ (fun j Γ b => ([(fun _ _ => fun wx => Below w1.heap.size w1 wx) Γ b, (fun _ _ => fun wx => Hid (∃ w2, Below w1.heap.size w1 w2 ∧ SyIn w2 B x d.L (calm d.L 1200 d.s n0.toNat) wx ∧ Stay w2 wx)) Γ b] : List (World → Prop)).getD j (fun _ => True)) [20, 21, 22, 23, 24, 25, 26, 27] (by kernel_rfl) (by kernel_rfl) ((Below.refl _ _).drew) ?_ ?_
    ·intro Γ Γ' j hj hu
     have hj2 : j < 8 := hj
     have hcase : j = 0 ∨ j = 1 ∨ j = 2 ∨ j = 3 ∨ j = 4 ∨ j = 5 ∨ j = 6 ∨ j = 7 := by omega
     clear hj hj2
     rcases hcase with rfl | rfl | rfl | rfl | rfl | rfl | rfl | rfl
     ·rfl
     ·rfl
     ·rfl
     ·rfl
     ·rfl
     ·rfl
     ·rfl
     ·rfl
    ·intro b0 hb0 i o ho
     have hi : i < 8 := (Array.getElem?_eq_some_iff.1 ho).1
     obtain ⟨f0, f5, fdf⟩ := hb0
     have hcase : i = 0 ∨ i = 1 ∨ i = 2 ∨ i = 3 ∨ i = 4 ∨ i = 5 ∨ i = 6 ∨ i = 7 := by omega
     clear hi
     rcases hcase with rfl | rfl | rfl | rfl | rfl | rfl | rfl | rfl
     ·simp only [List.getElem?_toArray, List.getElem?_cons_zero] at ho
      cases ho
      refine .inl ⟨by decide, by decide, fun Γ M => stepA rfl (fun li ac wx H hn hed hM K hk => ?_)⟩
      have e0 : ac.tmps[0]?.getD undef = .pointer (some ⟨g, 0, none⟩) := slot_at ((H.frm.slot (by decide)).trans f0)
      clear hed H
      go_simp
      exact hk _ hM
     ·simp only [List.getElem?_toArray, List.getElem?_cons_zero, List.getElem?_cons_succ] at ho
      cases ho
      refine .inl ⟨by decide, by decide, fun Γ M => stepA rfl (fun li ac wx H hn hed hM K hk => ?_)⟩
      have e20 : ac.tmps[20]?.getD undef = .pointer (some ⟨g, 0, none⟩) := slot_at (H.known 0 _ rfl (hed ⟨0, .data⟩ (by simp) rfl) 20 rfl)
      clear hed H
      go_simp
      exact hk _ hM
     ·simp only [List.getElem?_toArray, List.getElem?_cons_zero, List.getElem?_cons_succ] at ho
      cases ho
      refine .inl ⟨by decide, by decide, fun Γ M => stepA rfl (fun li ac wx H hn hed hM K hk => ?_)⟩
      have e21 : ac.tmps[21]?.getD undef = .pointer (some ⟨g, 0, none⟩) := slot_at (H.known 1 _ rfl (hed ⟨1, .data⟩ (by simp) rfl) 21 rfl)
      clear hed H
      go_simp
      exact hk _ hM
     ·simp only [List.getElem?_toArray, List.getElem?_cons_zero, List.getElem?_cons_succ] at ho
      cases ho
      refine .inr (.inr (.inr ⟨by decide, by decide, 0, 7, rfl, by kernel_rfl, fun Γ b j hj => ?_⟩))
      have hj2 : j = 0 := by omega
      clear hj
      subst hj2
      ·refine stepA rfl (fun li ac wx H hn hed hM K hk => ?_)
       have e22 : ac.tmps[22]?.getD undef = .pointer (some ⟨g, 3, none⟩) := slot_at (H.known 2 _ rfl (hed ⟨2, .data⟩ (by simp) rfl) 22 rfl)
       have hM1 : (fun _ _ => fun wx => Below w1.heap.size w1 wx) Γ b wx := hM
       clear hed H
       have c3 := (Below.cell hM1 (p := ⟨g, 3, none⟩) hg).trans hc3
       go_simp
       exact hk _ hM
     ·simp only [List.getElem?_toArray, List.getElem?_cons_zero, List.getElem?_cons_succ] at ho
      cases ho
      refine .inl ⟨by decide, by decide, fun Γ M => stepA rfl (fun li ac wx H hn hed hM K hk => ?_)⟩
      have e5 : ac.tmps[5]?.getD undef = .slice (some ⟨bn, 0, none⟩) 1 cb := slot_at ((H.frm.slot (by decide)).trans f5)
      clear hed H
      go_simp
      exact hk _ hM
     ·simp only [List.getElem?_toArray, List.getElem?_cons_zero, List.getElem?_cons_succ] at ho
      cases ho
      refine .inl ⟨by decide, by decide, fun Γ M => stepA rfl (fun li ac wx H hn hed hM K hk => ?_)⟩
      have e24 : ac.tmps[24]?.getD undef = .slice (some ⟨bn, 0, none⟩) 1 cb := slot_at (H.known 4 _ rfl (hed ⟨4, .data⟩ (by simp) rfl) 24 rfl)
      clear hed H
      go_simp
      exact hk _ hM
     ·simp only [List.getElem?_toArray, List.getElem?_cons_zero, List.getElem?_cons_succ] at ho
      cases ho
      refine .inr (.inr (.inr ⟨by decide, by decide, 0, 7, rfl, by kernel_rfl, fun Γ b j hj => ?_⟩))
      have hj2 : j = 0 := by omega
      clear hj
      subst hj2
      ·refine stepA rfl (fun li ac wx H hn hed hM K hk => ?_)
       have e25 : ac.tmps[25]?.getD undef = .pointer (some ⟨bn, 0, none⟩) := slot_at (H.known 5 _ rfl (hed ⟨5, .data⟩ (by simp) rfl) 25 rfl)
       have hM1 : (fun _ _ => fun wx => Below w1.heap.size w1 wx) Γ b wx := hM
       clear hed H
       have c0 := (Below.cell hM1 (p := ⟨bn, 0, none⟩) hbl).trans hq0
       go_simp
       exact hk _ hM
     ·simp only [List.getElem?_toArray, List.getElem?_cons_zero, List.getElem?_cons_succ] at ho
      cases ho
      refine .inr (.inr (.inl ⟨by decide, 0, rfl, fun Γ b hba => stepC rfl (fun li ac wx H hn hed hM K hk => ?_)⟩))
      have e23 : ac.tmps[23]?.getD undef = .pointer (some ⟨x.g, 0, none⟩) := slot_at (H.known 3 _ rfl (hed ⟨3, .data⟩ (by simp) rfl) 23 rfl)
      have e26 : ac.tmps[26]?.getD undef = I n0 := slot_at (H.known 6 _ rfl (hed ⟨6, .data⟩ (by simp) rfl) 26 rfl)
      have hM1 : (fun _ _ => fun wx => Below w1.heap.size w1 wx) Γ b wx := hM
      have hdf := Lib.hid (H.frm.defers.trans fdf)
      clear hed H
      go_simp
      refine (HX.out wx hM1).mono ?_
      rintro e w' ⟨rfl, hi⟩
      exact hk Γ _ (chg0 Γ) (Lib.hid ⟨wx, hM1, hi⟩)
    ·intro Γ b ac wx hF hK hM0
     have hM : (fun _ _ => fun wx => Hid (∃ w2, Below w1.heap.size w1 w2 ∧ SyIn w2 B x d.L (calm d.L 1200 d.s n0.toNat) wx ∧ Stay w2 wx)) Γ b wx := hM0
     have hMet := hF.meet
     simp only [List.foldl_cons, List.foldl_nil, List.setIfInBounds_toArray, List.set_cons_succ, List.set_cons_zero] at hMet
     generalize ac.tmps.getD 20 undef = v20 at hMet
     generalize ac.tmps.getD 21 undef = v21 at hMet
     generalize ac.tmps.getD 22 undef = v22 at hMet
     generalize ac.tmps.getD 23 undef = v23 at hMet
     generalize ac.tmps.getD 24 undef = v24 at hMet
     generalize ac.tmps.getD 25 undef = v25 at hMet
     generalize ac.tmps.getD 26 undef = v26 at hMet
     generalize ac.tmps.getD 27 undef = v27 at hMet
     clear hF hK hM0
     subst hMet
     obtain ⟨w2, h1, h2, h3⟩ := hM.out
     go_wp2
     go_ret
     rw [HE2.out]
     exact MPost.next HH.out (HB.out.trans (h1.mono HB.out.size)) h2 h3 rfl
end
end Go.Proofs.YtdhekhlmdefcnabGreatDoor
