/- Part 40 of the proof: DkBegin. -/
import Derived.Test.YtdhekhlmdefcnabGreatDoorPart39
import Derived.Test.YtdhekhlmdefcnabGreatDoorPart36
namespace Go.Proofs.YtdhekhlmdefcnabGreatDoor
open Go.RowKit
def dkT (t : TypeId) : Bool := t == 46 || t == 9
def Own (p : TypeId → Bool) (w : World) (b : Nat) : Prop := ∃ t cs, Has w b t cs ∧ p t = true
section
variable {p : TypeId → Bool} {w w' : World} {F : Nat → Prop} {B : Nat} {L : Lay} {s : Sys}
theorem Has.apart {g : Nat} {t : TypeId} {cs : Array Value} (h : Has w g t cs) (hF : ∀ b, F b → Own p w b) (hn : p t = false) : ¬ F g := fun hf => by
 obtain ⟨t', cs', h', hm⟩ := hF g hf
 have e : t = t' := by
  unfold Has at h h'
  rw [h] at h'
  injection h' with h'
  injection h' with _ ht
 rw [e, hm] at hn
 cases hn
theorem Has.keepG {g : Nat} {t : TypeId} {cs : Array Value} (h : Has w g t cs) (ht : Turned F w w') (hF : ∀ b, F b → Own p w b) (hn : p t = false) : Has w' g t cs := h.turned ht (h.apart hF hn)
theorem own_keepG {base : Nat} {e : TypeId} {size n : Nat} {v : Value} {xs : List Value} (h : w.ownsRow base e size v n xs) (ht : Turned F w w') (hF : ∀ b, F b → Own p w b) (hn : p e = false) : w'.ownsRow base e size v n xs :=
 own_keep h fun g _ _ hh => (show w'.heap[g]? = w.heap[g]? from (hh.keepG ht hF hn).trans hh.symm)
theorem CoreAt.keepG {gc : Nat} (h : CoreAt w gc L) (ht : Turned F w w') (hF : ∀ b, F b → Own p w b) (h1 : p 130 = false) (h2 : p 3 = false) : CoreAt w' gc L := by
 obtain ⟨vr, vc, a1, a2, a3⟩ := h
 exact ⟨vr, vc, a1.keepG ht hF h1, own_keepG a2 ht hF h2, own_keepG a3 ht hF h2⟩
theorem SyAt.desk {x : SyX} (h : SyAt w B x L s) (ht : Turned F w w') (hF : ∀ b, F b → Own dkT w b) : SyAt w' B x L s := by
 refine ⟨h.has.keepG ht hF rfl, own_keepG h.routes ht hF rfl, h.n3, fun k hk => ⟨(h.rep k hk).has.keepG ht hF rfl, (h.rep k hk).core.keepG ht hF rfl rfl⟩, h.apart, ⟨h.vo.has.keepG ht hF rfl, own_keepG h.vo.own ht hF rfl, h.vo.low⟩, own_keepG h.way ht hF rfl, h.len, fun i gm v e1 e2 => ?_, h.low, h.lows⟩
 exact (h.bytes i gm v e1 e2).keep fun g cs hh => hh.keepG ht hF rfl
end
section
variable {w : World} {g : Nat} {A : Option Addr} {l : List ByteArray}
theorem infoLay : (Tryz.prog.info? 29).map (·.size) = some 3 := by kernel_rfl
theorem syAt_base {w : World} {B B' : Nat} {x : SyX} {L : Lay} {s : Sys} (h : SyAt w B' x L s) (hB : B ≤ B') : SyAt w B x L s :=
 ⟨h.has, h.routes, h.n3, h.rep, h.apart, ⟨h.vo.has, own_base h.vo.own hB, Nat.le_trans hB h.vo.low⟩, own_base h.way hB, h.len, h.bytes, Nat.le_trans hB h.low, fun k hk => Nat.le_trans hB (h.lows k hk)⟩
theorem numsOf_many {l : List ByteArray} {k : Int} {n : List Int} (h : numsOf l k = some n) : n.length = l.length := by
 unfold numsOf at h
 split at h
 ·cases h
 ·exact numsTo_length h
theorem numsOf_four {l : List ByteArray} {n : List Int} (h : numsOf l (-4) = some n) : 4 ≤ n.length := by
 have hl := numsOf_many h
 unfold numsOf at h
 split at h
 ·cases h
 ·rename_i hb
  unfold lenBad at hb
  rw [if_neg (by decide)] at hb
  simp at hb
  omega
set_option maxHeartbeats 4000000 in
set_option maxRecDepth 100000 in
theorem begin_bare {n0 n1 n2 : Int} {rs : List Int} (ee : Int) (HX : Hid (∀ (bn cb nl : Nat) (wx : World), nl - 3 = rs.length → nl ≤ cb → rs.length ≤ 100000 → Reads wx wx.heap.size (some ⟨bn, 3, none⟩) (ints rs) → Calls Tryz.prog 7 #[.agg #[I n2, .slice (some ⟨bn, 3, none⟩) (nl - 3) (cb - 3), I n1], I n0] wx fun e w' => e = .returned (.tuple #[.pointer none, .iface 73 (I ee)]) ∧ Below wx.heap.size wx w')) (hr : Hid (numsOf l (-4) = some (n0 :: n1 :: n2 :: rs))) (hw : Hid (Words w A l)) (c : Nat) (hs : Hid (Std w)) :
  Calls Tryz.prog 13 #[.pointer (some ⟨g, 0, none⟩), .slice A l.length c] w (fun e w' => e = .panicked (pan ee) ∧ Below w.heap.size w w') := by
 have HN := Lib.hid (dk_some hw c (-4) (by decide) (by decide) hs hr.out)
 have HRL : Hid (rs.length ≤ 100000) := Lib.hid (by have := numsOf_many hr.out; have h2 := hw.out.many; simp at this; omega)
 have HN4 : Hid (1 ≤ rs.length) := Lib.hid (by have := numsOf_four hr.out; simp at this; omega)
 clear hr hw
 go_enter Tryz.func13, Tryz.ntmps13
 go_upto_region 2 with (go_at_call 27; refine HN.out.mono ?_; rintro e w1 ⟨⟨v, rfl, ho⟩, hb⟩; have HB := Lib.hid hb; have HO := Lib.hid ho; clear hb ho)
 obtain ⟨bn, cb, cs, rfl, hcb, hh, hcs⟩ := own_cells HO.out (by simp)
 have hq0 : w1.cell? ⟨bn, 0, none⟩ = some (I n0) := by rw [hh.cell]; exact hcs 0 _ rfl
 have hq1 : w1.cell? ⟨bn, 1, none⟩ = some (I n1) := by rw [hh.cell]; exact hcs 1 _ rfl
 have hq2 : w1.cell? ⟨bn, 2, none⟩ = some (I n2) := by rw [hh.cell]; exact hcs 2 _ rfl
 have hbl := hh.lt
 have HRS : Hid (∀ (j : Nat) (u : Value), (ints rs)[j]? = some u → cs[3 + j]? = some u) := Lib.hid fun j u hu => hcs (3 + j) u (by rw [show 3 + j = j + 1 + 1 + 1 by omega]; exact hu)
 have HCS := Lib.hid hh
 have HS1 := Lib.hid (hs.out.after HB.out)
 obtain ⟨nl, hnl⟩ : ∃ nl, nl = (n0 :: n1 :: n2 :: rs).length := ⟨_, rfl⟩
 rw [← hnl] at hcb ⊢
 have hn3 : 4 ≤ nl := by rw [hnl]; have := HN4.out; simp; omega
 have hcb3 : ¬ cb = 3 := by omega
 have hi0 : 0 < nl := by omega
 have hi1 : (1 : Int) < (nl : Int) := by omega
 have hi2 : (2 : Int) < (nl : Int) := by rw [hnl]; simp; omega
 have hi3 : (3 : Int) ≤ (nl : Int) := by omega
 have HNL : Hid (nl - 3 = rs.length) := Lib.hid (by rw [hnl]; simp)
 have HCB : Hid (nl ≤ cb) := Lib.hid hcb
 clear hh hcs HO HN hnl hs
 refine region_gen (by kernel_rfl) (fun b0 => b0.tmps.getD 5 undef = .slice (some ⟨bn, 0, none⟩) nl cb ∧ b0.defers = []) ⟨rfl, rfl⟩ 38 rfl (fun _ => 0) (fun (Γ : Unk) i => ([.slice (some ⟨bn, 0, none⟩) nl cb, .pointer (some ⟨bn, 1, none⟩), I n1, .slice (some ⟨bn, 0, none⟩) nl cb, .pointer (some ⟨bn, 2, none⟩), I n2, .slice (some ⟨bn, 0, none⟩) nl cb, .slice (some ⟨bn, 3, none⟩) (nl - 3) (cb - 3), .agg #[I n2, .slice (some ⟨bn, 3, none⟩) (nl - 3) (cb - 3), I n1], .pointer (some ⟨Γ 0, 0, none⟩), undef] : List Value).getD i undef) [10] (by kernel_rfl) (fun i => ([[], [], [], [], [], [], [], [], [], [0], []] : List (List Nat)).getD i []) (fun i => ([[], [], [], [], [], [], [], [], [], [0], []] : List (List Nat)).getD i []) 9 (by kernel_rfl) ?_ (fun j Γ b => ([(fun Γ b => fun wx => Below w1.heap.size w1 wx ∧ (b = true → Has wx (Γ 0) 29 #[I 0, .slice none 0 0, I 0] ∧ w1.heap.size ≤ Γ 0)) Γ b, (fun Γ _ => fun wx => Below w1.heap.size w1 wx ∧ Has wx (Γ 0) 29 #[I n2, .slice (some ⟨bn, 3, none⟩) (nl - 3) (cb - 3), I n1] ∧ w1.heap.size ≤ Γ 0) Γ b] : List (World → Prop)).getD j (fun _ => True)) [11, 12, 13, 14, 15, 16, 17, 18, 19, 6] (by kernel_rfl) (by kernel_rfl) ⟨(Below.refl _ _).drew, fun h => by cases h⟩ ?_ ?_
 ·intro Γ Γ' j hj hu
  have hj2 : j < 11 := hj
  have hcase : j = 0 ∨ j = 1 ∨ j = 2 ∨ j = 3 ∨ j = 4 ∨ j = 5 ∨ j = 6 ∨ j = 7 ∨ j = 8 ∨ j = 9 ∨ j = 10 := by omega
  clear hj hj2
  rcases hcase with rfl | rfl | rfl | rfl | rfl | rfl | rfl | rfl | rfl | rfl | rfl
  ·rfl
  ·rfl
  ·rfl
  ·rfl
  ·rfl
  ·rfl
  ·rfl
  ·rfl
  ·rfl
  ·show (.pointer (some ⟨Γ 0, 0, none⟩) : Value) = .pointer (some ⟨Γ' 0, 0, none⟩); rw [hu 0 (by decide)]
  ·rfl
 ·intro b0 hb0 i o ho
  have hi : i < 11 := (Array.getElem?_eq_some_iff.1 ho).1
  obtain ⟨f5, fdf⟩ := hb0
  have hcase : i = 0 ∨ i = 1 ∨ i = 2 ∨ i = 3 ∨ i = 4 ∨ i = 5 ∨ i = 6 ∨ i = 7 ∨ i = 8 ∨ i = 9 ∨ i = 10 := by omega
  clear hi
  rcases hcase with rfl | rfl | rfl | rfl | rfl | rfl | rfl | rfl | rfl | rfl | rfl
  ·simp only [List.getElem?_toArray, List.getElem?_cons_zero] at ho
   cases ho
   refine .inl ⟨by decide, by decide, fun Γ M => stepA rfl (fun li ac wx H hn hed hM K hk => ?_)⟩
   have e5 : ac.tmps[5]?.getD undef = .slice (some ⟨bn, 0, none⟩) nl cb := slot_at ((H.frm.slot (by decide)).trans f5)
   clear hed H
   go_simp
   exact hk _ hM
  ·simp only [List.getElem?_toArray, List.getElem?_cons_zero, List.getElem?_cons_succ] at ho
   cases ho
   refine .inl ⟨by decide, by decide, fun Γ M => stepA rfl (fun li ac wx H hn hed hM K hk => ?_)⟩
   have e11 : ac.tmps[11]?.getD undef = .slice (some ⟨bn, 0, none⟩) nl cb := slot_at (H.known 0 _ rfl (hed ⟨0, .data⟩ (by simp) rfl) 11 rfl)
   clear hed H
   go_simp
   exact hk _ hM
  ·simp only [List.getElem?_toArray, List.getElem?_cons_zero, List.getElem?_cons_succ] at ho
   cases ho
   refine .inr (.inr (.inr ⟨by decide, by decide, 0, 10, rfl, by kernel_rfl, fun Γ b j hj => ?_⟩))
   have hj2 : j = 0 := by omega
   clear hj
   subst hj2
   ·refine stepA rfl (fun li ac wx H hn hed hM K hk => ?_)
    have e12 : ac.tmps[12]?.getD undef = .pointer (some ⟨bn, 1, none⟩) := slot_at (H.known 1 _ rfl (hed ⟨1, .data⟩ (by simp) rfl) 12 rfl)
    have hM1 : (fun Γ b => fun wx => Below w1.heap.size w1 wx ∧ (b = true → Has wx (Γ 0) 29 #[I 0, .slice none 0 0, I 0] ∧ w1.heap.size ≤ Γ 0)) Γ b wx := hM
    clear hed H
    have c1 := (Below.cell hM1.1 (p := ⟨bn, 1, none⟩) hbl).trans hq1
    go_simp
    exact hk _ hM
  ·simp only [List.getElem?_toArray, List.getElem?_cons_zero, List.getElem?_cons_succ] at ho
   cases ho
   refine .inl ⟨by decide, by decide, fun Γ M => stepA rfl (fun li ac wx H hn hed hM K hk => ?_)⟩
   have e5 : ac.tmps[5]?.getD undef = .slice (some ⟨bn, 0, none⟩) nl cb := slot_at ((H.frm.slot (by decide)).trans f5)
   clear hed H
   go_simp
   exact hk _ hM
  ·simp only [List.getElem?_toArray, List.getElem?_cons_zero, List.getElem?_cons_succ] at ho
   cases ho
   refine .inl ⟨by decide, by decide, fun Γ M => stepA rfl (fun li ac wx H hn hed hM K hk => ?_)⟩
   have e14 : ac.tmps[14]?.getD undef = .slice (some ⟨bn, 0, none⟩) nl cb := slot_at (H.known 3 _ rfl (hed ⟨3, .data⟩ (by simp) rfl) 14 rfl)
   clear hed H
   go_simp
   exact hk _ hM
  ·simp only [List.getElem?_toArray, List.getElem?_cons_zero, List.getElem?_cons_succ] at ho
   cases ho
   refine .inr (.inr (.inr ⟨by decide, by decide, 0, 10, rfl, by kernel_rfl, fun Γ b j hj => ?_⟩))
   have hj2 : j = 0 := by omega
   clear hj
   subst hj2
   ·refine stepA rfl (fun li ac wx H hn hed hM K hk => ?_)
    have e15 : ac.tmps[15]?.getD undef = .pointer (some ⟨bn, 2, none⟩) := slot_at (H.known 4 _ rfl (hed ⟨4, .data⟩ (by simp) rfl) 15 rfl)
    have hM1 : (fun Γ b => fun wx => Below w1.heap.size w1 wx ∧ (b = true → Has wx (Γ 0) 29 #[I 0, .slice none 0 0, I 0] ∧ w1.heap.size ≤ Γ 0)) Γ b wx := hM
    clear hed H
    have c2 := (Below.cell hM1.1 (p := ⟨bn, 2, none⟩) hbl).trans hq2
    go_simp
    exact hk _ hM
  ·simp only [List.getElem?_toArray, List.getElem?_cons_zero, List.getElem?_cons_succ] at ho
   cases ho
   refine .inl ⟨by decide, by decide, fun Γ M => stepA rfl (fun li ac wx H hn hed hM K hk => ?_)⟩
   have e5 : ac.tmps[5]?.getD undef = .slice (some ⟨bn, 0, none⟩) nl cb := slot_at ((H.frm.slot (by decide)).trans f5)
   clear hed H
   go_simp
   exact hk _ hM
  ·simp only [List.getElem?_toArray, List.getElem?_cons_zero, List.getElem?_cons_succ] at ho
   cases ho
   refine .inl ⟨by decide, by decide, fun Γ M => stepA rfl (fun li ac wx H hn hed hM K hk => ?_)⟩
   have e17 : ac.tmps[17]?.getD undef = .slice (some ⟨bn, 0, none⟩) nl cb := slot_at (H.known 6 _ rfl (hed ⟨6, .data⟩ (by simp) rfl) 17 rfl)
   clear hed H
   go_simp
   exact hk _ hM
  ·simp only [List.getElem?_toArray, List.getElem?_cons_zero, List.getElem?_cons_succ] at ho
   cases ho
   refine .inl ⟨by decide, by decide, fun Γ M => stepA rfl (fun li ac wx H hn hed hM K hk => ?_)⟩
   have e13 : ac.tmps[13]?.getD undef = I n1 := slot_at (H.known 2 _ rfl (hed ⟨2, .data⟩ (by simp) rfl) 13 rfl)
   have e16 : ac.tmps[16]?.getD undef = I n2 := slot_at (H.known 5 _ rfl (hed ⟨5, .data⟩ (by simp) rfl) 16 rfl)
   have e18 : ac.tmps[18]?.getD undef = .slice (some ⟨bn, 3, none⟩) (nl - 3) (cb - 3) := slot_at (H.known 7 _ rfl (hed ⟨7, .data⟩ (by simp) rfl) 18 rfl)
   clear hed H
   go_simp
   exact hk _ hM
  ·simp only [List.getElem?_toArray, List.getElem?_cons_zero, List.getElem?_cons_succ] at ho
   cases ho
   refine .inr (.inl ⟨rfl, by decide, 0, 10, rfl, by kernel_rfl, fun Γ j hj => ?_⟩)
   have hj2 : j = 0 := by omega
   clear hj
   subst hj2
   ·refine stepC rfl (fun li ac wx H hn hed hM K hk => ?_)
    have hM1 : (fun Γ b => fun wx => Below w1.heap.size w1 wx ∧ (b = true → Has wx (Γ 0) 29 #[I 0, .slice none 0 0, I 0] ∧ w1.heap.size ≤ Γ 0)) Γ false wx := hM
    clear hed H
    go_simp
    exact hk (Γ.set 0 wx.heap.size) _ (chg1 _ _ _) ⟨Below.alloc hM1.1 hM1.1.size _, fun _ => ⟨Has.new _ _ _, hM1.1.size⟩⟩
  ·simp only [List.getElem?_toArray, List.getElem?_cons_zero, List.getElem?_cons_succ] at ho
   cases ho
   refine .inr (.inr (.inl ⟨by decide, 0, rfl, fun Γ b hba => stepC rfl (fun li ac wx H hn hed hM K hk => ?_)⟩))
   have e6 : ac.tmps[6]?.getD undef = .pointer (some ⟨Γ 0, 0, none⟩) := slot_at (H.known 9 _ rfl (hed ⟨9, .data⟩ (by simp) rfl) 6 rfl)
   have e19 : ac.tmps[19]?.getD undef = .agg #[I n2, .slice (some ⟨bn, 3, none⟩) (nl - 3) (cb - 3), I n1] := slot_at (H.known 8 _ rfl (hed ⟨8, .data⟩ (by simp) rfl) 19 rfl)
   have hM1 : (fun Γ b => fun wx => Below w1.heap.size w1 wx ∧ (b = true → Has wx (Γ 0) 29 #[I 0, .slice none 0 0, I 0] ∧ w1.heap.size ≤ Γ 0)) Γ b wx := hM
   have hdf := Lib.hid (H.frm.defers.trans fdf)
   clear hed H
   have hal := hM1.2 (hba (by kernel_rfl))
   refine wp_store_row 29 (.tmp 6) (.tmp 19) rfl (Γ 0) #[I n2, .slice (some ⟨bn, 3, none⟩) (nl - 3) (cb - 3), I n1] (eval_at e6) (eval_at e19) 29 #[I 0, .slice none 0 0, I 0] hal.1 infoLay rfl (by simp [Value.oneCell']) ?_
   exact hk Γ _ (chg0 Γ) ⟨below_setRow hM1.1 hal.2 _, hal.1.setRow _, hal.2⟩
 ·intro Γ b ac wx hF hK hM0
  have hM : (fun Γ _ => fun wx => Below w1.heap.size w1 wx ∧ Has wx (Γ 0) 29 #[I n2, .slice (some ⟨bn, 3, none⟩) (nl - 3) (cb - 3), I n1] ∧ w1.heap.size ≤ Γ 0) Γ b wx := hM0
  have E6 : ac.tmps.getD 6 undef = .pointer (some ⟨Γ 0, 0, none⟩) := hK 9 _ rfl 6 rfl
  have hMet := hF.meet
  simp only [List.foldl_cons, List.foldl_nil, List.setIfInBounds_toArray, List.set_cons_succ, List.set_cons_zero, E6] at hMet
  generalize ac.tmps.getD 11 undef = v11 at hMet
  generalize ac.tmps.getD 12 undef = v12 at hMet
  generalize ac.tmps.getD 13 undef = v13 at hMet
  generalize ac.tmps.getD 14 undef = v14 at hMet
  generalize ac.tmps.getD 15 undef = v15 at hMet
  generalize ac.tmps.getD 16 undef = v16 at hMet
  generalize ac.tmps.getD 17 undef = v17 at hMet
  generalize ac.tmps.getD 18 undef = v18 at hMet
  generalize ac.tmps.getD 19 undef = v19 at hMet
  clear hF hK hM0 E6
  subst hMet
  obtain ⟨hM1, hM2, hM3⟩ := hM
  have HBX := Lib.hid (HB.out.trans (hM1.mono HB.out.size))
  have HSX := Lib.hid (HS1.out.after hM1)
  have hq0 := (Below.cell hM1 (p := ⟨bn, 0, none⟩) hbl).trans hq0
  have hbl : bn < wx.heap.size := Nat.lt_of_lt_of_le hbl hM1.size
  have HCX := Lib.hid (HCS.out.after hM1)
  have HL := Lib.hid hM2
  have hgl := hM2.lt
  have HRX : Hid (Reads wx wx.heap.size (some ⟨bn, 3, none⟩) (ints rs)) := Lib.hid fun _ => ⟨bn, 3, rfl, hbl, fun j u hu => by rw [HCX.out.cell]; exact HRS.out j u hu⟩
  clear hM1 hM2 hM3 hq1 hq2 HCS HS1 HB
  generalize Γ 0 = gl at *
  go_upto_region 3 with fail
  have HX' : Hid (∀ wy, Below wx.heap.size wx wy → Calls Tryz.prog 7 #[.agg #[I n2, .slice (some ⟨bn, 3, none⟩) (nl - 3) (cb - 3), I n1], I n0] wy fun e w' => e = .returned (.tuple #[.pointer none, .iface 73 (I ee)]) ∧ Below wy.heap.size wy w') := Lib.hid fun wy hb => HX.out bn cb nl wy HNL.out HCB.out HRL.out ((HRX.out.below hb).more hb.size)
  refine region_gen (by kernel_rfl) (fun b0 => b0.tmps.getD 5 undef = .slice (some ⟨bn, 0, none⟩) nl cb ∧ b0.tmps.getD 6 undef = .pointer (some ⟨gl, 0, none⟩) ∧ b0.defers = []) ⟨rfl, rfl, rfl⟩ 38 rfl (fun _ => 0) (fun (Γ : Unk) i => ([.agg #[I n2, .slice (some ⟨bn, 3, none⟩) (nl - 3) (cb - 3), I n1], .slice (some ⟨bn, 0, none⟩) nl cb, .pointer (some ⟨bn, 0, none⟩), I n0, .tuple #[.pointer none, .iface 73 (I ee)], .tuple #[.pointer none, .iface 73 (I ee)], .pointer none, .iface 73 (I ee), .pointer none, .iface 73 (I ee)] : List Value).getD i undef) [4] (by kernel_rfl) (fun i => ([[], [], [], [], [], [], [], [], [], []] : List (List Nat)).getD i []) (fun i => ([[], [], [], [], [], [], [], [], [], []] : List (List Nat)).getD i []) 10 (by kernel_rfl) ?_ (fun j Γ b => ([(fun _ _ => fun wy => Below wx.heap.size wx wy) Γ b, (fun _ _ => fun wy => Below wx.heap.size wx wy) Γ b] : List (World → Prop)).getD j (fun _ => True)) [21, 22, 23, 24, 25, 20, 26, 27, 7, 8] (by kernel_rfl) (by kernel_rfl) ((Below.refl _ _).drew) ?_ ?_
  ·intro Γ Γ' j hj hu
   have hj2 : j < 10 := hj
   have hcase : j = 0 ∨ j = 1 ∨ j = 2 ∨ j = 3 ∨ j = 4 ∨ j = 5 ∨ j = 6 ∨ j = 7 ∨ j = 8 ∨ j = 9 := by omega
   clear hj hj2
   rcases hcase with rfl | rfl | rfl | rfl | rfl | rfl | rfl | rfl | rfl | rfl
   ·rfl
   ·rfl
   ·rfl
   ·rfl
   ·rfl
   ·rfl
   ·rfl
   ·rfl
   ·rfl
   ·rfl
  ·intro b0 hb0 i o ho
   have hi : i < 10 := (Array.getElem?_eq_some_iff.1 ho).1
   obtain ⟨f5, f6, fdf⟩ := hb0
   have hcase : i = 0 ∨ i = 1 ∨ i = 2 ∨ i = 3 ∨ i = 4 ∨ i = 5 ∨ i = 6 ∨ i = 7 ∨ i = 8 ∨ i = 9 := by omega
   clear hi
   rcases hcase with rfl | rfl | rfl | rfl | rfl | rfl | rfl | rfl | rfl | rfl
   ·simp only [List.getElem?_toArray, List.getElem?_cons_zero] at ho
    cases ho
    refine .inr (.inr (.inr ⟨by decide, by decide, 0, 4, rfl, by kernel_rfl, fun Γ b j hj => ?_⟩))
    have hj2 : j = 0 := by omega
    clear hj
    subst hj2
    ·refine stepA rfl (fun li ac wx' H hn hed hM K hk => ?_)
     have e6 : ac.tmps[6]?.getD undef = .pointer (some ⟨gl, 0, none⟩) := slot_at ((H.frm.slot (by decide)).trans f6)
     have hM1 : (fun _ _ => fun wy => Below wx.heap.size wx wy) Γ b wx' := hM
     clear hed H
     have kl := HL.out.after hM1
     have c0 := kl.cellv 0 _ rfl
     have c1 := kl.cellv 1 _ rfl
     have c2 := kl.cellv 2 _ rfl
     have hgl := kl.lt
     go_simp
     exact hk _ hM
   ·simp only [List.getElem?_toArray, List.getElem?_cons_zero, List.getElem?_cons_succ] at ho
    cases ho
    refine .inl ⟨by decide, by decide, fun Γ M => stepA rfl (fun li ac wx' H hn hed hM K hk => ?_)⟩
    have e5 : ac.tmps[5]?.getD undef = .slice (some ⟨bn, 0, none⟩) nl cb := slot_at ((H.frm.slot (by decide)).trans f5)
    clear hed H
    go_simp
    exact hk _ hM
   ·simp only [List.getElem?_toArray, List.getElem?_cons_zero, List.getElem?_cons_succ] at ho
    cases ho
    refine .inl ⟨by decide, by decide, fun Γ M => stepA rfl (fun li ac wx' H hn hed hM K hk => ?_)⟩
    have e22 : ac.tmps[22]?.getD undef = .slice (some ⟨bn, 0, none⟩) nl cb := slot_at (H.known 1 _ rfl (hed ⟨1, .data⟩ (by simp) rfl) 22 rfl)
    clear hed H
    go_simp
    exact hk _ hM
   ·simp only [List.getElem?_toArray, List.getElem?_cons_zero, List.getElem?_cons_succ] at ho
    cases ho
    refine .inr (.inr (.inr ⟨by decide, by decide, 0, 4, rfl, by kernel_rfl, fun Γ b j hj => ?_⟩))
    have hj2 : j = 0 := by omega
    clear hj
    subst hj2
    ·refine stepA rfl (fun li ac wx' H hn hed hM K hk => ?_)
     have e23 : ac.tmps[23]?.getD undef = .pointer (some ⟨bn, 0, none⟩) := slot_at (H.known 2 _ rfl (hed ⟨2, .data⟩ (by simp) rfl) 23 rfl)
     have hM1 : (fun _ _ => fun wy => Below wx.heap.size wx wy) Γ b wx' := hM
     clear hed H
     have c0 := (Below.cell hM1 (p := ⟨bn, 0, none⟩) hbl).trans hq0
     go_simp
     exact hk _ hM
   ·simp only [List.getElem?_toArray, List.getElem?_cons_zero, List.getElem?_cons_succ] at ho
    cases ho
    refine .inr (.inr (.inl ⟨by decide, 0, rfl, fun Γ b hba => stepC rfl (fun li ac wx' H hn hed hM K hk => ?_)⟩))
    have e21 : ac.tmps[21]?.getD undef = .agg #[I n2, .slice (some ⟨bn, 3, none⟩) (nl - 3) (cb - 3), I n1] := slot_at (H.known 0 _ rfl (hed ⟨0, .data⟩ (by simp) rfl) 21 rfl)
    have e24 : ac.tmps[24]?.getD undef = I n0 := slot_at (H.known 3 _ rfl (hed ⟨3, .data⟩ (by simp) rfl) 24 rfl)
    have hM1 : (fun _ _ => fun wy => Below wx.heap.size wx wy) Γ b wx' := hM
    have hdf := Lib.hid (H.frm.defers.trans fdf)
    clear hed H
    go_simp
    refine (HX'.out wx' hM1).mono ?_
    rintro e w' ⟨rfl, hb⟩
    exact hk Γ _ (chg0 Γ) (hM1.trans (hb.mono hM1.size))
   ·simp only [List.getElem?_toArray, List.getElem?_cons_zero, List.getElem?_cons_succ] at ho
    cases ho
    refine .inl ⟨by decide, by decide, fun Γ M => stepA rfl (fun li ac wx' H hn hed hM K hk => ?_)⟩
    have e25 : ac.tmps[25]?.getD undef = .tuple #[.pointer none, .iface 73 (I ee)] := slot_at (H.known 4 _ rfl (hed ⟨4, .data⟩ (by simp) rfl) 25 rfl)
    clear hed H
    go_simp
    exact hk _ hM
   ·simp only [List.getElem?_toArray, List.getElem?_cons_zero, List.getElem?_cons_succ] at ho
    cases ho
    refine .inl ⟨by decide, by decide, fun Γ M => stepA rfl (fun li ac wx' H hn hed hM K hk => ?_)⟩
    have e20 : ac.tmps[20]?.getD undef = .tuple #[.pointer none, .iface 73 (I ee)] := slot_at (H.known 5 _ rfl (hed ⟨5, .data⟩ (by simp) rfl) 20 rfl)
    clear hed H
    go_simp
    exact hk _ hM
   ·simp only [List.getElem?_toArray, List.getElem?_cons_zero, List.getElem?_cons_succ] at ho
    cases ho
    refine .inl ⟨by decide, by decide, fun Γ M => stepA rfl (fun li ac wx' H hn hed hM K hk => ?_)⟩
    have e20 : ac.tmps[20]?.getD undef = .tuple #[.pointer none, .iface 73 (I ee)] := slot_at (H.known 5 _ rfl (hed ⟨5, .data⟩ (by simp) rfl) 20 rfl)
    clear hed H
    go_simp
    exact hk _ hM
   ·simp only [List.getElem?_toArray, List.getElem?_cons_zero, List.getElem?_cons_succ] at ho
    cases ho
    refine .inl ⟨by decide, by decide, fun Γ M => stepA rfl (fun li ac wx' H hn hed hM K hk => ?_)⟩
    have e26 : ac.tmps[26]?.getD undef = .pointer none := slot_at (H.known 6 _ rfl (hed ⟨6, .data⟩ (by simp) rfl) 26 rfl)
    clear hed H
    go_simp
    exact hk _ hM
   ·simp only [List.getElem?_toArray, List.getElem?_cons_zero, List.getElem?_cons_succ] at ho
    cases ho
    refine .inl ⟨by decide, by decide, fun Γ M => stepA rfl (fun li ac wx' H hn hed hM K hk => ?_)⟩
    have e27 : ac.tmps[27]?.getD undef = .iface 73 (I ee) := slot_at (H.known 7 _ rfl (hed ⟨7, .data⟩ (by simp) rfl) 27 rfl)
    clear hed H
    go_simp
    exact hk _ hM
  ·intro Γ b ac wy hF hK hM0
   have hM : (fun _ _ => fun wy => Below wx.heap.size wx wy) Γ b wy := hM0
   have E7 : ac.tmps.getD 7 undef = .pointer none := hK 8 _ rfl 7 rfl
   have E8 : ac.tmps.getD 8 undef = .iface 73 (I ee) := hK 9 _ rfl 8 rfl
   have hMet := hF.meet
   simp only [List.foldl_cons, List.foldl_nil, List.setIfInBounds_toArray, List.set_cons_succ, List.set_cons_zero, E7, E8] at hMet
   generalize ac.tmps.getD 21 undef = v21 at hMet
   generalize ac.tmps.getD 22 undef = v22 at hMet
   generalize ac.tmps.getD 23 undef = v23 at hMet
   generalize ac.tmps.getD 24 undef = v24 at hMet
   generalize ac.tmps.getD 25 undef = v25 at hMet
   generalize ac.tmps.getD 20 undef = v20 at hMet
   generalize ac.tmps.getD 26 undef = v26 at hMet
   generalize ac.tmps.getD 27 undef = v27 at hMet
   clear hF hK hM0 E7 E8
   subst hMet
   have HM := Lib.hid hM
   have HSY := Lib.hid (HSX.out.after hM)
   go_wp2_with (go_at_call 28; refine (must_errno ee wy (Lib.hid HSY.out.et)).mono ?_; rintro e w3 ⟨rfl, hb3⟩)
   exact ⟨rfl, rfl, HBX.out.trans ((HM.out.trans (hb3.mono HM.out.size)).mono HBX.out.size)⟩
set_option maxHeartbeats 4000000 in
set_option maxRecDepth 100000 in
theorem begin_at {n0 n1 n2 : Int} {rs : List Int} (ee ep : Int) (HX : Hid (∀ (bn cb nl : Nat) (wx : World), nl - 3 = rs.length → nl ≤ cb → rs.length ≤ 100000 → Reads wx wx.heap.size (some ⟨bn, 3, none⟩) (ints rs) → Calls Tryz.prog 7 #[.agg #[I n2, .slice (some ⟨bn, 3, none⟩) (nl - 3) (cb - 3), I n1], I n0] wx fun e w' => (∃ b, e = .returned (.tuple #[.pointer none, .iface 86 (.pointer (some ⟨b, 0, none⟩))]) ∧ Has w' b 88 #[I ee, I ep]) ∧ Below wx.heap.size wx w')) (hr : Hid (numsOf l (-4) = some (n0 :: n1 :: n2 :: rs))) (hw : Hid (Words w A l)) (c : Nat) (hs : Hid (Std w)) :
  Calls Tryz.prog 13 #[.pointer (some ⟨g, 0, none⟩), .slice A l.length c] w (fun e w' => e = .panicked (pan ee) ∧ Below w.heap.size w w') := by
 have HN := Lib.hid (dk_some hw c (-4) (by decide) (by decide) hs hr.out)
 have HRL : Hid (rs.length ≤ 100000) := Lib.hid (by have := numsOf_many hr.out; have h2 := hw.out.many; simp at this; omega)
 have HN4 : Hid (1 ≤ rs.length) := Lib.hid (by have := numsOf_four hr.out; simp at this; omega)
 clear hr hw
 go_enter Tryz.func13, Tryz.ntmps13
 go_upto_region 2 with (go_at_call 27; refine HN.out.mono ?_; rintro e w1 ⟨⟨v, rfl, ho⟩, hb⟩; have HB := Lib.hid hb; have HO := Lib.hid ho; clear hb ho)
 obtain ⟨bn, cb, cs, rfl, hcb, hh, hcs⟩ := own_cells HO.out (by simp)
 have hq0 : w1.cell? ⟨bn, 0, none⟩ = some (I n0) := by rw [hh.cell]; exact hcs 0 _ rfl
 have hq1 : w1.cell? ⟨bn, 1, none⟩ = some (I n1) := by rw [hh.cell]; exact hcs 1 _ rfl
 have hq2 : w1.cell? ⟨bn, 2, none⟩ = some (I n2) := by rw [hh.cell]; exact hcs 2 _ rfl
 have hbl := hh.lt
 have HRS : Hid (∀ (j : Nat) (u : Value), (ints rs)[j]? = some u → cs[3 + j]? = some u) := Lib.hid fun j u hu => hcs (3 + j) u (by rw [show 3 + j = j + 1 + 1 + 1 by omega]; exact hu)
 have HCS := Lib.hid hh
 have HS1 := Lib.hid (hs.out.after HB.out)
 obtain ⟨nl, hnl⟩ : ∃ nl, nl = (n0 :: n1 :: n2 :: rs).length := ⟨_, rfl⟩
 rw [← hnl] at hcb ⊢
 have hn3 : 4 ≤ nl := by rw [hnl]; have := HN4.out; simp; omega
 have hcb3 : ¬ cb = 3 := by omega
 have hi0 : 0 < nl := by omega
 have hi1 : (1 : Int) < (nl : Int) := by omega
 have hi2 : (2 : Int) < (nl : Int) := by rw [hnl]; simp; omega
 have hi3 : (3 : Int) ≤ (nl : Int) := by omega
 have HNL : Hid (nl - 3 = rs.length) := Lib.hid (by rw [hnl]; simp)
 have HCB : Hid (nl ≤ cb) := Lib.hid hcb
 clear hh hcs HO HN hnl hs
 refine region_gen (by kernel_rfl) (fun b0 => b0.tmps.getD 5 undef = .slice (some ⟨bn, 0, none⟩) nl cb ∧ b0.defers = []) ⟨rfl, rfl⟩ 38 rfl (fun _ => 0) (fun (Γ : Unk) i => ([.slice (some ⟨bn, 0, none⟩) nl cb, .pointer (some ⟨bn, 1, none⟩), I n1, .slice (some ⟨bn, 0, none⟩) nl cb, .pointer (some ⟨bn, 2, none⟩), I n2, .slice (some ⟨bn, 0, none⟩) nl cb, .slice (some ⟨bn, 3, none⟩) (nl - 3) (cb - 3), .agg #[I n2, .slice (some ⟨bn, 3, none⟩) (nl - 3) (cb - 3), I n1], .pointer (some ⟨Γ 0, 0, none⟩), undef] : List Value).getD i undef) [10] (by kernel_rfl) (fun i => ([[], [], [], [], [], [], [], [], [], [0], []] : List (List Nat)).getD i []) (fun i => ([[], [], [], [], [], [], [], [], [], [0], []] : List (List Nat)).getD i []) 9 (by kernel_rfl) ?_ (fun j Γ b => ([(fun Γ b => fun wx => Below w1.heap.size w1 wx ∧ (b = true → Has wx (Γ 0) 29 #[I 0, .slice none 0 0, I 0] ∧ w1.heap.size ≤ Γ 0)) Γ b, (fun Γ _ => fun wx => Below w1.heap.size w1 wx ∧ Has wx (Γ 0) 29 #[I n2, .slice (some ⟨bn, 3, none⟩) (nl - 3) (cb - 3), I n1] ∧ w1.heap.size ≤ Γ 0) Γ b] : List (World → Prop)).getD j (fun _ => True)) [11, 12, 13, 14, 15, 16, 17, 18, 19, 6] (by kernel_rfl) (by kernel_rfl) ⟨(Below.refl _ _).drew, fun h => by cases h⟩ ?_ ?_
 ·intro Γ Γ' j hj hu
  have hj2 : j < 11 := hj
  have hcase : j = 0 ∨ j = 1 ∨ j = 2 ∨ j = 3 ∨ j = 4 ∨ j = 5 ∨ j = 6 ∨ j = 7 ∨ j = 8 ∨ j = 9 ∨ j = 10 := by omega
  clear hj hj2
  rcases hcase with rfl | rfl | rfl | rfl | rfl | rfl | rfl | rfl | rfl | rfl | rfl
  ·rfl
  ·rfl
  ·rfl
  ·rfl
  ·rfl
  ·rfl
  ·rfl
  ·rfl
  ·rfl
  ·show (.pointer (some ⟨Γ 0, 0, none⟩) : Value) = .pointer (some ⟨Γ' 0, 0, none⟩); rw [hu 0 (by decide)]
  ·rfl
 ·intro b0 hb0 i o ho
  have hi : i < 11 := (Array.getElem?_eq_some_iff.1 ho).1
  obtain ⟨f5, fdf⟩ := hb0
  have hcase : i = 0 ∨ i = 1 ∨ i = 2 ∨ i = 3 ∨ i = 4 ∨ i = 5 ∨ i = 6 ∨ i = 7 ∨ i = 8 ∨ i = 9 ∨ i = 10 := by omega
  clear hi
  rcases hcase with rfl | rfl | rfl | rfl | rfl | rfl | rfl | rfl | rfl | rfl | rfl
  ·simp only [List.getElem?_toArray, List.getElem?_cons_zero] at ho
   cases ho
   refine .inl ⟨by decide, by decide, fun Γ M => stepA rfl (fun li ac wx H hn hed hM K hk => ?_)⟩
   have e5 : ac.tmps[5]?.getD undef = .slice (some ⟨bn, 0, none⟩) nl cb := slot_at ((H.frm.slot (by decide)).trans f5)
   clear hed H
   go_simp
   exact hk _ hM
  ·simp only [List.getElem?_toArray, List.getElem?_cons_zero, List.getElem?_cons_succ] at ho
   cases ho
   refine .inl ⟨by decide, by decide, fun Γ M => stepA rfl (fun li ac wx H hn hed hM K hk => ?_)⟩
   have e11 : ac.tmps[11]?.getD undef = .slice (some ⟨bn, 0, none⟩) nl cb := slot_at (H.known 0 _ rfl (hed ⟨0, .data⟩ (by simp) rfl) 11 rfl)
   clear hed H
   go_simp
   exact hk _ hM
  ·simp only [List.getElem?_toArray, List.getElem?_cons_zero, List.getElem?_cons_succ] at ho
   cases ho
   refine .inr (.inr (.inr ⟨by decide, by decide, 0, 10, rfl, by kernel_rfl, fun Γ b j hj => ?_⟩))
   have hj2 : j = 0 := by omega
   clear hj
   subst hj2
   ·refine stepA rfl (fun li ac wx H hn hed hM K hk => ?_)
    have e12 : ac.tmps[12]?.getD undef = .pointer (some ⟨bn, 1, none⟩) := slot_at (H.known 1 _ rfl (hed ⟨1, .data⟩ (by simp) rfl) 12 rfl)
    have hM1 : (fun Γ b => fun wx => Below w1.heap.size w1 wx ∧ (b = true → Has wx (Γ 0) 29 #[I 0, .slice none 0 0, I 0] ∧ w1.heap.size ≤ Γ 0)) Γ b wx := hM
    clear hed H
    have c1 := (Below.cell hM1.1 (p := ⟨bn, 1, none⟩) hbl).trans hq1
    go_simp
    exact hk _ hM
  ·simp only [List.getElem?_toArray, List.getElem?_cons_zero, List.getElem?_cons_succ] at ho
   cases ho
   refine .inl ⟨by decide, by decide, fun Γ M => stepA rfl (fun li ac wx H hn hed hM K hk => ?_)⟩
   have e5 : ac.tmps[5]?.getD undef = .slice (some ⟨bn, 0, none⟩) nl cb := slot_at ((H.frm.slot (by decide)).trans f5)
   clear hed H
   go_simp
   exact hk _ hM
  ·simp only [List.getElem?_toArray, List.getElem?_cons_zero, List.getElem?_cons_succ] at ho
   cases ho
   refine .inl ⟨by decide, by decide, fun Γ M => stepA rfl (fun li ac wx H hn hed hM K hk => ?_)⟩
   have e14 : ac.tmps[14]?.getD undef = .slice (some ⟨bn, 0, none⟩) nl cb := slot_at (H.known 3 _ rfl (hed ⟨3, .data⟩ (by simp) rfl) 14 rfl)
   clear hed H
   go_simp
   exact hk _ hM
  ·simp only [List.getElem?_toArray, List.getElem?_cons_zero, List.getElem?_cons_succ] at ho
   cases ho
   refine .inr (.inr (.inr ⟨by decide, by decide, 0, 10, rfl, by kernel_rfl, fun Γ b j hj => ?_⟩))
   have hj2 : j = 0 := by omega
   clear hj
   subst hj2
   ·refine stepA rfl (fun li ac wx H hn hed hM K hk => ?_)
    have e15 : ac.tmps[15]?.getD undef = .pointer (some ⟨bn, 2, none⟩) := slot_at (H.known 4 _ rfl (hed ⟨4, .data⟩ (by simp) rfl) 15 rfl)
    have hM1 : (fun Γ b => fun wx => Below w1.heap.size w1 wx ∧ (b = true → Has wx (Γ 0) 29 #[I 0, .slice none 0 0, I 0] ∧ w1.heap.size ≤ Γ 0)) Γ b wx := hM
    clear hed H
    have c2 := (Below.cell hM1.1 (p := ⟨bn, 2, none⟩) hbl).trans hq2
    go_simp
    exact hk _ hM
  ·simp only [List.getElem?_toArray, List.getElem?_cons_zero, List.getElem?_cons_succ] at ho
   cases ho
   refine .inl ⟨by decide, by decide, fun Γ M => stepA rfl (fun li ac wx H hn hed hM K hk => ?_)⟩
   have e5 : ac.tmps[5]?.getD undef = .slice (some ⟨bn, 0, none⟩) nl cb := slot_at ((H.frm.slot (by decide)).trans f5)
   clear hed H
   go_simp
   exact hk _ hM
  ·simp only [List.getElem?_toArray, List.getElem?_cons_zero, List.getElem?_cons_succ] at ho
   cases ho
   refine .inl ⟨by decide, by decide, fun Γ M => stepA rfl (fun li ac wx H hn hed hM K hk => ?_)⟩
   have e17 : ac.tmps[17]?.getD undef = .slice (some ⟨bn, 0, none⟩) nl cb := slot_at (H.known 6 _ rfl (hed ⟨6, .data⟩ (by simp) rfl) 17 rfl)
   clear hed H
   go_simp
   exact hk _ hM
  ·simp only [List.getElem?_toArray, List.getElem?_cons_zero, List.getElem?_cons_succ] at ho
   cases ho
   refine .inl ⟨by decide, by decide, fun Γ M => stepA rfl (fun li ac wx H hn hed hM K hk => ?_)⟩
   have e13 : ac.tmps[13]?.getD undef = I n1 := slot_at (H.known 2 _ rfl (hed ⟨2, .data⟩ (by simp) rfl) 13 rfl)
   have e16 : ac.tmps[16]?.getD undef = I n2 := slot_at (H.known 5 _ rfl (hed ⟨5, .data⟩ (by simp) rfl) 16 rfl)
   have e18 : ac.tmps[18]?.getD undef = .slice (some ⟨bn, 3, none⟩) (nl - 3) (cb - 3) := slot_at (H.known 7 _ rfl (hed ⟨7, .data⟩ (by simp) rfl) 18 rfl)
   clear hed H
   go_simp
   exact hk _ hM
  ·simp only [List.getElem?_toArray, List.getElem?_cons_zero, List.getElem?_cons_succ] at ho
   cases ho
   refine .inr (.inl ⟨rfl, by decide, 0, 10, rfl, by kernel_rfl, fun Γ j hj => ?_⟩)
   have hj2 : j = 0 := by omega
   clear hj
   subst hj2
   ·refine stepC rfl (fun li ac wx H hn hed hM K hk => ?_)
    have hM1 : (fun Γ b => fun wx => Below w1.heap.size w1 wx ∧ (b = true → Has wx (Γ 0) 29 #[I 0, .slice none 0 0, I 0] ∧ w1.heap.size ≤ Γ 0)) Γ false wx := hM
    clear hed H
    go_simp
    exact hk (Γ.set 0 wx.heap.size) _ (chg1 _ _ _) ⟨Below.alloc hM1.1 hM1.1.size _, fun _ => ⟨Has.new _ _ _, hM1.1.size⟩⟩
  ·simp only [List.getElem?_toArray, List.getElem?_cons_zero, List.getElem?_cons_succ] at ho
   cases ho
   refine .inr (.inr (.inl ⟨by decide, 0, rfl, fun Γ b hba => stepC rfl (fun li ac wx H hn hed hM K hk => ?_)⟩))
   have e6 : ac.tmps[6]?.getD undef = .pointer (some ⟨Γ 0, 0, none⟩) := slot_at (H.known 9 _ rfl (hed ⟨9, .data⟩ (by simp) rfl) 6 rfl)
   have e19 : ac.tmps[19]?.getD undef = .agg #[I n2, .slice (some ⟨bn, 3, none⟩) (nl - 3) (cb - 3), I n1] := slot_at (H.known 8 _ rfl (hed ⟨8, .data⟩ (by simp) rfl) 19 rfl)
   have hM1 : (fun Γ b => fun wx => Below w1.heap.size w1 wx ∧ (b = true → Has wx (Γ 0) 29 #[I 0, .slice none 0 0, I 0] ∧ w1.heap.size ≤ Γ 0)) Γ b wx := hM
   have hdf := Lib.hid (H.frm.defers.trans fdf)
   clear hed H
   have hal := hM1.2 (hba (by kernel_rfl))
   refine wp_store_row 29 (.tmp 6) (.tmp 19) rfl (Γ 0) #[I n2, .slice (some ⟨bn, 3, none⟩) (nl - 3) (cb - 3), I n1] (eval_at e6) (eval_at e19) 29 #[I 0, .slice none 0 0, I 0] hal.1 infoLay rfl (by simp [Value.oneCell']) ?_
   exact hk Γ _ (chg0 Γ) ⟨below_setRow hM1.1 hal.2 _, hal.1.setRow _, hal.2⟩
 ·intro Γ b ac wx hF hK hM0
  have hM : (fun Γ _ => fun wx => Below w1.heap.size w1 wx ∧ Has wx (Γ 0) 29 #[I n2, .slice (some ⟨bn, 3, none⟩) (nl - 3) (cb - 3), I n1] ∧ w1.heap.size ≤ Γ 0) Γ b wx := hM0
  have E6 : ac.tmps.getD 6 undef = .pointer (some ⟨Γ 0, 0, none⟩) := hK 9 _ rfl 6 rfl
  have hMet := hF.meet
  simp only [List.foldl_cons, List.foldl_nil, List.setIfInBounds_toArray, List.set_cons_succ, List.set_cons_zero, E6] at hMet
  generalize ac.tmps.getD 11 undef = v11 at hMet
  generalize ac.tmps.getD 12 undef = v12 at hMet
  generalize ac.tmps.getD 13 undef = v13 at hMet
  generalize ac.tmps.getD 14 undef = v14 at hMet
  generalize ac.tmps.getD 15 undef = v15 at hMet
  generalize ac.tmps.getD 16 undef = v16 at hMet
  generalize ac.tmps.getD 17 undef = v17 at hMet
  generalize ac.tmps.getD 18 undef = v18 at hMet
  generalize ac.tmps.getD 19 undef = v19 at hMet
  clear hF hK hM0 E6
  subst hMet
  obtain ⟨hM1, hM2, hM3⟩ := hM
  have HBX := Lib.hid (HB.out.trans (hM1.mono HB.out.size))
  have HSX := Lib.hid (HS1.out.after hM1)
  have hq0 := (Below.cell hM1 (p := ⟨bn, 0, none⟩) hbl).trans hq0
  have hbl : bn < wx.heap.size := Nat.lt_of_lt_of_le hbl hM1.size
  have HCX := Lib.hid (HCS.out.after hM1)
  have HL := Lib.hid hM2
  have hgl := hM2.lt
  have HRX : Hid (Reads wx wx.heap.size (some ⟨bn, 3, none⟩) (ints rs)) := Lib.hid fun _ => ⟨bn, 3, rfl, hbl, fun j u hu => by rw [HCX.out.cell]; exact HRS.out j u hu⟩
  clear hM1 hM2 hM3 hq1 hq2 HCS HS1 HB
  generalize Γ 0 = gl at *
  go_upto_region 3 with fail
  have HX' : Hid (∀ wy, Below wx.heap.size wx wy → Calls Tryz.prog 7 #[.agg #[I n2, .slice (some ⟨bn, 3, none⟩) (nl - 3) (cb - 3), I n1], I n0] wy fun e w' => (∃ b, e = .returned (.tuple #[.pointer none, .iface 86 (.pointer (some ⟨b, 0, none⟩))]) ∧ Has w' b 88 #[I ee, I ep]) ∧ Below wy.heap.size wy w') := Lib.hid fun wy hb => HX.out bn cb nl wy HNL.out HCB.out HRL.out ((HRX.out.below hb).more hb.size)
  refine region_gen (by kernel_rfl) (fun b0 => b0.tmps.getD 5 undef = .slice (some ⟨bn, 0, none⟩) nl cb ∧ b0.tmps.getD 6 undef = .pointer (some ⟨gl, 0, none⟩) ∧ b0.defers = []) ⟨rfl, rfl, rfl⟩ 38 rfl (fun _ => 0) (fun (Γ : Unk) i => ([.agg #[I n2, .slice (some ⟨bn, 3, none⟩) (nl - 3) (cb - 3), I n1], .slice (some ⟨bn, 0, none⟩) nl cb, .pointer (some ⟨bn, 0, none⟩), I n0, .tuple #[.pointer none, .iface 86 (.pointer (some ⟨Γ 0, 0, none⟩))], .tuple #[.pointer none, .iface 86 (.pointer (some ⟨Γ 0, 0, none⟩))], .pointer none, .iface 86 (.pointer (some ⟨Γ 0, 0, none⟩)), .pointer none, .iface 86 (.pointer (some ⟨Γ 0, 0, none⟩))] : List Value).getD i undef) [4] (by kernel_rfl) (fun i => ([[], [], [], [], [0], [], [], [], [], []] : List (List Nat)).getD i []) (fun i => ([[], [], [], [], [0], [0], [], [0], [], [0]] : List (List Nat)).getD i []) 10 (by kernel_rfl) ?_ (fun j Γ b => ([(fun _ _ => fun wy => Below wx.heap.size wx wy) Γ b, (fun Γ _ => fun wy => Below wx.heap.size wx wy ∧ Has wy (Γ 0) 88 #[I ee, I ep]) Γ b] : List (World → Prop)).getD j (fun _ => True)) [21, 22, 23, 24, 25, 20, 26, 27, 7, 8] (by kernel_rfl) (by kernel_rfl) ((Below.refl _ _).drew) ?_ ?_
  ·intro Γ Γ' j hj hu
   have hj2 : j < 10 := hj
   have hcase : j = 0 ∨ j = 1 ∨ j = 2 ∨ j = 3 ∨ j = 4 ∨ j = 5 ∨ j = 6 ∨ j = 7 ∨ j = 8 ∨ j = 9 := by omega
   clear hj hj2
   rcases hcase with rfl | rfl | rfl | rfl | rfl | rfl | rfl | rfl | rfl | rfl
   ·rfl
   ·rfl
   ·rfl
   ·rfl
   ·show (.tuple #[.pointer none, .iface 86 (.pointer (some ⟨Γ 0, 0, none⟩))] : Value) = .tuple #[.pointer none, .iface 86 (.pointer (some ⟨Γ' 0, 0, none⟩))]; rw [hu 0 (by decide)]
   ·show (.tuple #[.pointer none, .iface 86 (.pointer (some ⟨Γ 0, 0, none⟩))] : Value) = .tuple #[.pointer none, .iface 86 (.pointer (some ⟨Γ' 0, 0, none⟩))]; rw [hu 0 (by decide)]
   ·rfl
   ·show (.iface 86 (.pointer (some ⟨Γ 0, 0, none⟩)) : Value) = .iface 86 (.pointer (some ⟨Γ' 0, 0, none⟩)); rw [hu 0 (by decide)]
   ·rfl
   ·show (.iface 86 (.pointer (some ⟨Γ 0, 0, none⟩)) : Value) = .iface 86 (.pointer (some ⟨Γ' 0, 0, none⟩)); rw [hu 0 (by decide)]
  ·intro b0 hb0 i o ho
   have hi : i < 10 := (Array.getElem?_eq_some_iff.1 ho).1
   obtain ⟨f5, f6, fdf⟩ := hb0
   have hcase : i = 0 ∨ i = 1 ∨ i = 2 ∨ i = 3 ∨ i = 4 ∨ i = 5 ∨ i = 6 ∨ i = 7 ∨ i = 8 ∨ i = 9 := by omega
   clear hi
   rcases hcase with rfl | rfl | rfl | rfl | rfl | rfl | rfl | rfl | rfl | rfl
   ·simp only [List.getElem?_toArray, List.getElem?_cons_zero] at ho
    cases ho
    refine .inr (.inr (.inr ⟨by decide, by decide, 0, 4, rfl, by kernel_rfl, fun Γ b j hj => ?_⟩))
    have hj2 : j = 0 := by omega
    clear hj
    subst hj2
    ·refine stepA rfl (fun li ac wx' H hn hed hM K hk => ?_)
     have e6 : ac.tmps[6]?.getD undef = .pointer (some ⟨gl, 0, none⟩) := slot_at ((H.frm.slot (by decide)).trans f6)
     have hM1 : (fun _ _ => fun wy => Below wx.heap.size wx wy) Γ b wx' := hM
     clear hed H
     have kl := HL.out.after hM1
     have c0 := kl.cellv 0 _ rfl
     have c1 := kl.cellv 1 _ rfl
     have c2 := kl.cellv 2 _ rfl
     have hgl := kl.lt
     go_simp
     exact hk _ hM
   ·simp only [List.getElem?_toArray, List.getElem?_cons_zero, List.getElem?_cons_succ] at ho
    cases ho
    refine .inl ⟨by decide, by decide, fun Γ M => stepA rfl (fun li ac wx' H hn hed hM K hk => ?_)⟩
    have e5 : ac.tmps[5]?.getD undef = .slice (some ⟨bn, 0, none⟩) nl cb := slot_at ((H.frm.slot (by decide)).trans f5)
    clear hed H
    go_simp
    exact hk _ hM
   ·simp only [List.getElem?_toArray, List.getElem?_cons_zero, List.getElem?_cons_succ] at ho
    cases ho
    refine .inl ⟨by decide, by decide, fun Γ M => stepA rfl (fun li ac wx' H hn hed hM K hk => ?_)⟩
    have e22 : ac.tmps[22]?.getD undef = .slice (some ⟨bn, 0, none⟩) nl cb := slot_at (H.known 1 _ rfl (hed ⟨1, .data⟩ (by simp) rfl) 22 rfl)
    clear hed H
    go_simp
    exact hk _ hM
   ·simp only [List.getElem?_toArray, List.getElem?_cons_zero, List.getElem?_cons_succ] at ho
    cases ho
    refine .inr (.inr (.inr ⟨by decide, by decide, 0, 4, rfl, by kernel_rfl, fun Γ b j hj => ?_⟩))
    have hj2 : j = 0 := by omega
    clear hj
    subst hj2
    ·refine stepA rfl (fun li ac wx' H hn hed hM K hk => ?_)
     have e23 : ac.tmps[23]?.getD undef = .pointer (some ⟨bn, 0, none⟩) := slot_at (H.known 2 _ rfl (hed ⟨2, .data⟩ (by simp) rfl) 23 rfl)
     have hM1 : (fun _ _ => fun wy => Below wx.heap.size wx wy) Γ b wx' := hM
     clear hed H
     have c0 := (Below.cell hM1 (p := ⟨bn, 0, none⟩) hbl).trans hq0
     go_simp
     exact hk _ hM
   ·simp only [List.getElem?_toArray, List.getElem?_cons_zero, List.getElem?_cons_succ] at ho
    cases ho
    refine .inr (.inr (.inl ⟨by decide, 0, rfl, fun Γ b hba => stepC rfl (fun li ac wx' H hn hed hM K hk => ?_)⟩))
    have e21 : ac.tmps[21]?.getD undef = .agg #[I n2, .slice (some ⟨bn, 3, none⟩) (nl - 3) (cb - 3), I n1] := slot_at (H.known 0 _ rfl (hed ⟨0, .data⟩ (by simp) rfl) 21 rfl)
    have e24 : ac.tmps[24]?.getD undef = I n0 := slot_at (H.known 3 _ rfl (hed ⟨3, .data⟩ (by simp) rfl) 24 rfl)
    have hM1 : (fun _ _ => fun wy => Below wx.heap.size wx wy) Γ b wx' := hM
    have hdf := Lib.hid (H.frm.defers.trans fdf)
    clear hed H
    go_simp
    refine (HX'.out wx' hM1).mono ?_
    rintro e w' ⟨⟨b', rfl, hat⟩, hb⟩
    exact hk (Γ.set 0 b') _ (chg1 _ _ _) ⟨hM1.trans (hb.mono hM1.size), hat⟩
   ·simp only [List.getElem?_toArray, List.getElem?_cons_zero, List.getElem?_cons_succ] at ho
    cases ho
    refine .inl ⟨by decide, by decide, fun Γ M => stepA rfl (fun li ac wx' H hn hed hM K hk => ?_)⟩
    have e25 : ac.tmps[25]?.getD undef = .tuple #[.pointer none, .iface 86 (.pointer (some ⟨Γ 0, 0, none⟩))] := slot_at (H.known 4 _ rfl (hed ⟨4, .data⟩ (by simp) rfl) 25 rfl)
    clear hed H
    go_simp
    exact hk _ hM
   ·simp only [List.getElem?_toArray, List.getElem?_cons_zero, List.getElem?_cons_succ] at ho
    cases ho
    refine .inl ⟨by decide, by decide, fun Γ M => stepA rfl (fun li ac wx' H hn hed hM K hk => ?_)⟩
    have e20 : ac.tmps[20]?.getD undef = .tuple #[.pointer none, .iface 86 (.pointer (some ⟨Γ 0, 0, none⟩))] := slot_at (H.known 5 _ rfl (hed ⟨5, .data⟩ (by simp) rfl) 20 rfl)
    clear hed H
    go_simp
    exact hk _ hM
   ·simp only [List.getElem?_toArray, List.getElem?_cons_zero, List.getElem?_cons_succ] at ho
    cases ho
    refine .inl ⟨by decide, by decide, fun Γ M => stepA rfl (fun li ac wx' H hn hed hM K hk => ?_)⟩
    have e20 : ac.tmps[20]?.getD undef = .tuple #[.pointer none, .iface 86 (.pointer (some ⟨Γ 0, 0, none⟩))] := slot_at (H.known 5 _ rfl (hed ⟨5, .data⟩ (by simp) rfl) 20 rfl)
    clear hed H
    go_simp
    exact hk _ hM
   ·simp only [List.getElem?_toArray, List.getElem?_cons_zero, List.getElem?_cons_succ] at ho
    cases ho
    refine .inl ⟨by decide, by decide, fun Γ M => stepA rfl (fun li ac wx' H hn hed hM K hk => ?_)⟩
    have e26 : ac.tmps[26]?.getD undef = .pointer none := slot_at (H.known 6 _ rfl (hed ⟨6, .data⟩ (by simp) rfl) 26 rfl)
    clear hed H
    go_simp
    exact hk _ hM
   ·simp only [List.getElem?_toArray, List.getElem?_cons_zero, List.getElem?_cons_succ] at ho
    cases ho
    refine .inl ⟨by decide, by decide, fun Γ M => stepA rfl (fun li ac wx' H hn hed hM K hk => ?_)⟩
    have e27 : ac.tmps[27]?.getD undef = .iface 86 (.pointer (some ⟨Γ 0, 0, none⟩)) := slot_at (H.known 7 _ rfl (hed ⟨7, .data⟩ (by simp) rfl) 27 rfl)
    clear hed H
    go_simp
    exact hk _ hM
  ·intro Γ b ac wy hF hK hM0
   have hM : (fun Γ _ => fun wy => Below wx.heap.size wx wy ∧ Has wy (Γ 0) 88 #[I ee, I ep]) Γ b wy := hM0
   have E7 : ac.tmps.getD 7 undef = .pointer none := hK 8 _ rfl 7 rfl
   have E8 : ac.tmps.getD 8 undef = .iface 86 (.pointer (some ⟨Γ 0, 0, none⟩)) := hK 9 _ rfl 8 rfl
   have hMet := hF.meet
   simp only [List.foldl_cons, List.foldl_nil, List.setIfInBounds_toArray, List.set_cons_succ, List.set_cons_zero, E7, E8] at hMet
   generalize ac.tmps.getD 21 undef = v21 at hMet
   generalize ac.tmps.getD 22 undef = v22 at hMet
   generalize ac.tmps.getD 23 undef = v23 at hMet
   generalize ac.tmps.getD 24 undef = v24 at hMet
   generalize ac.tmps.getD 25 undef = v25 at hMet
   generalize ac.tmps.getD 20 undef = v20 at hMet
   generalize ac.tmps.getD 26 undef = v26 at hMet
   generalize ac.tmps.getD 27 undef = v27 at hMet
   clear hF hK hM0 E7 E8
   subst hMet
   have HM := Lib.hid hM.1
   have HAT := hM.2
   have HSY := Lib.hid (HSX.out.after hM.1)
   generalize Γ 0 = ga at *
   go_wp2_with (go_at_call 28; refine (must_at ee ep ga wy (Lib.hid HSY.out.et) HAT).mono ?_; rintro e w3 ⟨rfl, hb3⟩)
   exact ⟨rfl, rfl, HBX.out.trans ((HM.out.trans (hb3.mono HM.out.size)).mono HBX.out.size)⟩
end
end Go.Proofs.YtdhekhlmdefcnabGreatDoor
