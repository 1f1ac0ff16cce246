/- Part 36 of the proof: DkCmd, DkNew. -/
import Derived.Test.YtdhekhlmdefcnabGreatDoorPart35
import Derived.Test.YtdhekhlmdefcnabGreatDoorPart4
import Derived.Test.YtdhekhlmdefcnabGreatDoorPart20
import Derived.Test.YtdhekhlmdefcnabGreatDoorPart11
namespace Go.Proofs.YtdhekhlmdefcnabGreatDoor
open Go.RowKit
section
variable {w : World} {B g : Nat} {x : SyX} {vr : Value} {d : Dk} {T : Nat} {A : Option Addr} {l : List ByteArray} {c : Nat}
theorem st_after {w w' : World} (h : Hid (Std w)) (hb : Below w.heap.size w w') : Hid (Std w') := Lib.hid (h.out.after hb)
theorem wd_after {w w' : World} (h : Hid (Words w A l)) (hb : Below w.heap.size w w') : Hid (Words w' A l) := Lib.hid (h.out.after hb)
theorem size15 (a : Array Value) (h : a.size = 15) : ∃ t0 t1 t2 t3 t4 t5 t6 t7 t8 t9 t10 t11 t12 t13 t14, a = #[t0, t1, t2, t3, t4, t5, t6, t7, t8, t9, t10, t11, t12, t13, t14] := by
 obtain ⟨l⟩ := a
 match l, h with
 | [t0, t1, t2, t3, t4, t5, t6, t7, t8, t9, t10, t11, t12, t13, t14], _ => exact ⟨t0, t1, t2, t3, t4, t5, t6, t7, t8, t9, t10, t11, t12, t13, t14, rfl⟩
def oneOps (ps : String) (X : Nat) : Array Oper := #[{ dst := some 5, op := Op.move (Operand.tmp 0), type := 44, pos := ps, after := #[], guard := none }, { dst := some 6, op := Op.nilCheck (Operand.tmp 5), type := 0, pos := ps, after := #[{ on := 0, ground := Ground.data }], guard := none }, { dst := some 7, op := Op.fieldAddr 46 (Operand.tmp 6) 1, type := 0, pos := ps, after := #[{ on := 1, ground := Ground.data }], guard := none }, { dst := some 8, op := Op.load 30 (Operand.tmp 7), type := 30, pos := ps, after := #[{ on := 2, ground := Ground.data }], guard := none }, { dst := some 9, op := Op.move (Operand.tmp 1), type := 48, pos := ps, after := #[], guard := none }, { dst := some 10, op := Op.call { callee := Callee.value (Operand.func 27), args := #[Operand.tmp 9, Operand.const (Value.int IntKind.i64 1)], argTypes := #[48, 3] }, type := 27, pos := ps, after := #[{ on := 4, ground := Ground.data }], guard := none }, { dst := some 11, op := Op.indexAddr 27 (Operand.tmp 10) (Operand.const (Value.int IntKind.i64 0)), type := 0, pos := ps, after := #[{ on := 5, ground := Ground.data }], guard := none }, { dst := some 12, op := Op.load 3 (Operand.tmp 11), type := 3, pos := ps, after := #[{ on := 6, ground := Ground.data }], guard := none }, { dst := some 13, op := Op.call { callee := Callee.value (Operand.func X), args := #[Operand.tmp 8, Operand.tmp 12], argTypes := #[30, 3] }, type := 32, pos := ps, after := #[{ on := 3, ground := Ground.data }, { on := 7, ground := Ground.data }, { on := 5, ground := Ground.chain }], guard := none }, { dst := some 14, op := Op.call { callee := Callee.value (Operand.func 28), args := #[Operand.tmp 13], argTypes := #[32] }, type := 0, pos := ps, after := #[{ on := 8, ground := Ground.data }, { on := 8, ground := Ground.chain }], guard := none }]
set_option maxHeartbeats 4000000 in
set_option maxRecDepth 100000 in
theorem one_none {Q : Exit → Act → World → Prop} {a0 : Act} (ps : String) (X : Nat) (h0 : a0.tmps.getD 0 undef = .pointer (some ⟨g, 0, none⟩)) (h1 : a0.tmps.getD 1 undef = .slice A l.length c) (hdf0 : a0.defers = []) (hsz : a0.tmps.size = 15) (hg : g < w.heap.size) (hc3 : w.cell? ⟨g, 3, none⟩ = some (.pointer (some ⟨x.g, 0, none⟩)))
  (HN : Hid (∀ w1, Below w.heap.size w w1 → Calls Tryz.prog 27 #[.slice A l.length c, I 1] w1 fun e w' => e = .panicked (pan 3) ∧ Below w1.heap.size w1 w'))
  (hQ : ∀ a w', a.defers = [] → Below w.heap.size w w' → Q (.panic (pan 3)) a w') : (Code.region 1 (oneOps ps X) true).wp Tryz.prog Q a0 w := by
 unfold oneOps
 refine region_num (by kernel_rfl) (fun b0 => b0.tmps.getD 0 undef = .pointer (some ⟨g, 0, none⟩) ∧ b0.tmps.getD 1 undef = .slice A l.length c ∧ b0.defers = []) ⟨h0, h1, hdf0⟩ 15 hsz (0, 0) (fun (γ : Nat × Nat) i => ([.pointer (some ⟨g, 0, none⟩), .pointer (some ⟨g, 0, none⟩), .pointer (some ⟨g, 3, none⟩), .pointer (some ⟨x.g, 0, none⟩), .slice A l.length c, .slice (some ⟨γ.1, 0, none⟩) 1 γ.2, .pointer (some ⟨γ.1, 0, none⟩), I 0, undef, undef] : List Value).getD i undef) [5, 7, 8, 9] (by kernel_rfl) [5, 6] (by kernel_rfl) (by decide) ?_ (fun j γ => ([(fun _ => fun wx => Below w.heap.size w wx) γ, (fun _ => fun _ => False) γ, (fun _ => fun _ => False) γ, (fun _ => fun _ => False) γ, (fun _ => fun _ => False) γ] : List (World → Prop)).getD j (fun _ => True)) [5, 6, 7, 8, 9, 10, 11, 12, 13, 14] (by kernel_rfl) (by kernel_rfl) ((Below.refl _ _).drew) ?_ ?_
 ·intro γ γ' j hj
  by_cases hjm : j < 10
  ·have hcase : j = 0 ∨ j = 1 ∨ j = 2 ∨ j = 3 ∨ j = 4 ∨ j = 5 ∨ j = 6 ∨ j = 7 ∨ j = 8 ∨ j = 9 := by omega
   rcases hcase with rfl | rfl | rfl | rfl | rfl | rfl | rfl | rfl | rfl | rfl <;> first | rfl | exact absurd (by decide) hj
  ·rw [List.getD_eq_getElem?_getD, List.getD_eq_getElem?_getD, List.getElem?_eq_none (by simp; omega), List.getElem?_eq_none (by simp; omega)]
 ·intro b0 hb0 i o ho
  have hi : i < 10 := (Array.getElem?_eq_some_iff.1 ho).1
  obtain ⟨f0, f1, fdf⟩ := hb0
  have hcase : i = 0 ∨ i = 1 ∨ i = 2 ∨ i = 3 ∨ i = 4 ∨ i = 5 ∨ i = 6 ∨ i = 7 ∨ i = 8 ∨ i = 9 := by omega
  clear hi
  rcases hcase with rfl | rfl | rfl | rfl | rfl | rfl | rfl | rfl | rfl | rfl
  ·simp only [List.getElem?_toArray, List.getElem?_cons_zero] at ho
   cases ho
   refine .inl ⟨by decide, fun γ M => stepA rfl (fun li ac wx H hn hed hM K hk => ?_)⟩
   have e0 : ac.tmps[0]?.getD undef = .pointer (some ⟨g, 0, none⟩) := slot_at ((H.frm.slot (by decide)).trans f0)
   clear hed H
   go_simp
   exact hk _ hM
  ·simp only [List.getElem?_toArray, List.getElem?_cons_zero, List.getElem?_cons_succ] at ho
   cases ho
   refine .inl ⟨by decide, fun γ M => stepA rfl (fun li ac wx H hn hed hM K hk => ?_)⟩
   have e5 : ac.tmps[5]?.getD undef = .pointer (some ⟨g, 0, none⟩) := slot_at (H.known 0 _ rfl (hed ⟨0, .data⟩ (by simp) rfl) 5 rfl)
   clear hed H
   go_simp
   exact hk _ hM
  ·simp only [List.getElem?_toArray, List.getElem?_cons_zero, List.getElem?_cons_succ] at ho
   cases ho
   refine .inl ⟨by decide, fun γ M => stepA rfl (fun li ac wx H hn hed hM K hk => ?_)⟩
   have e6 : ac.tmps[6]?.getD undef = .pointer (some ⟨g, 0, none⟩) := slot_at (H.known 1 _ rfl (hed ⟨1, .data⟩ (by simp) rfl) 6 rfl)
   clear hed H
   go_simp
   exact hk _ hM
  ·simp only [List.getElem?_toArray, List.getElem?_cons_zero, List.getElem?_cons_succ] at ho
   cases ho
   refine .inr (.inr (.inr ⟨by decide, 2, 8, rfl, by kernel_rfl, fun γ j hj => ?_⟩))
   have hj2 : j = 0 ∨ j = 1 ∨ j = 2 := by omega
   clear hj
   rcases hj2 with rfl | rfl | rfl
   ·refine stepA rfl (fun li ac wx H hn hed hM K hk => ?_)
    have e7 : ac.tmps[7]?.getD undef = .pointer (some ⟨g, 3, none⟩) := slot_at (H.known 2 _ rfl (hed ⟨2, .data⟩ (by simp) rfl) 7 rfl)
    have hM1 : (fun _ => fun wx => Below w.heap.size w wx) γ wx := hM
    clear hed H
    first | exact hM1.elim | (have c3 := (Below.cell hM1 (p := ⟨g, 3, none⟩) hg).trans hc3; go_simp; exact hk _ hM)
   ·refine stepA rfl (fun li ac wx H hn hed hM K hk => ?_)
    have e7 : ac.tmps[7]?.getD undef = .pointer (some ⟨g, 3, none⟩) := slot_at (H.known 2 _ rfl (hed ⟨2, .data⟩ (by simp) rfl) 7 rfl)
    have hM1 : (fun _ => fun _ => False) γ wx := hM
    clear hed H
    first | exact hM1.elim | (have c3 := (Below.cell hM1 (p := ⟨g, 3, none⟩) hg).trans hc3; go_simp; exact hk _ hM)
   ·refine stepA rfl (fun li ac wx H hn hed hM K hk => ?_)
    have e7 : ac.tmps[7]?.getD undef = .pointer (some ⟨g, 3, none⟩) := slot_at (H.known 2 _ rfl (hed ⟨2, .data⟩ (by simp) rfl) 7 rfl)
    have hM1 : (fun _ => fun _ => False) γ wx := hM
    clear hed H
    first | exact hM1.elim | (have c3 := (Below.cell hM1 (p := ⟨g, 3, none⟩) hg).trans hc3; go_simp; exact hk _ hM)
  ·simp only [List.getElem?_toArray, List.getElem?_cons_zero, List.getElem?_cons_succ] at ho
   cases ho
   refine .inl ⟨by decide, fun γ M => stepA rfl (fun li ac wx H hn hed hM K hk => ?_)⟩
   have e1 : ac.tmps[1]?.getD undef = .slice A l.length c := slot_at ((H.frm.slot (by decide)).trans f1)
   clear hed H
   go_simp
   exact hk _ hM
  ·simp only [List.getElem?_toArray, List.getElem?_cons_zero, List.getElem?_cons_succ] at ho
   cases ho
   refine .inr (.inl ⟨rfl, fun γ => stepNum rfl (fun li ac wx H hn hed hM K hk => ?_)⟩)
   have e9 : ac.tmps[9]?.getD undef = .slice A l.length c := slot_at (H.known 4 _ rfl (hed ⟨4, .data⟩ (by simp) rfl) 9 rfl)
   have hM1 : (fun _ => fun wx => Below w.heap.size w wx) γ wx := hM
   have hdf := Lib.hid (H.frm.defers.trans fdf)
   clear hed H
   go_simp
   refine (HN.out wx hM1).mono ?_
   rintro e w' ⟨rfl, hb⟩
   exact hQ _ _ hdf.out (hM1.trans (hb.mono hM1.size))
  ·simp only [List.getElem?_toArray, List.getElem?_cons_zero, List.getElem?_cons_succ] at ho
   cases ho
   refine .inl ⟨by decide, fun γ M => stepA rfl (fun li ac wx H hn hed hM K hk => ?_)⟩
   have e10 : ac.tmps[10]?.getD undef = .slice (some ⟨γ.1, 0, none⟩) 1 γ.2 := slot_at (H.known 5 _ rfl (hed ⟨5, .data⟩ (by simp) rfl) 10 rfl)
   clear hed H
   go_simp
   exact hk _ hM
  ·simp only [List.getElem?_toArray, List.getElem?_cons_zero, List.getElem?_cons_succ] at ho
   cases ho
   refine .inr (.inr (.inl ⟨1, by decide, rfl, fun γ => stepA rfl (fun li ac wx H hn hed hM K hk => ?_)⟩))
   have e11 : ac.tmps[11]?.getD undef = .pointer (some ⟨γ.1, 0, none⟩) := slot_at (H.known 6 _ rfl (hed ⟨6, .data⟩ (by simp) rfl) 11 rfl)
   have hM1 : (fun _ => fun _ => False) γ wx := hM
   have hdf := Lib.hid (H.frm.defers.trans fdf)
   clear hed H
   exact hM1.elim
  ·simp only [List.getElem?_toArray, List.getElem?_cons_zero, List.getElem?_cons_succ] at ho
   cases ho
   refine .inr (.inr (.inl ⟨2, by decide, rfl, fun γ => stepA rfl (fun li ac wx H hn hed hM K hk => ?_)⟩))
   have e8 : ac.tmps[8]?.getD undef = .pointer (some ⟨x.g, 0, none⟩) := slot_at (H.known 3 _ rfl (hed ⟨3, .data⟩ (by simp) rfl) 8 rfl)
   have e12 : ac.tmps[12]?.getD undef = I 0 := slot_at (H.known 7 _ rfl (hed ⟨7, .data⟩ (by simp) rfl) 12 rfl)
   have hM1 : (fun _ => fun _ => False) γ wx := hM
   have hdf := Lib.hid (H.frm.defers.trans fdf)
   clear hed H
   exact hM1.elim
  ·simp only [List.getElem?_toArray, List.getElem?_cons_zero, List.getElem?_cons_succ] at ho
   cases ho
   refine .inr (.inr (.inl ⟨3, by decide, rfl, fun γ => stepA rfl (fun li ac wx H hn hed hM K hk => ?_)⟩))
   have e13 : ac.tmps[13]?.getD undef = undef := slot_at (H.known 8 _ rfl (hed ⟨8, .data⟩ (by simp) rfl) 13 rfl)
   have hM1 : (fun _ => fun _ => False) γ wx := hM
   have hdf := Lib.hid (H.frm.defers.trans fdf)
   clear hed H
   exact hM1.elim
 ·intro γ ac wx hF hK hM0
  have hM : (fun _ => fun _ => False) γ wx := hM0
  exact hM.elim
set_option maxHeartbeats 4000000 in
set_option maxRecDepth 100000 in
theorem one_range {Q : Exit → Act → World → Prop} {a0 : Act} (ps : String) (X : Nat) (n0 : Int) (h0 : a0.tmps.getD 0 undef = .pointer (some ⟨g, 0, none⟩)) (h1 : a0.tmps.getD 1 undef = .slice A l.length c) (hdf0 : a0.defers = []) (hsz : a0.tmps.size = 15) (hg : g < w.heap.size) (hc3 : w.cell? ⟨g, 3, none⟩ = some (.pointer (some ⟨x.g, 0, none⟩)))
  (HN : Hid (∀ w1, Below w.heap.size w w1 → Calls Tryz.prog 27 #[.slice A l.length c, I 1] w1 fun e w' => (∃ b c', e = .returned (.slice (some ⟨b, 0, none⟩) 1 c') ∧ b < w'.heap.size ∧ w'.cell? ⟨b, 0, none⟩ = some (I n0)) ∧ Below w1.heap.size w1 w'))
  (HX : Hid (∀ w1, Below w.heap.size w w1 → Calls Tryz.prog X #[.pointer (some ⟨x.g, 0, none⟩), I n0] w1 fun e w' => e = .returned rangeV ∧ Below w1.heap.size w1 w')) (HS : Hid (Std w)) (HEX : Hid (∀ args w, (callFunc X args).run Tryz.prog w = .ok (.enter X args) w))
  (hQ : ∀ a w', a.defers = [] → Below w.heap.size w w' → Q (.panic (pan 2)) a w') : (Code.region 1 (oneOps ps X) true).wp Tryz.prog Q a0 w := by
 unfold oneOps
 refine region_num (by kernel_rfl) (fun b0 => b0.tmps.getD 0 undef = .pointer (some ⟨g, 0, none⟩) ∧ b0.tmps.getD 1 undef = .slice A l.length c ∧ b0.defers = []) ⟨h0, h1, hdf0⟩ 15 hsz (0, 0) (fun (γ : Nat × Nat) i => ([.pointer (some ⟨g, 0, none⟩), .pointer (some ⟨g, 0, none⟩), .pointer (some ⟨g, 3, none⟩), .pointer (some ⟨x.g, 0, none⟩), .slice A l.length c, .slice (some ⟨γ.1, 0, none⟩) 1 γ.2, .pointer (some ⟨γ.1, 0, none⟩), I n0, rangeV, undef] : List Value).getD i undef) [5, 7, 8, 9] (by kernel_rfl) [5, 6] (by kernel_rfl) (by decide) ?_ (fun j γ => ([(fun _ => fun wx => Below w.heap.size w wx) γ, (fun γ => fun wx => Below w.heap.size w wx ∧ wx.cell? ⟨γ.1, 0, none⟩ = some (I n0)) γ, (fun γ => fun wx => Below w.heap.size w wx ∧ wx.cell? ⟨γ.1, 0, none⟩ = some (I n0)) γ, (fun _ => fun wx => Below w.heap.size w wx) γ, (fun _ => fun _ => False) γ] : List (World → Prop)).getD j (fun _ => True)) [5, 6, 7, 8, 9, 10, 11, 12, 13, 14] (by kernel_rfl) (by kernel_rfl) ((Below.refl _ _).drew) ?_ ?_
 ·intro γ γ' j hj
  by_cases hjm : j < 10
  ·have hcase : j = 0 ∨ j = 1 ∨ j = 2 ∨ j = 3 ∨ j = 4 ∨ j = 5 ∨ j = 6 ∨ j = 7 ∨ j = 8 ∨ j = 9 := by omega
   rcases hcase with rfl | rfl | rfl | rfl | rfl | rfl | rfl | rfl | rfl | rfl <;> first | rfl | exact absurd (by decide) hj
  ·rw [List.getD_eq_getElem?_getD, List.getD_eq_getElem?_getD, List.getElem?_eq_none (by simp; omega), List.getElem?_eq_none (by simp; omega)]
 ·intro b0 hb0 i o ho
  have hi : i < 10 := (Array.getElem?_eq_some_iff.1 ho).1
  obtain ⟨f0, f1, fdf⟩ := hb0
  have hcase : i = 0 ∨ i = 1 ∨ i = 2 ∨ i = 3 ∨ i = 4 ∨ i = 5 ∨ i = 6 ∨ i = 7 ∨ i = 8 ∨ i = 9 := by omega
  clear hi
  rcases hcase with rfl | rfl | rfl | rfl | rfl | rfl | rfl | rfl | rfl | rfl
  ·simp only [List.getElem?_toArray, List.getElem?_cons_zero] at ho
   cases ho
   refine .inl ⟨by decide, fun γ M => stepA rfl (fun li ac wx H hn hed hM K hk => ?_)⟩
   have e0 : ac.tmps[0]?.getD undef = .pointer (some ⟨g, 0, none⟩) := slot_at ((H.frm.slot (by decide)).trans f0)
   clear hed H
   go_simp
   exact hk _ hM
  ·simp only [List.getElem?_toArray, List.getElem?_cons_zero, List.getElem?_cons_succ] at ho
   cases ho
   refine .inl ⟨by decide, fun γ M => stepA rfl (fun li ac wx H hn hed hM K hk => ?_)⟩
   have e5 : ac.tmps[5]?.getD undef = .pointer (some ⟨g, 0, none⟩) := slot_at (H.known 0 _ rfl (hed ⟨0, .data⟩ (by simp) rfl) 5 rfl)
   clear hed H
   go_simp
   exact hk _ hM
  ·simp only [List.getElem?_toArray, List.getElem?_cons_zero, List.getElem?_cons_succ] at ho
   cases ho
   refine .inl ⟨by decide, fun γ M => stepA rfl (fun li ac wx H hn hed hM K hk => ?_)⟩
   have e6 : ac.tmps[6]?.getD undef = .pointer (some ⟨g, 0, none⟩) := slot_at (H.known 1 _ rfl (hed ⟨1, .data⟩ (by simp) rfl) 6 rfl)
   clear hed H
   go_simp
   exact hk _ hM
  ·simp only [List.getElem?_toArray, List.getElem?_cons_zero, List.getElem?_cons_succ] at ho
   cases ho
   refine .inr (.inr (.inr ⟨by decide, 2, 8, rfl, by kernel_rfl, fun γ j hj => ?_⟩))
   have hj2 : j = 0 ∨ j = 1 ∨ j = 2 := by omega
   clear hj
   rcases hj2 with rfl | rfl | rfl
   ·refine stepA rfl (fun li ac wx H hn hed hM K hk => ?_)
    have e7 : ac.tmps[7]?.getD undef = .pointer (some ⟨g, 3, none⟩) := slot_at (H.known 2 _ rfl (hed ⟨2, .data⟩ (by simp) rfl) 7 rfl)
    have hM1 : (fun _ => fun wx => Below w.heap.size w wx) γ wx := hM
    clear hed H
    first | (have c3 := (Below.cell hM1 (p := ⟨g, 3, none⟩) hg).trans hc3; go_simp; exact hk _ hM) | (have c3 := (Below.cell hM1.1 (p := ⟨g, 3, none⟩) hg).trans hc3; go_simp; exact hk _ hM)
   ·refine stepA rfl (fun li ac wx H hn hed hM K hk => ?_)
    have e7 : ac.tmps[7]?.getD undef = .pointer (some ⟨g, 3, none⟩) := slot_at (H.known 2 _ rfl (hed ⟨2, .data⟩ (by simp) rfl) 7 rfl)
    have hM1 : (fun γ => fun wx => Below w.heap.size w wx ∧ wx.cell? ⟨γ.1, 0, none⟩ = some (I n0)) γ wx := hM
    clear hed H
    first | (have c3 := (Below.cell hM1 (p := ⟨g, 3, none⟩) hg).trans hc3; go_simp; exact hk _ hM) | (have c3 := (Below.cell hM1.1 (p := ⟨g, 3, none⟩) hg).trans hc3; go_simp; exact hk _ hM)
   ·refine stepA rfl (fun li ac wx H hn hed hM K hk => ?_)
    have e7 : ac.tmps[7]?.getD undef = .pointer (some ⟨g, 3, none⟩) := slot_at (H.known 2 _ rfl (hed ⟨2, .data⟩ (by simp) rfl) 7 rfl)
    have hM1 : (fun γ => fun wx => Below w.heap.size w wx ∧ wx.cell? ⟨γ.1, 0, none⟩ = some (I n0)) γ wx := hM
    clear hed H
    first | (have c3 := (Below.cell hM1 (p := ⟨g, 3, none⟩) hg).trans hc3; go_simp; exact hk _ hM) | (have c3 := (Below.cell hM1.1 (p := ⟨g, 3, none⟩) hg).trans hc3; go_simp; exact hk _ hM)
  ·simp only [List.getElem?_toArray, List.getElem?_cons_zero, List.getElem?_cons_succ] at ho
   cases ho
   refine .inl ⟨by decide, fun γ M => stepA rfl (fun li ac wx H hn hed hM K hk => ?_)⟩
   have e1 : ac.tmps[1]?.getD undef = .slice A l.length c := slot_at ((H.frm.slot (by decide)).trans f1)
   clear hed H
   go_simp
   exact hk _ hM
  ·simp only [List.getElem?_toArray, List.getElem?_cons_zero, List.getElem?_cons_succ] at ho
   cases ho
   refine .inr (.inl ⟨rfl, fun γ => stepNum rfl (fun li ac wx H hn hed hM K hk => ?_)⟩)
   have e9 : ac.tmps[9]?.getD undef = .slice A l.length c := slot_at (H.known 4 _ rfl (hed ⟨4, .data⟩ (by simp) rfl) 9 rfl)
   have hM1 : (fun _ => fun wx => Below w.heap.size w wx) γ wx := hM
   have hdf := Lib.hid (H.frm.defers.trans fdf)
   clear hed H
   go_simp
   refine (HN.out wx hM1).mono ?_
   rintro e w' ⟨⟨b, c', rfl, hlt, hcb⟩, hb⟩
   exact hk (b, c') _ ⟨hM1.trans (hb.mono hM1.size), hcb⟩
  ·simp only [List.getElem?_toArray, List.getElem?_cons_zero, List.getElem?_cons_succ] at ho
   cases ho
   refine .inl ⟨by decide, fun γ M => stepA rfl (fun li ac wx H hn hed hM K hk => ?_)⟩
   have e10 : ac.tmps[10]?.getD undef = .slice (some ⟨γ.1, 0, none⟩) 1 γ.2 := slot_at (H.known 5 _ rfl (hed ⟨5, .data⟩ (by simp) rfl) 10 rfl)
   clear hed H
   go_simp
   exact hk _ hM
  ·simp only [List.getElem?_toArray, List.getElem?_cons_zero, List.getElem?_cons_succ] at ho
   cases ho
   refine .inr (.inr (.inl ⟨1, by decide, rfl, fun γ => stepA rfl (fun li ac wx H hn hed hM K hk => ?_)⟩))
   have e11 : ac.tmps[11]?.getD undef = .pointer (some ⟨γ.1, 0, none⟩) := slot_at (H.known 6 _ rfl (hed ⟨6, .data⟩ (by simp) rfl) 11 rfl)
   have hM1 : (fun γ => fun wx => Below w.heap.size w wx ∧ wx.cell? ⟨γ.1, 0, none⟩ = some (I n0)) γ wx := hM
   have hdf := Lib.hid (H.frm.defers.trans fdf)
   clear hed H
   have c0 := hM1.2
   go_simp
   exact hk _ hM
  ·simp only [List.getElem?_toArray, List.getElem?_cons_zero, List.getElem?_cons_succ] at ho
   cases ho
   refine .inr (.inr (.inl ⟨2, by decide, rfl, fun γ => stepA rfl (fun li ac wx H hn hed hM K hk => ?_)⟩))
   have e8 : ac.tmps[8]?.getD undef = .pointer (some ⟨x.g, 0, none⟩) := slot_at (H.known 3 _ rfl (hed ⟨3, .data⟩ (by simp) rfl) 8 rfl)
   have e12 : ac.tmps[12]?.getD undef = I n0 := slot_at (H.known 7 _ rfl (hed ⟨7, .data⟩ (by simp) rfl) 12 rfl)
   have hM1 : (fun γ => fun wx => Below w.heap.size w wx ∧ wx.cell? ⟨γ.1, 0, none⟩ = some (I n0)) γ wx := hM
   have hdf := Lib.hid (H.frm.defers.trans fdf)
   clear hed H
   have eX := HEX.out
   go_simp
   refine (HX.out wx hM1.1).mono ?_
   rintro e w' ⟨rfl, hb⟩
   exact hk _ (hM1.1.trans (hb.mono hM1.1.size))
  ·simp only [List.getElem?_toArray, List.getElem?_cons_zero, List.getElem?_cons_succ] at ho
   cases ho
   refine .inr (.inr (.inl ⟨3, by decide, rfl, fun γ => stepA rfl (fun li ac wx H hn hed hM K hk => ?_)⟩))
   have e13 : ac.tmps[13]?.getD undef = rangeV := slot_at (H.known 8 _ rfl (hed ⟨8, .data⟩ (by simp) rfl) 13 rfl)
   have hM1 : (fun _ => fun wx => Below w.heap.size w wx) γ wx := hM
   have hdf := Lib.hid (H.frm.defers.trans fdf)
   clear hed H
   go_simp
   refine (must_errno 2 wx (Lib.hid (HS.out.after hM1).et)).mono ?_
   rintro e w' ⟨rfl, hb⟩
   exact hQ _ _ hdf.out (hM1.trans (hb.mono hM1.size))
 ·intro γ ac wx hF hK hM0
  have hM : (fun _ => fun _ => False) γ wx := hM0
  exact hM.elim
set_option maxHeartbeats 4000000 in
set_option maxRecDepth 100000 in
theorem one_ok {Q : Exit → Act → World → Prop} {a0 : Act} (ps : String) (X : Nat) (n0 : Int) (h0 : a0.tmps.getD 0 undef = .pointer (some ⟨g, 0, none⟩)) (h1 : a0.tmps.getD 1 undef = .slice A l.length c) (hdf0 : a0.defers = []) (hsz : a0.tmps.size = 15) (hg : g < w.heap.size) (hc3 : w.cell? ⟨g, 3, none⟩ = some (.pointer (some ⟨x.g, 0, none⟩)))
  (HN : Hid (∀ w1, Below w.heap.size w w1 → Calls Tryz.prog 27 #[.slice A l.length c, I 1] w1 fun e w' => (∃ b c', e = .returned (.slice (some ⟨b, 0, none⟩) 1 c') ∧ b < w'.heap.size ∧ w'.cell? ⟨b, 0, none⟩ = some (I n0)) ∧ Below w1.heap.size w1 w'))
  (Done : World → Prop) (HX : Hid (∀ w1, Below w.heap.size w w1 → Calls Tryz.prog X #[.pointer (some ⟨x.g, 0, none⟩), I n0] w1 fun e w' => e = .returned .nilIface ∧ Done w')) (HEX : Hid (∀ args w, (callFunc X args).run Tryz.prog w = .ok (.enter X args) w))
  (hE : ∀ a w', a.defers = [] → a.tmps.size = 15 → Done w' → Q .normal a w') : (Code.region 1 (oneOps ps X) true).wp Tryz.prog Q a0 w := by
 unfold oneOps
 refine region_num (by kernel_rfl) (fun b0 => b0.tmps.getD 0 undef = .pointer (some ⟨g, 0, none⟩) ∧ b0.tmps.getD 1 undef = .slice A l.length c ∧ b0.defers = []) ⟨h0, h1, hdf0⟩ 15 hsz (0, 0) (fun (γ : Nat × Nat) i => ([.pointer (some ⟨g, 0, none⟩), .pointer (some ⟨g, 0, none⟩), .pointer (some ⟨g, 3, none⟩), .pointer (some ⟨x.g, 0, none⟩), .slice A l.length c, .slice (some ⟨γ.1, 0, none⟩) 1 γ.2, .pointer (some ⟨γ.1, 0, none⟩), I n0, .nilIface, .tuple #[]] : List Value).getD i undef) [5, 7, 8, 9] (by kernel_rfl) [5, 6] (by kernel_rfl) (by decide) ?_ (fun j γ => ([(fun _ => fun wx => Below w.heap.size w wx) γ, (fun γ => fun wx => Below w.heap.size w wx ∧ wx.cell? ⟨γ.1, 0, none⟩ = some (I n0)) γ, (fun γ => fun wx => Below w.heap.size w wx ∧ wx.cell? ⟨γ.1, 0, none⟩ = some (I n0)) γ, (fun _ => fun wx => Hid (Done wx)) γ, (fun _ => fun wx => Hid (Done wx)) γ] : List (World → Prop)).getD j (fun _ => True)) [5, 6, 7, 8, 9, 10, 11, 12, 13, 14] (by kernel_rfl) (by kernel_rfl) ((Below.refl _ _).drew) ?_ ?_
 ·intro γ γ' j hj
  by_cases hjm : j < 10
  ·have hcase : j = 0 ∨ j = 1 ∨ j = 2 ∨ j = 3 ∨ j = 4 ∨ j = 5 ∨ j = 6 ∨ j = 7 ∨ j = 8 ∨ j = 9 := by omega
   rcases hcase with rfl | rfl | rfl | rfl | rfl | rfl | rfl | rfl | rfl | rfl <;> first | rfl | exact absurd (by decide) hj
  ·rw [List.getD_eq_getElem?_getD, List.getD_eq_getElem?_getD, List.getElem?_eq_none (by simp; omega), List.getElem?_eq_none (by simp; omega)]
 ·intro b0 hb0 i o ho
  have hi : i < 10 := (Array.getElem?_eq_some_iff.1 ho).1
  obtain ⟨f0, f1, fdf⟩ := hb0
  have hcase : i = 0 ∨ i = 1 ∨ i = 2 ∨ i = 3 ∨ i = 4 ∨ i = 5 ∨ i = 6 ∨ i = 7 ∨ i = 8 ∨ i = 9 := by omega
  clear hi
  rcases hcase with rfl | rfl | rfl | rfl | rfl | rfl | rfl | rfl | rfl | rfl
  ·simp only [List.getElem?_toArray, List.getElem?_cons_zero] at ho
   cases ho
   refine .inl ⟨by decide, fun γ M => stepA rfl (fun li ac wx H hn hed hM K hk => ?_)⟩
   have e0 : ac.tmps[0]?.getD undef = .pointer (some ⟨g, 0, none⟩) := slot_at ((H.frm.slot (by decide)).trans f0)
   clear hed H
   go_simp
   exact hk _ hM
  ·simp only [List.getElem?_toArray, List.getElem?_cons_zero, List.getElem?_cons_succ] at ho
   cases ho
   refine .inl ⟨by decide, fun γ M => stepA rfl (fun li ac wx H hn hed hM K hk => ?_)⟩
   have e5 : ac.tmps[5]?.getD undef = .pointer (some ⟨g, 0, none⟩) := slot_at (H.known 0 _ rfl (hed ⟨0, .data⟩ (by simp) rfl) 5 rfl)
   clear hed H
   go_simp
   exact hk _ hM
  ·simp only [List.getElem?_toArray, List.getElem?_cons_zero, List.getElem?_cons_succ] at ho
   cases ho
   refine .inl ⟨by decide, fun γ M => stepA rfl (fun li ac wx H hn hed hM K hk => ?_)⟩
   have e6 : ac.tmps[6]?.getD undef = .pointer (some ⟨g, 0, none⟩) := slot_at (H.known 1 _ rfl (hed ⟨1, .data⟩ (by simp) rfl) 6 rfl)
   clear hed H
   go_simp
   exact hk _ hM
  ·simp only [List.getElem?_toArray, List.getElem?_cons_zero, List.getElem?_cons_succ] at ho
   cases ho
   refine .inr (.inr (.inr ⟨by decide, 2, 8, rfl, by kernel_rfl, fun γ j hj => ?_⟩))
   have hj2 : j = 0 ∨ j = 1 ∨ j = 2 := by omega
   clear hj
   rcases hj2 with rfl | rfl | rfl
   ·refine stepA rfl (fun li ac wx H hn hed hM K hk => ?_)
    have e7 : ac.tmps[7]?.getD undef = .pointer (some ⟨g, 3, none⟩) := slot_at (H.known 2 _ rfl (hed ⟨2, .data⟩ (by simp) rfl) 7 rfl)
    have hM1 : (fun _ => fun wx => Below w.heap.size w wx) γ wx := hM
    clear hed H
    first | (have c3 := (Below.cell hM1 (p := ⟨g, 3, none⟩) hg).trans hc3; go_simp; exact hk _ hM) | (have c3 := (Below.cell hM1.1 (p := ⟨g, 3, none⟩) hg).trans hc3; go_simp; exact hk _ hM)
   ·refine stepA rfl (fun li ac wx H hn hed hM K hk => ?_)
    have e7 : ac.tmps[7]?.getD undef = .pointer (some ⟨g, 3, none⟩) := slot_at (H.known 2 _ rfl (hed ⟨2, .data⟩ (by simp) rfl) 7 rfl)
    have hM1 : (fun γ => fun wx => Below w.heap.size w wx ∧ wx.cell? ⟨γ.1, 0, none⟩ = some (I n0)) γ wx := hM
    clear hed H
    first | (have c3 := (Below.cell hM1 (p := ⟨g, 3, none⟩) hg).trans hc3; go_simp; exact hk _ hM) | (have c3 := (Below.cell hM1.1 (p := ⟨g, 3, none⟩) hg).trans hc3; go_simp; exact hk _ hM)
   ·refine stepA rfl (fun li ac wx H hn hed hM K hk => ?_)
    have e7 : ac.tmps[7]?.getD undef = .pointer (some ⟨g, 3, none⟩) := slot_at (H.known 2 _ rfl (hed ⟨2, .data⟩ (by simp) rfl) 7 rfl)
    have hM1 : (fun γ => fun wx => Below w.heap.size w wx ∧ wx.cell? ⟨γ.1, 0, none⟩ = some (I n0)) γ wx := hM
    clear hed H
    first | (have c3 := (Below.cell hM1 (p := ⟨g, 3, none⟩) hg).trans hc3; go_simp; exact hk _ hM) | (have c3 := (Below.cell hM1.1 (p := ⟨g, 3, none⟩) hg).trans hc3; go_simp; exact hk _ hM)
  ·simp only [List.getElem?_toArray, List.getElem?_cons_zero, List.getElem?_cons_succ] at ho
   cases ho
   refine .inl ⟨by decide, fun γ M => stepA rfl (fun li ac wx H hn hed hM K hk => ?_)⟩
   have e1 : ac.tmps[1]?.getD undef = .slice A l.length c := slot_at ((H.frm.slot (by decide)).trans f1)
   clear hed H
   go_simp
   exact hk _ hM
  ·simp only [List.getElem?_toArray, List.getElem?_cons_zero, List.getElem?_cons_succ] at ho
   cases ho
   refine .inr (.inl ⟨rfl, fun γ => stepNum rfl (fun li ac wx H hn hed hM K hk => ?_)⟩)
   have e9 : ac.tmps[9]?.getD undef = .slice A l.length c := slot_at (H.known 4 _ rfl (hed ⟨4, .data⟩ (by simp) rfl) 9 rfl)
   have hM1 : (fun _ => fun wx => Below w.heap.size w wx) γ wx := hM
   have hdf := Lib.hid (H.frm.defers.trans fdf)
   clear hed H
   go_simp
   refine (HN.out wx hM1).mono ?_
   rintro e w' ⟨⟨b, c', rfl, hlt, hcb⟩, hb⟩
   exact hk (b, c') _ ⟨hM1.trans (hb.mono hM1.size), hcb⟩
  ·simp only [List.getElem?_toArray, List.getElem?_cons_zero, List.getElem?_cons_succ] at ho
   cases ho
   refine .inl ⟨by decide, fun γ M => stepA rfl (fun li ac wx H hn hed hM K hk => ?_)⟩
   have e10 : ac.tmps[10]?.getD undef = .slice (some ⟨γ.1, 0, none⟩) 1 γ.2 := slot_at (H.known 5 _ rfl (hed ⟨5, .data⟩ (by simp) rfl) 10 rfl)
   clear hed H
   go_simp
   exact hk _ hM
  ·simp only [List.getElem?_toArray, List.getElem?_cons_zero, List.getElem?_cons_succ] at ho
   cases ho
   refine .inr (.inr (.inl ⟨1, by decide, rfl, fun γ => stepA rfl (fun li ac wx H hn hed hM K hk => ?_)⟩))
   have e11 : ac.tmps[11]?.getD undef = .pointer (some ⟨γ.1, 0, none⟩) := slot_at (H.known 6 _ rfl (hed ⟨6, .data⟩ (by simp) rfl) 11 rfl)
   have hM1 : (fun γ => fun wx => Below w.heap.size w wx ∧ wx.cell? ⟨γ.1, 0, none⟩ = some (I n0)) γ wx := hM
   have hdf := Lib.hid (H.frm.defers.trans fdf)
   clear hed H
   have c0 := hM1.2
   go_simp
   exact hk _ hM
  ·simp only [List.getElem?_toArray, List.getElem?_cons_zero, List.getElem?_cons_succ] at ho
   cases ho
   refine .inr (.inr (.inl ⟨2, by decide, rfl, fun γ => stepA rfl (fun li ac wx H hn hed hM K hk => ?_)⟩))
   have e8 : ac.tmps[8]?.getD undef = .pointer (some ⟨x.g, 0, none⟩) := slot_at (H.known 3 _ rfl (hed ⟨3, .data⟩ (by simp) rfl) 8 rfl)
   have e12 : ac.tmps[12]?.getD undef = I n0 := slot_at (H.known 7 _ rfl (hed ⟨7, .data⟩ (by simp) rfl) 12 rfl)
   have hM1 : (fun γ => fun wx => Below w.heap.size w wx ∧ wx.cell? ⟨γ.1, 0, none⟩ = some (I n0)) γ wx := hM
   have hdf := Lib.hid (H.frm.defers.trans fdf)
   clear hed H
   have eX := HEX.out
   go_simp
   refine (HX.out wx hM1.1).mono ?_
   rintro e w' ⟨rfl, hi⟩
   exact hk _ (Lib.hid hi)
  ·simp only [List.getElem?_toArray, List.getElem?_cons_zero, List.getElem?_cons_succ] at ho
   cases ho
   refine .inr (.inr (.inl ⟨3, by decide, rfl, fun γ => stepA rfl (fun li ac wx H hn hed hM K hk => ?_)⟩))
   have e13 : ac.tmps[13]?.getD undef = .nilIface := slot_at (H.known 8 _ rfl (hed ⟨8, .data⟩ (by simp) rfl) 13 rfl)
   have hM1 : (fun _ => fun wx => Hid (Done wx)) γ wx := hM
   have hdf := Lib.hid (H.frm.defers.trans fdf)
   clear hed H
   go_simp
   refine (must_nil wx).mono ?_
   rintro e w' ⟨rfl, rfl⟩
   exact hk _ hM1
 ·intro γ ac wx hF hK hM0
  have hM : (fun _ => fun wx => Hid (Done wx)) γ wx := hM0
  exact hE ac wx (hF.defers.trans hdf0) (hF.size.trans hsz) hM.out
set_option maxHeartbeats 1000000 in
set_option maxRecDepth 100000 in
theorem m_ask (h : DkAt w B g x vr d) (hf : Fine T d.s) (hT : T ≤ 9900000000) (hw : Words w A l) (c : Nat) (hs : Std w) : Calls Tryz.prog 52 #[.pointer (some ⟨g, 0, none⟩), .slice A l.length c] w (MPost w B g x (does' .ask d l)) := by
 have hc3 := h.c3
 have hg := h.has.lt
 have HH := Lib.hid h
 have HW := Lib.hid hw
 have HS := Lib.hid hs
 have HF := Lib.hid hf
 clear h hw hs hf
 have HEX : Hid (∀ args w, (callFunc 88 args).run Tryz.prog w = .ok (.enter 88 args) w) := Lib.hid (enters_of Tryz.func88 (by kernel_rfl) rfl)
 cases hr : numsOf l 1 with
 | none =>
  have HE : Hid (does' .ask d l = (d, .err 3)) := Lib.hid (by simp only [does', hr])
  rw [HE.out]
  have HN := Lib.hid (fun w1 (hb : Below w.heap.size w w1) => dk_none (wd_after HW hb) c 1 (by decide) (by decide) (st_after HS hb) hr)
  clear hr HE
  go_enter Tryz.func52, Tryz.ntmps52
  go_upto_region 1 with fail
  exact one_none "desk.go:77" 88 rfl rfl rfl rfl hg hc3 HN (fun a w' hd hb => ⟨hd, MPost.same HH.out hb rfl⟩)
 | some n =>
  have HE : Hid (does' .ask d l = dOne d (isRep (at0 n)) (sysAsks d.s (at0 n).toNat) [97, 115, 107]) := Lib.hid (by simp only [does', hr])
  rw [HE.out]
  have HN := Lib.hid (fun w1 (hb : Below w.heap.size w w1) => dk_one (wd_after HW hb) c (st_after HS hb) hr)
  clear hr HE
  by_cases hok : (isRep (at0 n)) = true
  ·rw [hok]
   have hE2 : dOne d true (sysAsks d.s (at0 n).toNat) [97, 115, 107] = ({ d with s := sysAsks d.s (at0 n).toNat }, .txt [97, 115, 107]) := rfl
   rw [hE2]
   clear hE2
   obtain ⟨k, hk, hk3⟩ : ∃ k : Nat, at0 n = k ∧ k < 3 := by unfold isRep at hok; simp only [Bool.and_eq_true, decide_eq_true_eq] at hok; exact ⟨(at0 n).toNat, by omega, by omega⟩
   have HX := Lib.hid (fun w1 (hb : Below w.heap.size w w1) => show Calls Tryz.prog 88 #[.pointer (some ⟨x.g, 0, none⟩), I (at0 n)] w1 (fun e w' => e = .returned .nilIface ∧ SyIn w1 B x d.L (sysAsks d.s (at0 n).toNat) w' ∧ Stay w1 w') from by
    rw [hk]
    rw [Int.toNat_natCast]
    refine (in_asks (SyIn.start (HH.out.after hb).sys (HH.out.after hb).hB) HF.out (by omega) k hk3).mono ?_
    rintro e w' ⟨⟨v, rfl, rfl⟩, h2, h3⟩
    exact ⟨rfl, h2, h3⟩)
   clear hk hok
   go_enter Tryz.func52, Tryz.ntmps52
   go_upto_region 1 with fail
   refine one_ok "desk.go:77" 88 (at0 n) rfl rfl rfl rfl hg hc3 HN (fun wx => ∃ w1, Below w.heap.size w w1 ∧ SyIn w1 B x d.L (sysAsks d.s (at0 n).toNat) wx ∧ Stay w1 wx) (Lib.hid fun w1 hb => (HX.out w1 hb).mono fun _ _ h => ⟨h.1, w1, hb, h.2⟩) HEX ?_
   rintro ⟨tm, df⟩ w' hd hs ⟨w1, h1, h2, h3⟩
   obtain rfl : df = [] := hd
   have hu := size15 tm hs
   clear hs HN HX
   obtain ⟨t0, t1, t2, t3, t4, t5, t6, t7, t8, t9, t10, t11, t12, t13, t14, rfl⟩ := hu
   go_wp2
   go_ret
   exact MPost.next HH.out h1 h2 h3 rfl
  ·rw [Bool.eq_false_iff.2 hok]
   have hE2 : dOne d false (sysAsks d.s (at0 n).toNat) [97, 115, 107] = (d, .err 2) := rfl
   rw [hE2]
   clear hE2
   have HX := Lib.hid (fun w1 (hb : Below w.heap.size w w1) => bad_asks x.g (at0 n) (by unfold isRep at hok; simpa using hok) w1)
   clear hok
   go_enter Tryz.func52, Tryz.ntmps52
   go_upto_region 1 with fail
   exact one_range "desk.go:77" 88 (at0 n) rfl rfl rfl rfl hg hc3 HN HX HS HEX (fun a w' hd hb => ⟨hd, MPost.same HH.out hb rfl⟩)
set_option maxHeartbeats 1000000 in
set_option maxRecDepth 100000 in
theorem m_crash (h : DkAt w B g x vr d) (hf : Fine T d.s) (_hT : T ≤ 9900000000) (hw : Words w A l) (c : Nat) (hs : Std w) : Calls Tryz.prog 55 #[.pointer (some ⟨g, 0, none⟩), .slice A l.length c] w (MPost w B g x (does' .crash d l)) := by
 have hc3 := h.c3
 have hg := h.has.lt
 have HH := Lib.hid h
 have HW := Lib.hid hw
 have HS := Lib.hid hs
 have HF := Lib.hid hf
 clear h hw hs hf
 have HEX : Hid (∀ args w, (callFunc 90 args).run Tryz.prog w = .ok (.enter 90 args) w) := Lib.hid (enters_of Tryz.func90 (by kernel_rfl) rfl)
 cases hr : numsOf l 1 with
 | none =>
  have HE : Hid (does' .crash d l = (d, .err 3)) := Lib.hid (by simp only [does', hr])
  rw [HE.out]
  have HN := Lib.hid (fun w1 (hb : Below w.heap.size w w1) => dk_none (wd_after HW hb) c 1 (by decide) (by decide) (st_after HS hb) hr)
  clear hr HE
  go_enter Tryz.func55, Tryz.ntmps55
  go_upto_region 1 with fail
  exact one_none "desk.go:97" 90 rfl rfl rfl rfl hg hc3 HN (fun a w' hd hb => ⟨hd, MPost.same HH.out hb rfl⟩)
 | some n =>
  have HE : Hid (does' .crash d l = dOne d (isRep (at0 n)) (sysCrash d.s (at0 n).toNat) [99, 114, 97, 115, 104]) := Lib.hid (by simp only [does', hr])
  rw [HE.out]
  have HN := Lib.hid (fun w1 (hb : Below w.heap.size w w1) => dk_one (wd_after HW hb) c (st_after HS hb) hr)
  clear hr HE
  by_cases hok : (isRep (at0 n)) = true
  ·rw [hok]
   have hE2 : dOne d true (sysCrash d.s (at0 n).toNat) [99, 114, 97, 115, 104] = ({ d with s := sysCrash d.s (at0 n).toNat }, .txt [99, 114, 97, 115, 104]) := rfl
   rw [hE2]
   clear hE2
   obtain ⟨k, hk, hk3⟩ : ∃ k : Nat, at0 n = k ∧ k < 3 := by unfold isRep at hok; simp only [Bool.and_eq_true, decide_eq_true_eq] at hok; exact ⟨(at0 n).toNat, by omega, by omega⟩
   have HX := Lib.hid (fun w1 (hb : Below w.heap.size w w1) => show Calls Tryz.prog 90 #[.pointer (some ⟨x.g, 0, none⟩), I (at0 n)] w1 (fun e w' => e = .returned .nilIface ∧ SyIn w1 B x d.L (sysCrash d.s (at0 n).toNat) w' ∧ Stay w1 w') from by
    rw [hk]
    rw [Int.toNat_natCast]
    refine (in_crash (SyIn.start (HH.out.after hb).sys (HH.out.after hb).hB) HH.out.ok k hk3).mono ?_
    rintro e w' ⟨⟨v, rfl, rfl⟩, h2, h3⟩
    exact ⟨rfl, h2, h3⟩)
   clear hk hok
   go_enter Tryz.func55, Tryz.ntmps55
   go_upto_region 1 with fail
   refine one_ok "desk.go:97" 90 (at0 n) rfl rfl rfl rfl hg hc3 HN (fun wx => ∃ w1, Below w.heap.size w w1 ∧ SyIn w1 B x d.L (sysCrash d.s (at0 n).toNat) wx ∧ Stay w1 wx) (Lib.hid fun w1 hb => (HX.out w1 hb).mono fun _ _ h => ⟨h.1, w1, hb, h.2⟩) HEX ?_
   rintro ⟨tm, df⟩ w' hd hs ⟨w1, h1, h2, h3⟩
   obtain rfl : df = [] := hd
   have hu := size15 tm hs
   clear hs HN HX
   obtain ⟨t0, t1, t2, t3, t4, t5, t6, t7, t8, t9, t10, t11, t12, t13, t14, rfl⟩ := hu
   go_wp2
   go_ret
   exact MPost.next HH.out h1 h2 h3 rfl
  ·rw [Bool.eq_false_iff.2 hok]
   have hE2 : dOne d false (sysCrash d.s (at0 n).toNat) [99, 114, 97, 115, 104] = (d, .err 2) := rfl
   rw [hE2]
   clear hE2
   have HX := Lib.hid (fun w1 (hb : Below w.heap.size w w1) => bad_crash x.g (at0 n) (by unfold isRep at hok; simpa using hok) w1)
   clear hok
   go_enter Tryz.func55, Tryz.ntmps55
   go_upto_region 1 with fail
   exact one_range "desk.go:97" 90 (at0 n) rfl rfl rfl rfl hg hc3 HN HX HS HEX (fun a w' hd hb => ⟨hd, MPost.same HH.out hb rfl⟩)
set_option maxHeartbeats 1000000 in
set_option maxRecDepth 100000 in
theorem m_deliver (h : DkAt w B g x vr d) (hf : Fine T d.s) (hT : T ≤ 9900000000) (hw : Words w A l) (c : Nat) (hs : Std w) : Calls Tryz.prog 56 #[.pointer (some ⟨g, 0, none⟩), .slice A l.length c] w (MPost w B g x (does' .deliver d l)) := by
 have hc3 := h.c3
 have hg := h.has.lt
 have HH := Lib.hid h
 have HW := Lib.hid hw
 have HS := Lib.hid hs
 have HF := Lib.hid hf
 clear h hw hs hf
 have HEX : Hid (∀ args w, (callFunc 39 args).run Tryz.prog w = .ok (.enter 39 args) w) := Lib.hid (enters_of Tryz.func39 (by kernel_rfl) rfl)
 cases hr : numsOf l 1 with
 | none =>
  have HE : Hid (does' .deliver d l = (d, .err 3)) := Lib.hid (by simp only [does', hr])
  rw [HE.out]
  have HN := Lib.hid (fun w1 (hb : Below w.heap.size w w1) => dk_none (wd_after HW hb) c 1 (by decide) (by decide) (st_after HS hb) hr)
  clear hr HE
  go_enter Tryz.func56, Tryz.ntmps56
  go_upto_region 1 with fail
  exact one_none "desk.go:82" 39 rfl rfl rfl rfl hg hc3 HN (fun a w' hd hb => ⟨hd, MPost.same HH.out hb rfl⟩)
 | some n =>
  have HE : Hid (does' .deliver d l = dOne d (inWay d (at0 n)) (deliver d.L d.s (at0 n).toNat) [100, 101, 108, 105, 118, 101, 114]) := Lib.hid (by simp only [does', hr])
  rw [HE.out]
  have HN := Lib.hid (fun w1 (hb : Below w.heap.size w w1) => dk_one (wd_after HW hb) c (st_after HS hb) hr)
  clear hr HE
  by_cases hok : (inWay d (at0 n)) = true
  ·rw [hok]
   have hE2 : dOne d true (deliver d.L d.s (at0 n).toNat) [100, 101, 108, 105, 118, 101, 114] = ({ d with s := deliver d.L d.s (at0 n).toNat }, .txt [100, 101, 108, 105, 118, 101, 114]) := rfl
   rw [hE2]
   clear hE2
   obtain ⟨k, hk, hk3⟩ : ∃ k : Nat, at0 n = k ∧ k < d.s.way.length := by unfold inWay at hok; simp only [Bool.and_eq_true, decide_eq_true_eq] at hok; exact ⟨(at0 n).toNat, by omega, by omega⟩
   have HX := Lib.hid (fun w1 (hb : Below w.heap.size w w1) => show Calls Tryz.prog 39 #[.pointer (some ⟨x.g, 0, none⟩), I (at0 n)] w1 (fun e w' => e = .returned .nilIface ∧ SyIn w1 B x d.L (deliver d.L d.s (at0 n).toNat) w' ∧ Stay w1 w') from by
    rw [hk]
    rw [Int.toNat_natCast]
    refine (in_deliv (SyIn.start (HH.out.after hb).sys (HH.out.after hb).hB) HF.out HH.out.ok (by omega) k (.inl hk3)).mono ?_
    rintro e w' ⟨⟨v, rfl, hv⟩, h2, h3⟩
    exact ⟨by rw [hv hk3], h2, h3⟩)
   clear hk hok
   go_enter Tryz.func56, Tryz.ntmps56
   go_upto_region 1 with fail
   refine one_ok "desk.go:82" 39 (at0 n) rfl rfl rfl rfl hg hc3 HN (fun wx => ∃ w1, Below w.heap.size w w1 ∧ SyIn w1 B x d.L (deliver d.L d.s (at0 n).toNat) wx ∧ Stay w1 wx) (Lib.hid fun w1 hb => (HX.out w1 hb).mono fun _ _ h => ⟨h.1, w1, hb, h.2⟩) HEX ?_
   rintro ⟨tm, df⟩ w' hd hs ⟨w1, h1, h2, h3⟩
   obtain rfl : df = [] := hd
   have hu := size15 tm hs
   clear hs HN HX
   obtain ⟨t0, t1, t2, t3, t4, t5, t6, t7, t8, t9, t10, t11, t12, t13, t14, rfl⟩ := hu
   go_wp2
   go_ret
   exact MPost.next HH.out h1 h2 h3 rfl
  ·rw [Bool.eq_false_iff.2 hok]
   have hE2 : dOne d false (deliver d.L d.s (at0 n).toNat) [100, 101, 108, 105, 118, 101, 114] = (d, .err 2) := rfl
   rw [hE2]
   clear hE2
   have HX := Lib.hid (fun w1 (hb : Below w.heap.size w w1) => bad_deliver (HH.out.after hb).sys (at0 n) (by unfold inWay at hok; simpa using hok))
   clear hok
   go_enter Tryz.func56, Tryz.ntmps56
   go_upto_region 1 with fail
   exact one_range "desk.go:82" 39 (at0 n) rfl rfl rfl rfl hg hc3 HN HX HS HEX (fun a w' hd hb => ⟨hd, MPost.same HH.out hb rfl⟩)
set_option maxHeartbeats 1000000 in
set_option maxRecDepth 100000 in
theorem m_lose (h : DkAt w B g x vr d) (hf : Fine T d.s) (_hT : T ≤ 9900000000) (hw : Words w A l) (c : Nat) (hs : Std w) : Calls Tryz.prog 59 #[.pointer (some ⟨g, 0, none⟩), .slice A l.length c] w (MPost w B g x (does' .lose d l)) := by
 have hc3 := h.c3
 have hg := h.has.lt
 have HH := Lib.hid h
 have HW := Lib.hid hw
 have HS := Lib.hid hs
 have HF := Lib.hid hf
 clear h hw hs hf
 have HEX : Hid (∀ args w, (callFunc 92 args).run Tryz.prog w = .ok (.enter 92 args) w) := Lib.hid (enters_of Tryz.func92 (by kernel_rfl) rfl)
 cases hr : numsOf l 1 with
 | none =>
  have HE : Hid (does' .lose d l = (d, .err 3)) := Lib.hid (by simp only [does', hr])
  rw [HE.out]
  have HN := Lib.hid (fun w1 (hb : Below w.heap.size w w1) => dk_none (wd_after HW hb) c 1 (by decide) (by decide) (st_after HS hb) hr)
  clear hr HE
  go_enter Tryz.func59, Tryz.ntmps59
  go_upto_region 1 with fail
  exact one_none "desk.go:87" 92 rfl rfl rfl rfl hg hc3 HN (fun a w' hd hb => ⟨hd, MPost.same HH.out hb rfl⟩)
 | some n =>
  have HE : Hid (does' .lose d l = dOne d (inWay d (at0 n)) (sysLose d.s (at0 n).toNat) [108, 111, 115, 101]) := Lib.hid (by simp only [does', hr])
  rw [HE.out]
  have HN := Lib.hid (fun w1 (hb : Below w.heap.size w w1) => dk_one (wd_after HW hb) c (st_after HS hb) hr)
  clear hr HE
  by_cases hok : (inWay d (at0 n)) = true
  ·rw [hok]
   have hE2 : dOne d true (sysLose d.s (at0 n).toNat) [108, 111, 115, 101] = ({ d with s := sysLose d.s (at0 n).toNat }, .txt [108, 111, 115, 101]) := rfl
   rw [hE2]
   clear hE2
   obtain ⟨k, hk, hk3⟩ : ∃ k : Nat, at0 n = k ∧ k < d.s.way.length := by unfold inWay at hok; simp only [Bool.and_eq_true, decide_eq_true_eq] at hok; exact ⟨(at0 n).toNat, by omega, by omega⟩
   have HX := Lib.hid (fun w1 (hb : Below w.heap.size w w1) => show Calls Tryz.prog 92 #[.pointer (some ⟨x.g, 0, none⟩), I (at0 n)] w1 (fun e w' => e = .returned .nilIface ∧ SyIn w1 B x d.L (sysLose d.s (at0 n).toNat) w' ∧ Stay w1 w') from by
    rw [hk]
    rw [Int.toNat_natCast]
    refine (in_lose (SyIn.start (HH.out.after hb).sys (HH.out.after hb).hB) HF.out k (.inl hk3)).mono ?_
    rintro e w' ⟨⟨v, rfl, hv⟩, h2, h3⟩
    exact ⟨by rw [hv hk3], h2, h3⟩)
   clear hk hok
   go_enter Tryz.func59, Tryz.ntmps59
   go_upto_region 1 with fail
   refine one_ok "desk.go:87" 92 (at0 n) rfl rfl rfl rfl hg hc3 HN (fun wx => ∃ w1, Below w.heap.size w w1 ∧ SyIn w1 B x d.L (sysLose d.s (at0 n).toNat) wx ∧ Stay w1 wx) (Lib.hid fun w1 hb => (HX.out w1 hb).mono fun _ _ h => ⟨h.1, w1, hb, h.2⟩) HEX ?_
   rintro ⟨tm, df⟩ w' hd hs ⟨w1, h1, h2, h3⟩
   obtain rfl : df = [] := hd
   have hu := size15 tm hs
   clear hs HN HX
   obtain ⟨t0, t1, t2, t3, t4, t5, t6, t7, t8, t9, t10, t11, t12, t13, t14, rfl⟩ := hu
   go_wp2
   go_ret
   exact MPost.next HH.out h1 h2 h3 rfl
  ·rw [Bool.eq_false_iff.2 hok]
   have hE2 : dOne d false (sysLose d.s (at0 n).toNat) [108, 111, 115, 101] = (d, .err 2) := rfl
   rw [hE2]
   clear hE2
   have HX := Lib.hid (fun w1 (hb : Below w.heap.size w w1) => bad_lose (HH.out.after hb).sys (at0 n) (by unfold inWay at hok; simpa using hok))
   clear hok
   go_enter Tryz.func59, Tryz.ntmps59
   go_upto_region 1 with fail
   exact one_range "desk.go:87" 92 (at0 n) rfl rfl rfl rfl hg hc3 HN HX HS HEX (fun a w' hd hb => ⟨hd, MPost.same HH.out hb rfl⟩)
set_option maxHeartbeats 1000000 in
set_option maxRecDepth 100000 in
theorem m_twice (h : DkAt w B g x vr d) (hf : Fine T d.s) (hT : T ≤ 9900000000) (hw : Words w A l) (c : Nat) (hs : Std w) : Calls Tryz.prog 67 #[.pointer (some ⟨g, 0, none⟩), .slice A l.length c] w (MPost w B g x (does' .twice d l)) := by
 have hc3 := h.c3
 have hg := h.has.lt
 have HH := Lib.hid h
 have HW := Lib.hid hw
 have HS := Lib.hid hs
 have HF := Lib.hid hf
 clear h hw hs hf
 have HEX : Hid (∀ args w, (callFunc 102 args).run Tryz.prog w = .ok (.enter 102 args) w) := Lib.hid (enters_of Tryz.func102 (by kernel_rfl) rfl)
 cases hr : numsOf l 1 with
 | none =>
  have HE : Hid (does' .twice d l = (d, .err 3)) := Lib.hid (by simp only [does', hr])
  rw [HE.out]
  have HN := Lib.hid (fun w1 (hb : Below w.heap.size w w1) => dk_none (wd_after HW hb) c 1 (by decide) (by decide) (st_after HS hb) hr)
  clear hr HE
  go_enter Tryz.func67, Tryz.ntmps67
  go_upto_region 1 with fail
  exact one_none "desk.go:92" 102 rfl rfl rfl rfl hg hc3 HN (fun a w' hd hb => ⟨hd, MPost.same HH.out hb rfl⟩)
 | some n =>
  have HE : Hid (does' .twice d l = dOne d (inWay d (at0 n)) (sysTwice d.s (at0 n).toNat) [116, 119, 105, 99, 101]) := Lib.hid (by simp only [does', hr])
  rw [HE.out]
  have HN := Lib.hid (fun w1 (hb : Below w.heap.size w w1) => dk_one (wd_after HW hb) c (st_after HS hb) hr)
  clear hr HE
  by_cases hok : (inWay d (at0 n)) = true
  ·rw [hok]
   have hE2 : dOne d true (sysTwice d.s (at0 n).toNat) [116, 119, 105, 99, 101] = ({ d with s := sysTwice d.s (at0 n).toNat }, .txt [116, 119, 105, 99, 101]) := rfl
   rw [hE2]
   clear hE2
   obtain ⟨k, hk, hk3⟩ : ∃ k : Nat, at0 n = k ∧ k < d.s.way.length := by unfold inWay at hok; simp only [Bool.and_eq_true, decide_eq_true_eq] at hok; exact ⟨(at0 n).toNat, by omega, by omega⟩
   have HX := Lib.hid (fun w1 (hb : Below w.heap.size w w1) => show Calls Tryz.prog 102 #[.pointer (some ⟨x.g, 0, none⟩), I (at0 n)] w1 (fun e w' => e = .returned .nilIface ∧ SyIn w1 B x d.L (sysTwice d.s (at0 n).toNat) w' ∧ Stay w1 w') from by
    rw [hk]
    rw [Int.toNat_natCast]
    refine (in_twice (SyIn.start (HH.out.after hb).sys (HH.out.after hb).hB) HF.out (by omega) k (.inl hk3)).mono ?_
    rintro e w' ⟨⟨v, rfl, hv⟩, h2, h3⟩
    exact ⟨by rw [hv hk3], h2, h3⟩)
   clear hk hok
   go_enter Tryz.func67, Tryz.ntmps67
   go_upto_region 1 with fail
   refine one_ok "desk.go:92" 102 (at0 n) rfl rfl rfl rfl hg hc3 HN (fun wx => ∃ w1, Below w.heap.size w w1 ∧ SyIn w1 B x d.L (sysTwice d.s (at0 n).toNat) wx ∧ Stay w1 wx) (Lib.hid fun w1 hb => (HX.out w1 hb).mono fun _ _ h => ⟨h.1, w1, hb, h.2⟩) HEX ?_
   rintro ⟨tm, df⟩ w' hd hs ⟨w1, h1, h2, h3⟩
   obtain rfl : df = [] := hd
   have hu := size15 tm hs
   clear hs HN HX
   obtain ⟨t0, t1, t2, t3, t4, t5, t6, t7, t8, t9, t10, t11, t12, t13, t14, rfl⟩ := hu
   go_wp2
   go_ret
   exact MPost.next HH.out h1 h2 h3 rfl
  ·rw [Bool.eq_false_iff.2 hok]
   have hE2 : dOne d false (sysTwice d.s (at0 n).toNat) [116, 119, 105, 99, 101] = (d, .err 2) := rfl
   rw [hE2]
   clear hE2
   have HX := Lib.hid (fun w1 (hb : Below w.heap.size w w1) => bad_twice (HH.out.after hb).sys (at0 n) (by unfold inWay at hok; simpa using hok))
   clear hok
   go_enter Tryz.func67, Tryz.ntmps67
   go_upto_region 1 with fail
   exact one_range "desk.go:92" 102 (at0 n) rfl rfl rfl rfl hg hc3 HN HX HS HEX (fun a w' hd hb => ⟨hd, MPost.same HH.out hb rfl⟩)
set_option maxHeartbeats 1000000 in
set_option maxRecDepth 100000 in
theorem m_tick (h : DkAt w B g x vr d) (hf : Fine T d.s) (hT : T ≤ 9900000000) (hw : Words w A l) (c : Nat) (hs : Std w) : Calls Tryz.prog 65 #[.pointer (some ⟨g, 0, none⟩), .slice A l.length c] w (MPost w B g x (does' .tick d l)) := by
 have hc3 := h.c3
 have hg := h.has.lt
 have HH := Lib.hid h
 have HW := Lib.hid hw
 have HS := Lib.hid hs
 have HF := Lib.hid hf
 clear h hw hs hf
 have HEX : Hid (∀ args w, (callFunc 25 args).run Tryz.prog w = .ok (.enter 25 args) w) := Lib.hid (enters_of Tryz.func25 (by kernel_rfl) rfl)
 cases hr : numsOf l 1 with
 | none =>
  have HE : Hid (does' .tick d l = (d, .err 3)) := Lib.hid (by simp only [does', hr])
  rw [HE.out]
  have HN := Lib.hid (fun w1 (hb : Below w.heap.size w w1) => dk_none (wd_after HW hb) c 1 (by decide) (by decide) (st_after HS hb) hr)
  clear hr HE
  go_enter Tryz.func65, Tryz.ntmps65
  go_upto_region 1 with fail
  exact one_none "desk.go:72" 25 rfl rfl rfl rfl hg hc3 HN (fun a w' hd hb => ⟨hd, MPost.same HH.out hb rfl⟩)
 | some n =>
  have HE : Hid (does' .tick d l = dOne d (isRep (at0 n) || decide (at0 n = 3)) (sysTick d.L d.s (at0 n).toNat) [116, 105, 99, 107]) := Lib.hid (by simp only [does', hr])
  rw [HE.out]
  have HN := Lib.hid (fun w1 (hb : Below w.heap.size w w1) => dk_one (wd_after HW hb) c (st_after HS hb) hr)
  clear hr HE
  by_cases hok : (isRep (at0 n) || decide (at0 n = 3)) = true
  ·rw [hok]
   have hE2 : dOne d true (sysTick d.L d.s (at0 n).toNat) [116, 105, 99, 107] = ({ d with s := sysTick d.L d.s (at0 n).toNat }, .txt [116, 105, 99, 107]) := rfl
   rw [hE2]
   clear hE2
   have hk : at0 n = 3 ∨ ∃ k : Nat, at0 n = k ∧ k < 3 := by
    unfold isRep at hok
    simp only [Bool.or_eq_true, Bool.and_eq_true, decide_eq_true_eq] at hok
    rcases hok with h | h
    ·exact .inr ⟨(at0 n).toNat, by omega, by omega⟩
    ·exact .inl h
   have HX := Lib.hid (fun w1 (hb : Below w.heap.size w w1) => show Calls Tryz.prog 25 #[.pointer (some ⟨x.g, 0, none⟩), I (at0 n)] w1 (fun e w' => e = .returned .nilIface ∧ SyIn w1 B x d.L (sysTick d.L d.s (at0 n).toNat) w' ∧ Stay w1 w') from by
    rcases hk with hk | ⟨k, hk, hk3⟩
    ·rw [hk]
     refine (in_tick3 (SyIn.start (HH.out.after hb).sys (HH.out.after hb).hB) HF.out.vo).mono ?_
     rintro e w' ⟨⟨v, rfl, rfl⟩, h2, h3⟩
     exact ⟨rfl, h2, h3⟩
    ·rw [hk, Int.toNat_natCast]
     have e : sysTick d.L d.s k = tickR d.L d.s k := if_neg (by omega)
     rw [e]
     refine (in_tick (SyIn.start (HH.out.after hb).sys (HH.out.after hb).hB) HF.out HH.out.ok (by omega) k hk3).mono ?_
     rintro e w' ⟨⟨v, rfl, rfl⟩, h2, h3⟩
     exact ⟨rfl, h2, h3⟩)
   clear hk hok
   go_enter Tryz.func65, Tryz.ntmps65
   go_upto_region 1 with fail
   refine one_ok "desk.go:72" 25 (at0 n) rfl rfl rfl rfl hg hc3 HN (fun wx => ∃ w1, Below w.heap.size w w1 ∧ SyIn w1 B x d.L (sysTick d.L d.s (at0 n).toNat) wx ∧ Stay w1 wx) (Lib.hid fun w1 hb => (HX.out w1 hb).mono fun _ _ h => ⟨h.1, w1, hb, h.2⟩) HEX ?_
   rintro ⟨tm, df⟩ w' hd hs ⟨w1, h1, h2, h3⟩
   obtain rfl : df = [] := hd
   have hu := size15 tm hs
   clear hs HN HX
   obtain ⟨t0, t1, t2, t3, t4, t5, t6, t7, t8, t9, t10, t11, t12, t13, t14, rfl⟩ := hu
   go_wp2
   go_ret
   exact MPost.next HH.out h1 h2 h3 rfl
  ·rw [Bool.eq_false_iff.2 hok]
   have hE2 : dOne d false (sysTick d.L d.s (at0 n).toNat) [116, 105, 99, 107] = (d, .err 2) := rfl
   rw [hE2]
   clear hE2
   have hn : ¬ (0 ≤ at0 n ∧ at0 n < 3) ∧ ¬ at0 n = 3 := by
    unfold isRep at hok
    simp only [Bool.or_eq_true, Bool.and_eq_true, decide_eq_true_eq] at hok
    exact ⟨fun h => hok (.inl h), fun h => hok (.inr h)⟩
   have HX := Lib.hid (fun w1 (hb : Below w.heap.size w w1) => bad_tick x.g (at0 n) hn.1 hn.2 w1)
   clear hok hn
   go_enter Tryz.func65, Tryz.ntmps65
   go_upto_region 1 with fail
   exact one_range "desk.go:72" 25 (at0 n) rfl rfl rfl rfl hg hc3 HN HX HS HEX (fun a w' hd hb => ⟨hd, MPost.same HH.out hb rfl⟩)
end
end Go.Proofs.YtdhekhlmdefcnabGreatDoor
namespace Go.Proofs.YtdhekhlmdefcnabGreatDoor
open Go.RowKit
theorem chk_ok_inv {S : Int} {xs : List Int} {d : Int} (h : chk S xs d = .ok) : ¬ outOf S xs.length d ∧ ∀ x ∈ xs, 0 < x ∧ x < 2 ^ S.toNat := by
 unfold chk at h
 split at h
 ·cases h
 ·rename_i ho
  refine ⟨ho, ?_⟩
  cases hb : badRoute S xs with
  | some i => rw [hb] at h; cases h
  | none =>
   unfold badRoute at hb
   rw [List.findIdx?_eq_none_iff] at hb
   intro x hx
   have := hb x hx
   simp at this
   omega
theorem zs_of (xs : List Int) (h : ∀ x ∈ xs, 0 ≤ x) : ∃ rs : List Nat, xs = zs rs := by
 refine ⟨xs.map Int.toNat, ?_⟩
 unfold zs
 rw [List.map_map]
 apply Eq.symm
 refine (List.map_congr_left (g := id) fun x hx => ?_).trans (List.map_id _)
 have := h x hx
 simp
 omega
theorem chk_nodup {S : Int} {rs : List Nat} {d : Int} (h : chk S (zs rs) d = .ok) : rs.Nodup := by
 have ht : twiceAt (zs rs) = none := by
  unfold chk at h
  split at h
  ·cases h
  ·split at h
   ·cases h
   ·split at h
    ·cases h
    ·assumption
 unfold twiceAt at ht
 rw [List.find?_eq_none] at ht
 refine List.pairwise_iff_getElem.2 fun i j hi hj hij e => ?_
 refine ht j (by rw [List.mem_range, zs_length]; exact hj) ?_
 unfold twice
 rw [List.contains_iff_mem, List.mem_iff_getElem?]
 refine ⟨i, ?_⟩
 rw [List.getElem?_take, if_pos hij, zs_get, List.getElem?_eq_getElem hi, List.getD_eq_getElem?_getD, zs_get, List.getElem?_eq_getElem hj, e]
 rfl
theorem lay_of_chk {S : Int} {xs : List Int} {d : Int} (h : chk S xs d = .ok) : ∃ L : Lay, L.Ok ∧ S = (L.secs : Int) ∧ xs = zs L.routes ∧ d = (L.delay : Int) := by
 obtain ⟨h1, h2⟩ := chk_ok_inv h
 unfold outOf at h1
 obtain ⟨rs, rfl⟩ := zs_of xs (fun x hx => by have := (h2 x hx).1; omega)
 obtain ⟨s, rfl⟩ : ∃ s : Nat, S = (s : Int) := ⟨S.toNat, by omega⟩
 obtain ⟨dd, rfl⟩ : ∃ dd : Nat, d = (dd : Int) := ⟨d.toNat, by omega⟩
 rw [zs_length] at h1
 refine ⟨⟨s, rs, dd⟩, ⟨by show 1 ≤ s; omega, by show s ≤ 12; omega, by show 1 ≤ rs.length; omega, by show rs.length ≤ 8; omega, by show dd ≤ 20; omega, fun r hr => ?_, fun r hr => ?_, chk_nodup h⟩, rfl, rfl, rfl⟩
 ·have := (h2 (r : Int) (List.mem_map.2 ⟨r, hr, rfl⟩)).1
  omega
 ·have := (h2 (r : Int) (List.mem_map.2 ⟨r, hr, rfl⟩)).2
  have e : ((2 : Int) ^ (s : Int).toNat) = ((2 ^ s : Nat) : Int) := by simp
  rw [e] at this
  show r < 2 ^ s
  omega
theorem vo_new_out (n : Int) (h : ¬ (1 ≤ n ∧ n ≤ 20)) (w : World) : Calls Tryz.prog 20 #[I n] w fun e w' => e = .returned (.tuple #[.pointer none, rangeV]) ∧ w = w' := by
 have he : rangeV = .iface 73 (I 2) := rfl
 rw [he]
 by_cases h1 : n < 1
 ·go_enter Tryz.func20, Tryz.ntmps20
  go_wp2
  go_ret2
  exact ⟨rfl, rfl⟩
 ·have h2 : (20 : Int) < n := by omega
  go_enter Tryz.func20, Tryz.ntmps20
  go_wp2
  go_ret2
  exact ⟨rfl, rfl⟩
set_option maxHeartbeats 2000000 in
theorem sy_new_lay (S d : Int) (A : Option Addr) (c : Nat) (xs : List Int) (win : Int) (w : World) (hn : xs.length ≤ 1000000) (hc : xs.length ≤ c) (hr : Reads w w.heap.size A (ints xs)) (hbad : Hid (chk S xs d ≠ .ok)) :
  Calls Tryz.prog 7 #[.agg #[I S, .slice A xs.length c, I d], I win] w fun e w' =>
   (∃ v, e = .returned (.tuple #[.pointer none, v]) ∧ ErrV w w' (chk S xs d) v) ∧ Below w.heap.size w w' := by
 have hb1 : Below w.heap.size w (w.alloc (.cells #[I S, .slice A xs.length c, I d] 29)) := (Below.refl _ _).alloc (Nat.le_refl _) _
 have k0 := Has.new w 29 #[I S, .slice A xs.length c, I d]
 have hr1 := hr.below hb1
 clear hr
 go_enter Tryz.func7, Tryz.ntmps7
 go_upto_region 1 with fail
 generalize w.alloc (.cells #[I S, .slice A xs.length c, I d] 29) = w1 at *
 have hl := k0.lt
 generalize hG : w.heap.size = g0 at *
 have HG := Lib.hid hG
 clear hG
 have c0 := k0.cellv 0 _ rfl
 have c1 := k0.cellv 1 _ rfl
 have c2 := k0.cellv 2 _ rfl
 have HC : Hid (Calls Tryz.prog 19 #[.agg #[I S, .slice A xs.length c, I d]] w1 (ErrPost w1 (chk S xs d))) := Lib.hid (check_any S d A c xs w1 (by omega) hc (hr1.more (Nat.le_of_lt hl)))
 go_upto_region 2 with (go_at_call 19; refine HC.out.mono ?_; rintro e w2 ⟨v, rfl, hv, hb2⟩)
 have HV := Lib.hid hv
 have hb9 : Below g0 w w2 := hb1.trans (hb2.mono (by omega))
 rcases err_ne hv hbad.out with ⟨e, rfl⟩ | ⟨g, rfl⟩
 all_goals
  clear hv c0 c1 c2
  go_wp2_with fail
  go_ret2
  exact ⟨⟨_, rfl, HV.out.base (by rw [HG.out]; omega)⟩, HG.out ▸ hb9⟩
set_option maxHeartbeats 2000000 in
theorem sy_new_win (S d : Int) (A : Option Addr) (c : Nat) (xs : List Int) (win : Int) (w : World) (hn : xs.length ≤ 1000000) (hc : xs.length ≤ c) (hr : Reads w w.heap.size A (ints xs)) (hok : Hid (chk S xs d = .ok)) (hw : ¬ (1 ≤ win ∧ win ≤ 20)) :
  Calls Tryz.prog 7 #[.agg #[I S, .slice A xs.length c, I d], I win] w fun e w' =>
   e = .returned (.tuple #[.pointer none, rangeV]) ∧ Below w.heap.size w w' := by
 have hb1 : Below w.heap.size w (w.alloc (.cells #[I S, .slice A xs.length c, I d] 29)) := (Below.refl _ _).alloc (Nat.le_refl _) _
 have k0 := Has.new w 29 #[I S, .slice A xs.length c, I d]
 have hr1 := hr.below hb1
 clear hr
 go_enter Tryz.func7, Tryz.ntmps7
 go_upto_region 1 with fail
 generalize w.alloc (.cells #[I S, .slice A xs.length c, I d] 29) = w1 at *
 have hl := k0.lt
 generalize hG : w.heap.size = g0 at *
 have HG := Lib.hid hG
 clear hG
 have c0 := k0.cellv 0 _ rfl
 have c1 := k0.cellv 1 _ rfl
 have c2 := k0.cellv 2 _ rfl
 have HC : Hid (Calls Tryz.prog 19 #[.agg #[I S, .slice A xs.length c, I d]] w1 (ErrPost w1 .ok)) := Lib.hid (by
  rw [← hok.out]
  exact check_any S d A c xs w1 (by omega) hc (hr1.more (Nat.le_of_lt hl)))
 go_upto_region 4 with (go_at_call 19; refine HC.out.mono ?_; rintro e w2 ⟨v, rfl, hv, hb2⟩; obtain rfl : v = .nilIface := hv)
 have hb9 : Below g0 w w2 := hb1.trans (hb2.mono (by omega))
 have HW := Lib.hid (vo_new_out win hw w2)
 have hrv : rangeV = .iface 73 (I 2) := rfl
 rw [hrv] at HW
 clear c0 c1 c2 hrv
 go_wp2_with (go_at_call 20; refine HW.out.mono ?_; rintro e w3 ⟨rfl, rfl⟩)
 go_ret2
 exact ⟨rfl, HG.out ▸ hb9⟩
end Go.Proofs.YtdhekhlmdefcnabGreatDoor
