/- The walk over given (printed by wip/gengiven.py). -/
import Derived.Test.YtdhekhlmdefcnaaDoorRefEnc
import Derived.Test.YtdhekhlmdefcnaaDoorBare
namespace Go.Proofs.YtdhekhlmdefcnaaDoor
open Go.RowKit
theorem list23 (f : List Int) (h : f.length = 23) : f = [f.getD 0 0, f.getD 1 0, f.getD 2 0, f.getD 3 0, f.getD 4 0, f.getD 5 0, f.getD 6 0, f.getD 7 0, f.getD 8 0, f.getD 9 0, f.getD 10 0, f.getD 11 0, f.getD 12 0, f.getD 13 0, f.getD 14 0, f.getD 15 0, f.getD 16 0, f.getD 17 0, f.getD 18 0, f.getD 19 0, f.getD 20 0, f.getD 21 0, f.getD 22 0] := by
  apply List.ext_getElem? ; intro i
  by_cases hi : i < 23
  · have : i = 0 ∨ i = 1 ∨ i = 2 ∨ i = 3 ∨ i = 4 ∨ i = 5 ∨ i = 6 ∨ i = 7 ∨ i = 8 ∨ i = 9 ∨ i = 10 ∨ i = 11 ∨ i = 12 ∨ i = 13 ∨ i = 14 ∨ i = 15 ∨ i = 16 ∨ i = 17 ∨ i = 18 ∨ i = 19 ∨ i = 20 ∨ i = 21 ∨ i = 22 := by omega
    rcases this with rfl | rfl | rfl | rfl | rfl | rfl | rfl | rfl | rfl | rfl | rfl | rfl | rfl | rfl | rfl | rfl | rfl | rfl | rfl | rfl | rfl | rfl | rfl <;> simp [List.getD_eq_getElem?_getD, h]
  · rw [List.getElem?_eq_none (by omega), List.getElem?_eq_none (by simp; omega)]
theorem getD_nat {f : List Int} {i : Nat} {x : Int} (h : f[i]? = some x) : f.getD i 0 = x := getD_int h
set_option maxHeartbeats 4000000 in
set_option maxRecDepth 100000 in
theorem given_ok (f : List Int) (hf : Wf f) (w : World) : Calls Tryd.prog 17 #[.agg (frC f)] w fun e w' => e = .returned (.agg (frC f)) ∧ Below w.heap.size w w' := by
  have k0 := Has.new w 40 (frC f)
  have hb : Below w.heap.size w (w.alloc (.cells (frC f) 40)) := (Below.refl _ _).alloc (Nat.le_refl _) _
  have hs2 : Hid ((Tryd.prog.info? 45).map (·.size) = some (frC f).size) := Lib.hid (refSize _ hf.1)
  have hs3 : Hid ((frC zeroF).size = (frC f).size) := Lib.hid (by rw [frC_size _ hf.1]; rfl)
  have hsz1 : (w.alloc (.cells (frC f) 40)).heap.size = w.heap.size + 1 := by simp
  obtain ⟨x0, hx0⟩ := some_at f 0 (by rw [hf.1]; decide)
  obtain ⟨x1, hx1⟩ := some_at f 1 (by rw [hf.1]; decide)
  obtain ⟨x2, hx2⟩ := some_at f 2 (by rw [hf.1]; decide)
  obtain ⟨x3, hx3⟩ := some_at f 3 (by rw [hf.1]; decide)
  obtain ⟨x4, hx4⟩ := some_at f 4 (by rw [hf.1]; decide)
  obtain ⟨x5, hx5⟩ := some_at f 5 (by rw [hf.1]; decide)
  obtain ⟨x6, hx6⟩ := some_at f 6 (by rw [hf.1]; decide)
  obtain ⟨x7, hx7⟩ := some_at f 7 (by rw [hf.1]; decide)
  obtain ⟨x8, hx8⟩ := some_at f 8 (by rw [hf.1]; decide)
  obtain ⟨x9, hx9⟩ := some_at f 9 (by rw [hf.1]; decide)
  obtain ⟨x10, hx10⟩ := some_at f 10 (by rw [hf.1]; decide)
  obtain ⟨x11, hx11⟩ := some_at f 11 (by rw [hf.1]; decide)
  obtain ⟨x12, hx12⟩ := some_at f 12 (by rw [hf.1]; decide)
  obtain ⟨x13, hx13⟩ := some_at f 13 (by rw [hf.1]; decide)
  obtain ⟨x14, hx14⟩ := some_at f 14 (by rw [hf.1]; decide)
  obtain ⟨x15, hx15⟩ := some_at f 15 (by rw [hf.1]; decide)
  obtain ⟨x16, hx16⟩ := some_at f 16 (by rw [hf.1]; decide)
  obtain ⟨x17, hx17⟩ := some_at f 17 (by rw [hf.1]; decide)
  obtain ⟨x18, hx18⟩ := some_at f 18 (by rw [hf.1]; decide)
  obtain ⟨x19, hx19⟩ := some_at f 19 (by rw [hf.1]; decide)
  obtain ⟨x20, hx20⟩ := some_at f 20 (by rw [hf.1]; decide)
  obtain ⟨x21, hx21⟩ := some_at f 21 (by rw [hf.1]; decide)
  obtain ⟨x22, hx22⟩ := some_at f 22 (by rw [hf.1]; decide)
  have hF : frC f = #[I x0, I x1, I x2, I x3, I x4, I x5, I x6, I x7, I x8, I x9, I x10, I x11, I x12, I x13, I x14, I x15, I x16, I x17, I x18, I x19, I x20, I x21, I x22] := by
    conv => lhs; rw [list23 f hf.1, getD_nat hx0, getD_nat hx1, getD_nat hx2, getD_nat hx3, getD_nat hx4, getD_nat hx5, getD_nat hx6, getD_nat hx7, getD_nat hx8, getD_nat hx9, getD_nat hx10, getD_nat hx11, getD_nat hx12, getD_nat hx13, getD_nat hx14, getD_nat hx15, getD_nat hx16, getD_nat hx17, getD_nat hx18, getD_nat hx19, getD_nat hx20, getD_nat hx21, getD_nat hx22]
    rfl
  have HF := Lib.hid hF
  clear hF
  go_enter Tryd.func17, Tryd.ntmps17
  go_upto_region 1 with fail
  generalize w.alloc (.cells (frC f) 40) = w1 at *
  have hl := k0.lt
  have kz : Has (w1.alloc (.cells #[I 0, I 0, I 0, I 0, I 0, I 0, I 0, I 0, I 0, I 0, I 0, I 0, I 0, I 0, I 0, I 0, I 0, I 0, I 0, I 0, I 0, I 0, I 0] 45)) w1.heap.size 45 (frC zeroF) := by rw [zeroFrame]; exact Has.new _ _ _
  have kf := k0.alloc (.cells #[I 0, I 0, I 0, I 0, I 0, I 0, I 0, I 0, I 0, I 0, I 0, I 0, I 0, I 0, I 0, I 0, I 0, I 0, I 0, I 0, I 0, I 0, I 0] 45)
  have hb2 := hb.alloc (Nat.le_of_lt hl) (.cells #[I 0, I 0, I 0, I 0, I 0, I 0, I 0, I 0, I 0, I 0, I 0, I 0, I 0, I 0, I 0, I 0, I 0, I 0, I 0, I 0, I 0, I 0, I 0] 45)
  rw [hsz1] at kz
  generalize hG : w.heap.size = g0 at *
  have HG := Lib.hid hG
  clear hG
  generalize w1.alloc (.cells #[I 0, I 0, I 0, I 0, I 0, I 0, I 0, I 0, I 0, I 0, I 0, I 0, I 0, I 0, I 0, I 0, I 0, I 0, I 0, I 0, I 0, I 0, I 0] 45) = w2 at *
  have c0 := kf.cellv 0 _ (frC_get f _ x0 hx0)
  have c1 := kf.cellv 1 _ (frC_get f _ x1 hx1)
  have c2 := kf.cellv 2 _ (frC_get f _ x2 hx2)
  have c3 := kf.cellv 3 _ (frC_get f _ x3 hx3)
  have c4 := kf.cellv 4 _ (frC_get f _ x4 hx4)
  have c5 := kf.cellv 5 _ (frC_get f _ x5 hx5)
  have c6 := kf.cellv 6 _ (frC_get f _ x6 hx6)
  have c7 := kf.cellv 7 _ (frC_get f _ x7 hx7)
  have c8 := kf.cellv 8 _ (frC_get f _ x8 hx8)
  have c9 := kf.cellv 9 _ (frC_get f _ x9 hx9)
  have c10 := kf.cellv 10 _ (frC_get f _ x10 hx10)
  have c11 := kf.cellv 11 _ (frC_get f _ x11 hx11)
  have c12 := kf.cellv 12 _ (frC_get f _ x12 hx12)
  have c13 := kf.cellv 13 _ (frC_get f _ x13 hx13)
  have c14 := kf.cellv 14 _ (frC_get f _ x14 hx14)
  have c15 := kf.cellv 15 _ (frC_get f _ x15 hx15)
  have c16 := kf.cellv 16 _ (frC_get f _ x16 hx16)
  have c17 := kf.cellv 17 _ (frC_get f _ x17 hx17)
  have c18 := kf.cellv 18 _ (frC_get f _ x18 hx18)
  have c19 := kf.cellv 19 _ (frC_get f _ x19 hx19)
  have c20 := kf.cellv 20 _ (frC_get f _ x20 hx20)
  have c21 := kf.cellv 21 _ (frC_get f _ x21 hx21)
  have c22 := kf.cellv 22 _ (frC_get f _ x22 hx22)
  clear hx0 hx1 hx2 hx3 hx4 hx5 hx6 hx7 hx8 hx9 hx10 hx11 hx12 hx13 hx14 hx15 hx16 hx17 hx18 hx19 hx20 hx21 hx22
  go_wp2_with (refine wpList_store_row rfl 45 (.tmp 2) (.tmp 15) rfl (g0 + 1) (frC f) rfl (congrArg Value.agg HF.out.symm) 45 _ kz hs2.out hs3.out (frC_one _) ?_)
  exact bodyPost_ret (results_cell_row rfl _ _ (g0 + 1) _ (frC f) _ _ rfl (kz.setRow _) Tryd.underlying45 rfl hs2.out) rfl ⟨rfl, by rw [HG.out]; exact below_setRow hb2 (by omega) _⟩
end Go.Proofs.YtdhekhlmdefcnaaDoor
