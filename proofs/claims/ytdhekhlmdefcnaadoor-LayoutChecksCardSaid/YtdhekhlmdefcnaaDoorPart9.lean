/- Part 9 of the proof: RefList. -/
import Derived.Test.YtdhekhlmdefcnaaDoorPart8
/- Walks over the reference's in and list. -/
namespace Go.Proofs.YtdhekhlmdefcnaaDoor
open Go.RowKit
def inR (n a b : Int) : Bool := decide (a ≤ n) && decide (n ≤ b)
theorem in_any (n a b : Int) (w : World) : Calls Tryd.prog 78 #[.int .i64 n, .int .i64 a, .int .i64 b] w fun e w' => e = .returned (.bool (inR n a b)) ∧ w = w' := by
  by_cases h1 : a ≤ n
  · have t1 : decide (a ≤ n) = true := by simpa using h1
    by_cases h2 : n ≤ b
    · have t2 : decide (n ≤ b) = true := by simpa using h2
      have HR : Hid (inR n a b = true) := Lib.hid (by unfold inR; rw [t1, t2]; rfl)
      go_enter Tryd.func78, Tryd.ntmps78
      go_wp2
      go_ret
      exact ⟨by rw [HR.out]; rfl, rfl⟩
    · have t2 : decide (n ≤ b) = false := by simpa using h2
      have HR : Hid (inR n a b = false) := Lib.hid (by unfold inR; rw [t1, t2]; rfl)
      go_enter Tryd.func78, Tryd.ntmps78
      go_wp2
      go_ret
      exact ⟨by rw [HR.out]; rfl, rfl⟩
  · have t1 : decide (a ≤ n) = false := by simpa using h1
    have HR : Hid (inR n a b = false) := Lib.hid (by unfold inR; rw [t1]; rfl)
    go_enter Tryd.func78, Tryd.ntmps78
    go_wp2
    go_ret
    exact ⟨by rw [HR.out]; rfl, rfl⟩
/-- a frame's numbers -/
def numsL (f : List Int) : List Int := (idx (f.getD 0 0)).map fun i => f.getD i 0
theorem int_one (x y : Int) : ∀ u ∈ [Value.int .i64 x, Value.int .i64 y], u.oneCell' = true := by intro u hu; simp at hu; rcases hu with rfl | rfl <;> rfl
theorem infoI : (Tryd.prog.info? 3).map (fun i => (i.zero, i.size, i.bytes)) = some (some (.int .i64 0), 1, 8) := by kernel_rfl
theorem getD_int {f : List Int} {i : Nat} {x : Int} (h : f[i]? = some x) : f.getD i 0 = x := by rw [List.getD_eq_getElem?_getD, h]; rfl
set_option maxHeartbeats 4000000 in
set_option maxRecDepth 100000 in
theorem list_few (f : List Int) (w : World) (hf : Wf f) (x0 : Int) (hx0 : f[0]? = some x0) (hidx : idx x0 = [0, 1, 2]) (h1 : inR x0 1 3 = false) (h2 : inR x0 2 3 = false) (h5 : (x0 == 5) = false) :
    Calls Tryd.prog 73 #[.agg (frC f)] w fun e w' => (∃ A c, e = .returned (.slice A 3 c) ∧ w'.ownsRow w.heap.size 3 1 (.slice A 3 c) 3 (ints (numsL f))) ∧ Below w.heap.size w w' := by
  obtain ⟨i0, hi0, hz0, hz1, hz2⟩ := info_parts infoI
  obtain ⟨x1, hx1⟩ := some_at f 1 (by rw [hf.1]; decide)
  obtain ⟨x2, hx2⟩ := some_at f 2 (by rw [hf.1]; decide)
  obtain ⟨x3, hx3⟩ := some_at f 3 (by rw [hf.1]; decide)
  obtain ⟨x4, hx4⟩ := some_at f 4 (by rw [hf.1]; decide)
  obtain ⟨x5, hx5⟩ := some_at f 5 (by rw [hf.1]; decide)
  have HX0 : Hid (f.getD 0 0 = x0) := Lib.hid (getD_int hx0)
  have HF := Lib.hid hf
  have HN : Hid (numsL f = [x0, x1, x2]) := Lib.hid (by unfold numsL; rw [HX0.out, hidx]; simp [List.getD_eq_getElem?_getD, hx0, hx1, hx2, hx3, hx4, hx5])
  rw [HN.out]
  have k0 := Has.new w 45 (frC f)
  have hb : Below w.heap.size w (w.alloc (.cells (frC f) 45)) := (Below.refl _ _).alloc (Nat.le_refl _) _
  have F0 := Lib.hid (frC_get f 0 x0 hx0)
  have c0 := k0.cellv 0 _ F0.out
  have F1 := Lib.hid (frC_get f 1 x1 hx1)
  have c1 := k0.cellv 1 _ F1.out
  have F2 := Lib.hid (frC_get f 2 x2 hx2)
  have c2 := k0.cellv 2 _ F2.out
  have F3 := Lib.hid (frC_get f 3 x3 hx3)
  have c3 := k0.cellv 3 _ F3.out
  have F4 := Lib.hid (frC_get f 4 x4 hx4)
  have c4 := k0.cellv 4 _ F4.out
  have F5 := Lib.hid (frC_get f 5 x5 hx5)
  have c5 := k0.cellv 5 _ F5.out
  clear hidx hx0 hx1 hx2 hx3 hx4 hx5 hf
  go_enter Tryd.func73, Tryd.ntmps73
  go_upto_region 1 with (fail)
  generalize w.alloc (.cells (frC f) 45) = w1 at *
  have hl := k0.lt
  generalize hG : w.heap.size = g0 at *
  have HG := Lib.hid hG
  clear hG
  have H1 := Lib.hid (own_new (w := w1) (base := g0) (e := 3) #[I x0, I x1, I x2] 3 (Nat.le_of_lt hl) rfl (by decide))
  have hb1 : Below g0 w (w1.alloc (.cells #[I x0, I x1, I x2] 3)) := hb.alloc (Nat.le_of_lt hl) _
  go_wp2_with (go_at_call 78; refine (in_any _ _ _ _).mono ?_; rintro e w9 ⟨rfl, rfl⟩)
  go_ret
  exact ⟨⟨_, 3, rfl, HG.out ▸ H1.out⟩, HG.out ▸ hb1⟩
set_option maxHeartbeats 4000000 in
set_option maxRecDepth 100000 in
theorem list_one (f : List Int) (w : World) (hf : Wf f) (x0 : Int) (hx0 : f[0]? = some x0) (hidx : idx x0 = [0, 1, 2, 3, 4]) (h1 : inR x0 1 3 = true) (h2 : inR x0 2 3 = false) (h5 : (x0 == 5) = false) :
    Calls Tryd.prog 73 #[.agg (frC f)] w fun e w' => (∃ A c, e = .returned (.slice A 5 c) ∧ w'.ownsRow w.heap.size 3 1 (.slice A 5 c) 5 (ints (numsL f))) ∧ Below w.heap.size w w' := by
  obtain ⟨i0, hi0, hz0, hz1, hz2⟩ := info_parts infoI
  obtain ⟨x1, hx1⟩ := some_at f 1 (by rw [hf.1]; decide)
  obtain ⟨x2, hx2⟩ := some_at f 2 (by rw [hf.1]; decide)
  obtain ⟨x3, hx3⟩ := some_at f 3 (by rw [hf.1]; decide)
  obtain ⟨x4, hx4⟩ := some_at f 4 (by rw [hf.1]; decide)
  obtain ⟨x5, hx5⟩ := some_at f 5 (by rw [hf.1]; decide)
  have HX0 : Hid (f.getD 0 0 = x0) := Lib.hid (getD_int hx0)
  have HF := Lib.hid hf
  have HN : Hid (numsL f = [x0, x1, x2, x3, x4]) := Lib.hid (by unfold numsL; rw [HX0.out, hidx]; simp [List.getD_eq_getElem?_getD, hx0, hx1, hx2, hx3, hx4, hx5])
  rw [HN.out]
  have k0 := Has.new w 45 (frC f)
  have hb : Below w.heap.size w (w.alloc (.cells (frC f) 45)) := (Below.refl _ _).alloc (Nat.le_refl _) _
  have F0 := Lib.hid (frC_get f 0 x0 hx0)
  have c0 := k0.cellv 0 _ F0.out
  have F1 := Lib.hid (frC_get f 1 x1 hx1)
  have c1 := k0.cellv 1 _ F1.out
  have F2 := Lib.hid (frC_get f 2 x2 hx2)
  have c2 := k0.cellv 2 _ F2.out
  have F3 := Lib.hid (frC_get f 3 x3 hx3)
  have c3 := k0.cellv 3 _ F3.out
  have F4 := Lib.hid (frC_get f 4 x4 hx4)
  have c4 := k0.cellv 4 _ F4.out
  have F5 := Lib.hid (frC_get f 5 x5 hx5)
  have c5 := k0.cellv 5 _ F5.out
  clear hidx hx0 hx1 hx2 hx3 hx4 hx5 hf
  go_enter Tryd.func73, Tryd.ntmps73
  go_upto_region 1 with (fail)
  generalize w.alloc (.cells (frC f) 45) = w1 at *
  have hl := k0.lt
  generalize hG : w.heap.size = g0 at *
  have HG := Lib.hid hG
  clear hG
  have H1 := Lib.hid (own_new (w := w1) (base := g0) (e := 3) #[I x0, I x1, I x2] 3 (Nat.le_of_lt hl) rfl (by decide))
  have hb1 : Below g0 w (w1.alloc (.cells #[I x0, I x1, I x2] 3)) := hb.alloc (Nat.le_of_lt hl) _
  go_upto_region 3 with (go_at_call 78; refine (in_any _ _ _ _).mono ?_; rintro e w9 ⟨rfl, rfl⟩)
  have k1 := k0.alloc (.cells #[I x0, I x1, I x2] 3)
  have d0 := k1.cellv 0 _ F0.out
  have d1 := k1.cellv 1 _ F1.out
  have d2 := k1.cellv 2 _ F2.out
  have d3 := k1.cellv 3 _ F3.out
  have d4 := k1.cellv 4 _ F4.out
  have d5 := k1.cellv 5 _ F5.out
  clear c0 c1 c2 c3 c4 c5 k0 hb
  generalize w1.alloc (.cells #[I x0, I x1, I x2] 3) = w2 at *
  have hb2 := hb1
  have hs2 := Nat.le_of_lt k1.lt
  go_wp2_with (first
    | (go_at_call 78; refine (in_any _ _ _ _).mono ?_; rintro e w9 ⟨rfl, rfl⟩)
    | (at_builtin; refine wpList_append_own _ rfl _ _ 22 rfl g0 3 i0 (.int .i64 0) 1 8 Tryd.underlying22 hi0 hz0 hz1 hz2 rfl (by decide) _ _ _ rfl (World.ownsRow.alloc H1.out _) ⟨w2.heap.size, 0, none⟩ 2 2 [I x3, I x4] rfl rfl ?a1 ?a2 ?a3 ?a4 ?a5 ?_))
  case a1 => exact cells_new _ #[I x3, I x4] _
  case a2 => intro u hu; simp at hu; rcases hu with rfl | rfl <;> rfl
  case a3 => decide
  case a4 => decide
  case a5 => simp <;> omega
  intro v3 w3 hown3 hgrow3 _
  have hb3 : Below g0 w w3 := (hb2.alloc hs2 _).grown hgrow3 (by simp <;> omega) (fun q hq => by have := (H1.out.lt q hq).1; omega)
  have k3 : Has w3 g0 45 (frC f) := (k1.alloc _).grown hgrow3 (own_ne H1.out k1 (by decide))
  have H3 := Lib.hid hown3
  have e0 := k3.cellv 0 _ F0.out
  clear d0 d1 d2 d3 d4 d5 k1 hb1 hb2 hgrow3 hown3 H1
  go_wp2_with (go_at_call 78; refine (in_any _ _ _ _).mono ?_; rintro e w9 ⟨rfl, rfl⟩)
  go_ret
  obtain ⟨A, c, rfl, -⟩ := own_reads H3.out
  exact ⟨⟨A, c, rfl, HG.out ▸ H3.out⟩, HG.out ▸ hb3⟩
set_option maxHeartbeats 4000000 in
set_option maxRecDepth 100000 in
theorem list_two (f : List Int) (w : World) (hf : Wf f) (x0 : Int) (hx0 : f[0]? = some x0) (hidx : idx x0 = [0, 1, 2, 3, 4, 5]) (h1 : inR x0 1 3 = true) (h2 : inR x0 2 3 = true) (h5 : (x0 == 5) = false) :
    Calls Tryd.prog 73 #[.agg (frC f)] w fun e w' => (∃ A c, e = .returned (.slice A 6 c) ∧ w'.ownsRow w.heap.size 3 1 (.slice A 6 c) 6 (ints (numsL f))) ∧ Below w.heap.size w w' := by
  obtain ⟨i0, hi0, hz0, hz1, hz2⟩ := info_parts infoI
  obtain ⟨x1, hx1⟩ := some_at f 1 (by rw [hf.1]; decide)
  obtain ⟨x2, hx2⟩ := some_at f 2 (by rw [hf.1]; decide)
  obtain ⟨x3, hx3⟩ := some_at f 3 (by rw [hf.1]; decide)
  obtain ⟨x4, hx4⟩ := some_at f 4 (by rw [hf.1]; decide)
  obtain ⟨x5, hx5⟩ := some_at f 5 (by rw [hf.1]; decide)
  have HX0 : Hid (f.getD 0 0 = x0) := Lib.hid (getD_int hx0)
  have HF := Lib.hid hf
  have HN : Hid (numsL f = [x0, x1, x2, x3, x4, x5]) := Lib.hid (by unfold numsL; rw [HX0.out, hidx]; simp [List.getD_eq_getElem?_getD, hx0, hx1, hx2, hx3, hx4, hx5])
  rw [HN.out]
  have k0 := Has.new w 45 (frC f)
  have hb : Below w.heap.size w (w.alloc (.cells (frC f) 45)) := (Below.refl _ _).alloc (Nat.le_refl _) _
  have F0 := Lib.hid (frC_get f 0 x0 hx0)
  have c0 := k0.cellv 0 _ F0.out
  have F1 := Lib.hid (frC_get f 1 x1 hx1)
  have c1 := k0.cellv 1 _ F1.out
  have F2 := Lib.hid (frC_get f 2 x2 hx2)
  have c2 := k0.cellv 2 _ F2.out
  have F3 := Lib.hid (frC_get f 3 x3 hx3)
  have c3 := k0.cellv 3 _ F3.out
  have F4 := Lib.hid (frC_get f 4 x4 hx4)
  have c4 := k0.cellv 4 _ F4.out
  have F5 := Lib.hid (frC_get f 5 x5 hx5)
  have c5 := k0.cellv 5 _ F5.out
  clear hidx hx0 hx1 hx2 hx3 hx4 hx5 hf
  go_enter Tryd.func73, Tryd.ntmps73
  go_upto_region 1 with (fail)
  generalize w.alloc (.cells (frC f) 45) = w1 at *
  have hl := k0.lt
  generalize hG : w.heap.size = g0 at *
  have HG := Lib.hid hG
  clear hG
  have H1 := Lib.hid (own_new (w := w1) (base := g0) (e := 3) #[I x0, I x1, I x2] 3 (Nat.le_of_lt hl) rfl (by decide))
  have hb1 : Below g0 w (w1.alloc (.cells #[I x0, I x1, I x2] 3)) := hb.alloc (Nat.le_of_lt hl) _
  go_upto_region 3 with (go_at_call 78; refine (in_any _ _ _ _).mono ?_; rintro e w9 ⟨rfl, rfl⟩)
  have k1 := k0.alloc (.cells #[I x0, I x1, I x2] 3)
  have d0 := k1.cellv 0 _ F0.out
  have d1 := k1.cellv 1 _ F1.out
  have d2 := k1.cellv 2 _ F2.out
  have d3 := k1.cellv 3 _ F3.out
  have d4 := k1.cellv 4 _ F4.out
  have d5 := k1.cellv 5 _ F5.out
  clear c0 c1 c2 c3 c4 c5 k0 hb
  generalize w1.alloc (.cells #[I x0, I x1, I x2] 3) = w2 at *
  have hb2 := hb1
  have hs2 := Nat.le_of_lt k1.lt
  go_upto_region 5 with (first
    | (go_at_call 78; refine (in_any _ _ _ _).mono ?_; rintro e w9 ⟨rfl, rfl⟩)
    | (at_builtin; refine wpList_append_own _ rfl _ _ 22 rfl g0 3 i0 (.int .i64 0) 1 8 Tryd.underlying22 hi0 hz0 hz1 hz2 rfl (by decide) _ _ _ rfl (World.ownsRow.alloc H1.out _) ⟨w2.heap.size, 0, none⟩ 2 2 [I x3, I x4] rfl rfl ?a1 ?a2 ?a3 ?a4 ?a5 ?_))
  case a1 => exact cells_new _ #[I x3, I x4] _
  case a2 => intro u hu; simp at hu; rcases hu with rfl | rfl <;> rfl
  case a3 => decide
  case a4 => decide
  case a5 => simp <;> omega
  intro v3 w3 hown3 hgrow3 _
  have hb3 : Below g0 w w3 := (hb2.alloc hs2 _).grown hgrow3 (by simp <;> omega) (fun q hq => by have := (H1.out.lt q hq).1; omega)
  have k3 : Has w3 g0 45 (frC f) := (k1.alloc _).grown hgrow3 (own_ne H1.out k1 (by decide))
  have H3 := Lib.hid hown3
  have e0 := k3.cellv 0 _ F0.out
  have e5 := k3.cellv 5 _ F5.out
  have hs3 := Nat.le_of_lt k3.lt
  clear d0 d1 d2 d3 d4 d5 k1 hb1 hb2 hgrow3 hown3 H1
  go_upto_region 5 with (go_at_call 78; refine (in_any _ _ _ _).mono ?_; rintro e w9 ⟨rfl, rfl⟩)
  go_wp2_with (first
    | (go_at_call 78; refine (in_any _ _ _ _).mono ?_; rintro e w9 ⟨rfl, rfl⟩)
    | (at_builtin; refine wpList_append_own _ rfl _ _ 22 rfl g0 3 i0 (.int .i64 0) 1 8 Tryd.underlying22 hi0 hz0 hz1 hz2 rfl (by decide) _ _ _ rfl (World.ownsRow.alloc H3.out _) ⟨w3.heap.size, 0, none⟩ 1 1 [I x5] rfl rfl ?b1 ?b2 ?b3 ?b4 ?b5 ?_))
  case b1 => exact cells_new _ #[I x5] _
  case b2 => intro u hu; simp at hu; subst hu; rfl
  case b3 => decide
  case b4 => decide
  case b5 => simp <;> omega
  intro v5 w5 hown5 hgrow5 _
  have hb5 : Below g0 w w5 := (hb3.alloc hs3 _).grown hgrow5 (by simp <;> omega) (fun q hq => by have := (H3.out.lt q hq).1; omega)
  have k5 : Has w5 g0 45 (frC f) := (k3.alloc _).grown hgrow5 (own_ne H3.out k3 (by decide))
  have H5 := Lib.hid hown5
  have e6 := k5.cellv 0 _ F0.out
  clear e0 e5 k3 hb3 hgrow5 hown5 H3
  go_wp2_with (go_at_call 78; refine (in_any _ _ _ _).mono ?_; rintro e w9 ⟨rfl, rfl⟩)
  go_ret
  obtain ⟨A, c, rfl, -⟩ := own_reads H5.out
  exact ⟨⟨A, c, rfl, HG.out ▸ H5.out⟩, HG.out ▸ hb5⟩
def altI : List Nat := [0, 1, 2, 6, 7, 15, 8, 16, 9, 17, 10, 18, 11, 19, 12, 20, 13, 21, 14, 22]
theorem alt_take (f : List Int) (j : Nat) (h : j < 8) : ints ((altI.take (4 + 2 * (j + 1))).map fun i => f.getD i 0) = ints ((altI.take (4 + 2 * j)).map fun i => f.getD i 0) ++ [I (f.getD (7 + j) 0), I (f.getD (15 + j) 0)] := by
  have : j = 0 ∨ j = 1 ∨ j = 2 ∨ j = 3 ∨ j = 4 ∨ j = 5 ∨ j = 6 ∨ j = 7 := by omega
  rcases this with rfl | rfl | rfl | rfl | rfl | rfl | rfl | rfl <;> rfl
set_option maxHeartbeats 4000000 in
set_option maxRecDepth 100000 in
theorem list_five (f : List Int) (w : World) (hf : Wf f) (x0 : Int) (hx0 : f[0]? = some x0) (hidx : idx x0 = [0, 1, 2, 6, 7, 15, 8, 16, 9, 17, 10, 18, 11, 19, 12, 20, 13, 21, 14, 22]) (h1 : inR x0 1 3 = false) (h2 : inR x0 2 3 = false) (h5 : (x0 == 5) = true) :
    Calls Tryd.prog 73 #[.agg (frC f)] w fun e w' => (∃ A c, e = .returned (.slice A 20 c) ∧ w'.ownsRow w.heap.size 3 1 (.slice A 20 c) 20 (ints (numsL f))) ∧ Below w.heap.size w w' := by
  obtain ⟨i0, hi0, hz0, hz1, hz2⟩ := info_parts infoI
  obtain ⟨x1, hx1⟩ := some_at f 1 (by rw [hf.1]; decide)
  obtain ⟨x2, hx2⟩ := some_at f 2 (by rw [hf.1]; decide)
  obtain ⟨x3, hx3⟩ := some_at f 3 (by rw [hf.1]; decide)
  obtain ⟨x4, hx4⟩ := some_at f 4 (by rw [hf.1]; decide)
  obtain ⟨x5, hx5⟩ := some_at f 5 (by rw [hf.1]; decide)
  obtain ⟨x6, hx6⟩ := some_at f 6 (by rw [hf.1]; decide)
  have HX0 : Hid (f.getD 0 0 = x0) := Lib.hid (getD_int hx0)
  have HN : Hid (numsL f = altI.map fun i => f.getD i 0) := Lib.hid (by unfold numsL; rw [HX0.out, hidx]; rfl)
  have HN0 : Hid ((altI.take 4).map (fun i => f.getD i 0) = [x0, x1, x2, x6]) := Lib.hid (by simp [altI, List.getD_eq_getElem?_getD, hx0, hx1, hx2, hx6])
  have HF := Lib.hid hf
  have k0 := Has.new w 45 (frC f)
  have hb : Below w.heap.size w (w.alloc (.cells (frC f) 45)) := (Below.refl _ _).alloc (Nat.le_refl _) _
  have F0 := Lib.hid (frC_get f 0 x0 hx0)
  have c0 := k0.cellv 0 _ F0.out
  have F1 := Lib.hid (frC_get f 1 x1 hx1)
  have c1 := k0.cellv 1 _ F1.out
  have F2 := Lib.hid (frC_get f 2 x2 hx2)
  have c2 := k0.cellv 2 _ F2.out
  have F3 := Lib.hid (frC_get f 3 x3 hx3)
  have c3 := k0.cellv 3 _ F3.out
  have F4 := Lib.hid (frC_get f 4 x4 hx4)
  have c4 := k0.cellv 4 _ F4.out
  have F5 := Lib.hid (frC_get f 5 x5 hx5)
  have c5 := k0.cellv 5 _ F5.out
  have F6 := Lib.hid (frC_get f 6 x6 hx6)
  have c6 := k0.cellv 6 _ F6.out
  clear hidx hx0 hx1 hx2 hx3 hx4 hx5 hx6 hf
  go_enter Tryd.func73, Tryd.ntmps73
  go_upto_region 1 with (fail)
  generalize w.alloc (.cells (frC f) 45) = w1 at *
  have hl := k0.lt
  generalize hG : w.heap.size = g0 at *
  have HG := Lib.hid hG
  clear hG
  have H1 := Lib.hid (own_new (w := w1) (base := g0) (e := 3) #[I x0, I x1, I x2] 3 (Nat.le_of_lt hl) rfl (by decide))
  have hb1 : Below g0 w (w1.alloc (.cells #[I x0, I x1, I x2] 3)) := hb.alloc (Nat.le_of_lt hl) _
  go_upto_region 7 with (go_at_call 78; refine (in_any _ _ _ _).mono ?_; rintro e w9 ⟨rfl, rfl⟩)
  have k1 := k0.alloc (.cells #[I x0, I x1, I x2] 3)
  have d0 := k1.cellv 0 _ F0.out
  have d1 := k1.cellv 1 _ F1.out
  have d2 := k1.cellv 2 _ F2.out
  have d3 := k1.cellv 3 _ F3.out
  have d4 := k1.cellv 4 _ F4.out
  have d5 := k1.cellv 5 _ F5.out
  have d6 := k1.cellv 6 _ F6.out
  clear c0 c1 c2 c3 c4 c5 c6 k0 hb
  generalize w1.alloc (.cells #[I x0, I x1, I x2] 3) = w2 at *
  have hb2 := hb1
  have hs2 := Nat.le_of_lt k1.lt
  go_wp2_with (first
    | (go_at_call 78; refine (in_any _ _ _ _).mono ?_; rintro e w9 ⟨rfl, rfl⟩)
    | (at_builtin; refine wpList_append_own _ rfl _ _ 22 rfl g0 3 i0 (.int .i64 0) 1 8 Tryd.underlying22 hi0 hz0 hz1 hz2 rfl (by decide) _ _ _ rfl (World.ownsRow.alloc H1.out _) ⟨w2.heap.size, 0, none⟩ 1 1 [I x6] rfl rfl ?a1 ?a2 ?a3 ?a4 ?a5 ?_))
  case a1 => exact cells_new _ #[I x6] _
  case a2 => intro u hu; simp at hu; subst hu; rfl
  case a3 => decide
  case a4 => decide
  case a5 => simp <;> omega
  intro v3 w3 hown3 hgrow3 _
  have hb3 : Below g0 w w3 := (hb2.alloc hs2 _).grown hgrow3 (by simp <;> omega) (fun q hq => by have := (H1.out.lt q hq).1; omega)
  have k3 : Has w3 g0 45 (frC f) := (k1.alloc _).grown hgrow3 (own_ne H1.out k1 (by decide))
  have H3 := Lib.hid hown3
  clear d0 d1 d2 d3 d4 d5 d6 k1 hb1 hb2 hgrow3 hown3 H1
  go_wp2_with fail
  go_loopw [3, 41] (fun v i wr => ∃ j : Nat, j ≤ 8 ∧ i = I j ∧ Hid (wr.ownsRow g0 3 1 v (4 + 2 * j) (ints ((altI.take (4 + 2 * j)).map fun i => f.getD i 0))) ∧ Has wr g0 45 (frC f) ∧ Below g0 w wr) (fun _ i _ => 8 - (intOf i).toNat)
  case atStart => exact ⟨0, by omega, rfl, by rw [HN0.out]; exact H3, k3, hb3⟩
  case round =>
    obtain ⟨j, hj, rfl, HO, ka, hbr⟩ := hrel
    by_cases hlt : j < 8
    · obtain ⟨y, hy⟩ := some_at f (7 + j) (by rw [HF.out.1]; omega)
      obtain ⟨z, hz⟩ := some_at f (15 + j) (by rw [HF.out.1]; omega)
      have c7 := ka.cellv (7 + j) _ (frC_get f _ y hy)
      have c15 := ka.cellv (15 + j) _ (frC_get f _ z hz)
      have HP : Hid (ints ((altI.take (4 + 2 * (j + 1))).map fun i => f.getD i 0) = ints ((altI.take (4 + 2 * j)).map fun i => f.getD i 0) ++ [I y, I z]) := Lib.hid (by rw [alt_take f j hlt, getD_int hy, getD_int hz])
      have hsr := Nat.le_of_lt ka.lt
      have hga := ka.lt
      clear hy hz
      go_wp2_with fail
      go_region_law ((refine step_append_own rfl _ _ 22 rfl g0 3 i0 (.int .i64 0) 1 8 Tryd.underlying22 hi0 hz0 hz1 hz2 rfl (by decide) _ (4 + 2 * j) _ rfl (World.ownsRow.alloc HO.out _) _ 2 2 _ rfl rfl (cells_new _ _ _) (by intro u hu; simp at hu; rcases hu with rfl | rfl <;> rfl) (by unfold maxLen; omega) (by omega) (by simp <;> omega) ?_; intro v4 w4 hown4 hgrow4))
      all_goals
        have hb4 : Below g0 w w4 := ((hbr.alloc hsr _).drew).grown hgrow4 (by simp <;> omega) (fun q hq => (HO.out.lt q hq).1)
        have ka4 : Has w4 g0 45 (frC f) := ((ka.alloc _).drew).grown hgrow4 (own_ne HO.out ka (by decide))
        have HO4 : Hid (w4.ownsRow g0 3 1 v4 (4 + 2 * (j + 1)) (ints ((altI.take (4 + 2 * (j + 1))).map fun i => f.getD i 0))) := Lib.hid (by rw [HP.out]; exact hown4)
        clear hown4 hgrow4 HO ka c7 c15 HP
        go_wp2_with fail
        go_roundw
        case rel => exact ⟨j + 1, by omega, by go_num, HO4, ka4, hb4⟩
        case measure => simp [intOf]; omega
    · have hj8 : j = 8 := by omega
      subst hj8
      go_wp2_with fail
      go_ret
      obtain ⟨A, c, rfl, -⟩ := own_reads HO.out
      refine ⟨⟨A, c, rfl, ?_⟩, HG.out ▸ hbr⟩
      rw [HN.out, HG.out]
      exact HO.out
/-- list: the frame's numbers. -/
theorem list_ok (f : List Int) (w : World) (hf : Wf f) :
    Calls Tryd.prog 73 #[.agg (frC f)] w fun e w' => (∃ A c, e = .returned (.slice A (idx (f.getD 0 0)).length c) ∧ w'.ownsRow w.heap.size 3 1 (.slice A (idx (f.getD 0 0)).length c) (idx (f.getD 0 0)).length (ints (numsL f))) ∧ Below w.heap.size w w' := by
  obtain ⟨x0, hx0⟩ := some_at f 0 (by rw [hf.1]; decide)
  rw [getD_int hx0]
  rcases idx_cases x0 with ⟨rfl, e⟩ | ⟨rfl, e⟩ | ⟨rfl, e⟩ | ⟨rfl, e⟩ | ⟨h1, h2, h3, h5, e⟩ <;> rw [e]
  · exact list_one f w hf 1 hx0 e rfl rfl rfl
  · exact list_two f w hf 2 hx0 e rfl rfl rfl
  · exact list_two f w hf 3 hx0 e rfl rfl rfl
  · exact list_five f w hf 5 hx0 e rfl rfl rfl
  · exact list_few f w hf x0 hx0 e (by unfold inR; simp; omega) (by unfold inR; simp; omega) (by simpa using h5)
end Go.Proofs.YtdhekhlmdefcnaaDoor
