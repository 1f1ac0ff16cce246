/- Part 9 of the proof: RefList, Equal, DecSpec, BackLaw, BurstLaw, Decode. -/
import Derived.Test.YtdhekhlmdefcnaaDoorPart8
import Derived.Test.YtdhekhlmdefcnaaDoorPart3
/- Walks over the reference's in and list. -/
namespace Go.Proofs.YtdhekhlmdefcnaaDoor
open Go.RowKit
def inR (n a b : Int) : Bool := decide (a ≤ n) && decide (n ≤ b)
theorem in_any (n a b : Int) (w : World) : Calls Tryd.prog 78 #[.int .i64 n, .int .i64 a, .int .i64 b] w fun e w' => e = .returned (.bool (inR n a b)) ∧ w = w' := by
  by_cases h1 : a ≤ n
  · have t1 : decide (a ≤ n) = true := by simpa using h1
    by_cases h2 : n ≤ b
    · have t2 : decide (n ≤ b) = true := by simpa using h2
      have HR : Hid (inR n a b = true) := Lib.hid (by unfold inR; rw [t1, t2]; rfl)
      go_enter Tryd.func78, Tryd.ntmps78
      go_wp2
      go_ret
      exact ⟨by rw [HR.out]; rfl, rfl⟩
    · have t2 : decide (n ≤ b) = false := by simpa using h2
      have HR : Hid (inR n a b = false) := Lib.hid (by unfold inR; rw [t1, t2]; rfl)
      go_enter Tryd.func78, Tryd.ntmps78
      go_wp2
      go_ret
      exact ⟨by rw [HR.out]; rfl, rfl⟩
  · have t1 : decide (a ≤ n) = false := by simpa using h1
    have HR : Hid (inR n a b = false) := Lib.hid (by unfold inR; rw [t1]; rfl)
    go_enter Tryd.func78, Tryd.ntmps78
    go_wp2
    go_ret
    exact ⟨by rw [HR.out]; rfl, rfl⟩
/-- a frame's numbers -/
def numsL (f : List Int) : List Int := (idx (f.getD 0 0)).map fun i => f.getD i 0
theorem int_one (x y : Int) : ∀ u ∈ [Value.int .i64 x, Value.int .i64 y], u.oneCell' = true := by intro u hu; simp at hu; rcases hu with rfl | rfl <;> rfl
theorem infoI : (Tryd.prog.info? 3).map (fun i => (i.zero, i.size, i.bytes)) = some (some (.int .i64 0), 1, 8) := by kernel_rfl
theorem getD_int {f : List Int} {i : Nat} {x : Int} (h : f[i]? = some x) : f.getD i 0 = x := by rw [List.getD_eq_getElem?_getD, h]; rfl
set_option maxHeartbeats 4000000 in
set_option maxRecDepth 100000 in
theorem list_few (f : List Int) (w : World) (hf : Wf f) (x0 : Int) (hx0 : f[0]? = some x0) (hidx : idx x0 = [0, 1, 2]) (h1 : inR x0 1 3 = false) (h2 : inR x0 2 3 = false) (h5 : (x0 == 5) = false) :
    Calls Tryd.prog 73 #[.agg (frC f)] w fun e w' => (∃ A c, e = .returned (.slice A 3 c) ∧ w'.ownsRow w.heap.size 3 1 (.slice A 3 c) 3 (ints (numsL f))) ∧ Below w.heap.size w w' := by
  obtain ⟨i0, hi0, hz0, hz1, hz2⟩ := info_parts infoI
  obtain ⟨x1, hx1⟩ := some_at f 1 (by rw [hf.1]; decide)
  obtain ⟨x2, hx2⟩ := some_at f 2 (by rw [hf.1]; decide)
  obtain ⟨x3, hx3⟩ := some_at f 3 (by rw [hf.1]; decide)
  obtain ⟨x4, hx4⟩ := some_at f 4 (by rw [hf.1]; decide)
  obtain ⟨x5, hx5⟩ := some_at f 5 (by rw [hf.1]; decide)
  have HX0 : Hid (f.getD 0 0 = x0) := Lib.hid (getD_int hx0)
  have HF := Lib.hid hf
  have HN : Hid (numsL f = [x0, x1, x2]) := Lib.hid (by unfold numsL; rw [HX0.out, hidx]; simp [List.getD_eq_getElem?_getD, hx0, hx1, hx2, hx3, hx4, hx5])
  rw [HN.out]
  have k0 := Has.new w 45 (frC f)
  have hb : Below w.heap.size w (w.alloc (.cells (frC f) 45)) := (Below.refl _ _).alloc (Nat.le_refl _) _
  have F0 := Lib.hid (frC_get f 0 x0 hx0)
  have c0 := k0.cellv 0 _ F0.out
  have F1 := Lib.hid (frC_get f 1 x1 hx1)
  have c1 := k0.cellv 1 _ F1.out
  have F2 := Lib.hid (frC_get f 2 x2 hx2)
  have c2 := k0.cellv 2 _ F2.out
  have F3 := Lib.hid (frC_get f 3 x3 hx3)
  have c3 := k0.cellv 3 _ F3.out
  have F4 := Lib.hid (frC_get f 4 x4 hx4)
  have c4 := k0.cellv 4 _ F4.out
  have F5 := Lib.hid (frC_get f 5 x5 hx5)
  have c5 := k0.cellv 5 _ F5.out
  clear hidx hx0 hx1 hx2 hx3 hx4 hx5 hf
  go_enter Tryd.func73, Tryd.ntmps73
  go_upto_region 1 with (fail)
  generalize w.alloc (.cells (frC f) 45) = w1 at *
  have hl := k0.lt
  generalize hG : w.heap.size = g0 at *
  have HG := Lib.hid hG
  clear hG
  have H1 := Lib.hid (own_new (w := w1) (base := g0) (e := 3) #[I x0, I x1, I x2] 3 (Nat.le_of_lt hl) rfl (by decide))
  have hb1 : Below g0 w (w1.alloc (.cells #[I x0, I x1, I x2] 3)) := hb.alloc (Nat.le_of_lt hl) _
  go_wp2_with (go_at_call 78; refine (in_any _ _ _ _).mono ?_; rintro e w9 ⟨rfl, rfl⟩)
  go_ret
  exact ⟨⟨_, 3, rfl, HG.out ▸ H1.out⟩, HG.out ▸ hb1⟩
set_option maxHeartbeats 4000000 in
set_option maxRecDepth 100000 in
theorem list_one (f : List Int) (w : World) (hf : Wf f) (x0 : Int) (hx0 : f[0]? = some x0) (hidx : idx x0 = [0, 1, 2, 3, 4]) (h1 : inR x0 1 3 = true) (h2 : inR x0 2 3 = false) (h5 : (x0 == 5) = false) :
    Calls Tryd.prog 73 #[.agg (frC f)] w fun e w' => (∃ A c, e = .returned (.slice A 5 c) ∧ w'.ownsRow w.heap.size 3 1 (.slice A 5 c) 5 (ints (numsL f))) ∧ Below w.heap.size w w' := by
  obtain ⟨i0, hi0, hz0, hz1, hz2⟩ := info_parts infoI
  obtain ⟨x1, hx1⟩ := some_at f 1 (by rw [hf.1]; decide)
  obtain ⟨x2, hx2⟩ := some_at f 2 (by rw [hf.1]; decide)
  obtain ⟨x3, hx3⟩ := some_at f 3 (by rw [hf.1]; decide)
  obtain ⟨x4, hx4⟩ := some_at f 4 (by rw [hf.1]; decide)
  obtain ⟨x5, hx5⟩ := some_at f 5 (by rw [hf.1]; decide)
  have HX0 : Hid (f.getD 0 0 = x0) := Lib.hid (getD_int hx0)
  have HF := Lib.hid hf
  have HN : Hid (numsL f = [x0, x1, x2, x3, x4]) := Lib.hid (by unfold numsL; rw [HX0.out, hidx]; simp [List.getD_eq_getElem?_getD, hx0, hx1, hx2, hx3, hx4, hx5])
  rw [HN.out]
  have k0 := Has.new w 45 (frC f)
  have hb : Below w.heap.size w (w.alloc (.cells (frC f) 45)) := (Below.refl _ _).alloc (Nat.le_refl _) _
  have F0 := Lib.hid (frC_get f 0 x0 hx0)
  have c0 := k0.cellv 0 _ F0.out
  have F1 := Lib.hid (frC_get f 1 x1 hx1)
  have c1 := k0.cellv 1 _ F1.out
  have F2 := Lib.hid (frC_get f 2 x2 hx2)
  have c2 := k0.cellv 2 _ F2.out
  have F3 := Lib.hid (frC_get f 3 x3 hx3)
  have c3 := k0.cellv 3 _ F3.out
  have F4 := Lib.hid (frC_get f 4 x4 hx4)
  have c4 := k0.cellv 4 _ F4.out
  have F5 := Lib.hid (frC_get f 5 x5 hx5)
  have c5 := k0.cellv 5 _ F5.out
  clear hidx hx0 hx1 hx2 hx3 hx4 hx5 hf
  go_enter Tryd.func73, Tryd.ntmps73
  go_upto_region 1 with (fail)
  generalize w.alloc (.cells (frC f) 45) = w1 at *
  have hl := k0.lt
  generalize hG : w.heap.size = g0 at *
  have HG := Lib.hid hG
  clear hG
  have H1 := Lib.hid (own_new (w := w1) (base := g0) (e := 3) #[I x0, I x1, I x2] 3 (Nat.le_of_lt hl) rfl (by decide))
  have hb1 : Below g0 w (w1.alloc (.cells #[I x0, I x1, I x2] 3)) := hb.alloc (Nat.le_of_lt hl) _
  go_upto_region 3 with (go_at_call 78; refine (in_any _ _ _ _).mono ?_; rintro e w9 ⟨rfl, rfl⟩)
  have k1 := k0.alloc (.cells #[I x0, I x1, I x2] 3)
  have d0 := k1.cellv 0 _ F0.out
  have d1 := k1.cellv 1 _ F1.out
  have d2 := k1.cellv 2 _ F2.out
  have d3 := k1.cellv 3 _ F3.out
  have d4 := k1.cellv 4 _ F4.out
  have d5 := k1.cellv 5 _ F5.out
  clear c0 c1 c2 c3 c4 c5 k0 hb
  generalize w1.alloc (.cells #[I x0, I x1, I x2] 3) = w2 at *
  have hb2 := hb1
  have hs2 := Nat.le_of_lt k1.lt
  go_wp2_with (first
    | (go_at_call 78; refine (in_any _ _ _ _).mono ?_; rintro e w9 ⟨rfl, rfl⟩)
    | (at_builtin; refine wpList_append_own _ rfl _ _ 22 rfl g0 3 i0 (.int .i64 0) 1 8 Tryd.underlying22 hi0 hz0 hz1 hz2 rfl (by decide) _ _ _ rfl (World.ownsRow.alloc H1.out _) ⟨w2.heap.size, 0, none⟩ 2 2 [I x3, I x4] rfl rfl ?a1 ?a2 ?a3 ?a4 ?a5 ?_))
  case a1 => exact cells_new _ #[I x3, I x4] _
  case a2 => intro u hu; simp at hu; rcases hu with rfl | rfl <;> rfl
  case a3 => decide
  case a4 => decide
  case a5 => simp <;> omega
  intro v3 w3 hown3 hgrow3 _
  have hb3 : Below g0 w w3 := (hb2.alloc hs2 _).grown hgrow3 (by simp <;> omega) (fun q hq => by have := (H1.out.lt q hq).1; omega)
  have k3 : Has w3 g0 45 (frC f) := (k1.alloc _).grown hgrow3 (own_ne H1.out k1 (by decide))
  have H3 := Lib.hid hown3
  have e0 := k3.cellv 0 _ F0.out
  clear d0 d1 d2 d3 d4 d5 k1 hb1 hb2 hgrow3 hown3 H1
  go_wp2_with (go_at_call 78; refine (in_any _ _ _ _).mono ?_; rintro e w9 ⟨rfl, rfl⟩)
  go_ret
  obtain ⟨A, c, rfl, -⟩ := own_reads H3.out
  exact ⟨⟨A, c, rfl, HG.out ▸ H3.out⟩, HG.out ▸ hb3⟩
set_option maxHeartbeats 4000000 in
set_option maxRecDepth 100000 in
theorem list_two (f : List Int) (w : World) (hf : Wf f) (x0 : Int) (hx0 : f[0]? = some x0) (hidx : idx x0 = [0, 1, 2, 3, 4, 5]) (h1 : inR x0 1 3 = true) (h2 : inR x0 2 3 = true) (h5 : (x0 == 5) = false) :
    Calls Tryd.prog 73 #[.agg (frC f)] w fun e w' => (∃ A c, e = .returned (.slice A 6 c) ∧ w'.ownsRow w.heap.size 3 1 (.slice A 6 c) 6 (ints (numsL f))) ∧ Below w.heap.size w w' := by
  obtain ⟨i0, hi0, hz0, hz1, hz2⟩ := info_parts infoI
  obtain ⟨x1, hx1⟩ := some_at f 1 (by rw [hf.1]; decide)
  obtain ⟨x2, hx2⟩ := some_at f 2 (by rw [hf.1]; decide)
  obtain ⟨x3, hx3⟩ := some_at f 3 (by rw [hf.1]; decide)
  obtain ⟨x4, hx4⟩ := some_at f 4 (by rw [hf.1]; decide)
  obtain ⟨x5, hx5⟩ := some_at f 5 (by rw [hf.1]; decide)
  have HX0 : Hid (f.getD 0 0 = x0) := Lib.hid (getD_int hx0)
  have HF := Lib.hid hf
  have HN : Hid (numsL f = [x0, x1, x2, x3, x4, x5]) := Lib.hid (by unfold numsL; rw [HX0.out, hidx]; simp [List.getD_eq_getElem?_getD, hx0, hx1, hx2, hx3, hx4, hx5])
  rw [HN.out]
  have k0 := Has.new w 45 (frC f)
  have hb : Below w.heap.size w (w.alloc (.cells (frC f) 45)) := (Below.refl _ _).alloc (Nat.le_refl _) _
  have F0 := Lib.hid (frC_get f 0 x0 hx0)
  have c0 := k0.cellv 0 _ F0.out
  have F1 := Lib.hid (frC_get f 1 x1 hx1)
  have c1 := k0.cellv 1 _ F1.out
  have F2 := Lib.hid (frC_get f 2 x2 hx2)
  have c2 := k0.cellv 2 _ F2.out
  have F3 := Lib.hid (frC_get f 3 x3 hx3)
  have c3 := k0.cellv 3 _ F3.out
  have F4 := Lib.hid (frC_get f 4 x4 hx4)
  have c4 := k0.cellv 4 _ F4.out
  have F5 := Lib.hid (frC_get f 5 x5 hx5)
  have c5 := k0.cellv 5 _ F5.out
  clear hidx hx0 hx1 hx2 hx3 hx4 hx5 hf
  go_enter Tryd.func73, Tryd.ntmps73
  go_upto_region 1 with (fail)
  generalize w.alloc (.cells (frC f) 45) = w1 at *
  have hl := k0.lt
  generalize hG : w.heap.size = g0 at *
  have HG := Lib.hid hG
  clear hG
  have H1 := Lib.hid (own_new (w := w1) (base := g0) (e := 3) #[I x0, I x1, I x2] 3 (Nat.le_of_lt hl) rfl (by decide))
  have hb1 : Below g0 w (w1.alloc (.cells #[I x0, I x1, I x2] 3)) := hb.alloc (Nat.le_of_lt hl) _
  go_upto_region 3 with (go_at_call 78; refine (in_any _ _ _ _).mono ?_; rintro e w9 ⟨rfl, rfl⟩)
  have k1 := k0.alloc (.cells #[I x0, I x1, I x2] 3)
  have d0 := k1.cellv 0 _ F0.out
  have d1 := k1.cellv 1 _ F1.out
  have d2 := k1.cellv 2 _ F2.out
  have d3 := k1.cellv 3 _ F3.out
  have d4 := k1.cellv 4 _ F4.out
  have d5 := k1.cellv 5 _ F5.out
  clear c0 c1 c2 c3 c4 c5 k0 hb
  generalize w1.alloc (.cells #[I x0, I x1, I x2] 3) = w2 at *
  have hb2 := hb1
  have hs2 := Nat.le_of_lt k1.lt
  go_upto_region 5 with (first
    | (go_at_call 78; refine (in_any _ _ _ _).mono ?_; rintro e w9 ⟨rfl, rfl⟩)
    | (at_builtin; refine wpList_append_own _ rfl _ _ 22 rfl g0 3 i0 (.int .i64 0) 1 8 Tryd.underlying22 hi0 hz0 hz1 hz2 rfl (by decide) _ _ _ rfl (World.ownsRow.alloc H1.out _) ⟨w2.heap.size, 0, none⟩ 2 2 [I x3, I x4] rfl rfl ?a1 ?a2 ?a3 ?a4 ?a5 ?_))
  case a1 => exact cells_new _ #[I x3, I x4] _
  case a2 => intro u hu; simp at hu; rcases hu with rfl | rfl <;> rfl
  case a3 => decide
  case a4 => decide
  case a5 => simp <;> omega
  intro v3 w3 hown3 hgrow3 _
  have hb3 : Below g0 w w3 := (hb2.alloc hs2 _).grown hgrow3 (by simp <;> omega) (fun q hq => by have := (H1.out.lt q hq).1; omega)
  have k3 : Has w3 g0 45 (frC f) := (k1.alloc _).grown hgrow3 (own_ne H1.out k1 (by decide))
  have H3 := Lib.hid hown3
  have e0 := k3.cellv 0 _ F0.out
  have e5 := k3.cellv 5 _ F5.out
  have hs3 := Nat.le_of_lt k3.lt
  clear d0 d1 d2 d3 d4 d5 k1 hb1 hb2 hgrow3 hown3 H1
  go_upto_region 5 with (go_at_call 78; refine (in_any _ _ _ _).mono ?_; rintro e w9 ⟨rfl, rfl⟩)
  go_wp2_with (first
    | (go_at_call 78; refine (in_any _ _ _ _).mono ?_; rintro e w9 ⟨rfl, rfl⟩)
    | (at_builtin; refine wpList_append_own _ rfl _ _ 22 rfl g0 3 i0 (.int .i64 0) 1 8 Tryd.underlying22 hi0 hz0 hz1 hz2 rfl (by decide) _ _ _ rfl (World.ownsRow.alloc H3.out _) ⟨w3.heap.size, 0, none⟩ 1 1 [I x5] rfl rfl ?b1 ?b2 ?b3 ?b4 ?b5 ?_))
  case b1 => exact cells_new _ #[I x5] _
  case b2 => intro u hu; simp at hu; subst hu; rfl
  case b3 => decide
  case b4 => decide
  case b5 => simp <;> omega
  intro v5 w5 hown5 hgrow5 _
  have hb5 : Below g0 w w5 := (hb3.alloc hs3 _).grown hgrow5 (by simp <;> omega) (fun q hq => by have := (H3.out.lt q hq).1; omega)
  have k5 : Has w5 g0 45 (frC f) := (k3.alloc _).grown hgrow5 (own_ne H3.out k3 (by decide))
  have H5 := Lib.hid hown5
  have e6 := k5.cellv 0 _ F0.out
  clear e0 e5 k3 hb3 hgrow5 hown5 H3
  go_wp2_with (go_at_call 78; refine (in_any _ _ _ _).mono ?_; rintro e w9 ⟨rfl, rfl⟩)
  go_ret
  obtain ⟨A, c, rfl, -⟩ := own_reads H5.out
  exact ⟨⟨A, c, rfl, HG.out ▸ H5.out⟩, HG.out ▸ hb5⟩
def altI : List Nat := [0, 1, 2, 6, 7, 15, 8, 16, 9, 17, 10, 18, 11, 19, 12, 20, 13, 21, 14, 22]
theorem alt_take (f : List Int) (j : Nat) (h : j < 8) : ints ((altI.take (4 + 2 * (j + 1))).map fun i => f.getD i 0) = ints ((altI.take (4 + 2 * j)).map fun i => f.getD i 0) ++ [I (f.getD (7 + j) 0), I (f.getD (15 + j) 0)] := by
  have : j = 0 ∨ j = 1 ∨ j = 2 ∨ j = 3 ∨ j = 4 ∨ j = 5 ∨ j = 6 ∨ j = 7 := by omega
  rcases this with rfl | rfl | rfl | rfl | rfl | rfl | rfl | rfl <;> rfl
set_option maxHeartbeats 4000000 in
set_option maxRecDepth 100000 in
theorem list_five (f : List Int) (w : World) (hf : Wf f) (x0 : Int) (hx0 : f[0]? = some x0) (hidx : idx x0 = [0, 1, 2, 6, 7, 15, 8, 16, 9, 17, 10, 18, 11, 19, 12, 20, 13, 21, 14, 22]) (h1 : inR x0 1 3 = false) (h2 : inR x0 2 3 = false) (h5 : (x0 == 5) = true) :
    Calls Tryd.prog 73 #[.agg (frC f)] w fun e w' => (∃ A c, e = .returned (.slice A 20 c) ∧ w'.ownsRow w.heap.size 3 1 (.slice A 20 c) 20 (ints (numsL f))) ∧ Below w.heap.size w w' := by
  obtain ⟨i0, hi0, hz0, hz1, hz2⟩ := info_parts infoI
  obtain ⟨x1, hx1⟩ := some_at f 1 (by rw [hf.1]; decide)
  obtain ⟨x2, hx2⟩ := some_at f 2 (by rw [hf.1]; decide)
  obtain ⟨x3, hx3⟩ := some_at f 3 (by rw [hf.1]; decide)
  obtain ⟨x4, hx4⟩ := some_at f 4 (by rw [hf.1]; decide)
  obtain ⟨x5, hx5⟩ := some_at f 5 (by rw [hf.1]; decide)
  obtain ⟨x6, hx6⟩ := some_at f 6 (by rw [hf.1]; decide)
  have HX0 : Hid (f.getD 0 0 = x0) := Lib.hid (getD_int hx0)
  have HN : Hid (numsL f = altI.map fun i => f.getD i 0) := Lib.hid (by unfold numsL; rw [HX0.out, hidx]; rfl)
  have HN0 : Hid ((altI.take 4).map (fun i => f.getD i 0) = [x0, x1, x2, x6]) := Lib.hid (by simp [altI, List.getD_eq_getElem?_getD, hx0, hx1, hx2, hx6])
  have HF := Lib.hid hf
  have k0 := Has.new w 45 (frC f)
  have hb : Below w.heap.size w (w.alloc (.cells (frC f) 45)) := (Below.refl _ _).alloc (Nat.le_refl _) _
  have F0 := Lib.hid (frC_get f 0 x0 hx0)
  have c0 := k0.cellv 0 _ F0.out
  have F1 := Lib.hid (frC_get f 1 x1 hx1)
  have c1 := k0.cellv 1 _ F1.out
  have F2 := Lib.hid (frC_get f 2 x2 hx2)
  have c2 := k0.cellv 2 _ F2.out
  have F3 := Lib.hid (frC_get f 3 x3 hx3)
  have c3 := k0.cellv 3 _ F3.out
  have F4 := Lib.hid (frC_get f 4 x4 hx4)
  have c4 := k0.cellv 4 _ F4.out
  have F5 := Lib.hid (frC_get f 5 x5 hx5)
  have c5 := k0.cellv 5 _ F5.out
  have F6 := Lib.hid (frC_get f 6 x6 hx6)
  have c6 := k0.cellv 6 _ F6.out
  clear hidx hx0 hx1 hx2 hx3 hx4 hx5 hx6 hf
  go_enter Tryd.func73, Tryd.ntmps73
  go_upto_region 1 with (fail)
  generalize w.alloc (.cells (frC f) 45) = w1 at *
  have hl := k0.lt
  generalize hG : w.heap.size = g0 at *
  have HG := Lib.hid hG
  clear hG
  have H1 := Lib.hid (own_new (w := w1) (base := g0) (e := 3) #[I x0, I x1, I x2] 3 (Nat.le_of_lt hl) rfl (by decide))
  have hb1 : Below g0 w (w1.alloc (.cells #[I x0, I x1, I x2] 3)) := hb.alloc (Nat.le_of_lt hl) _
  go_upto_region 7 with (go_at_call 78; refine (in_any _ _ _ _).mono ?_; rintro e w9 ⟨rfl, rfl⟩)
  have k1 := k0.alloc (.cells #[I x0, I x1, I x2] 3)
  have d0 := k1.cellv 0 _ F0.out
  have d1 := k1.cellv 1 _ F1.out
  have d2 := k1.cellv 2 _ F2.out
  have d3 := k1.cellv 3 _ F3.out
  have d4 := k1.cellv 4 _ F4.out
  have d5 := k1.cellv 5 _ F5.out
  have d6 := k1.cellv 6 _ F6.out
  clear c0 c1 c2 c3 c4 c5 c6 k0 hb
  generalize w1.alloc (.cells #[I x0, I x1, I x2] 3) = w2 at *
  have hb2 := hb1
  have hs2 := Nat.le_of_lt k1.lt
  go_wp2_with (first
    | (go_at_call 78; refine (in_any _ _ _ _).mono ?_; rintro e w9 ⟨rfl, rfl⟩)
    | (at_builtin; refine wpList_append_own _ rfl _ _ 22 rfl g0 3 i0 (.int .i64 0) 1 8 Tryd.underlying22 hi0 hz0 hz1 hz2 rfl (by decide) _ _ _ rfl (World.ownsRow.alloc H1.out _) ⟨w2.heap.size, 0, none⟩ 1 1 [I x6] rfl rfl ?a1 ?a2 ?a3 ?a4 ?a5 ?_))
  case a1 => exact cells_new _ #[I x6] _
  case a2 => intro u hu; simp at hu; subst hu; rfl
  case a3 => decide
  case a4 => decide
  case a5 => simp <;> omega
  intro v3 w3 hown3 hgrow3 _
  have hb3 : Below g0 w w3 := (hb2.alloc hs2 _).grown hgrow3 (by simp <;> omega) (fun q hq => by have := (H1.out.lt q hq).1; omega)
  have k3 : Has w3 g0 45 (frC f) := (k1.alloc _).grown hgrow3 (own_ne H1.out k1 (by decide))
  have H3 := Lib.hid hown3
  clear d0 d1 d2 d3 d4 d5 d6 k1 hb1 hb2 hgrow3 hown3 H1
  go_wp2_with fail
  go_loopw [3, 41] (fun v i wr => ∃ j : Nat, j ≤ 8 ∧ i = I j ∧ Hid (wr.ownsRow g0 3 1 v (4 + 2 * j) (ints ((altI.take (4 + 2 * j)).map fun i => f.getD i 0))) ∧ Has wr g0 45 (frC f) ∧ Below g0 w wr) (fun _ i _ => 8 - (intOf i).toNat)
  case atStart => exact ⟨0, by omega, rfl, by rw [HN0.out]; exact H3, k3, hb3⟩
  case round =>
    obtain ⟨j, hj, rfl, HO, ka, hbr⟩ := hrel
    by_cases hlt : j < 8
    · obtain ⟨y, hy⟩ := some_at f (7 + j) (by rw [HF.out.1]; omega)
      obtain ⟨z, hz⟩ := some_at f (15 + j) (by rw [HF.out.1]; omega)
      have c7 := ka.cellv (7 + j) _ (frC_get f _ y hy)
      have c15 := ka.cellv (15 + j) _ (frC_get f _ z hz)
      have HP : Hid (ints ((altI.take (4 + 2 * (j + 1))).map fun i => f.getD i 0) = ints ((altI.take (4 + 2 * j)).map fun i => f.getD i 0) ++ [I y, I z]) := Lib.hid (by rw [alt_take f j hlt, getD_int hy, getD_int hz])
      have hsr := Nat.le_of_lt ka.lt
      have hga := ka.lt
      clear hy hz
      go_wp2_with fail
      go_region_law ((refine step_append_own rfl _ _ 22 rfl g0 3 i0 (.int .i64 0) 1 8 Tryd.underlying22 hi0 hz0 hz1 hz2 rfl (by decide) _ (4 + 2 * j) _ rfl (World.ownsRow.alloc HO.out _) _ 2 2 _ rfl rfl (cells_new _ _ _) (by intro u hu; simp at hu; rcases hu with rfl | rfl <;> rfl) (by unfold maxLen; omega) (by omega) (by simp <;> omega) ?_; intro v4 w4 hown4 hgrow4))
      all_goals
        have hb4 : Below g0 w w4 := ((hbr.alloc hsr _).drew).grown hgrow4 (by simp <;> omega) (fun q hq => (HO.out.lt q hq).1)
        have ka4 : Has w4 g0 45 (frC f) := ((ka.alloc _).drew).grown hgrow4 (own_ne HO.out ka (by decide))
        have HO4 : Hid (w4.ownsRow g0 3 1 v4 (4 + 2 * (j + 1)) (ints ((altI.take (4 + 2 * (j + 1))).map fun i => f.getD i 0))) := Lib.hid (by rw [HP.out]; exact hown4)
        clear hown4 hgrow4 HO ka c7 c15 HP
        go_wp2_with fail
        go_roundw
        case rel => exact ⟨j + 1, by omega, by go_num, HO4, ka4, hb4⟩
        case measure => simp [intOf]; omega
    · have hj8 : j = 8 := by omega
      subst hj8
      go_wp2_with fail
      go_ret
      obtain ⟨A, c, rfl, -⟩ := own_reads HO.out
      refine ⟨⟨A, c, rfl, ?_⟩, HG.out ▸ hbr⟩
      rw [HN.out, HG.out]
      exact HO.out
/-- list: the frame's numbers. -/
theorem list_ok (f : List Int) (w : World) (hf : Wf f) :
    Calls Tryd.prog 73 #[.agg (frC f)] w fun e w' => (∃ A c, e = .returned (.slice A (idx (f.getD 0 0)).length c) ∧ w'.ownsRow w.heap.size 3 1 (.slice A (idx (f.getD 0 0)).length c) (idx (f.getD 0 0)).length (ints (numsL f))) ∧ Below w.heap.size w w' := by
  obtain ⟨x0, hx0⟩ := some_at f 0 (by rw [hf.1]; decide)
  rw [getD_int hx0]
  rcases idx_cases x0 with ⟨rfl, e⟩ | ⟨rfl, e⟩ | ⟨rfl, e⟩ | ⟨rfl, e⟩ | ⟨h1, h2, h3, h5, e⟩ <;> rw [e]
  · exact list_one f w hf 1 hx0 e rfl rfl rfl
  · exact list_two f w hf 2 hx0 e rfl rfl rfl
  · exact list_two f w hf 3 hx0 e rfl rfl rfl
  · exact list_five f w hf 5 hx0 e rfl rfl rfl
  · exact list_few f w hf x0 hx0 e (by unfold inR; simp; omega) (by unfold inR; simp; omega) (by simpa using h5)
end Go.Proofs.YtdhekhlmdefcnaaDoor
/- The walk over slices.Equal at bytes. -/
namespace Go.Proofs.YtdhekhlmdefcnaaDoor
open Go.RowKit
theorem take_eq_succ {l1 l2 : List UInt8} {k : Nat} {x y : UInt8} (h : l1.take k = l2.take k) (hx : l1[k]? = some x) (hy : l2[k]? = some y) : (l1.take (k + 1) = l2.take (k + 1)) ↔ x = y := by
  have h1 := (List.getElem?_eq_some_iff.1 hx).1
  have h2 := (List.getElem?_eq_some_iff.1 hy).1
  have e1 := (List.getElem?_eq_some_iff.1 hx).2
  have e2 := (List.getElem?_eq_some_iff.1 hy).2
  rw [List.take_succ_eq_append_getElem h1, List.take_succ_eq_append_getElem h2, e1, e2, h]
  simp
theorem drewN_two (w : World) (a b : Nat) : w.drewN (a + b) = (w.drewN a).drewN b := by
  simp [World.drewN, Nat.add_assoc]
theorem u8_ne (x y : UInt8) : ((x.toNat : Int) != (y.toNat : Int)) = !decide (x = y) := by
  by_cases h : x = y
  · simp [h]
  · have : x.toNat ≠ y.toNat := fun e => h (UInt8.toNat_inj.1 e)
    simp [h]; omega
set_option maxHeartbeats 2000000 in
theorem equal_ok (A1 A2 : Option Addr) (n1 c1 n2 c2 : Nat) (l1 l2 : List UInt8) (w : World) (hl1 : Hid (l1.length = n1)) (hl2 : Hid (l2.length = n2)) (hn1 : n1 ≤ 1000) (hn2 : n2 ≤ 1000)
    (hr1 : Reads w w.heap.size A1 (bytes l1)) (hr2 : Reads w w.heap.size A2 (bytes l2)) :
    Calls Tryd.prog 77 #[.slice A1 n1 c1, .slice A2 n2 c2] w fun e w' => e = .returned (.bool (decide (l1 = l2))) ∧ ∃ q, w.drewN q = w' := by
  by_cases hn : n1 = n2
  · subst hn
    go_enter Tryd.func77, Tryd.ntmps77
    go_wp2
    go_loopw [13] (fun i wr => ∃ k q : Nat, k ≤ n1 ∧ i = I k ∧ Hid (l1.take k = l2.take k) ∧ wr = w.drewN q) (fun i _ => n1 - (intOf i).toNat)
    case atStart => exact ⟨0, 0, by omega, rfl, Lib.hid rfl, rfl⟩
    case round =>
      obtain ⟨k, q, hk, rfl, HE, rfl⟩ := hrel
      by_cases hlt : k < n1
      · obtain ⟨x, hx⟩ := some_at l1 k (by rw [hl1.out]; exact hlt)
        obtain ⟨y, hy⟩ := some_at l2 k (by rw [hl2.out]; exact hlt)
        obtain ⟨b, o, rfl, hb, hcell⟩ := hr1.byte_ hx
        obtain ⟨b', o', rfl, hb', hcell'⟩ := hr2.byte_ hy
        have hne := u8_ne x y
        have HS := Lib.hid (take_eq_succ HE.out hx hy)
        cases hd : decide (x = y) with
        | true =>
          rw [hd] at hne
          have HS' : Hid (l1.take (k + 1) = l2.take (k + 1)) := Lib.hid (HS.out.2 (by simpa using hd))
          clear hd hx hy HS HE
          go_wp2_with fail
          go_quiet (fail)
          go_wp2_with fail
          go_roundw
          case rel => exact ⟨k + 1, _, by omega, by go_num, HS', rfl⟩
          case measure => simp [intOf]; omega
        | false =>
          rw [hd] at hne
          have HS' : Hid (decide (l1 = l2) = false) := Lib.hid (by
            rw [decide_eq_false_iff_not]
            rintro rfl
            have := HS.out.1 rfl
            rw [this] at hd
            simp at hd)
          clear hd hx hy HS HE
          go_wp2_with fail
          go_quiet (fail)
          go_wp2_with fail
          go_ret
          exact ⟨by rw [HS'.out]; rfl, _, drewN_two _ _ _⟩
      · have HS' : Hid (decide (l1 = l2) = true) := Lib.hid (by
          have h := HE.out
          rw [List.take_of_length_le (by rw [hl1.out]; omega), List.take_of_length_le (by rw [hl2.out]; omega)] at h
          simpa using h)
        clear HE
        go_wp2_with fail
        go_ret
        exact ⟨by rw [HS'.out]; rfl, _, rfl⟩
  · have hd : decide (l1 = l2) = false := by
      rw [decide_eq_false_iff_not]
      rintro rfl
      exact hn (by rw [← hl1.out, ← hl2.out])
    rw [hd]
    have hne : ((n1 : Int) != (n2 : Int)) = true := by simp; omega
    clear hd hn
    go_enter Tryd.func77, Tryd.ntmps77
    go_wp2
    go_ret
    exact ⟨rfl, 0, rfl⟩
end Go.Proofs.YtdhekhlmdefcnaaDoor
/- What frame.Decode computes. -/
namespace Go.Proofs.YtdhekhlmdefcnaaDoor
open Go.RowKit
def n3 (x y z : UInt8) : Nat := x.toNat * 65536 + y.toNat * 256 + z.toNat
def num3 (b : List UInt8) (j : Nat) : Nat := n3 (b.getD (3 * j) 0) (b.getD (3 * j + 1) 0) (b.getD (3 * j + 2) 0)
def decTo (b : List UInt8) : Nat → List Int
  | 0 => zeroF.set 0 (num3 b 0)
  | n + 1 => (decTo b n).set ((idx (num3 b 0)).getD n 0) (num3 b n)
def decF (b : List UInt8) : List Int := decTo b (idx (num3 b 0)).length
def dec (b : List UInt8) : Int × List Int :=
  if b.length < 7 ∨ 80 < b.length then (3, zeroF) else
  if ¬ b.drop (b.length - 4) = four (Crc.sum (b.take (b.length - 4))) then (15, zeroF) else
  if ¬ (b.length - 4) % 3 = 0 then (3, zeroF) else
  if ¬ (idx (num3 b 0)).length * 3 = b.length - 4 then (3, zeroF) else
  if mayB (decF b) then (0, decF b) else (3, zeroF)
def errV (e : Int) : Value := if e = 0 then .nilIface else .iface 42 (I e)
theorem n3_lt (x y z : UInt8) : n3 x y z < 16777216 := by
  have := x.toNat_lt
  have := y.toNat_lt
  have := z.toNat_lt
  unfold n3
  omega
theorem n3_or (x y z : UInt8) : bits .or .i64 (bits .or .i64 ((x.toNat : Int) * 65536) ((y.toNat : Int) * 256)) (z.toNat : Int) = ((n3 x y z : Nat) : Int) := by
  have hx := x.toNat_lt
  have hy := y.toNat_lt
  have hz := z.toNat_lt
  have e1 : (x.toNat : Int) * 65536 = ((x.toNat * 65536 : Nat) : Int) := by omega
  have e2 : (y.toNat : Int) * 256 = ((y.toNat * 256 : Nat) : Int) := by omega
  have o1 : x.toNat * 65536 ||| y.toNat * 256 = x.toNat * 65536 + y.toNat * 256 := by
    have := Nat.two_pow_add_eq_or_of_lt (i := 16) (b := y.toNat * 256) (by omega) x.toNat
    rw [show 2 ^ 16 * x.toNat = x.toNat * 65536 by omega] at this
    exact this.symm
  have o2 : (x.toNat * 65536 + y.toNat * 256) ||| z.toNat = x.toNat * 65536 + y.toNat * 256 + z.toNat := by
    have := Nat.two_pow_add_eq_or_of_lt (i := 8) (b := z.toNat) (by omega) (x.toNat * 256 + y.toNat)
    have e : 2 ^ 8 * (x.toNat * 256 + y.toNat) = x.toNat * 65536 + y.toNat * 256 := by omega
    rw [e] at this
    exact this.symm
  rw [e1, e2, or_i64 _ _ (by omega) (by omega), o1, or_i64 _ _ (by omega) (by omega), o2]
  rfl
theorem decTo_length (b : List UInt8) : ∀ n, (decTo b n).length = 23
  | 0 => by simp [decTo, zeroF]
  | n + 1 => by rw [decTo, List.length_set, decTo_length b n]
theorem decTo_wf (b : List UInt8) : ∀ n, Wf (decTo b n)
  | 0 => ⟨decTo_length b 0, fun x hx => by
    unfold decTo at hx
    rcases List.mem_or_eq_of_mem_set hx with hx | rfl
    · have := List.eq_of_mem_replicate hx
      omega
    · have := n3_lt (b.getD (3 * 0) 0) (b.getD (3 * 0 + 1) 0) (b.getD (3 * 0 + 2) 0)
      unfold num3
      omega⟩
  | n + 1 => ⟨decTo_length b _, fun x hx => by
    unfold decTo at hx
    rcases List.mem_or_eq_of_mem_set hx with hx | rfl
    · exact (decTo_wf b n).2 x hx
    · have := n3_lt (b.getD (3 * n) 0) (b.getD (3 * n + 1) 0) (b.getD (3 * n + 2) 0)
      unfold num3
      omega⟩
theorem Reads.drop {w : World} {B b o : Nat} {xs : List Value} (h : Reads w B (some ⟨b, o, none⟩) xs) (k : Nat) : Reads w B (some ⟨b, o + k, none⟩) (xs.drop k) := fun hn => by
  have h0 : xs ≠ [] := by rintro rfl; simp at hn
  obtain ⟨b', o', e, hb, hc⟩ := h h0
  injection e with e
  injection e with e1 e2
  subst e1
  subst e2
  refine ⟨b, o + k, rfl, hb, fun j u hu => ?_⟩
  rw [List.getElem?_drop] at hu
  have := hc _ u hu
  rw [show o + k + j = o + (k + j) by omega]
  exact this
theorem bytes_take (l : List UInt8) (k : Nat) : bytes (l.take k) = (bytes l).take k := by simp [bytes, List.map_take]
theorem bytes_drop (l : List UInt8) (k : Nat) : bytes (l.drop k) = (bytes l).drop k := by simp [bytes, List.map_drop]
end Go.Proofs.YtdhekhlmdefcnaaDoor
/- What a frame's bytes are is that frame again; no beginning of them is one: the plain law. -/
namespace Go.Proofs.YtdhekhlmdefcnaaDoor
open Go.RowKit
theorem flat3 {α : Type} (g : Nat → List α) (hg : ∀ i, (g i).length = 3) : ∀ (L : List Nat) (j i r : Nat), L[j]? = some i → r < 3 → (L.flatMap g)[3 * j + r]? = (g i)[r]?
  | [], j, i, r, h, _ => by simp at h
  | a :: L, j, i, r, h, hr => by
    rw [List.flatMap_cons]
    cases j with
    | zero =>
      simp at h
      subst h
      rw [List.getElem?_append_left (by rw [hg]; omega)]
      simp
    | succ j =>
      rw [List.getElem?_cons_succ] at h
      rw [List.getElem?_append_right (by rw [hg]; omega), hg, show 3 * (j + 1) + r - 3 = 3 * j + r by omega]
      exact flat3 g hg L j i r h hr
theorem three_len (x : Int) : (three x).length = 3 := rfl
theorem n3_three (x : Int) (h0 : 0 ≤ x) (h1 : x ≤ 1048576) : ((n3 (UInt8.ofNat (x.toNat / 65536)) (UInt8.ofNat (x.toNat / 256)) (UInt8.ofNat x.toNat) : Nat) : Int) = x := by
  unfold n3
  rw [UInt8.toNat_ofNat', UInt8.toNat_ofNat', UInt8.toNat_ofNat']
  omega
section
variable {f : List Int} (hm : mayB f = true)
include hm
theorem may_all : ∀ i, i ∈ idx (f.getD 0 0) → 0 ≤ f.getD i 0 ∧ f.getD i 0 ≤ 1048576 := by
  intro i hi
  unfold mayB at hm
  simp only [Bool.and_eq_true, List.all_eq_true] at hm
  have := hm.1.2 i hi
  unfold inB at this
  simpa using this
theorem may_cp : f = cpTo f (idx (f.getD 0 0)).length := by
  unfold mayB at hm
  simp only [Bool.and_eq_true, decide_eq_true_eq] at hm
  exact hm.2
omit hm in
theorem enc_len : (encB f).length = 3 * (idx (f.getD 0 0)).length + 4 := by
  unfold encB body
  rw [List.length_append, bodyTo_length f _ (Nat.le_refl _)]
  rfl
omit hm in
theorem enc_at (j i r : Nat) (h : (idx (f.getD 0 0))[j]? = some i) (hr : r < 3) : (encB f)[3 * j + r]? = (three (f.getD i 0))[r]? := by
  have hj := (List.getElem?_eq_some_iff.1 h).1
  unfold encB
  rw [List.getElem?_append_left (by unfold body; rw [bodyTo_length f _ (Nat.le_refl _)]; omega)]
  unfold body bodyTo
  rw [List.take_of_length_le (Nat.le_refl _)]
  exact flat3 _ (fun i => three_len _) _ j i r h hr
theorem enc_num (l : List UInt8) (j i : Nat) (h : (idx (f.getD 0 0))[j]? = some i) (hl : ∀ r, r < 3 → l[3 * j + r]? = (encB f)[3 * j + r]?) : ((num3 l j : Nat) : Int) = f.getD i 0 := by
  obtain ⟨a, b⟩ := may_all hm i (List.mem_of_getElem? h)
  have e0 := (hl 0 (by decide)).trans (enc_at j i 0 h (by decide))
  have e1 := (hl 1 (by decide)).trans (enc_at j i 1 h (by decide))
  have e2 := (hl 2 (by decide)).trans (enc_at j i 2 h (by decide))
  rw [Nat.add_zero] at e0
  unfold num3
  rw [List.getD_eq_getElem?_getD, List.getD_eq_getElem?_getD, List.getD_eq_getElem?_getD, e0, e1, e2]
  exact n3_three _ a b
omit hm in
theorem idx_zero (k : Int) : (idx k)[0]? = some 0 := by
  rcases idx_cases k with ⟨_, e⟩ | ⟨_, e⟩ | ⟨_, e⟩ | ⟨_, e⟩ | ⟨_, _, _, _, e⟩ <;> rw [e] <;> rfl
omit hm in
theorem idx_three (k : Int) : 3 ≤ (idx k).length := by
  rcases idx_cases k with ⟨_, e⟩ | ⟨_, e⟩ | ⟨_, e⟩ | ⟨_, e⟩ | ⟨_, _, _, _, e⟩ <;> rw [e] <;> decide
theorem dec_cp : ∀ n, n ≤ (idx (f.getD 0 0)).length → decTo (encB f) n = cpTo f n
  | 0, _ => by
    have h0 := enc_num hm (encB f) 0 0 (idx_zero _) (fun _ _ => rfl)
    unfold decTo cpTo
    rw [h0]
    rfl
  | n + 1, h => by
    obtain ⟨i, hi⟩ := some_at (idx (f.getD 0 0)) n (by omega)
    have h0 := enc_num hm (encB f) 0 0 (idx_zero _) (fun _ _ => rfl)
    have hn := enc_num hm (encB f) n i hi (fun _ _ => rfl)
    rw [decTo, dec_cp n (by omega), h0, hn, cpTo_succ f n i hi, List.getD_eq_getElem?_getD, hi]
    rfl
theorem dec_enc : dec (encB f) = (0, f) := by
  have hl := enc_len (f := f)
  have h3 := idx_three (f.getD 0 0)
  have h20 := idx_len (f.getD 0 0)
  have h0 := enc_num hm (encB f) 0 0 (idx_zero _) (fun _ _ => rfl)
  have hb : (body f).length = 3 * (idx (f.getD 0 0)).length := by unfold body; exact bodyTo_length f _ (Nat.le_refl _)
  have e1 : (encB f).drop ((encB f).length - 4) = four (Crc.sum (body f)) := by
    rw [hl, show 3 * (idx (f.getD 0 0)).length + 4 - 4 = (body f).length by omega]
    unfold encB
    rw [List.drop_left]
  have e2 : (encB f).take ((encB f).length - 4) = body f := by
    rw [hl, show 3 * (idx (f.getD 0 0)).length + 4 - 4 = (body f).length by omega]
    unfold encB
    rw [List.take_left]
  have e3 : decF (encB f) = f := by
    unfold decF
    rw [h0, dec_cp hm _ (Nat.le_refl _)]
    exact (may_cp hm).symm
  unfold dec
  rw [if_neg (by rw [hl]; omega), if_neg (by rw [e1, e2]; simp), if_neg (by rw [hl]; omega), if_neg (by rw [h0, hl]; omega), e3, if_pos hm]
theorem dec_cut (k : Nat) (hk : k < (encB f).length) : ∃ e, (e = 3 ∨ e = 15) ∧ dec ((encB f).take k) = (e, zeroF) := by
  have hl := enc_len (f := f)
  have hlen : ((encB f).take k).length = k := by rw [List.length_take]; omega
  unfold dec
  split
  · exact ⟨3, .inl rfl, rfl⟩
  · rename_i h7
    rw [hlen] at h7
    split
    · exact ⟨15, .inr rfl, rfl⟩
    · split
      · exact ⟨3, .inl rfl, rfl⟩
      · have h0 := enc_num hm ((encB f).take k) 0 0 (idx_zero _) (fun r hr => by rw [List.getElem?_take, if_pos (by omega)])
        rw [if_pos (by rw [h0, hlen]; omega)]
        exact ⟨3, .inl rfl, rfl⟩
end
end Go.Proofs.YtdhekhlmdefcnaaDoor
/- A BURST IS SEEN: the plain law: the sum of a frame's bytes with a burst is another one. -/
namespace Go.Proofs.YtdhekhlmdefcnaaDoor
open Go.RowKit
theorem half8 (y : Crc.B32) (h : ∀ i, i < 8 → y.getLsbD i = false) : Crc.Tn 8 (y >>> 8) = y := by
  have step : ∀ k, k < 8 → Crc.T (y >>> (k + 1)) = y >>> k := by
    intro k hk
    have e : y >>> (k + 1) = (y >>> k) >>> 1 := by
      apply BitVec.eq_of_getLsbD_eq
      intro i _
      simp only [BitVec.getLsbD_ushiftRight]
      congr 1
      omega
    rw [e]
    exact Crc.T_half _ (by rw [BitVec.getLsbD_ushiftRight]; exact h k hk)
  show Crc.T (Crc.T (Crc.T (Crc.T (Crc.T (Crc.T (Crc.T (Crc.T (y >>> 8)))))))) = y
  rw [step 7 (by decide), step 6 (by decide), step 5 (by decide), step 4 (by decide), step 3 (by decide), step 2 (by decide), step 1 (by decide), step 0 (by decide)]
  rfl
theorem top_byte (s : Crc.B32) : s ^^^ (BitVec.ofNat 32 (UInt8.ofNat (s.toNat / 16777216)).toNat <<< 24) = (s <<< 8) >>> 8 := by
  have h := s.isLt
  have e : (UInt8.ofNat (s.toNat / 16777216)).toNat = s.toNat / 16777216 := by rw [UInt8.toNat_ofNat']; omega
  rw [e]
  have e2 : BitVec.ofNat 32 (s.toNat / 16777216) = s >>> 24 := by
    apply BitVec.eq_of_toNat_eq
    rw [BitVec.toNat_ofNat, BitVec.toNat_ushiftRight, Nat.shiftRight_eq_div_pow]
    omega
  rw [e2]
  apply BitVec.eq_of_getLsbD_eq
  intro i hi
  simp only [BitVec.getLsbD_xor, BitVec.getLsbD_shiftLeft, BitVec.getLsbD_ushiftRight]
  by_cases h24 : i < 24
  · simp [h24, show 8 + i < 32 by omega, show ¬ 8 + i < 8 by omega, show 8 + i - 8 = i by omega]
  · simp [h24, hi, show ¬ 8 + i < 32 by omega, show 24 + (i - 24) = i by omega]
theorem byte_top (s : Crc.B32) : Crc.byte s (UInt8.ofNat (s.toNat / 16777216)) = s <<< 8 := by
  unfold Crc.byte
  rw [top_byte]
  exact half8 _ (fun i hi => by rw [BitVec.getLsbD_shiftLeft]; simp [hi])
theorem top_shl (s : Crc.B32) (a b : Nat) (h : (s.toNat * 2 ^ a % 4294967296) / 16777216 % 256 = s.toNat / b % 256) : UInt8.ofNat (s.toNat / b) = UInt8.ofNat ((s <<< a).toNat / 16777216) := by
  apply UInt8.toNat_inj.1
  rw [UInt8.toNat_ofNat', UInt8.toNat_ofNat', BitVec.toNat_shiftLeft, Nat.shiftLeft_eq]
  exact h.symm
theorem run_own (s : Crc.B32) : Crc.run s (four s) = 0#32 := by
  have h := s.isLt
  have e1 : UInt8.ofNat (s.toNat / 65536) = UInt8.ofNat ((s <<< 8).toNat / 16777216) := top_shl s 8 65536 (by omega)
  have e2 : UInt8.ofNat (s.toNat / 256) = UInt8.ofNat ((s <<< 8 <<< 8).toNat / 16777216) := by
    have e : s <<< 8 <<< 8 = s <<< 16 := by rw [← BitVec.shiftLeft_add]
    rw [e]
    exact top_shl s 16 256 (by omega)
  have e3 : UInt8.ofNat s.toNat = UInt8.ofNat ((s <<< 8 <<< 8 <<< 8).toNat / 16777216) := by
    have e : s <<< 8 <<< 8 <<< 8 = s <<< 24 := by rw [← BitVec.shiftLeft_add, ← BitVec.shiftLeft_add]
    rw [e]
    have := top_shl s 24 1 (by omega)
    simpa using this
  unfold four
  rw [e1, e2, e3]
  show Crc.byte (Crc.byte (Crc.byte (Crc.byte s _) _) _) _ = _
  rw [byte_top, byte_top, byte_top, byte_top, ← BitVec.shiftLeft_add, ← BitVec.shiftLeft_add, ← BitVec.shiftLeft_add]
  apply BitVec.eq_of_getLsbD_eq
  intro i hi
  rw [BitVec.getLsbD_shiftLeft]
  simp [hi]
theorem enc_run (f : List Int) : Crc.run (~~~ 0#32) (encB f) = 0#32 := by
  unfold encB
  rw [Crc.run_append]
  exact run_own _
theorem burst_dec {f : List Int} (p what : Nat) (hp : p < 8 * (encB f).length) (hs : ∃ i, i < 32 ∧ what.testBit (31 - i) = true ∧ p + i < 8 * (encB f).length) :
    dec (Crc.flips (encB f) p what 32) = (15, zeroF) := by
  have hne := Crc.burst (encB f) (~~~ 0#32) p what hp (enc_run f) hs
  have hl := enc_len (f := f)
  have h3 := idx_three (f.getD 0 0)
  have h20 := idx_len (f.getD 0 0)
  have hlf := Crc.flips_length (encB f) p what 32
  unfold dec
  rw [if_neg (by rw [hlf, hl]; omega), if_pos]
  intro he
  apply hne
  have hcat : Crc.flips (encB f) p what 32 = (Crc.flips (encB f) p what 32).take ((Crc.flips (encB f) p what 32).length - 4) ++ (Crc.flips (encB f) p what 32).drop ((Crc.flips (encB f) p what 32).length - 4) := (List.take_append_drop _ _).symm
  rw [hcat, he, Crc.run_append]
  exact run_own _
end Go.Proofs.YtdhekhlmdefcnaaDoor
/- The walk over frame.Decode. -/
namespace Go.Proofs.YtdhekhlmdefcnaaDoor
open Go.RowKit
theorem frC_one (f : List Int) : (frC f).all (·.oneCell') = true := by
  rw [Array.all_eq_true_iff_forall_mem]
  intro u hu
  simp [frC, ints] at hu
  obtain ⟨x, _, rfl⟩ := hu
  rfl
theorem zeroSize : (Tryd.prog.info? 40).map (·.size) = some (frC zeroF).size := by rw [frC_size _ rfl]; exact infoFrame
set_option maxHeartbeats 2000000 in
set_option maxRecDepth 100000 in
theorem decode_size (A : Option Addr) (n c : Nat) (w : World) (h : n < 7 ∨ 80 < n) :
    Calls Tryd.prog 23 #[.slice A n c] w fun e w' => e = .returned (.tuple #[.agg (frC zeroF), .iface 42 (I 3)]) ∧ Below w.heap.size w w' := by
  rcases h with h | h
  all_goals
    go_enter Tryd.func23, Tryd.ntmps23
    go_upto_region 1 with (fail)
    have k2 : Has (w.alloc (.cells #[I 0, I 0, I 0, I 0, I 0, I 0, I 0, I 0, I 0, I 0, I 0, I 0, I 0, I 0, I 0, I 0, I 0, I 0, I 0, I 0, I 0, I 0, I 0] 40)) w.heap.size 40 (frC zeroF) := by rw [zeroFrame]; exact Has.new _ _ _
    have hb : Below w.heap.size w (w.alloc (.cells #[I 0, I 0, I 0, I 0, I 0, I 0, I 0, I 0, I 0, I 0, I 0, I 0, I 0, I 0, I 0, I 0, I 0, I 0, I 0, I 0, I 0, I 0, I 0] 40)) := (Below.refl _ _).alloc (Nat.le_refl _) _
    generalize w.alloc (.cells #[I 0, I 0, I 0, I 0, I 0, I 0, I 0, I 0, I 0, I 0, I 0, I 0, I 0, I 0, I 0, I 0, I 0, I 0, I 0, I 0, I 0, I 0, I 0] 40) = w1 at *
    generalize hG : w.heap.size = g2 at *
    have HG := Lib.hid hG
    clear hG
    go_wp2_with (refine wpList_store_row rfl 40 (.tmp 2) (.tmp 18) rfl g2 (frC zeroF) rfl rfl 40 _ k2 zeroSize rfl (frC_one _) ?_)
    exact bodyPost_ret (ret_cell_tmp rfl _ _ _ _ (frC zeroF) _ rfl (k2.setRow _) Tryd.underlying40 rfl zeroSize) rfl ⟨rfl, HG.out ▸ below_setRow hb (Nat.le_refl _) _⟩
set_option maxHeartbeats 4000000 in
set_option maxRecDepth 100000 in
theorem decode_in (bb oo m c : Nat) (l : List UInt8) (w : World) (hl : Hid (l.length = m + 4)) (h1 : 3 ≤ m) (h2 : m ≤ 76) (hc : m + 4 ≤ c) (hr : Reads w w.heap.size (some ⟨bb, oo, none⟩) (bytes l)) :
    Calls Tryd.prog 23 #[.slice (some ⟨bb, oo, none⟩) (m + 4) c] w fun e w' => e = .returned (.tuple #[.agg (frC (dec l).2), errV (dec l).1]) ∧ Below w.heap.size w w' := by
  have HR := Lib.hid hr
  clear hr
  go_enter Tryd.func23, Tryd.ntmps23
  go_upto_region 1 with (fail)
  have k2 : Has (w.alloc (.cells #[I 0, I 0, I 0, I 0, I 0, I 0, I 0, I 0, I 0, I 0, I 0, I 0, I 0, I 0, I 0, I 0, I 0, I 0, I 0, I 0, I 0, I 0, I 0] 40)) w.heap.size 40 (frC zeroF) := by rw [zeroFrame]; exact Has.new _ _ _
  have hb : Below w.heap.size w (w.alloc (.cells #[I 0, I 0, I 0, I 0, I 0, I 0, I 0, I 0, I 0, I 0, I 0, I 0, I 0, I 0, I 0, I 0, I 0, I 0, I 0, I 0, I 0, I 0, I 0] 40)) := (Below.refl _ _).alloc (Nat.le_refl _) _
  have HR1 : Hid (Reads (w.alloc (.cells #[I 0, I 0, I 0, I 0, I 0, I 0, I 0, I 0, I 0, I 0, I 0, I 0, I 0, I 0, I 0, I 0, I 0, I 0, I 0, I 0, I 0, I 0, I 0] 40)) w.heap.size (some ⟨bb, oo, none⟩) (bytes l)) := Lib.hid (HR.out.below hb)
  generalize w.alloc (.cells #[I 0, I 0, I 0, I 0, I 0, I 0, I 0, I 0, I 0, I 0, I 0, I 0, I 0, I 0, I 0, I 0, I 0, I 0, I 0, I 0, I 0, I 0, I 0] 40) = w1 at *
  generalize hG : w.heap.size = g2 at *
  have HG := Lib.hid hG
  have hg2 := k2.lt
  clear hG HR
  have HD : Hid (dec l = (if ¬ l.drop m = four (Crc.sum (l.take m)) then (15, zeroF) else if ¬ m % 3 = 0 then (3, zeroF) else if ¬ (idx (num3 l 0)).length * 3 = m then (3, zeroF) else if mayB (decF l) then (0, decF l) else (3, zeroF))) := Lib.hid (by
    unfold dec
    rw [if_neg (by rw [hl.out]; omega), hl.out, show m + 4 - 4 = m by omega])
  have HT : Hid ((l.take m).length = m) := Lib.hid (by rw [List.length_take, hl.out]; omega)
  have HDr : Hid ((l.drop m).length = 4) := Lib.hid (by rw [List.length_drop, hl.out]; omega)
  have hrt : Reads w1 w1.heap.size (some ⟨bb, oo, none⟩) (bytes (l.take m)) := by rw [bytes_take]; exact (HR1.out.take m).more (Nat.le_of_lt hg2)
  have HRt := Lib.hid hrt
  clear hrt
  go_wp2_with (go_at_call 20; refine (sum_ok (some ⟨bb, oo, none⟩) m _ (l.take m) _ HT (by omega) HRt.out).mono ?_; rintro e w2 ⟨rfl, rfl⟩)
  have hr4 : Reads (w1.alloc (.cells #[.int .u8 (((Crc.sum (l.take m)).toNat : Int) / 16777216), .int .u8 (((Crc.sum (l.take m)).toNat : Int) / 65536 % 256), .int .u8 (((Crc.sum (l.take m)).toNat : Int) / 256 % 256), .int .u8 (((Crc.sum (l.take m)).toNat : Int) % 256)] 5)) (w1.heap.size + 1) (some ⟨w1.heap.size, 0, none⟩) (bytes (four (Crc.sum (l.take m)))) := by
    rw [← four_vals]
    exact Reads.of_has (Has.new _ _ _) (by omega)
  have hsz : (w1.alloc (.cells #[.int .u8 (((Crc.sum (l.take m)).toNat : Int) / 16777216), .int .u8 (((Crc.sum (l.take m)).toNat : Int) / 65536 % 256), .int .u8 (((Crc.sum (l.take m)).toNat : Int) / 256 % 256), .int .u8 (((Crc.sum (l.take m)).toNat : Int) % 256)] 5)).heap.size = w1.heap.size + 1 := by simp
  have hbx : Below w1.heap.size w1 (w1.alloc (.cells #[.int .u8 (((Crc.sum (l.take m)).toNat : Int) / 16777216), .int .u8 (((Crc.sum (l.take m)).toNat : Int) / 65536 % 256), .int .u8 (((Crc.sum (l.take m)).toNat : Int) / 256 % 256), .int .u8 (((Crc.sum (l.take m)).toNat : Int) % 256)] 5)) := (Below.refl _ _).alloc (Nat.le_refl _) _
  rw [← hsz] at hr4
  generalize w1.alloc (.cells #[.int .u8 (((Crc.sum (l.take m)).toNat : Int) / 16777216), .int .u8 (((Crc.sum (l.take m)).toNat : Int) / 65536 % 256), .int .u8 (((Crc.sum (l.take m)).toNat : Int) / 256 % 256), .int .u8 (((Crc.sum (l.take m)).toNat : Int) % 256)] 5) = w3 at *
  have k3 := k2.after hbx
  have hb3 := hb.trans (hbx.mono (Nat.le_of_lt hg2))
  have HR3 : Hid (Reads w3 g2 (some ⟨bb, oo, none⟩) (bytes l)) := Lib.hid ((HR1.out.more (Nat.le_of_lt hg2)).below hbx |>.keep (fun _ _ _ => rfl) |> fun h => fun hn => by
    obtain ⟨b', o', e, _, hc⟩ := h hn
    obtain ⟨b2, o2, e', hlt, _⟩ := HR1.out hn
    rw [e] at e'
    injection e' with e'
    injection e' with e1 e2
    exact ⟨b', o', e, by rw [e1]; exact hlt, hc⟩)
  have hg3 := k3.lt
  have hrd : Reads w3 w3.heap.size (some ⟨bb, oo + m, none⟩) (bytes (l.drop m)) := by rw [bytes_drop]; exact ((HR3.out.drop m).more (Nat.le_of_lt hg3))
  clear hbx hsz k2 hb HR1 HRt
  refine (equal_ok _ _ 4 (c - m) 4 4 (l.drop m) (four (Crc.sum (l.take m))) w3 HDr (Lib.hid rfl) (by decide) (by decide) hrd hr4).mono ?_
  rintro e w4 ⟨rfl, q, rfl⟩
  clear hrd hr4
  have k4 := k3.drewN q
  have hb4 := below_drewN hb3 q
  have HR4 : Hid (Reads (w3.drewN q) g2 (some ⟨bb, oo, none⟩) (bytes l)) := HR3
  have hg4 := k4.lt
  clear k3 hb3 HR3 hg3
  generalize w3.drewN q = w4 at *
  by_cases he : l.drop m = four (Crc.sum (l.take m))
  · have hde : decide (l.drop m = four (Crc.sum (l.take m))) = true := by simpa using he
    have HD1 : Hid (dec l = (if ¬ m % 3 = 0 then (3, zeroF) else if ¬ (idx (num3 l 0)).length * 3 = m then (3, zeroF) else if mayB (decF l) then (0, decF l) else (3, zeroF))) := Lib.hid (by rw [HD.out, if_neg (by simpa using he)])
    rw [hde]
    clear hde he HD
    go_upto_region 8 with (fail)
    have k6 : Has (w4.alloc (.cells #[I 0, I 0, I 0, I 0, I 0, I 0, I 0, I 0, I 0, I 0, I 0, I 0, I 0, I 0, I 0, I 0, I 0, I 0, I 0, I 0, I 0, I 0, I 0] 40)) w4.heap.size 40 (frC zeroF) := by rw [zeroFrame]; exact Has.new _ _ _
    have k5 := k4.alloc (.cells #[I 0, I 0, I 0, I 0, I 0, I 0, I 0, I 0, I 0, I 0, I 0, I 0, I 0, I 0, I 0, I 0, I 0, I 0, I 0, I 0, I 0, I 0, I 0] 40)
    have hbx : Below w4.heap.size w4 (w4.alloc (.cells #[I 0, I 0, I 0, I 0, I 0, I 0, I 0, I 0, I 0, I 0, I 0, I 0, I 0, I 0, I 0, I 0, I 0, I 0, I 0, I 0, I 0, I 0, I 0] 40)) := (Below.refl _ _).alloc (Nat.le_refl _) _
    have hb5 := hb4.trans (hbx.mono (Nat.le_of_lt hg4))
    have HR5 : Hid (Reads (w4.alloc (.cells #[I 0, I 0, I 0, I 0, I 0, I 0, I 0, I 0, I 0, I 0, I 0, I 0, I 0, I 0, I 0, I 0, I 0, I 0, I 0, I 0, I 0, I 0, I 0] 40)) g2 (some ⟨bb, oo, none⟩) (bytes l)) := Lib.hid (HR4.out.below (hbx.mono (Nat.le_of_lt hg4)))
    clear hbx k4 hb4 HR4
    generalize w4.alloc (.cells #[I 0, I 0, I 0, I 0, I 0, I 0, I 0, I 0, I 0, I 0, I 0, I 0, I 0, I 0, I 0, I 0, I 0, I 0, I 0, I 0, I 0, I 0, I 0] 40) = w5 at *
    generalize w4.heap.size = g6 at *
    have hg5 := k5.lt
    have hg6 := k6.lt
    by_cases he3 : m % 3 = 0
    · have hde : ((m : Int) % 3 != 0) = false := by simp; omega
      have HD2 : Hid (dec l = (if ¬ (idx (num3 l 0)).length * 3 = m then (3, zeroF) else if mayB (decF l) then (0, decF l) else (3, zeroF))) := Lib.hid (by rw [HD1.out, if_neg (by simpa using he3)])
      clear he3 HD1
      go_upto_region 10 with (fail)
      obtain ⟨x0, hx0⟩ := some_at l 0 (by rw [hl.out]; omega)
      obtain ⟨x1, hx1⟩ := some_at l 1 (by rw [hl.out]; omega)
      obtain ⟨x2, hx2⟩ := some_at l 2 (by rw [hl.out]; omega)
      have HN : Hid (num3 l 0 = n3 x0 x1 x2) := Lib.hid (by unfold num3; simp [List.getD_eq_getElem?_getD, hx0, hx1, hx2])
      have c0 : w5.cell? ⟨bb, oo, none⟩ = some (U8 x0) := by obtain ⟨_, _, e, _, h⟩ := HR5.out.byte_ hx0; cases e; exact h
      have c1 : w5.cell? ⟨bb, oo + 1, none⟩ = some (U8 x1) := by obtain ⟨_, _, e, _, h⟩ := HR5.out.byte_ hx1; cases e; exact h
      have c2 : w5.cell? ⟨bb, oo + 2, none⟩ = some (U8 x2) := by obtain ⟨_, _, e, _, h⟩ := HR5.out.byte_ hx2; cases e; exact h
      have z0 := k6.cellv 0 (I 0) rfl
      have zf := k6.free 0
      have y0 := x0.toNat_lt
      have y1 := x1.toNat_lt
      have y2 := x2.toNat_lt
      clear hx0 hx1 hx2
      go_cut [] (fun wx => Hid (wx = w5.drew.setCell ⟨g6, 0, none⟩ (I (num3 l 0))))
      case first =>
        go_region
        all_goals
          go_wp2_with fail
          go_meet
          case rel => exact Lib.hid (by rw [HN.out, ← n3_or]; rfl)
      case rest =>
        have hb6 : Below g2 w (w5.drew.setCell ⟨g6, 0, none⟩ (I (num3 l 0))) := (hb5.drew).setCell (Nat.le_of_lt hg4) _
        have k6c : Has (w5.drew.setCell ⟨g6, 0, none⟩ (I (num3 l 0))) g6 40 (frC (decTo l 0)) := by
          have h := k6.drew.set 0 (I (num3 l 0))
          rw [frC_set] at h
          exact h
        have k5c : Has (w5.drew.setCell ⟨g6, 0, none⟩ (I (num3 l 0))) g2 40 (frC zeroF) := k5.drew.far (by simp; omega) _
        have HRc : Hid (Reads (w5.drew.setCell ⟨g6, 0, none⟩ (I (num3 l 0))) g2 (some ⟨bb, oo, none⟩) (bytes l)) := Lib.hid (HR5.out.drew.setCell (Nat.le_of_lt hg4) _)
        rw [← hcut.out] at hb6 k6c k5c HRc
        clear hcut c0 c1 c2 z0 zf y0 y1 y2 HN x0 x1 x2 k5 k6 hb5 HR5 hg5 hg6 hde
        clear w5
        have hk3 := n3_lt (l.getD (3 * 0) 0) (l.getD (3 * 0 + 1) 0) (l.getD (3 * 0 + 2) 0)
        have ck := k6c.cellv 0 (I (num3 l 0)) (frC_get _ 0 _ (by simp [decTo, zeroF]))
        have hk4 : num3 l 0 < 16777216 := hk3
        clear hk3
        have HF : Hid (decF l = decTo l (idx (num3 l 0)).length) := rfl
        have HDS : Hid (∀ n i, (idx (num3 l 0))[n]? = some i → decTo l (n + 1) = (decTo l n).set i (num3 l n)) := Lib.hid (fun n i h => by rw [decTo, List.getD_eq_getElem?_getD, h]; rfl)
        generalize hkk : ((num3 l 0 : Nat) : Int) = k at *
        clear hkk hk4
        have hid20 := idx_len k
        go_wp2_with fail
        refine (numbers_ok g6 _ k _ k6c ck).mono ?_
        rintro e w7 ⟨⟨A7, n7, rfl, own7⟩, hb7⟩
        have k67 := k6c.after hb7
        have k57 := k5c.after hb7
        have HR7 : Hid (Reads w7 g2 (some ⟨bb, oo, none⟩) (bytes l)) := Lib.hid (HRc.out.below (hb7.mono (Nat.le_of_lt k5c.lt)))
        have hbw7 := hb6.trans (hb7.mono (Nat.le_of_lt k5c.lt))
        have HO7 := Lib.hid (own_base own7 (Nat.zero_le _))
        clear own7 hb7 k6c k5c HRc hb6 ck
        by_cases he4 : (idx k).length * 3 = m
        · have hde : (((idx k).length : Int) * 3 != (m : Int)) = false := by simp; omega
          have HD3 : Hid (dec l = (if mayB (decF l) then (0, decF l) else (3, zeroF))) := Lib.hid (by rw [HD2.out, if_neg (by simpa using he4)])
          have HE := Lib.hid he4
          clear he4 HD2
          go_wp2_with fail
          go_loopw [78] (fun i wr => ∃ j : Nat, j ≤ (idx k).length ∧ i = I j ∧ Has wr g6 40 (frC (decTo l j)) ∧ Has wr g2 40 (frC zeroF) ∧ Hid (Reads wr g2 (some ⟨bb, oo, none⟩) (bytes l)) ∧
            Hid (wr.ownsRow 0 146 1 (.slice A7 (idx k).length n7) (idx k).length (ptrs g6 (idx k))) ∧ Below g2 w wr) (fun i _ => (idx k).length - (intOf i).toNat)
          case atStart => exact ⟨0, by omega, rfl, k67, k57, HR7, HO7, hbw7⟩
          case round =>
            clear k67 k57 HR7 HO7 hbw7
            obtain ⟨j, hj, rfl, ka, kb, HR, HO, hbr⟩ := hrel
            by_cases hlt : j < (idx k).length
            · have hjm : 3 * j + 2 < m := by have := HE.out; omega
              obtain ⟨i, hi⟩ := some_at (idx k) j hlt
              have hi23 : i < 23 := idx_lt k i (List.mem_of_getElem? hi)
              obtain ⟨y, hy⟩ := some_at (decTo l j) i (by rw [decTo_length]; exact hi23)
              obtain ⟨x0, hx0⟩ := some_at l (3 * j) (by rw [hl.out]; omega)
              obtain ⟨x1, hx1⟩ := some_at l (3 * j + 1) (by rw [hl.out]; omega)
              obtain ⟨x2, hx2⟩ := some_at l (3 * j + 2) (by rw [hl.out]; omega)
              have HN : Hid (num3 l j = n3 x0 x1 x2) := Lib.hid (by unfold num3; simp [List.getD_eq_getElem?_getD, hx0, hx1, hx2])
              have c0 : wr.cell? ⟨bb, oo + 3 * j, none⟩ = some (U8 x0) := by obtain ⟨_, _, e, _, h⟩ := HR.out.byte_ hx0; cases e; exact h
              have c1 : wr.cell? ⟨bb, oo + (3 * j + 1), none⟩ = some (U8 x1) := by obtain ⟨_, _, e, _, h⟩ := HR.out.byte_ hx1; cases e; exact h
              have c2 : wr.cell? ⟨bb, oo + (3 * j + 2), none⟩ = some (U8 x2) := by obtain ⟨_, _, e, _, h⟩ := HR.out.byte_ hx2; cases e; exact h
              obtain ⟨hc7, hr7⟩ := own_slice HO.out
              obtain ⟨b7, o7, rfl, _, e7⟩ := ptr_at hr7 hi
              have z0 := ka.cellv i _ (frC_get _ i y hy)
              have zf := ka.free i
              have y0 := x0.toNat_lt
              have y1 := x1.toNat_lt
              have y2 := x2.toNat_lt
              have HDj : Hid (decTo l (j + 1) = (decTo l j).set i (num3 l j)) := Lib.hid (HDS.out j i hi)
              clear hx0 hx1 hx2 hy hi hr7 hc7
              go_wp2_with fail
              go_region
              all_goals
                go_wp2_with fail
                go_roundw
                case rel =>
                  refine ⟨j + 1, by omega, by go_num, ?_, kb.drew.far (by simp; omega) _, Lib.hid (HR.out.drew.setCell (Nat.le_of_lt hg4) _), Lib.hid (own_far (w := wr.drew) HO.out ka (by decide) _ _), hbr.drew.setCell (Nat.le_of_lt hg4) _⟩
                  have h := ka.drew.set i (I (num3 l j))
                  rw [frC_set, ← HDj.out, HN.out, ← n3_or] at h
                  exact h
                case measure => simp [intOf]; omega
            · have hjn : j = (idx k).length := by omega
              have HJ : Hid (decTo l j = decF l) := Lib.hid (by rw [HF.out, hjn])
              have hw := decTo_wf l j
              rw [HJ.out] at ka hw
              have HW := Lib.hid hw
              have hs6 : Hid ((Tryd.prog.info? 40).map (·.size) = some (frC (decF l)).size) := Lib.hid (by rw [frC_size _ hw.1]; exact infoFrame)
              have hs2 : Hid ((frC zeroF).size = (frC (decF l)).size) := Lib.hid (by rw [frC_size _ hw.1]; rfl)
              clear hw hjn HJ
              cases hm : mayB (decF l) with
              | true =>
                have HM := Lib.hid hm
                have HDD : Hid (dec l = (0, decF l)) := Lib.hid (by rw [HD3.out, hm]; rfl)
                clear hm HD3
                go_wp2_with (first
                  | (refine wpList_load_row rfl 40 (.tmp 6) rfl g6 rfl 40 (frC (decF l)) (0, 0) _ (by assumption) Tryd.underlying40 rfl hs6.out ?_)
                  | (go_at_call 74; refine (right_ok (decF l) HW.out _).mono ?_; rintro e w8 ⟨rfl, hb8⟩; rw [HM.out]; have ka8 := ka.after hb8; have kb8 := kb.after hb8; have hb9 := hbr.trans (hb8.mono (Nat.le_of_lt kb.lt)); clear hb8)
                  | (refine wpList_store_row rfl 40 (.tmp 2) _ rfl g2 (frC (decF l)) rfl rfl 40 _ kb8 hs6.out hs2.out (frC_one _) ?_))
                exact bodyPost_ret (ret_cell_tmp rfl _ _ _ _ (frC (decF l)) _ rfl (kb8.setRow _) Tryd.underlying40 rfl hs6.out) rfl ⟨by rw [HDD.out]; rfl, HG.out ▸ below_setRow hb9 (Nat.le_refl _) _⟩
              | false =>
                have HM := Lib.hid hm
                have HD' : Hid (dec l = (3, zeroF)) := Lib.hid (by rw [HD3.out, hm]; rfl)
                clear hm HD3
                go_wp2_with (first
                  | (refine wpList_load_row rfl 40 (.tmp 6) rfl g6 rfl 40 (frC (decF l)) (0, 0) _ (by assumption) Tryd.underlying40 rfl hs6.out ?_)
                  | (go_at_call 74; refine (right_ok (decF l) HW.out _).mono ?_; rintro e w8 ⟨rfl, hb8⟩; rw [HM.out]; have kb8 := kb.after hb8; have hb9 := hbr.trans (hb8.mono (Nat.le_of_lt kb.lt)); clear hb8)
                  | (refine wpList_store_row rfl 40 (.tmp 2) _ rfl g2 (frC zeroF) rfl rfl 40 _ kb8 zeroSize rfl (frC_one _) ?_))
                exact bodyPost_ret (ret_cell_tmp rfl _ _ _ _ (frC zeroF) _ rfl (kb8.setRow _) Tryd.underlying40 rfl zeroSize) rfl ⟨by rw [HD'.out]; rfl, HG.out ▸ below_setRow hb9 (Nat.le_refl _) _⟩
        · have hde : (((idx k).length : Int) * 3 != (m : Int)) = true := by simp; omega
          have HD' : Hid (dec l = (3, zeroF)) := Lib.hid (by rw [HD2.out, if_pos he4])
          clear he4 HD2
          go_wp2_with (refine wpList_store_row rfl 40 (.tmp 2) _ rfl g2 (frC zeroF) rfl rfl 40 _ k57 zeroSize rfl (frC_one _) ?_)
          exact bodyPost_ret (ret_cell_tmp rfl _ _ _ _ (frC zeroF) _ rfl (k57.setRow _) Tryd.underlying40 rfl zeroSize) rfl ⟨by rw [HD'.out]; rfl, HG.out ▸ below_setRow hbw7 (Nat.le_refl _) _⟩
    · have hde : ((m : Int) % 3 != 0) = true := by simp; omega
      have HD' : Hid (dec l = (3, zeroF)) := Lib.hid (by rw [HD1.out, if_pos he3])
      clear he3 HD1
      go_wp2_with (refine wpList_store_row rfl 40 (.tmp 2) _ rfl g2 (frC zeroF) rfl rfl 40 _ k5 zeroSize rfl (frC_one _) ?_)
      exact bodyPost_ret (ret_cell_tmp rfl _ _ _ _ (frC zeroF) _ rfl (k5.setRow _) Tryd.underlying40 rfl zeroSize) rfl ⟨by rw [HD'.out]; rfl, HG.out ▸ below_setRow hb5 (Nat.le_refl _) _⟩
  · have hde : decide (l.drop m = four (Crc.sum (l.take m))) = false := by simpa using he
    have HD' : Hid (dec l = (15, zeroF)) := Lib.hid (by rw [HD.out, if_pos he])
    rw [hde]
    clear hde he HD
    go_wp2_with (refine wpList_store_row rfl 40 (.tmp 2) _ rfl g2 (frC zeroF) rfl rfl 40 _ k4 zeroSize rfl (frC_one _) ?_)
    exact bodyPost_ret (ret_cell_tmp rfl _ _ _ _ (frC zeroF) _ rfl (k4.setRow _) Tryd.underlying40 rfl zeroSize) rfl ⟨by rw [HD'.out]; rfl, HG.out ▸ below_setRow hb4 (Nat.le_refl _) _⟩
/-- Decode of whatever bytes. -/
theorem decode_ok (A : Option Addr) (n c : Nat) (l : List UInt8) (w : World) (hl : l.length = n) (hc : n ≤ c) (hr : Reads w w.heap.size A (bytes l)) :
    Calls Tryd.prog 23 #[.slice A n c] w fun e w' => e = .returned (.tuple #[.agg (frC (dec l).2), errV (dec l).1]) ∧ Below w.heap.size w w' := by
  by_cases h : n < 7 ∨ 80 < n
  · have hd : dec l = (3, zeroF) := by unfold dec; rw [if_pos (by rw [hl]; exact h)]
    rw [hd]
    exact decode_size A n c w h
  · obtain ⟨b, o, rfl, _, _⟩ := hr (by rintro h0; have := congrArg List.length h0; rw [bytes_length, hl] at this; simp at this; omega)
    obtain ⟨m, rfl⟩ : ∃ m, n = m + 4 := ⟨n - 4, by omega⟩
    exact decode_in b o m c l w hl (by omega) (by omega) hc hr
end Go.Proofs.YtdhekhlmdefcnaaDoor
