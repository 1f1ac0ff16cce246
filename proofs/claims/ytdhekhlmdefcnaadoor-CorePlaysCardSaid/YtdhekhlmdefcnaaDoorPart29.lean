/- Part 29 of the proof: ReFuse, ReFits. -/
import Derived.Test.YtdhekhlmdefcnaaDoorPart28
import Derived.Test.YtdhekhlmdefcnaaDoorPart13
/- The walk over the replica's Fused. -/
namespace Go.Proofs.YtdhekhlmdefcnaaDoor
open Go.RowKit
theorem fuseTo_succ (r : Re) (k : Nat) : fuseTo r (k + 1) = if r.some.getD k false then
    (((fuseTo r k).1.1 ||| ((fuseTo r k).2.1 &&& (r.seen.getD k (0, 0)).1), (fuseTo r k).1.2 ||| ((fuseTo r k).2.2 &&& (r.seen.getD k (0, 0)).2)), ((fuseTo r k).2.1 ||| (r.seen.getD k (0, 0)).1, (fuseTo r k).2.2 ||| (r.seen.getD k (0, 0)).2)) else fuseTo r k := rfl
def Small2 (p : Nat × Nat) : Prop := p.1 < 4096 ∧ p.2 < 4096
theorem fuseTo_small {r : Re} (h : ∀ k, Small2 (r.seen.getD k (0, 0))) : ∀ k, Small2 (fuseTo r k).1 ∧ Small2 (fuseTo r k).2
  | 0 => ⟨⟨(by show 0 < 4096; decide), (by show 0 < 4096; decide)⟩, (by show 0 < 4096; decide), (by show 0 < 4096; decide)⟩
  | k + 1 => by
    obtain ⟨⟨a1, a2⟩, b1, b2⟩ := fuseTo_small h k
    obtain ⟨s1, s2⟩ := h k
    rw [fuseTo_succ]
    split
    · exact ⟨⟨Nat.or_lt_two_pow (n := 12) a1 (Nat.and_lt_two_pow _ s1), Nat.or_lt_two_pow (n := 12) a2 (Nat.and_lt_two_pow _ s2)⟩, Nat.or_lt_two_pow (n := 12) b1 s1, Nat.or_lt_two_pow (n := 12) b2 s2⟩
    · exact ⟨⟨a1, a2⟩, b1, b2⟩
theorem ix0 (x0 x1 x2 : Value) (w : World) : (Instr.index 179 (.agg #[x0, x1, x2]) (I 0)).run Tryd.prog w = .ok x0 w := by kernel_rfl
theorem ix1 (x0 x1 x2 : Value) (w : World) : (Instr.index 179 (.agg #[x0, x1, x2]) (I 1)).run Tryd.prog w = .ok x1 w := by kernel_rfl
theorem ix2 (x0 x1 x2 : Value) (w : World) : (Instr.index 179 (.agg #[x0, x1, x2]) (I 2)).run Tryd.prog w = .ok x2 w := by kernel_rfl
/-- what is so behind a round -/
def FuseRel (w : World) (g0 : Nat) (r : Re) (k : Nat) (wr : World) : Prop :=
  Has wr (g0 + 1) 35 #[I (fuseTo r k).2.1, I (fuseTo r k).2.2] ∧ Has wr (g0 + 2) 35 #[I (fuseTo r k).1.1, I (fuseTo r k).1.2] ∧ Has wr g0 35 #[I 0, I 0] ∧ Below g0 w wr
section
variable {w : World} {g gc : Nat} {L : Lay} {r : Re}
set_option maxHeartbeats 4000000 in
set_option maxRecDepth 100000 in
theorem re_fused (h : RepAt w g gc L r) (hs : Hid (∀ k, Small2 (r.seen.getD k (0, 0)))) : Calls Tryd.prog 69 #[.pointer (some ⟨g, 0, none⟩)] w fun e w' => e = .returned (.agg #[I (fused r).1, I (fused r).2]) ∧ Below w.heap.size w w' := by
  have hb1 : Below w.heap.size w (((w.alloc (.cells #[I 0, I 0] 35)).alloc (.cells #[I 0, I 0] 35)).alloc (.cells #[I 0, I 0] 35)) := (((Below.refl _ _).alloc (Nat.le_refl _) _).alloc (by simp) _).alloc (by simp; omega) _
  have k0 := ((Has.new w 35 #[I 0, I 0]).alloc (.cells #[I 0, I 0] 35)).alloc (.cells #[I 0, I 0] 35)
  have k1 := (Has.new' (w.alloc (.cells #[I 0, I 0] 35)) 35 #[I 0, I 0] (w.heap.size + 1) (by simp)).alloc (.cells #[I 0, I 0] 35)
  have k2 := Has.new' ((w.alloc (.cells #[I 0, I 0] 35)).alloc (.cells #[I 0, I 0] 35)) 35 #[I 0, I 0] (w.heap.size + 2) (by simp)
  have HR := Lib.hid h
  have hgl := h.has.lt
  have h1 := h.after hb1
  have c0 := h1.cell 28 (by decide) (reF_some (k := 0) (by decide))
  have c1 := h1.cell 29 (by decide) (reF_some (k := 1) (by decide))
  have c2 := h1.cell 30 (by decide) (reF_some (k := 2) (by decide))
  obtain ⟨s0, hs0⟩ : ∃ s, r.some.getD 0 false = s := ⟨_, rfl⟩
  obtain ⟨s1, hs1⟩ : ∃ s, r.some.getD 1 false = s := ⟨_, rfl⟩
  obtain ⟨s2, hs2⟩ : ∃ s, r.some.getD 2 false = s := ⟨_, rfl⟩
  rw [hs0] at c0
  rw [hs1] at c1
  rw [hs2] at c2
  have HS0 := Lib.hid hs0
  have HS1 := Lib.hid hs1
  have HS2 := Lib.hid hs2
  clear h h1 hs0 hs1 hs2
  go_enter Tryd.func69, Tryd.ntmps69
  go_upto_region 2 with fail
  generalize (((w.alloc (.cells #[I 0, I 0] 35)).alloc (.cells #[I 0, I 0] 35)).alloc (.cells #[I 0, I 0] 35)) = w1 at *
  have hl := k2.lt
  generalize hG : w.heap.size = g0 at *
  have HG := Lib.hid hG
  clear hG
  go_wp2_with fail
  clear c0 c1 c2
  go_loopw [12] (fun i wr => ∃ k : Nat, k ≤ 3 ∧ i = I k ∧ Hid (FuseRel w g0 r k wr)) (fun i _ => 3 - (intOf i).toNat)
  case atStart => exact ⟨0, by omega, rfl, Lib.hid ⟨k1, k2, k0, hb1⟩⟩
  case round =>
    clear k0 k1 k2 hb1
    obtain ⟨k, hk, rfl, HL⟩ := hrel
    by_cases hlt : k < 3
    · obtain ⟨sk, hsk, hix⟩ : ∃ sk, r.some.getD k false = sk ∧ ∀ wx, (Instr.index 179 (.agg #[.bool s0, .bool s1, .bool s2]) (I (k : Int))).run Tryd.prog wx = .ok (.bool sk) wx := by
        have : k = 0 ∨ k = 1 ∨ k = 2 := by omega
        rcases this with rfl | rfl | rfl
        · exact ⟨s0, HS0.out, fun wx => ix0 _ _ _ _⟩
        · exact ⟨s1, HS1.out, fun wx => ix1 _ _ _ _⟩
        · exact ⟨s2, HS2.out, fun wx => ix2 _ _ _ _⟩
      have hixr := hix wr
      have HSK := Lib.hid hsk
      have hki : (k : Int) < 3 := by omega
      clear hsk hix
      cases sk with
      | false =>
        have HN : Hid (fuseTo r (k + 1) = fuseTo r k) := Lib.hid (by rw [fuseTo_succ, HSK.out]; rfl)
        go_wp2_with fail
        go_roundw
        case rel => exact ⟨k + 1, by omega, by go_num, Lib.hid (by unfold FuseRel; rw [HN.out]; exact HL.out)⟩
        case measure => simp [intOf]; omega
      | true =>
        have HN := Lib.hid (fuseTo_succ r k)
        rw [HSK.out, if_pos rfl] at HN
        obtain ⟨⟨a1, a2⟩, b1, b2⟩ := fuseTo_small hs.out k
        obtain ⟨t1, t2⟩ := hs.out k
        obtain ⟨m1, m2, m0, hbr⟩ := HL.out
        have hR := HR.out.has.below hbr (by omega)
        have e1 := hR.cellF (22 + k * 2) (by omega) (reF_seen1 hlt)
        have e2 := hR.cellF (22 + k * 2 + 1) (by omega) (reF_seen2 hlt)
        have HNL := Lib.hid (show ∀ wx, FuseRel w g0 r (k + 1) wx ↔ (Has wx (g0 + 1) 35 #[I (((fuseTo r k).2.1 ||| (r.seen.getD k (0, 0)).1 : Nat)), I (((fuseTo r k).2.2 ||| (r.seen.getD k (0, 0)).2 : Nat))] ∧
            Has wx (g0 + 2) 35 #[I (((fuseTo r k).1.1 ||| ((fuseTo r k).2.1 &&& (r.seen.getD k (0, 0)).1) : Nat)), I (((fuseTo r k).1.2 ||| ((fuseTo r k).2.2 &&& (r.seen.getD k (0, 0)).2) : Nat))] ∧ Has wx g0 35 #[I 0, I 0] ∧ Below g0 w wx) from fun wx => by unfold FuseRel; rw [HN.out])
        clear HL HN hR
        generalize (fuseTo r k).1.1 = p1 at *
        generalize (fuseTo r k).1.2 = p2 at *
        generalize (fuseTo r k).2.1 = q1 at *
        generalize (fuseTo r k).2.2 = q2 at *
        generalize (r.seen.getD k (0, 0)).1 = x at *
        generalize (r.seen.getD k (0, 0)).2 = y at *
        have hx1 : q1 &&& x < 4096 := Nat.and_lt_two_pow (n := 12) _ t1
        have hx2 : q2 &&& y < 4096 := Nat.and_lt_two_pow (n := 12) _ t2
        have HA1 := Lib.hid (and_i64 q1 x (by omega) (by omega))
        have HA2 := Lib.hid (and_i64 q2 y (by omega) (by omega))
        have HO1 := Lib.hid (or_i64 p1 (q1 &&& x) (by omega) (by omega))
        have HO2 := Lib.hid (or_i64 p2 (q2 &&& y) (by omega) (by omega))
        have HO3 := Lib.hid (or_i64 q1 x (by omega) (by omega))
        have HO4 := Lib.hid (or_i64 q2 y (by omega) (by omega))
        generalize q1 &&& x = z1 at *
        generalize q2 &&& y = z2 at *
        generalize p1 ||| z1 = r1 at *
        generalize p2 ||| z2 = r2 at *
        generalize q1 ||| x = r3 at *
        generalize q2 ||| y = r4 at *
        have hba : Below wr.heap.size wr (wr.alloc (.cells #[I (x : Int), I (y : Int)] 35)) := (Below.refl _ _).alloc (Nat.le_refl _) _
        have k7 := Has.new wr 35 #[I (x : Int), I (y : Int)]
        have n1 := m1.after hba
        have n2 := m2.after hba
        have n0 := m0.after hba
        have hbs := hbr.size
        have hg0r := m0.lt
        have hg1r := m1.lt
        have hg2r := m2.lt
        have hbA := hbr.trans (hba.mono (by omega))
        go_upto_region 7 with fail
        clear hixr e1 e2 m1 m2 m0 hbr hba
        generalize wr.alloc (.cells #[I (x : Int), I (y : Int)] 35) = wa at *
        generalize wr.heap.size = g7 at *
        have c7 := k7.cellv 0 _ rfl
        have d7 := k7.cellv 1 _ rfl
        have c2 := n2.cellv 0 _ rfl
        have d2 := n2.cellv 1 _ rfl
        have c1 := n1.cellv 0 _ rfl
        have d1 := n1.cellv 1 _ rfl
        have f2 := n2.free 0
        have f2' := n2.free 1
        have f1 := n1.free 0
        have f1' := n1.free 1
        have v1 := HA1.out
        have v2 := HA2.out
        have v3 := HO1.out
        have v4 := HO2.out
        have v5 := HO3.out
        have v6 := HO4.out
        have hne : g7 ≠ g0 + 1 := by omega
        have hne2 : g7 ≠ g0 + 2 := by omega
        go_wp2_with fail
        have N2 := (n2.set 0 (I (r1 : Int))).set 1 (I (r2 : Int))
        have N1 := ((n1.far (p := ⟨g0 + 2, 0, none⟩) (show g0 + 1 ≠ g0 + 2 by omega) (I (r1 : Int))).far (p := ⟨g0 + 2, 1, none⟩) (show g0 + 1 ≠ g0 + 2 by omega) (I (r2 : Int)))
        have N0 := ((n0.far (p := ⟨g0 + 2, 0, none⟩) (show g0 ≠ g0 + 2 by omega) (I (r1 : Int))).far (p := ⟨g0 + 2, 1, none⟩) (show g0 ≠ g0 + 2 by omega) (I (r2 : Int)))
        have N1' := (N1.set 0 (I (r3 : Int))).set 1 (I (r4 : Int))
        have N2' := ((N2.far (p := ⟨g0 + 1, 0, none⟩) (show g0 + 2 ≠ g0 + 1 by omega) (I (r3 : Int))).far (p := ⟨g0 + 1, 1, none⟩) (show g0 + 2 ≠ g0 + 1 by omega) (I (r4 : Int)))
        have N0' := ((N0.far (p := ⟨g0 + 1, 0, none⟩) (show g0 ≠ g0 + 1 by omega) (I (r3 : Int))).far (p := ⟨g0 + 1, 1, none⟩) (show g0 ≠ g0 + 1 by omega) (I (r4 : Int)))
        have NB : Below g0 w _ := (((hbA.setCell (p := ⟨g0 + 2, 0, none⟩) (Nat.le_add_right _ _) (I (r1 : Int))).setCell (p := ⟨g0 + 2, 1, none⟩) (Nat.le_add_right _ _) (I (r2 : Int))).setCell (p := ⟨g0 + 1, 0, none⟩) (Nat.le_add_right _ _) (I (r3 : Int))).setCell (p := ⟨g0 + 1, 1, none⟩) (Nat.le_add_right _ _) (I (r4 : Int))
        go_roundw
        case rel => exact ⟨k + 1, by omega, by go_num, Lib.hid ((HNL.out _).2 ⟨N1', N2', N0', NB⟩)⟩
        case measure => simp [intOf]; omega
    · have hk3 : k = 3 := by omega
      subst hk3
      obtain ⟨m1, m2, m0, hbr⟩ := HL.out
      have e0 := m2.cellv 0 _ rfl
      have e1 := m2.cellv 1 _ rfl
      have f0 := m0.free 0
      have f1 := m0.free 1
      have d0 := m0.cellv 0 _ rfl
      have d1 := m0.cellv 1 _ rfl
      have HFU : Hid (fused r = (fuseTo r 3).1) := Lib.hid rfl
      go_wp2_with fail
      have hb9 : Below g0 w _ := (hbr.setCell (p := ⟨g0, 0, none⟩) (Nat.le_refl _) (I (fuseTo r 3).1.1)).setCell (p := ⟨g0, 1, none⟩) (Nat.le_refl _) (I (fuseTo r 3).1.2)
      exact bodyPost_ret (results_cell_row rfl _ _ g0 _ #[I (fuseTo r 3).1.1, I (fuseTo r 3).1.2] _ _ rfl ((m0.set 0 _).set 1 _) Tryd.underlying35 rfl (by kernel_rfl)) rfl ⟨by rw [HFU.out], HG.out ▸ hb9⟩
end
end Go.Proofs.YtdhekhlmdefcnaaDoor
/- What may be of a replica; a tick, step by step. -/
namespace Go.Proofs.YtdhekhlmdefcnaaDoor
open Go.RowKit
structure Re.Fits (r : Re) (T : Nat) : Prop where
  id : r.id < 3
  nseen : r.seen.length = 3
  nsome : r.some.length = 3
  ncame : r.came.length = 3
  ntold : r.told.length = 3
  seen : ∀ k, Small2 (r.seen.getD k (0, 0))
  came : ∀ k, r.came.getD k 0 ≤ T
  ticks : r.ticks ≤ T
  cycle : r.cycle ≤ 2000000
  ahead : r.ahead ≤ 2000000
  state : r.state.Fits (2000 + T)
  told : ∀ k, (r.told.getD k kn0).2.1.Fits 2000 ∧ (r.told.getD k kn0).1 ≤ 2000000
  field : (-9223372036854775808 ≤ r.field.1 ∧ r.field.1 < 9223372036854775808) ∧ -9223372036854775808 ≤ r.field.2 ∧ r.field.2 < 9223372036854775808
/-- a tick, of the first k others asked whether they still count -/
def someTo (r : Re) (t k : Nat) : Re := { r with ticks := t, some := (List.range 3).map fun i => if i < k then r.some.getD i false && decide (t < r.came.getD i 0 + 3) else r.some.getD i false }
theorem someTo_zero {r : Re} {t : Nat} (h : r.some.length = 3) : someTo r t 0 = { r with ticks := t } := by
  unfold someTo
  have : (List.range 3).map (fun i => if i < 0 then r.some.getD i false && decide (t < r.came.getD i 0 + 3) else r.some.getD i false) = r.some := by
    apply List.ext_getElem?
    intro i
    by_cases hi : i < 3
    · rw [List.getElem?_map, List.getElem?_range hi]
      simp [List.getD_eq_getElem?_getD, List.getElem?_eq_getElem (show i < r.some.length by omega)]
    · rw [List.getElem?_eq_none (by simp; omega), List.getElem?_eq_none (by omega)]
  rw [this]
theorem someTo_get {r : Re} {t k i : Nat} (hi : i < 3) : (someTo r t k).some.getD i false = if i < k then r.some.getD i false && decide (t < r.came.getD i 0 + 3) else r.some.getD i false := by
  unfold someTo
  rw [List.getD_eq_getElem?_getD, List.getElem?_map, List.getElem?_range hi]
  rfl
theorem someTo_succ {r : Re} {t k : Nat} (hk : k < 3) : { someTo r t k with some := (someTo r t k).some.set k (r.some.getD k false && decide (t < r.came.getD k 0 + 3)) } = someTo r t (k + 1) := by
  have e : (someTo r t k).some.set k (r.some.getD k false && decide (t < r.came.getD k 0 + 3)) = (someTo r t (k + 1)).some := by
    apply List.ext_getElem?
    intro i
    by_cases hi : i < 3
    · have h1 : (someTo r t k).some.length = 3 := by show ((List.range 3).map _).length = 3; simp
      have h2 : (someTo r t (k + 1)).some.length = 3 := by show ((List.range 3).map _).length = 3; simp
      have a := someTo_get (r := r) (t := t) (k := k + 1) hi
      have b := someTo_get (r := r) (t := t) (k := k) hi
      rw [List.getD_eq_getElem?_getD, List.getElem?_eq_getElem (by omega)] at a b
      rw [List.getElem?_set, List.getElem?_eq_getElem (by omega), List.getElem?_eq_getElem (by omega)]
      simp only [Option.getD_some] at a b
      by_cases e : k = i
      · subst e
        rw [if_pos rfl, if_pos (by omega), a, if_pos (by omega)]
      · rw [if_neg e, b, a]
        by_cases h3 : i < k
        · rw [if_pos h3, if_pos (by omega)]
        · rw [if_neg h3, if_neg (by omega)]
    · rw [List.getElem?_eq_none (by simp [someTo]; omega), List.getElem?_eq_none (by simp [someTo]; omega)]
  rw [e]
  rfl
theorem reTicked_eq (L : Lay) (r : Re) : reTicked L r = { someTo r (r.ticks + 1) 3 with seen := r.seen.set r.id (fit L r.field), some := (someTo r (r.ticks + 1) 3).some.set r.id true, came := r.came.set r.id (r.ticks + 1) } := by
  unfold reTicked someTo
  congr 2
def howManyTo (l : List Bool) (k : Nat) : Nat := howMany (l.take k)
theorem howMany_succ {l : List Bool} {k : Nat} {b : Bool} (h : l[k]? = some b) : howManyTo l (k + 1) = howManyTo l k + if b then 1 else 0 := by
  obtain ⟨hk, hx⟩ := List.getElem?_eq_some_iff.1 h
  unfold howManyTo howMany
  rw [List.take_succ_eq_append_getElem hk, hx, List.filter_append, List.length_append]
  cases b <;> simp
theorem howMany_le (l : List Bool) (k : Nat) : howManyTo l k ≤ k := by
  unfold howManyTo howMany
  exact Nat.le_trans (List.length_filter_le _ _) (List.length_take_le _ _)
theorem howMany_all {l : List Bool} (h : l.length = 3) : howManyTo l 3 = howMany l := by
  unfold howManyTo
  rw [List.take_of_length_le (by omega)]
end Go.Proofs.YtdhekhlmdefcnaaDoor
