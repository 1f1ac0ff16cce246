/- The walk over the reference's made. -/
import Derived.Test.YtdhekhlmdefcnaaDoorRefList
import Derived.Test.YtdhekhlmdefcnaaDoorTab
import Derived.Test.YtdhekhlmdefcnaaDoorSent
namespace Go.Proofs.YtdhekhlmdefcnaaDoor
open Go.RowKit
/-- a frame of numbers: the first n laid -/
def madeTo (ls : List Int) : Nat → List Int
  | 0 => zeroF
  | j + 1 => (madeTo ls j).set ((idx (ls.getD 0 0)).getD j 0) (ls.getD j 0)
def madeB (ls : List Int) : Bool := decide (3 ≤ ls.length) && (decide (1 ≤ ls.getD 0 0) && decide (ls.getD 0 0 ≤ 5)) && decide (ls.length = (idx (ls.getD 0 0)).length)
def made (ls : List Int) : List Int × Bool := if madeB ls then (madeTo ls ls.length, true) else (zeroF, false)
theorem madeTo_length (ls : List Int) : ∀ n, (madeTo ls n).length = 23
  | 0 => rfl
  | n + 1 => by rw [madeTo, List.length_set, madeTo_length ls n]
theorem idx_t3 (k : Int) : (idx k).getD 0 0 = 0 ∧ (idx k).getD 1 0 = 1 ∧ (idx k).getD 2 0 = 2 := by
  rcases idx_cases k with ⟨_, e⟩ | ⟨_, e⟩ | ⟨_, e⟩ | ⟨_, e⟩ | ⟨_, _, _, _, e⟩ <;> rw [e] <;> decide
theorem made_three {ls : List Int} {x0 x1 x2 : Int} (h0 : ls[0]? = some x0) (h1 : ls[1]? = some x1) (h2 : ls[2]? = some x2) : madeTo ls 3 = [x0, x1, x2, 0, 0, 0, 0, 0, 0, 0, 0, 0, 0, 0, 0, 0, 0, 0, 0, 0, 0, 0, 0] := by
  obtain ⟨e0, e1, e2⟩ := idx_t3 (ls.getD 0 0)
  rw [madeTo, madeTo, madeTo, madeTo, e0, e1, e2, getD_int h0, getD_int h1, getD_int h2]
  rfl
section
variable {ty : TypeId} {ps : String} {af : Array Edge} {g : Option (Nat × Bool)} {a : Act} {w : World} {K : Act → World → Prop} {Q : Exit → Act → World → Prop}
theorem wp_ixInt0 {b o n c d s : Nat} (hk : 0 < n) (e : a.tmps.getD s undef = .slice (some ⟨b, o, none⟩) n c) (h : K (a.put (some d) (.pointer (some ⟨b, o, none⟩))) w) :
    Oper.wp Tryd.prog { dst := some d, op := .indexAddr 22 (.tmp s) (.const (.int .i64 0)), type := ty, pos := ps, after := af, guard := g } a w K Q := by
  have e' : a.eval (.tmp s) = .slice (some ⟨b, o, none⟩) n c := e
  have hki : (0 : Int) < (n : Int) := by omega
  go_simp
  exact h
theorem wp_ixInt1 {b o n c d s : Nat} (hk : 1 < n) (e : a.tmps.getD s undef = .slice (some ⟨b, o, none⟩) n c) (h : K (a.put (some d) (.pointer (some ⟨b, o + 1, none⟩))) w) :
    Oper.wp Tryd.prog { dst := some d, op := .indexAddr 22 (.tmp s) (.const (.int .i64 1)), type := ty, pos := ps, after := af, guard := g } a w K Q := by
  have e' : a.eval (.tmp s) = .slice (some ⟨b, o, none⟩) n c := e
  have hki : (1 : Int) < (n : Int) := by omega
  go_simp
  exact h
theorem wp_ixInt2 {b o n c d s : Nat} (hk : 2 < n) (e : a.tmps.getD s undef = .slice (some ⟨b, o, none⟩) n c) (h : K (a.put (some d) (.pointer (some ⟨b, o + 2, none⟩))) w) :
    Oper.wp Tryd.prog { dst := some d, op := .indexAddr 22 (.tmp s) (.const (.int .i64 2)), type := ty, pos := ps, after := af, guard := g } a w K Q := by
  have e' : a.eval (.tmp s) = .slice (some ⟨b, o, none⟩) n c := e
  have hki : (2 : Int) < (n : Int) := by omega
  go_simp
  exact h
theorem wp_ldInt {p : Addr} {x : Int} {d s : Nat} (h0 : w.cell? p = some (I x)) (e : a.tmps.getD s undef = .pointer (some p)) (h : K (a.put (some d) (I x)) w) :
    Oper.wp Tryd.prog { dst := some d, op := .load 3 (.tmp s), type := ty, pos := ps, after := af, guard := g } a w K Q := by
  have e' : a.eval (.tmp s) = .pointer (some p) := e
  go_simp
  exact h
theorem wp_bdFrame {x0 x1 x2 : Int} {d s0 s1 s2 : Nat} (e0 : a.tmps.getD s0 undef = I x0) (e1 : a.tmps.getD s1 undef = I x1) (e2 : a.tmps.getD s2 undef = I x2)
    (h : K (a.put (some d) (.agg (frC [x0, x1, x2, 0, 0, 0, 0, 0, 0, 0, 0, 0, 0, 0, 0, 0, 0, 0, 0, 0, 0, 0, 0]))) w) :
    Oper.wp Tryd.prog { dst := some d, op := .build 45 #[(0, .tmp s0), (1, .tmp s1), (2, .tmp s2)], type := ty, pos := ps, after := af, guard := g } a w K Q := by
  have e0' : a.eval (.tmp s0) = I x0 := e0
  have e1' : a.eval (.tmp s1) = I x1 := e1
  have e2' : a.eval (.tmp s2) = I x2 := e2
  have f0 : a.tmps[s0]?.getD undef = I x0 := by rw [← Array.getD_eq_getD_getElem?]; exact e0
  have f1 : a.tmps[s1]?.getD undef = I x1 := by rw [← Array.getD_eq_getD_getElem?]; exact e1
  have f2 : a.tmps[s2]?.getD undef = I x2 := by rw [← Array.getD_eq_getD_getElem?]; exact e2
  go_simp
  exact h
theorem wp_alFrame {d : Nat} (h : K (a.put (some d) (.pointer (some ⟨w.heap.size, 0, none⟩))) (w.alloc (.cells (frC zeroF) 45))) :
    Oper.wp Tryd.prog { dst := some d, op := .alloc 45, type := ty, pos := ps, after := af, guard := g } a w K Q := by
  go_simp
  exact h
end
theorem infoRef : (Tryd.prog.info? 45).map (·.size) = some 23 := by kernel_rfl
theorem sigRef : sig Tryd.prog 5 45 = some (List.replicate 23 (some .i64)) := by kernel_rfl
theorem refSize (f : List Int) (h : f.length = 23) : (Tryd.prog.info? 45).map (·.size) = some (frC f).size := by rw [frC_size _ h]; exact infoRef
set_option maxHeartbeats 2000000 in
set_option maxRecDepth 100000 in
theorem made_small (A : Option Addr) (n c : Nat) (w : World) (h : n < 3) :
    Calls Tryd.prog 79 #[.slice A n c] w fun e w' => e = .returned (.tuple #[.agg (frC zeroF), .bool false]) ∧ Below w.heap.size w w' := by
  go_enter Tryd.func79, Tryd.ntmps79
  go_upto_region 1 with (fail)
  have k2 : Has (w.alloc (.cells #[I 0, I 0, I 0, I 0, I 0, I 0, I 0, I 0, I 0, I 0, I 0, I 0, I 0, I 0, I 0, I 0, I 0, I 0, I 0, I 0, I 0, I 0, I 0] 45)) w.heap.size 45 (frC zeroF) := by rw [zeroFrame]; exact Has.new _ _ _
  have hb : Below w.heap.size w (w.alloc (.cells #[I 0, I 0, I 0, I 0, I 0, I 0, I 0, I 0, I 0, I 0, I 0, I 0, I 0, I 0, I 0, I 0, I 0, I 0, I 0, I 0, I 0, I 0, I 0] 45)) := (Below.refl _ _).alloc (Nat.le_refl _) _
  generalize w.alloc (.cells #[I 0, I 0, I 0, I 0, I 0, I 0, I 0, I 0, I 0, I 0, I 0, I 0, I 0, I 0, I 0, I 0, I 0, I 0, I 0, I 0, I 0, I 0, I 0] 45) = w1 at *
  generalize hG : w.heap.size = g2 at *
  have HG := Lib.hid hG
  clear hG
  go_wp2_with (refine wpList_store_row rfl 45 (.tmp 2) _ rfl g2 (frC zeroF) rfl rfl 45 _ k2 (refSize _ rfl) rfl (frC_one _) ?_)
  exact bodyPost_ret (ret_cell_tmp rfl _ _ _ _ (frC zeroF) _ rfl (k2.setRow _) Tryd.underlying45 rfl (refSize _ rfl)) rfl ⟨rfl, HG.out ▸ below_setRow hb (Nat.le_refl _) _⟩
set_option maxHeartbeats 4000000 in
set_option maxRecDepth 100000 in
theorem made_in (bb oo n c : Nat) (ls : List Int) (w : World) (hl : Hid (ls.length = n)) (h3 : 3 ≤ n) (hn : n ≤ 1000) (hr : Reads w w.heap.size (some ⟨bb, oo, none⟩) (ints ls)) :
    Calls Tryd.prog 79 #[.slice (some ⟨bb, oo, none⟩) n c] w fun e w' => e = .returned (.tuple #[.agg (frC (made ls).1), .bool (made ls).2]) ∧ Below w.heap.size w w' := by
  have HR := Lib.hid hr
  clear hr
  obtain ⟨x0, hx0⟩ := some_at ls 0 (by rw [hl.out]; omega)
  obtain ⟨x1, hx1⟩ := some_at ls 1 (by rw [hl.out]; omega)
  obtain ⟨x2, hx2⟩ := some_at ls 2 (by rw [hl.out]; omega)
  have HX0 : Hid (ls.getD 0 0 = x0) := Lib.hid (getD_int hx0)
  have H3 : Hid (madeTo ls 3 = [x0, x1, x2, 0, 0, 0, 0, 0, 0, 0, 0, 0, 0, 0, 0, 0, 0, 0, 0, 0, 0, 0, 0]) := Lib.hid (made_three hx0 hx1 hx2)
  have F0 := Lib.hid hx0
  have F1 := Lib.hid hx1
  have F2 := Lib.hid hx2
  clear hx0 hx1 hx2
  go_enter Tryd.func79, Tryd.ntmps79
  go_upto_region 1 with (fail)
  have k2 : Has (w.alloc (.cells #[I 0, I 0, I 0, I 0, I 0, I 0, I 0, I 0, I 0, I 0, I 0, I 0, I 0, I 0, I 0, I 0, I 0, I 0, I 0, I 0, I 0, I 0, I 0] 45)) w.heap.size 45 (frC zeroF) := by rw [zeroFrame]; exact Has.new _ _ _
  have hb : Below w.heap.size w (w.alloc (.cells #[I 0, I 0, I 0, I 0, I 0, I 0, I 0, I 0, I 0, I 0, I 0, I 0, I 0, I 0, I 0, I 0, I 0, I 0, I 0, I 0, I 0, I 0, I 0] 45)) := (Below.refl _ _).alloc (Nat.le_refl _) _
  have HR1 : Hid (Reads (w.alloc (.cells #[I 0, I 0, I 0, I 0, I 0, I 0, I 0, I 0, I 0, I 0, I 0, I 0, I 0, I 0, I 0, I 0, I 0, I 0, I 0, I 0, I 0, I 0, I 0] 45)) w.heap.size (some ⟨bb, oo, none⟩) (ints ls)) := Lib.hid (HR.out.below hb)
  generalize w.alloc (.cells #[I 0, I 0, I 0, I 0, I 0, I 0, I 0, I 0, I 0, I 0, I 0, I 0, I 0, I 0, I 0, I 0, I 0, I 0, I 0, I 0, I 0, I 0, I 0] 45) = w1 at *
  generalize hG : w.heap.size = g2 at *
  have HG := Lib.hid hG
  clear hG HR
  go_upto_region 3 with (fail)
  have hl1 := k2.lt
  go_cut [4] (fun s4 wx => s4 = .pointer (some ⟨w1.heap.size, 0, none⟩) ∧ Has wx w1.heap.size 45 (frC (madeTo ls 3)) ∧ Has wx g2 45 (frC zeroF) ∧ Hid (Reads wx g2 (some ⟨bb, oo, none⟩) (ints ls)) ∧ Below g2 w wx)
  case first =>
    rename_i J0 K0 hJ0 hK0
    rw [H3.out] at *
    generalize hff : [x0, x1, x2, 0, 0, 0, 0, 0, 0, 0, 0, 0, 0, 0, 0, 0, 0, 0, 0, 0, 0, 0, (0 : Int)] = f3 at *
    have hf3 : Hid (f3.length = 23) := Lib.hid (by rw [← hff]; rfl)
    have k4 : Hid (Has (w1.drew.alloc (.cells (frC zeroF) 45)) w1.heap.size 45 (frC zeroF)) := Lib.hid (Has.new _ _ _)
    have b0 : Below g2 w w1.drew := hb.drew
    have b1 : Below g2 w (w1.drew.alloc (.cells (frC zeroF) 45)) := b0.alloc (Nat.le_of_lt hl1) _
    have b2 : Below g2 w ((w1.drew.alloc (.cells (frC zeroF) 45)).setRow w1.heap.size (frC f3)) := below_setRow b1 (Nat.le_of_lt hl1) _
    have bR : ∀ wx, Below g2 w wx → Reads wx g2 (some ⟨bb, oo, none⟩) (ints ls) := fun wx h => by
      have : Reads w g2 (some ⟨bb, oo, none⟩) (ints ls) := HR1.out.keep (fun b o hb' => (hb.cell (p := ⟨b, o, none⟩) hb').symm)
      exact this.below h
    have HC0 : Hid (∀ wx, Below g2 w wx → wx.cell? ⟨bb, oo, none⟩ = some (I x0)) := Lib.hid (fun wx h => by obtain ⟨_, _, e, _, h⟩ := (bR wx h).at_ F0.out; cases e; exact h)
    have HC1 : Hid (∀ wx, Below g2 w wx → wx.cell? ⟨bb, oo + 1, none⟩ = some (I x1)) := Lib.hid (fun wx h => by obtain ⟨_, _, e, _, h⟩ := (bR wx h).at_ F1.out; cases e; exact h)
    have HC2 : Hid (∀ wx, Below g2 w wx → wx.cell? ⟨bb, oo + 2, none⟩ = some (I x2)) := Lib.hid (fun wx h => by obtain ⟨_, _, e, _, h⟩ := (bR wx h).at_ F2.out; cases e; exact h)
    have hWB : Hid (∀ li wx, W3 w1.drew (w1.drew.alloc (.cells (frC zeroF) 45)) ((w1.drew.alloc (.cells (frC zeroF) 45)).setRow w1.heap.size (frC f3)) 10 11 li wx → Below g2 w wx) := Lib.hid (fun li wx h => h.any (p := fun x => Below g2 w x) b0 b1 b2)
    refine region_tabF (by kernel_rfl) (fun b0 => b0.tmps.getD 0 undef = .slice (some ⟨bb, oo, none⟩) n c) rfl 107 rfl
      (fun i => ([.slice (some ⟨bb, oo, none⟩) n c, .pointer (some ⟨bb, oo, none⟩), I x0, .slice (some ⟨bb, oo, none⟩) n c, .pointer (some ⟨bb, oo + 1, none⟩), I x1, .slice (some ⟨bb, oo, none⟩) n c, .pointer (some ⟨bb, oo + 2, none⟩), I x2, .agg (frC f3), .pointer (some ⟨w1.heap.size, 0, none⟩)] : List Value).getD i undef)
      (W3 w1.drew (w1.drew.alloc (.cells (frC zeroF) 45)) ((w1.drew.alloc (.cells (frC zeroF) 45)).setRow w1.heap.size (frC f3)) 10 11)
      [10, 11, 12, 13, 14, 15, 16, 17, 18, 19, 4] (by kernel_rfl) (by kernel_rfl) ⟨fun h => absurd h (by decide), rfl⟩ ?_ ?_
    · intro b0 hb0 i o ho
      have hi : i < 12 := (Array.getElem?_eq_some_iff.1 ho).1
      subst hff
      have hcase : i = 0 ∨ i = 1 ∨ i = 2 ∨ i = 3 ∨ i = 4 ∨ i = 5 ∨ i = 6 ∨ i = 7 ∨ i = 8 ∨ i = 9 ∨ i = 10 ∨ i = 11 := by omega
      rcases hcase with rfl | rfl | rfl | rfl | rfl | rfl | rfl | rfl | rfl | rfl | rfl | rfl
      · cases ho
        exact does_quiet rfl (fun li w _ h => h.quiet (by decide) (by decide)) (fun li a w hF hed hK hW K hk => wp_move_at rfl (by rw [hF.slot (by decide)]; exact hb0) hk)
      · cases ho
        exact does_quiet rfl (fun li w _ h => h.quiet (by decide) (by decide)) (fun li a w hF hed hK hW K hk => wp_ixInt0 (by omega) (hK 0 _ rfl (hed ⟨0, .data⟩ (by simp) rfl) 10 rfl) hk)
      · cases ho
        exact does_quiet rfl (fun li w _ h => h.quiet (by decide) (by decide)) (fun li a w hF hed hK hW K hk => wp_ldInt (HC0.out _ (hWB.out _ _ hW)) (hK 1 _ rfl (hed ⟨1, .data⟩ (by simp) rfl) 11 rfl) hk)
      · cases ho
        exact does_quiet rfl (fun li w _ h => h.quiet (by decide) (by decide)) (fun li a w hF hed hK hW K hk => wp_move_at rfl (by rw [hF.slot (by decide)]; exact hb0) hk)
      · cases ho
        exact does_quiet rfl (fun li w _ h => h.quiet (by decide) (by decide)) (fun li a w hF hed hK hW K hk => wp_ixInt1 (by omega) (hK 3 _ rfl (hed ⟨3, .data⟩ (by simp) rfl) 13 rfl) hk)
      · cases ho
        exact does_quiet rfl (fun li w _ h => h.quiet (by decide) (by decide)) (fun li a w hF hed hK hW K hk => wp_ldInt (HC1.out _ (hWB.out _ _ hW)) (hK 4 _ rfl (hed ⟨4, .data⟩ (by simp) rfl) 14 rfl) hk)
      · cases ho
        exact does_quiet rfl (fun li w _ h => h.quiet (by decide) (by decide)) (fun li a w hF hed hK hW K hk => wp_move_at rfl (by rw [hF.slot (by decide)]; exact hb0) hk)
      · cases ho
        exact does_quiet rfl (fun li w _ h => h.quiet (by decide) (by decide)) (fun li a w hF hed hK hW K hk => wp_ixInt2 (by omega) (hK 6 _ rfl (hed ⟨6, .data⟩ (by simp) rfl) 16 rfl) hk)
      · cases ho
        exact does_quiet rfl (fun li w _ h => h.quiet (by decide) (by decide)) (fun li a w hF hed hK hW K hk => wp_ldInt (HC2.out _ (hWB.out _ _ hW)) (hK 7 _ rfl (hed ⟨7, .data⟩ (by simp) rfl) 17 rfl) hk)
      · cases ho
        exact does_quiet rfl (fun li w _ h => h.quiet (by decide) (by decide)) (fun li a w hF hed hK hW K hk => wp_bdFrame (hK 2 _ rfl (hed ⟨2, .data⟩ (by simp) rfl) 12 rfl) (hK 5 _ rfl (hed ⟨5, .data⟩ (by simp) rfl) 15 rfl) (hK 8 _ rfl (hed ⟨8, .data⟩ (by simp) rfl) 18 rfl) hk)
      · cases ho
        refine does_turn rfl (fun li a w hs hn hF hed hK hW K hk => ?_)
        have hw := hW.before hn
        subst hw
        exact wp_alFrame (hk _ (hW.allocd hn (by rw [hs]; decide) (by decide)))
      · cases ho
        refine does_turn rfl (fun li a w hs hn hF hed hK hW K hk => ?_)
        have h10 := hed ⟨10, .data⟩ (by simp) rfl
        have hw := hW.between h10 hn
        subst hw
        exact wp_store_row 45 (.tmp 4) (.tmp 19) rfl w1.heap.size (frC _) (hK 10 _ rfl h10 4 rfl) (hK 9 _ rfl (hed ⟨9, .data⟩ (by simp) rfl) 19 rfl) 45 (frC zeroF) k4.out (refSize _ hf3.out) (by rw [frC_size _ rfl, frC_size _ hf3.out]) (frC_one _) (hk _ (W3.stored h10 (by rw [hs]; decide) (by decide)))
    · intro li a w' hF hK hall hW
      have hw := hW.done (hall 11 (by decide))
      have e4 := hK 10 _ rfl (hall 10 (by decide)) 4 rfl
      have hM := hF.meet
      simp only [List.foldl_cons, List.foldl_nil, List.setIfInBounds_toArray, List.set_cons_succ, List.set_cons_zero, e4] at hM
      subst hw
      refine hK0 _ _ (Met.intro (hJ0 _ _ ?_))
      (repeat apply Exists.intro)
      exact ⟨⟨rfl, k4.out.setRow _, (k2.drew.alloc _).farRow (Nat.ne_of_lt hl1) _, bR _ b2, b2⟩, hM⟩
  case rest =>
    obtain ⟨rfl, ka, kb, HRr, hbr⟩ := hcut
    generalize w1.heap.size = g4 at *
    clear k2 hb HR1 H3 F1 F2 w1
    have hne : g2 ≠ g4 := Nat.ne_of_lt hl1
    have hle : g2 ≤ g4 := Nat.le_of_lt hl1
    have hgz : (frC (madeTo ls 3))[0]? = some (I x0) := by
      obtain ⟨e0, e1, e2⟩ := idx_t3 (ls.getD 0 0)
      refine frC_get _ 0 x0 ?_
      rw [madeTo, madeTo, madeTo, madeTo, e0, e1, e2, HX0.out]
      rfl
    have a0 := ka.cellv 0 _ hgz
    clear hgz
    by_cases hk1 : x0 = 1
    · subst hk1
      have r2 : inR 1 2 3 = false := rfl
      by_cases hn5 : n = 5
      · subst hn5
        clear r2
        obtain ⟨x3, hx3⟩ := some_at ls 3 (by rw [hl.out]; omega)
        obtain ⟨x4, hx4⟩ := some_at ls 4 (by rw [hl.out]; omega)
        have c3 : wc.cell? ⟨bb, oo + 3, none⟩ = some (I x3) := by obtain ⟨_, _, e, _, h⟩ := HRr.out.at_ hx3; cases e; exact h
        have c4 : wc.cell? ⟨bb, oo + 4, none⟩ = some (I x4) := by obtain ⟨_, _, e, _, h⟩ := HRr.out.at_ hx4; cases e; exact h
        have HE : Hid (madeTo ls 5 = ((madeTo ls 3).set 3 x3).set 4 x4) := Lib.hid (by rw [madeTo, madeTo, HX0.out, getD_int hx3, getD_int hx4]; rfl)
        obtain ⟨y3, hy3⟩ := some_at (madeTo ls 3) 3 (by rw [madeTo_length]; decide)
        obtain ⟨y4, hy4⟩ := some_at (madeTo ls 3) 4 (by rw [madeTo_length]; decide)
        have z3 := ka.cellv 3 _ (frC_get _ 3 y3 hy3)
        have z4 := ka.cellv 4 _ (frC_get _ 4 y4 hy4)
        have zf3 := ka.free 3
        have zf4 := ka.free 4
        clear hx3 hx4 hy3 hy4
        have HD : Hid (made ls = (madeTo ls 5, true)) := Lib.hid (by unfold made; rw [if_pos (by unfold madeB; rw [HX0.out, hl.out]; decide), hl.out])
        have hsz : Hid ((Tryd.prog.info? 45).map (·.size) = some (frC (madeTo ls 5)).size) := Lib.hid (refSize _ (madeTo_length _ _))
        have hsz2 : Hid ((frC zeroF).size = (frC (madeTo ls 5)).size) := Lib.hid (by rw [frC_size _ (madeTo_length _ _)]; rfl)
        go_upto_region 6 with (fail)
        go_region
        all_goals
          have h := (ka.set 3 (I x3)).set 4 (I x4)
          rw [frC_set, frC_set, ← HE.out] at h
          have k5 := Lib.hid h.drew
          have kb5 := Lib.hid ((kb.far (p := ⟨g4, 3, none⟩) hne (I x3)).far (p := ⟨g4, 4, none⟩) hne (I x4)).drew
          have hb5 := Lib.hid (((hbr.setCell (p := ⟨g4, 3, none⟩) hle (I x3)).setCell (p := ⟨g4, 4, none⟩) hle (I x4)).drew)
          clear h ka kb hbr z3 z4 zf3 zf4 HE c3 c4 a0
          go_wp2_with (first
            | (go_at_call 78; refine (in_any _ _ _ _).mono ?_; rintro e w9 ⟨rfl, rfl⟩)
            | (refine wpList_load_row rfl 45 (.tmp 4) rfl g4 rfl 45 (frC (madeTo ls 5)) (0, 0) _ k5.out Tryd.underlying45 rfl hsz.out ?_)
            | (refine wpList_store_row rfl 45 (.tmp 2) _ rfl g2 (frC (madeTo ls 5)) rfl rfl 45 _ kb5.out hsz.out hsz2.out (frC_one _) ?_))
          exact bodyPost_ret (ret_cell_tmp rfl _ _ _ _ (frC (madeTo ls 5)) _ rfl (kb5.out.setRow _) Tryd.underlying45 rfl hsz.out) rfl ⟨by rw [HD.out]; rfl, HG.out ▸ below_setRow hb5.out (Nat.le_refl _) _⟩
      · have tn : ((n : Int) == 5) = false := by simp; omega
        have HD : Hid (made ls = (zeroF, false)) := Lib.hid (by unfold made; rw [if_neg]; unfold madeB; rw [HX0.out, hl.out]; simp [idx]; try omega)
        go_wp2_with (first
          | (go_at_call 78; refine (in_any _ _ _ _).mono ?_; rintro e w9 ⟨rfl, rfl⟩)
          | (refine wpList_store_row rfl 45 (.tmp 2) _ rfl g2 (frC zeroF) rfl rfl 45 _ kb (refSize _ rfl) rfl (frC_one _) ?_))
        exact bodyPost_ret (ret_cell_tmp rfl _ _ _ _ (frC zeroF) _ rfl (kb.setRow _) Tryd.underlying45 rfl (refSize _ rfl)) rfl ⟨by rw [HD.out]; rfl, HG.out ▸ below_setRow hbr (Nat.le_refl _) _⟩
    · have t1 : (x0 == 1) = false := by simpa using hk1
      by_cases hk2 : inR x0 2 3 = true
      · have hx23 : x0 = 2 ∨ x0 = 3 := by unfold inR at hk2; simp at hk2; omega
        have hid6 : Hid (idx x0 = [0, 1, 2, 3, 4, 5]) := Lib.hid (by rcases hx23 with rfl | rfl <;> rfl)
        have t4 : (x0 == 4) = false := by simp; omega
        have t5 : (x0 == 5) = false := by simp; omega
        by_cases hn6 : n = 6
        · subst hn6
          clear t4 t5
          obtain ⟨x3, hx3⟩ := some_at ls 3 (by rw [hl.out]; omega)
          obtain ⟨x4, hx4⟩ := some_at ls 4 (by rw [hl.out]; omega)
          obtain ⟨x5, hx5⟩ := some_at ls 5 (by rw [hl.out]; omega)
          have c3 : wc.cell? ⟨bb, oo + 3, none⟩ = some (I x3) := by obtain ⟨_, _, e, _, h⟩ := HRr.out.at_ hx3; cases e; exact h
          have c4 : wc.cell? ⟨bb, oo + 4, none⟩ = some (I x4) := by obtain ⟨_, _, e, _, h⟩ := HRr.out.at_ hx4; cases e; exact h
          have c5 : wc.cell? ⟨bb, oo + 5, none⟩ = some (I x5) := by obtain ⟨_, _, e, _, h⟩ := HRr.out.at_ hx5; cases e; exact h
          have HE : Hid (madeTo ls 6 = (((madeTo ls 3).set 3 x3).set 4 x4).set 5 x5) := Lib.hid (by rw [madeTo, madeTo, madeTo, HX0.out, hid6.out, getD_int hx3, getD_int hx4, getD_int hx5]; rfl)
          obtain ⟨y3, hy3⟩ := some_at (madeTo ls 3) 3 (by rw [madeTo_length]; decide)
          obtain ⟨y4, hy4⟩ := some_at (madeTo ls 3) 4 (by rw [madeTo_length]; decide)
          obtain ⟨y5, hy5⟩ := some_at (madeTo ls 3) 5 (by rw [madeTo_length]; decide)
          have z3 := ka.cellv 3 _ (frC_get _ 3 y3 hy3)
          have z4 := ka.cellv 4 _ (frC_get _ 4 y4 hy4)
          have z5 := ka.cellv 5 _ (frC_get _ 5 y5 hy5)
          have zf3 := ka.free 3
          have zf4 := ka.free 4
          have zf5 := ka.free 5
          have HMB : Hid (madeB ls = true) := Lib.hid (by unfold madeB; rw [HX0.out, hl.out, hid6.out]; simp; omega)
          clear hx3 hx4 hx5 hy3 hy4 hy5 hx23
          have HD : Hid (made ls = (madeTo ls 6, true)) := Lib.hid (by unfold made; rw [if_pos HMB.out, hl.out])
          have hsz : Hid ((Tryd.prog.info? 45).map (·.size) = some (frC (madeTo ls 6)).size) := Lib.hid (refSize _ (madeTo_length _ _))
          have hsz2 : Hid ((frC zeroF).size = (frC (madeTo ls 6)).size) := Lib.hid (by rw [frC_size _ (madeTo_length _ _)]; rfl)
          go_upto_region 8 with (go_at_call 78; refine (in_any _ _ _ _).mono ?_; rintro e w9 ⟨rfl, rfl⟩)
          go_region
          all_goals
            have h := ((ka.set 3 (I x3)).set 4 (I x4)).set 5 (I x5)
            rw [frC_set, frC_set, frC_set, ← HE.out] at h
            have k5 := Lib.hid h.drew
            have kb5 := Lib.hid (((kb.far (p := ⟨g4, 3, none⟩) hne (I x3)).far (p := ⟨g4, 4, none⟩) hne (I x4)).far (p := ⟨g4, 5, none⟩) hne (I x5)).drew
            have hb5 := Lib.hid ((((hbr.setCell (p := ⟨g4, 3, none⟩) hle (I x3)).setCell (p := ⟨g4, 4, none⟩) hle (I x4)).setCell (p := ⟨g4, 5, none⟩) hle (I x5)).drew)
            clear h ka kb hbr z3 z4 z5 zf3 zf4 zf5 HE c3 c4 c5 a0
            go_wp2_with (first
              | (go_at_call 78; refine (in_any _ _ _ _).mono ?_; rintro e w9 ⟨rfl, rfl⟩)
              | (refine wpList_load_row rfl 45 (.tmp 4) rfl g4 rfl 45 (frC (madeTo ls 6)) (0, 0) _ k5.out Tryd.underlying45 rfl hsz.out ?_)
              | (refine wpList_store_row rfl 45 (.tmp 2) _ rfl g2 (frC (madeTo ls 6)) rfl rfl 45 _ kb5.out hsz.out hsz2.out (frC_one _) ?_))
            exact bodyPost_ret (ret_cell_tmp rfl _ _ _ _ (frC (madeTo ls 6)) _ rfl (kb5.out.setRow _) Tryd.underlying45 rfl hsz.out) rfl ⟨by rw [HD.out]; rfl, HG.out ▸ below_setRow hb5.out (Nat.le_refl _) _⟩
        · have tn : ((n : Int) == 6) = false := by simp; omega
          have HD : Hid (made ls = (zeroF, false)) := Lib.hid (by unfold made; rw [if_neg]; unfold madeB; rw [HX0.out, hl.out, hid6.out]; simp; omega)
          go_wp2_with (first
            | (go_at_call 78; refine (in_any _ _ _ _).mono ?_; rintro e w9 ⟨rfl, rfl⟩)
            | (refine wpList_store_row rfl 45 (.tmp 2) _ rfl g2 (frC zeroF) rfl rfl 45 _ kb (refSize _ rfl) rfl (frC_one _) ?_))
          exact bodyPost_ret (ret_cell_tmp rfl _ _ _ _ (frC zeroF) _ rfl (kb.setRow _) Tryd.underlying45 rfl (refSize _ rfl)) rfl ⟨by rw [HD.out]; rfl, HG.out ▸ below_setRow hbr (Nat.le_refl _) _⟩
      · have hk2' : inR x0 2 3 = false := by simpa using hk2
        by_cases hk4 : x0 = 4
        · subst hk4
          clear hk2
          by_cases hn3 : n = 3
          · subst hn3
            have HD : Hid (made ls = (madeTo ls 3, true)) := Lib.hid (by unfold made; rw [if_pos (by unfold madeB; rw [HX0.out, hl.out]; decide), hl.out])
            have hsz : Hid ((Tryd.prog.info? 45).map (·.size) = some (frC (madeTo ls 3)).size) := Lib.hid (refSize _ (madeTo_length _ _))
            have hsz2 : Hid ((frC zeroF).size = (frC (madeTo ls 3)).size) := Lib.hid (by rw [frC_size _ (madeTo_length _ _)]; rfl)
            go_wp2_with (first
              | (go_at_call 78; refine (in_any _ _ _ _).mono ?_; rintro e w9 ⟨rfl, rfl⟩)
              | (refine wpList_load_row rfl 45 (.tmp 4) rfl g4 rfl 45 (frC (madeTo ls 3)) (0, 0) _ ka Tryd.underlying45 rfl hsz.out ?_)
              | (refine wpList_store_row rfl 45 (.tmp 2) _ rfl g2 (frC (madeTo ls 3)) rfl rfl 45 _ kb hsz.out hsz2.out (frC_one _) ?_))
            exact bodyPost_ret (ret_cell_tmp rfl _ _ _ _ (frC (madeTo ls 3)) _ rfl (kb.setRow _) Tryd.underlying45 rfl hsz.out) rfl ⟨by rw [HD.out]; rfl, HG.out ▸ below_setRow hbr (Nat.le_refl _) _⟩
          · have tn : ((n : Int) == 3) = false := by simp; omega
            have HD : Hid (made ls = (zeroF, false)) := Lib.hid (by unfold made; rw [if_neg]; unfold madeB; rw [HX0.out, hl.out]; simp [idx]; try omega)
            go_wp2_with (first
              | (go_at_call 78; refine (in_any _ _ _ _).mono ?_; rintro e w9 ⟨rfl, rfl⟩)
              | (refine wpList_store_row rfl 45 (.tmp 2) _ rfl g2 (frC zeroF) rfl rfl 45 _ kb (refSize _ rfl) rfl (frC_one _) ?_))
            exact bodyPost_ret (ret_cell_tmp rfl _ _ _ _ (frC zeroF) _ rfl (kb.setRow _) Tryd.underlying45 rfl (refSize _ rfl)) rfl ⟨by rw [HD.out]; rfl, HG.out ▸ below_setRow hbr (Nat.le_refl _) _⟩
        · have t4 : (x0 == 4) = false := by simpa using hk4
          by_cases hk5 : x0 = 5
          · subst hk5
            clear hk2
            by_cases hn20 : n = 20
            · subst hn20
              obtain ⟨x3, hx3⟩ := some_at ls 3 (by rw [hl.out]; omega)
              have c3 : wc.cell? ⟨bb, oo + 3, none⟩ = some (I x3) := by obtain ⟨_, _, e, _, h⟩ := HRr.out.at_ hx3; cases e; exact h
              have hbb : bb ≠ g4 := by obtain ⟨_, _, e, h9, _⟩ := HRr.out.at_ hx3; cases e; omega
              have HE : Hid (madeTo ls 4 = (madeTo ls 3).set 6 x3) := Lib.hid (by rw [madeTo, HX0.out, getD_int hx3]; rfl)
              obtain ⟨y6, hy6⟩ := some_at (madeTo ls 3) 6 (by rw [madeTo_length]; decide)
              have z6 := ka.cellv 6 _ (frC_get _ 6 y6 hy6)
              have zf6 := ka.free 6
              clear hx3 hy6
              have HD : Hid (made ls = (madeTo ls 20, true)) := Lib.hid (by unfold made; rw [if_pos (by unfold madeB; rw [HX0.out, hl.out]; decide), hl.out])
              have hsz : Hid ((Tryd.prog.info? 45).map (·.size) = some (frC (madeTo ls 20)).size) := Lib.hid (refSize _ (madeTo_length _ _))
              have hsz2 : Hid ((frC zeroF).size = (frC (madeTo ls 20)).size) := Lib.hid (by rw [frC_size _ (madeTo_length _ _)]; rfl)
              have h := ka.set 6 (I x3)
              rw [frC_set, ← HE.out] at h
              have k5 := h
              have kb5 := kb.far (p := ⟨g4, 6, none⟩) hne (I x3)
              have hb5 := hbr.setCell (p := ⟨g4, 6, none⟩) hle (I x3)
              have HR5 : Hid (Reads (wc.setCell ⟨g4, 6, none⟩ (I x3)) g2 (some ⟨bb, oo, none⟩) (ints ls)) := Lib.hid (HRr.out.setCell hle _)
              have HJ : Hid (∀ j, j < 8 → ∀ x y, ls[4 + 2 * j]? = some x → ls[5 + 2 * j]? = some y → madeTo ls (4 + 2 * (j + 1)) = ((madeTo ls (4 + 2 * j)).set (7 + j) x).set (15 + j) y) := Lib.hid (by
                intro j hj x y hx hy
                have e1 : (idx 5).getD (4 + 2 * j) 0 = 7 + j ∧ (idx 5).getD (5 + 2 * j) 0 = 15 + j := by
                  have : j = 0 ∨ j = 1 ∨ j = 2 ∨ j = 3 ∨ j = 4 ∨ j = 5 ∨ j = 6 ∨ j = 7 := by omega
                  rcases this with rfl | rfl | rfl | rfl | rfl | rfl | rfl | rfl <;> exact ⟨rfl, rfl⟩
                rw [show 4 + 2 * (j + 1) = (4 + 2 * j) + 1 + 1 by omega, madeTo, madeTo, HX0.out, show 4 + 2 * j + 1 = 5 + 2 * j by omega, e1.1, e1.2, getD_int hx, getD_int hy])
              clear h
              obtain ⟨M, hM0, hMs, hM8, hMl⟩ : ∃ M : Nat → List Int, M 0 = madeTo ls 4 ∧ (∀ j, j < 8 → ∀ x y, ls[4 + 2 * j]? = some x → ls[5 + 2 * j]? = some y → M (j + 1) = ((M j).set (7 + j) x).set (15 + j) y) ∧ M 8 = madeTo ls 20 ∧ ∀ j, (M j).length = 23 := ⟨fun j => madeTo ls (4 + 2 * j), rfl, HJ.out, rfl, fun j => madeTo_length _ _⟩
              have HMs := Lib.hid hMs
              have HM8 := Lib.hid hM8
              have HMl := Lib.hid hMl
              rw [← hM0] at k5
              clear hM0 hMs hM8 hMl HJ
              generalize madeTo ls 20 = mf at *
              go_wp2_with (go_at_call 78; refine (in_any _ _ _ _).mono ?_; rintro e w9 ⟨rfl, rfl⟩)
              clear ka kb hbr HRr z6 zf6 HE c3 a0
              generalize wc.setCell ⟨g4, 6, none⟩ (I x3) = wd at *
              go_loopw [82] (fun i wr => ∃ j : Nat, j ≤ 8 ∧ i = I j ∧ Has wr g4 45 (frC (M j)) ∧ Has wr g2 45 (frC zeroF) ∧ Hid (Reads wr g2 (some ⟨bb, oo, none⟩) (ints ls)) ∧ Below g2 w wr) (fun i _ => 8 - (intOf i).toNat)
              case atStart => exact ⟨0, by omega, rfl, k5, kb5, HR5, hb5⟩
              case round =>
                clear k5 kb5 HR5 hb5
                obtain ⟨j, hj, rfl, ka, kb, HR, hbr⟩ := hrel
                by_cases hlt : j < 8
                · obtain ⟨x, hx⟩ := some_at ls (4 + 2 * j) (by rw [hl.out]; omega)
                  obtain ⟨y, hy⟩ := some_at ls (5 + 2 * j) (by rw [hl.out]; omega)
                  have c4 : wr.cell? ⟨bb, oo + (4 + 2 * j), none⟩ = some (I x) := by obtain ⟨_, _, e, _, h⟩ := HR.out.at_ hx; cases e; exact h
                  have c5 : wr.cell? ⟨bb, oo + (5 + 2 * j), none⟩ = some (I y) := by obtain ⟨_, _, e, _, h⟩ := HR.out.at_ hy; cases e; exact h
                  have HS := Lib.hid (HMs.out j hlt x y hx hy)
                  obtain ⟨u, hu⟩ := some_at (M j) (7 + j) (by rw [HMl.out]; omega)
                  obtain ⟨v, hv⟩ := some_at (M j) (15 + j) (by rw [HMl.out]; omega)
                  have z7 := ka.cellv (7 + j) _ (frC_get _ _ u hu)
                  have z15 := ka.cellv (15 + j) _ (frC_get _ _ v hv)
                  have zf7 := ka.free (7 + j)
                  have zf15 := ka.free (15 + j)
                  clear hx hy hu hv
                  go_wp2_with fail
                  go_region
                  all_goals
                    go_wp2_with fail
                    go_roundw
                    case rel =>
                      have h := (ka.set (7 + j) (I x)).set (15 + j) (I y)
                      rw [frC_set, frC_set, ← HS.out] at h
                      first
                        | exact ⟨j + 1, by omega, by go_num, h.drew, ((kb.far (p := ⟨g4, 7 + j, none⟩) hne (I x)).far (p := ⟨g4, 15 + j, none⟩) hne (I y)).drew, Lib.hid ((HR.out.setCell (p := ⟨g4, 7 + j, none⟩) hle (I x)).setCell (p := ⟨g4, 15 + j, none⟩) hle (I y)), ((hbr.setCell (p := ⟨g4, 7 + j, none⟩) hle (I x)).setCell (p := ⟨g4, 15 + j, none⟩) hle (I y)).drew⟩
                        | (have h2 := (ka.set (15 + j) (I y)).set (7 + j) (I x)
                           rw [frC_set, frC_set, List.set_comm _ _ (by omega), ← HS.out] at h2
                           exact ⟨j + 1, by omega, by go_num, h2.drew, ((kb.far (p := ⟨g4, 15 + j, none⟩) hne (I y)).far (p := ⟨g4, 7 + j, none⟩) hne (I x)).drew, Lib.hid ((HR.out.setCell (p := ⟨g4, 15 + j, none⟩) hle (I y)).setCell (p := ⟨g4, 7 + j, none⟩) hle (I x)), ((hbr.setCell (p := ⟨g4, 15 + j, none⟩) hle (I y)).setCell (p := ⟨g4, 7 + j, none⟩) hle (I x)).drew⟩)
                    case measure => simp [intOf]; omega
                · have hj8 : j = 8 := by omega
                  rw [hj8, HM8.out] at ka
                  clear hj8 HM8 HMs HMl
                  go_wp2_with (first
                    | (go_at_call 78; refine (in_any _ _ _ _).mono ?_; rintro e w9 ⟨rfl, rfl⟩)
                    | (refine wpList_load_row rfl 45 (.tmp 4) rfl g4 rfl 45 (frC (mf)) (0, 0) _ ka Tryd.underlying45 rfl hsz.out ?_)
                    | (refine wpList_store_row rfl 45 (.tmp 2) _ rfl g2 (frC (mf)) rfl rfl 45 _ kb hsz.out hsz2.out (frC_one _) ?_))
                  exact bodyPost_ret (ret_cell_tmp rfl _ _ _ _ (frC (mf)) _ rfl (kb.setRow _) Tryd.underlying45 rfl hsz.out) rfl ⟨by rw [HD.out]; rfl, HG.out ▸ below_setRow hbr (Nat.le_refl _) _⟩

            · have tn : ((n : Int) == 20) = false := by simp; omega
              have HD : Hid (made ls = (zeroF, false)) := Lib.hid (by unfold made; rw [if_neg]; unfold madeB; rw [HX0.out, hl.out]; simp [idx]; try omega)
              go_wp2_with (first
                | (go_at_call 78; refine (in_any _ _ _ _).mono ?_; rintro e w9 ⟨rfl, rfl⟩)
                | (refine wpList_store_row rfl 45 (.tmp 2) _ rfl g2 (frC zeroF) rfl rfl 45 _ kb (refSize _ rfl) rfl (frC_one _) ?_))
              exact bodyPost_ret (ret_cell_tmp rfl _ _ _ _ (frC zeroF) _ rfl (kb.setRow _) Tryd.underlying45 rfl (refSize _ rfl)) rfl ⟨by rw [HD.out]; rfl, HG.out ▸ below_setRow hbr (Nat.le_refl _) _⟩
          · have t5 : (x0 == 5) = false := by simpa using hk5
            have hout : ¬ (1 ≤ x0 ∧ x0 ≤ 5) := by unfold inR at hk2'; simp at hk2'; omega
            have HD : Hid (made ls = (zeroF, false)) := Lib.hid (by unfold made; rw [if_neg]; unfold madeB; rw [HX0.out, hl.out]; simp; omega)
            go_wp2_with (first
              | (go_at_call 78; refine (in_any _ _ _ _).mono ?_; rintro e w9 ⟨rfl, rfl⟩)
              | (refine wpList_store_row rfl 45 (.tmp 2) _ rfl g2 (frC zeroF) rfl rfl 45 _ kb (refSize _ rfl) rfl (frC_one _) ?_))
            exact bodyPost_ret (ret_cell_tmp rfl _ _ _ _ (frC zeroF) _ rfl (kb.setRow _) Tryd.underlying45 rfl (refSize _ rfl)) rfl ⟨by rw [HD.out]; rfl, HG.out ▸ below_setRow hbr (Nat.le_refl _) _⟩
end Go.Proofs.YtdhekhlmdefcnaaDoor
