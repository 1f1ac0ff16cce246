/- Part 18 of the proof: LayErr. -/
import Derived.Test.YtdhekhlmdefcnaaDoorPart17
import Derived.Test.YtdhekhlmdefcnaaDoorPart12
/- Package layout at a layout that may not be; lists of numbers compared; what a layout that may be is. -/
namespace Go.Proofs.YtdhekhlmdefcnaaDoor
open Go.RowKit
set_option maxHeartbeats 2000000 in
theorem same_ok (A A2 : Option Addr) (n c c2 : Nat) (xs : List Int) (w : World) (B B2 : Nat) (hxn : Hid (xs.length = n)) (hn : n ≤ 1000000) (h1 : Reads w B A (ints xs)) (h2 : Reads w B2 A2 (ints xs)) :
    Calls Tryd.prog 52 #[.slice A n c, .slice A2 n c2] w fun e w' => e = .returned (.bool true) ∧ ∃ q, w.drewN q = w' := by
  go_enter Tryd.func52, Tryd.ntmps52
  go_wp2_with fail
  go_loopw [5] (fun i wx => ∃ k : Nat, k ≤ n ∧ i = I k ∧ ∃ q, w.drewN q = wx) (fun i _ => n - (intOf i).toNat)
  case atStart => exact ⟨0, by omega, rfl, 0, rfl⟩
  case round =>
    obtain ⟨k, hk, rfl, q, rfl⟩ := hrel
    by_cases hlt : k < n
    · obtain ⟨x, hx⟩ := some_at xs k (by rw [hxn.out]; exact hlt)
      obtain ⟨b, o, rfl, _, hc1⟩ := h1.at_ hx
      obtain ⟨b2, o2, rfl, _, hc2⟩ := h2.at_ hx
      have ht : (x != x) = false := by simp
      have hki : (k : Int) < (n : Int) := by omega
      clear hx h1 h2
      go_upto_region 6 with fail
      go_quiet (fail)
      go_wp2_with fail
      go_roundw
      case rel => exact ⟨k + 1, by omega, by go_num, _, rfl⟩
      case measure => simp [intOf]; omega
    · have hkn : k = n := by omega
      subst hkn
      go_wp2_with fail
      go_ret
      exact ⟨rfl, _, rfl⟩
/-- what is known of an error that is one -/
theorem err_ne {w w' : World} {r : Err} {v : Value} (h : ErrV w w' r v) (hr : r ≠ .ok) : (∃ e, v = .iface 42 (I e)) ∨ ∃ g, v = .iface 175 (.pointer (some ⟨g, 0, none⟩)) := by
  cases r with
  | ok => exact absurd rfl hr
  | bare e => exact .inl ⟨e, h⟩
  | place e p => obtain ⟨g, _, h, _⟩ := h; exact .inr ⟨g, h⟩
theorem ErrV.after {w0 w w' : World} {r : Err} {v : Value} (h : ErrV w0 w r v) (hb : Below w.heap.size w w') : ErrV w0 w' r v := by
  cases r with
  | ok => exact h
  | bare e => exact h
  | place e p => obtain ⟨g, h1, h2, h3⟩ := h; exact ⟨g, h1, h2, h3.after hb⟩
theorem ErrV.setCell {w0 w : World} {r : Err} {v : Value} (h : ErrV w0 w r v) {p : Addr} (hp : p.block < w0.heap.size) (u : Value) : ErrV w0 (w.setCell p u) r v := by
  cases r with
  | ok => exact h
  | bare e => exact h
  | place e q => obtain ⟨g, h1, h2, h3⟩ := h; exact ⟨g, h1, h2, h3.far (by omega) u⟩
theorem ErrV.base {w0 w1 w : World} {r : Err} {v : Value} (h : ErrV w1 w r v) (hb : w0.heap.size ≤ w1.heap.size) : ErrV w0 w r v := by
  cases r with
  | ok => exact h
  | bare e => exact h
  | place e p => obtain ⟨g, h1, h2, h3⟩ := h; exact ⟨g, by omega, h2, h3⟩
set_option maxHeartbeats 2000000 in
theorem conflicts_err (S d : Int) (A : Option Addr) (n c : Nat) (xs : List Int) (w : World) (hxn : Hid (xs.length = n)) (hn : n ≤ 1000000) (hc : n ≤ c) (hr : Reads w w.heap.size A (ints xs)) (hbad : Hid (chk S xs d ≠ .ok)) :
    Calls Tryd.prog 14 #[.agg #[I S, .slice A n c, I d]] w fun e w' =>
      (∃ v, e = .returned (.tuple #[.slice none 0 0, v]) ∧ ErrV w w' (chk S xs d) v) ∧ Below w.heap.size w w' := by
  have hb1 : Below w.heap.size w (w.alloc (.cells #[I S, .slice A n c, I d] 25)) := (Below.refl _ _).alloc (Nat.le_refl _) _
  have k0 := Has.new w 25 #[I S, .slice A n c, I d]
  have hr1 := hr.below hb1
  clear hr
  go_enter Tryd.func14, Tryd.ntmps14
  go_upto_region 1 with fail
  generalize w.alloc (.cells #[I S, .slice A n c, I d] 25) = w1 at *
  have hl := k0.lt
  generalize hG : w.heap.size = g0 at *
  have HG := Lib.hid hG
  clear hG
  have c0 := k0.cellv 0 _ rfl
  have c1 := k0.cellv 1 _ rfl
  have c2 := k0.cellv 2 _ rfl
  have HC : Hid (Calls Tryd.prog 54 #[.agg #[I S, .slice A n c, I d]] w1 (ErrPost w1 (chk S xs d))) := Lib.hid (by
    have h := hxn.out
    subst h
    exact check_any S d A c xs w1 (by omega) hc (hr1.more (Nat.le_of_lt hl)))
  go_upto_region 2 with (go_at_call 54; refine HC.out.mono ?_; rintro e w2 ⟨v, rfl, hv, hb2⟩)
  have HV := Lib.hid hv
  have hb9 : Below g0 w w2 := hb1.trans (hb2.mono (by omega))
  rcases err_ne hv hbad.out with ⟨e, rfl⟩ | ⟨g, rfl⟩
  all_goals
    clear hv c0 c1 c2
    go_wp2_with fail
    go_ret2
    exact ⟨⟨_, rfl, HV.out.base (by rw [HG.out]; omega)⟩, HG.out ▸ hb9⟩
set_option maxHeartbeats 2000000 in
theorem most_err (S d : Int) (A : Option Addr) (n c : Nat) (xs : List Int) (w : World) (hxn : Hid (xs.length = n)) (hn : n ≤ 1000000) (hc : n ≤ c) (hr : Reads w w.heap.size A (ints xs)) (hbad : Hid (chk S xs d ≠ .ok)) :
    Calls Tryd.prog 15 #[.agg #[I S, .slice A n c, I d]] w fun e w' =>
      (∃ v, e = .returned (.tuple #[I 0, v]) ∧ ErrV w w' (chk S xs d) v) ∧ Below w.heap.size w w' := by
  have hb1 : Below w.heap.size w (w.alloc (.cells #[I S, .slice A n c, I d] 25)) := (Below.refl _ _).alloc (Nat.le_refl _) _
  have k0 := Has.new w 25 #[I S, .slice A n c, I d]
  have hr1 := hr.below hb1
  clear hr
  go_enter Tryd.func15, Tryd.ntmps15
  go_upto_region 1 with fail
  generalize w.alloc (.cells #[I S, .slice A n c, I d] 25) = w1 at *
  have hl := k0.lt
  generalize hG : w.heap.size = g0 at *
  have HG := Lib.hid hG
  clear hG
  have c0 := k0.cellv 0 _ rfl
  have c1 := k0.cellv 1 _ rfl
  have c2 := k0.cellv 2 _ rfl
  have HC : Hid (Calls Tryd.prog 14 #[.agg #[I S, .slice A n c, I d]] w1 fun e w' => (∃ v, e = .returned (.tuple #[.slice none 0 0, v]) ∧ ErrV w1 w' (chk S xs d) v) ∧ Below w1.heap.size w1 w') := Lib.hid (conflicts_err S d A n c xs w1 hxn hn hc (hr1.more (Nat.le_of_lt hl)) hbad)
  go_upto_region 2 with (go_at_call 14; refine HC.out.mono ?_; rintro e w2 ⟨⟨v, rfl, hv⟩, hb2⟩)
  have HV := Lib.hid hv
  have hb9 : Below g0 w w2 := hb1.trans (hb2.mono (by omega))
  rcases err_ne hv hbad.out with ⟨e, rfl⟩ | ⟨g, rfl⟩
  all_goals
    clear hv c0 c1 c2
    go_wp2_with fail
    go_ret2
    exact ⟨⟨_, rfl, HV.out.base (by rw [HG.out]; omega)⟩, HG.out ▸ hb9⟩
set_option maxHeartbeats 2000000 in
theorem fit_err (S d a b : Int) (A : Option Addr) (n c : Nat) (xs : List Int) (w : World) (hxn : Hid (xs.length = n)) (hn : n ≤ 1000000) (hc : n ≤ c) (hr : Reads w w.heap.size A (ints xs)) (hbad : Hid (chk S xs d ≠ .ok)) :
    Calls Tryd.prog 53 #[.agg #[I S, .slice A n c, I d], .agg #[I a, I b]] w fun e w' =>
      (∃ v, e = .returned (.tuple #[.agg #[I 0, I 0], v]) ∧ ErrV w w' (chk S xs d) v) ∧ Below w.heap.size w w' := by
  have hb1 : Below w.heap.size w (((w.alloc (.cells #[I S, .slice A n c, I d] 25)).alloc (.cells #[I a, I b] 35)).alloc (.cells #[I 0, I 0] 35)) := (((Below.refl _ _).alloc (Nat.le_refl _) _).alloc (by simp) _).alloc (by simp; omega) _
  have k0 := ((Has.new w 25 #[I S, .slice A n c, I d]).alloc (.cells #[I a, I b] 35)).alloc (.cells #[I 0, I 0] 35)
  have k2 := Has.new' ((w.alloc (.cells #[I S, .slice A n c, I d] 25)).alloc (.cells #[I a, I b] 35)) 35 #[I 0, I 0] (w.heap.size + 2) (by simp)
  have hr1 := hr.below hb1
  clear hr
  go_enter Tryd.func53, Tryd.ntmps53
  go_upto_region 1 with fail
  generalize (((w.alloc (.cells #[I S, .slice A n c, I d] 25)).alloc (.cells #[I a, I b] 35)).alloc (.cells #[I 0, I 0] 35)) = w1 at *
  have hl := k2.lt
  generalize hG : w.heap.size = g0 at *
  have HG := Lib.hid hG
  clear hG
  have c0 := k0.cellv 0 _ rfl
  have c1 := k0.cellv 1 _ rfl
  have c2 := k0.cellv 2 _ rfl
  have HC : Hid (Calls Tryd.prog 54 #[.agg #[I S, .slice A n c, I d]] w1 (ErrPost w1 (chk S xs d))) := Lib.hid (by
    have h := hxn.out
    subst h
    exact check_any S d A c xs w1 (by omega) hc (hr1.more (by omega)))
  go_upto_region 2 with (go_at_call 54; refine HC.out.mono ?_; rintro e w2 ⟨v, rfl, hv, hb2⟩)
  have HV := Lib.hid hv
  have k2' := k2.after hb2
  have hb9 : Below g0 w w2 := hb1.trans (hb2.mono (by omega))
  have e0 := k2'.cellv 0 _ rfl
  have e1 := k2'.cellv 1 _ rfl
  have f0 := k2'.free 0
  have f1 := k2'.free 1
  rcases err_ne hv hbad.out with ⟨e, rfl⟩ | ⟨g, rfl⟩
  all_goals
    clear hv c0 c1 c2
    go_wp2_with fail
    refine bodyPost_ret (ret_cell_tmp rfl _ _ _ _ _ _ rfl ((k2'.set 0 (I 0)).set 1 (I 0)) Tryd.underlying35 rfl (by kernel_rfl)) rfl ⟨⟨_, rfl, ?_⟩, ?_⟩
    · exact ((HV.out.setCell (p := ⟨g0 + 2, 0, none⟩) hl (I 0)).setCell (p := ⟨g0 + 2, 1, none⟩) hl (I 0)).base (by rw [HG.out]; omega)
    · rw [HG.out]
      exact (hb9.setCell (p := ⟨g0 + 2, 0, none⟩) (Nat.le_add_right _ _) _).setCell (p := ⟨g0 + 2, 1, none⟩) (Nat.le_add_right _ _) _
end Go.Proofs.YtdhekhlmdefcnaaDoor
