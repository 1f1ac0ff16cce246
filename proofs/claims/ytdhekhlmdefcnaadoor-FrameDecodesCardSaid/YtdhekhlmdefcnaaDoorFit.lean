/- Walks over package layout: Fit. -/
import Derived.Test.YtdhekhlmdefcnaaDoorLayout
import Derived.RegionTactic
import Derived.ChangeAlike
import Derived.BigRegion
namespace Go.Proofs.YtdhekhlmdefcnaaDoor
open Go.RowKit
theorem wrap_pow (n : Nat) (h : n ≤ 12) : wrap64 (wrap64 (2 ^ n) - 1) = ((2 ^ n - 1 : Nat) : Int) := by
  have : n = 0 ∨ n = 1 ∨ n = 2 ∨ n = 3 ∨ n = 4 ∨ n = 5 ∨ n = 6 ∨ n = 7 ∨ n = 8 ∨ n = 9 ∨ n = 10 ∨ n = 11 ∨ n = 12 := by omega
  rcases this with rfl | rfl | rfl | rfl | rfl | rfl | rfl | rfl | rfl | rfl | rfl | rfl | rfl <;> decide +kernel
theorem check_ok (S d : Int) (A : Option Addr) (n c : Nat) (xs : List Int) (w : World) (B : Nat) (hxn : Hid (xs.length = n)) (hn : n ≤ 8) (hc : n ≤ c) (hB : B ≤ w.heap.size) (hr : Reads w B A (ints xs))
    (hok : Hid (chk S xs d = .ok)) :
    Calls Tryd.prog 54 #[.agg #[I S, .slice A n c, I d]] w fun e w' => e = .returned .nilIface ∧ Below w.heap.size w w' := by
  have h := hxn.out
  subst h
  refine (check_any S d A c xs w (by omega) hc (hr.more hB)).mono ?_
  rintro e w' ⟨v, rfl, hv, hb⟩
  rw [hok.out] at hv
  exact ⟨by rw [show v = .nilIface from hv], hb⟩
set_option maxHeartbeats 1000000 in
set_option maxRecDepth 100000 in
theorem fit_ok (S d : Int) (A : Option Addr) (n c : Nat) (xs : List Int) (a b : Int) (w : World) (hxn : Hid (xs.length = n)) (hn : n ≤ 8) (hc : n ≤ c) (hr : Reads w w.heap.size A (ints xs)) (hs1 : 1 ≤ S) (hs2 : S ≤ 12)
    (hok : Hid (chk S xs d = .ok)) :
    Calls Tryd.prog 53 #[.agg #[I S, .slice A n c, I d], .agg #[I a, I b]] w fun e w' =>
      e = .returned (.tuple #[.agg #[I (msk a S.toNat), I (msk b n)], .nilIface]) ∧ Below w.heap.size w w' := by
  obtain ⟨s, rfl⟩ : ∃ s : Nat, S = s := ⟨S.toNat, by omega⟩
  have HA : Hid (bits .and .i64 a (wrap64 (wrap64 (2 ^ s) - 1)) = msk a s) := Lib.hid (by rw [wrap_pow s (by omega), msk_i64 a s (by omega)])
  have HB : Hid (bits .and .i64 b (wrap64 (wrap64 (2 ^ n) - 1)) = msk b n) := Lib.hid (by rw [wrap_pow n (by omega), msk_i64 b n (by omega)])
  go_enter Tryd.func53, Tryd.ntmps53
  go_wp2_with (go_at_call 54; refine (check_ok _ _ _ _ _ xs _ w.heap.size hxn hn hc (by simp <;> omega) (((hr.alloc (by simp) _).alloc (by simp <;> omega) _).alloc (by simp <;> omega) _) hok).mono ?_; rintro e w1 ⟨rfl, hb⟩)
  have k0 := (Has.new' w 25 #[I s, .slice A n c, I d] w.heap.size rfl |>.alloc (.cells #[I a, I b] 35) |>.alloc (.cells #[I 0, I 0] 35)).after hb
  have k1 := (Has.new' (w.alloc (.cells #[I s, .slice A n c, I d] 25)) 35 #[I a, I b] (w.heap.size + 1) (by simp) |>.alloc (.cells #[I 0, I 0] 35)).after hb
  have k2 := (Has.new' ((w.alloc (.cells #[I s, .slice A n c, I d] 25)).alloc (.cells #[I a, I b] 35)) 35 #[I 0, I 0] (w.heap.size + 2) (by simp)).after hb
  have hw : Below w.heap.size w w1 := ((((Below.refl _ _).alloc (Nat.le_refl _) _).alloc (by simp) _).alloc (by simp <;> omega) _).trans (hb.mono (by simp <;> omega))
  clear hb
  have c00 := k0.cellv 0 _ rfl
  have c01 := k0.cellv 1 _ rfl
  have c10 := k1.cellv 0 _ rfl
  have c11 := k1.cellv 1 _ rfl
  have c20 := k2.cellv 0 _ rfl
  have c21 := k2.cellv 1 _ rfl
  have f20 := k2.free 0
  have f21 := k2.free 1
  go_region
  go_wp2
  refine bodyPost_ret (ret_cell_tmp rfl _ _ _ _ _ _ rfl ((k2.set 0 _).set 1 _).drew Tryd.underlying35 rfl (by kernel_rfl)) rfl ⟨?_, ((hw.setCell (by simp <;> omega) _).setCell (by simp <;> omega) _).drew⟩
  have e1 := HA.out
  have e2 := HB.out
  simp [e1, e2]
end Go.Proofs.YtdhekhlmdefcnaaDoor
