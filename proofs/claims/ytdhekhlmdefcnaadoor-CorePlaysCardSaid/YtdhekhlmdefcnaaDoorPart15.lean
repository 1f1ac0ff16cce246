/- Part 15 of the proof: RefBits. -/
import Derived.Test.YtdhekhlmdefcnaaDoorPart3
import Derived.Test.YtdhekhlmdefcnaaDoorPart4
import Derived.Test.YtdhekhlmdefcnaaDoorRows
import Derived.Shelf.Abstract
import Derived.Outline
import Derived.Lib.Hide
/- The reference's Has and Set. -/
namespace Go.Proofs.YtdhekhlmdefcnaaDoor
open Go.RowKit
theorem has_end (y x i : Nat) (h : y = x / 2 ^ i) : decide ((y : Int) % 2 = 1) = hasB (x : Int) i := by
  rw [hasB_nat, Nat.testBit_eq_decide_div_mod_eq, ← h, decide_eq_decide]
  omega
theorem has_end2 (y x i : Nat) (h : y = x / 2 ^ i) : ((y : Int) % 2 == 1) = hasB (x : Int) i := by
  rw [← has_end y x i h]
  rfl
set_option maxHeartbeats 1000000 in
theorem has_nat (n : Int) (h0 : 0 ≤ n) (hx : n < 9223372036854775808) (i : Nat) (hi : i ≤ 64) (w : World) :
    Calls Tryd.prog 84 #[I n, I (i : Int)] w fun e w' => e = .returned (.bool (hasB n i)) ∧ w = w' := by
  obtain ⟨x, rfl⟩ := Int.eq_ofNat_of_zero_le h0
  have hn : ¬ (x : Int) < 0 := by omega
  go_enter Tryd.func84, Tryd.ntmps84
  go_wp2_with fail
  go_loop [0, 14] (fun n c => ∃ k : Nat, k ≤ i ∧ c = I k ∧ ∃ y : Nat, y < 9223372036854775808 ∧ n = I (y : Int) ∧ Hid (y = x / 2 ^ k)) (fun _ c => i - (intOf c).toNat)
  case atStart => exact ⟨0, by omega, rfl, x, by omega, rfl, Lib.hid (by simp)⟩
  case round =>
    obtain ⟨k, hk, rfl, y, hy, rfl, HY⟩ := hrel
    by_cases hlt : k < i
    · go_wp2_with fail
      go_round
      case rel => exact ⟨k + 1, by omega, by go_num, y / 2, by omega, I_eq (by omega), Lib.hid (by rw [HY.out, Nat.div_div_eq_div_mul, Nat.pow_succ])⟩
      case measure => simp [intOf]; omega
    · have hki : k = i := by omega
      have HE := Lib.hid (has_end2 y x i (by rw [← hki]; exact HY.out))
      clear hki
      go_wp2_with fail
      go_ret
      exact ⟨by rw [← HE.out]; rfl, rfl⟩
set_option maxHeartbeats 1000000 in
theorem has_any (n : Int) (h0 : -9223372036854775808 ≤ n) (hx : n < 9223372036854775808) (i : Nat) (hi : i ≤ 64) (w : World) :
    Calls Tryd.prog 84 #[I n, I (i : Int)] w fun e w' => e = .returned (.bool (hasB n i)) ∧ w = w' := by
  by_cases hn : n < 0
  · have HE : Hid ((!hasB (-(n + 1)) i) = hasB n i) := Lib.hid (by rw [hasB_neg]; simp)
    go_enter Tryd.func84, Tryd.ntmps84
    go_wp2_with (go_at_call 84; refine (has_nat _ (by omega) (by omega) i hi _).mono ?_; rintro e w' ⟨rfl, rfl⟩)
    go_ret
    exact ⟨by rw [← HE.out]; rfl, rfl⟩
  · exact has_nat n (by omega) hx i hi w
/-- what a closure that tells a bool of a number must do -/
def Tells (g : Nat) (lb : Array Value) (n : Nat) (b : Nat → Bool) (w : World) : Prop :=
  ∀ (W : World) (i : Nat), i < n → Below w.heap.size w W → Calls Tryd.prog g (#[I (i : Int)] ++ lb) W fun e w' => e = .returned (.bool (b i)) ∧ Below W.heap.size W w'
theorem two_pow_small (k : Nat) (h : k ≤ 12) : 2 ^ k ≤ 4096 := Nat.pow_le_pow_right (n := 2) (by decide) h
set_option maxHeartbeats 2000000 in
set_option maxRecDepth 100000 in
theorem set_ok (n g : Nat) (lb : Array Value) (b : Nat → Bool) (eg : Enters Tryd.prog g) (hn : n ≤ 12) (w : World) (hp : Hid (Tells g lb n b w)) :
    Calls Tryd.prog 34 #[I (n : Int), .func (.func g) #[] lb] w fun e w' => e = .returned (I ((setB b n : Nat) : Int)) ∧ Below w.heap.size w w' := by
  have egg : ∀ (args : Array Value) (w : World), (callFunc g args).run Tryd.prog w = .ok (.enter g args) w := eg
  go_enter Tryd.func34, Tryd.ntmps34
  go_wp2_with fail
  go_loopw [5, 6, 9] (fun m v c wr => ∃ k : Nat, k ≤ n ∧ c = I k ∧ m = I ((setB b k : Nat) : Int) ∧ (∃ p : Nat, p ≤ 4096 ∧ v = I (p : Int) ∧ Hid (p = 2 ^ k)) ∧ Below w.heap.size w wr) (fun _ _ c _ => n - (intOf c).toNat)
  case atStart => exact ⟨0, by omega, rfl, rfl, ⟨1, by omega, rfl, Lib.hid rfl⟩, Below.refl _ _⟩
  case round =>
    obtain ⟨k, hk, rfl, rfl, ⟨p, hp4, rfl, HP⟩, hbw⟩ := hrel
    have hm4 : setB b k < 4096 := Nat.lt_of_lt_of_le (setB_lt b k) (two_pow_small k (by omega))
    by_cases hlt : k < n
    · have cS : Calls Tryd.prog g (#[I (k : Int)] ++ lb) wr _ := hp.out wr k hlt hbw
      have HPP : Hid (p * 2 = 2 ^ (k + 1)) := Lib.hid (by rw [HP.out, Nat.pow_succ])
      have hp2 : p * 2 ≤ 4096 := by rw [HPP.out]; exact two_pow_small (k + 1) (by omega)
      cases hb : b k with
      | true =>
        rw [hb] at cS
        have HS : Hid (setB b (k + 1) = setB b k + p) := Lib.hid (by rw [setB, hb, HP.out]; rfl)
        clear hb
        go_wp2_with (go_at_fn g; refine cS.mono ?_; rintro e W' ⟨rfl, hbc⟩)
        go_roundw
        case rel => exact ⟨k + 1, by omega, by go_num, by rw [HS.out]; exact I_eq (by omega), ⟨p * 2, hp2, I_eq (by omega), HPP⟩, hbw.trans (hbc.mono hbw.size)⟩
        case measure => simp [intOf]; omega
      | false =>
        rw [hb] at cS
        have HS : Hid (setB b (k + 1) = setB b k) := Lib.hid (by rw [setB, hb]; simp)
        clear hb
        go_wp2_with (go_at_fn g; refine cS.mono ?_; rintro e W' ⟨rfl, hbc⟩)
        go_roundw
        case rel => exact ⟨k + 1, by omega, by go_num, by rw [HS.out], ⟨p * 2, hp2, I_eq (by omega), HPP⟩, hbw.trans (hbc.mono hbw.size)⟩
        case measure => simp [intOf]; omega
    · have hkn : k = n := by omega
      subst hkn
      go_wp2_with fail
      go_ret
      exact ⟨rfl, hbw⟩
end Go.Proofs.YtdhekhlmdefcnaaDoor
