/- The walk over slices.Equal at bytes. -/
import Derived.Test.YtdhekhlmdefcnaaDoorEncode
namespace Go.Proofs.YtdhekhlmdefcnaaDoor
open Go.RowKit
theorem take_eq_succ {l1 l2 : List UInt8} {k : Nat} {x y : UInt8} (h : l1.take k = l2.take k) (hx : l1[k]? = some x) (hy : l2[k]? = some y) : (l1.take (k + 1) = l2.take (k + 1)) ↔ x = y := by
  have h1 := (List.getElem?_eq_some_iff.1 hx).1
  have h2 := (List.getElem?_eq_some_iff.1 hy).1
  have e1 := (List.getElem?_eq_some_iff.1 hx).2
  have e2 := (List.getElem?_eq_some_iff.1 hy).2
  rw [List.take_succ_eq_append_getElem h1, List.take_succ_eq_append_getElem h2, e1, e2, h]
  simp
theorem drewN_two (w : World) (a b : Nat) : w.drewN (a + b) = (w.drewN a).drewN b := by
  simp [World.drewN, Nat.add_assoc]
theorem u8_ne (x y : UInt8) : ((x.toNat : Int) != (y.toNat : Int)) = !decide (x = y) := by
  by_cases h : x = y
  · simp [h]
  · have : x.toNat ≠ y.toNat := fun e => h (UInt8.toNat_inj.1 e)
    simp [h]; omega
set_option maxHeartbeats 2000000 in
theorem equal_ok (A1 A2 : Option Addr) (n1 c1 n2 c2 : Nat) (l1 l2 : List UInt8) (w : World) (hl1 : Hid (l1.length = n1)) (hl2 : Hid (l2.length = n2)) (hn1 : n1 ≤ 1000) (hn2 : n2 ≤ 1000)
    (hr1 : Reads w w.heap.size A1 (bytes l1)) (hr2 : Reads w w.heap.size A2 (bytes l2)) :
    Calls Tryd.prog 77 #[.slice A1 n1 c1, .slice A2 n2 c2] w fun e w' => e = .returned (.bool (decide (l1 = l2))) ∧ ∃ q, w.drewN q = w' := by
  by_cases hn : n1 = n2
  · subst hn
    go_enter Tryd.func77, Tryd.ntmps77
    go_wp2
    go_loopw [13] (fun i wr => ∃ k q : Nat, k ≤ n1 ∧ i = I k ∧ Hid (l1.take k = l2.take k) ∧ wr = w.drewN q) (fun i _ => n1 - (intOf i).toNat)
    case atStart => exact ⟨0, 0, by omega, rfl, Lib.hid rfl, rfl⟩
    case round =>
      obtain ⟨k, q, hk, rfl, HE, rfl⟩ := hrel
      by_cases hlt : k < n1
      · obtain ⟨x, hx⟩ := some_at l1 k (by rw [hl1.out]; exact hlt)
        obtain ⟨y, hy⟩ := some_at l2 k (by rw [hl2.out]; exact hlt)
        obtain ⟨b, o, rfl, hb, hcell⟩ := hr1.byte_ hx
        obtain ⟨b', o', rfl, hb', hcell'⟩ := hr2.byte_ hy
        have hne := u8_ne x y
        have HS := Lib.hid (take_eq_succ HE.out hx hy)
        cases hd : decide (x = y) with
        | true =>
          rw [hd] at hne
          have HS' : Hid (l1.take (k + 1) = l2.take (k + 1)) := Lib.hid (HS.out.2 (by simpa using hd))
          clear hd hx hy HS HE
          go_wp2_with fail
          go_quiet (fail)
          go_wp2_with fail
          go_roundw
          case rel => exact ⟨k + 1, _, by omega, by go_num, HS', rfl⟩
          case measure => simp [intOf]; omega
        | false =>
          rw [hd] at hne
          have HS' : Hid (decide (l1 = l2) = false) := Lib.hid (by
            rw [decide_eq_false_iff_not]
            rintro rfl
            have := HS.out.1 rfl
            rw [this] at hd
            simp at hd)
          clear hd hx hy HS HE
          go_wp2_with fail
          go_quiet (fail)
          go_wp2_with fail
          go_ret
          exact ⟨by rw [HS'.out]; rfl, _, drewN_two _ _ _⟩
      · have HS' : Hid (decide (l1 = l2) = true) := Lib.hid (by
          have h := HE.out
          rw [List.take_of_length_le (by rw [hl1.out]; omega), List.take_of_length_le (by rw [hl2.out]; omega)] at h
          simpa using h)
        clear HE
        go_wp2_with fail
        go_ret
        exact ⟨by rw [HS'.out]; rfl, _, rfl⟩
  · have hd : decide (l1 = l2) = false := by
      rw [decide_eq_false_iff_not]
      rintro rfl
      exact hn (by rw [← hl1.out, ← hl2.out])
    rw [hd]
    have hne : ((n1 : Int) != (n2 : Int)) = true := by simp; omega
    clear hd hn
    go_enter Tryd.func77, Tryd.ntmps77
    go_wp2
    go_ret
    exact ⟨rfl, 0, rfl⟩
end Go.Proofs.YtdhekhlmdefcnaaDoor
