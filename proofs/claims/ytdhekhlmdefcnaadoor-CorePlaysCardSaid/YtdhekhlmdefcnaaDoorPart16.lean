/- Part 16 of the proof: Bare. -/
import Derived.Test.YtdhekhlmdefcnaaDoorPart7
import Derived.Test.YtdhekhlmdefcnaaDoorPart8
import Derived.Stop.Asserts
/- plain.Place, is and bare, at a bare number and at none. -/
namespace Go.Proofs.YtdhekhlmdefcnaaDoor
open Go.RowKit
set_option maxHeartbeats 2000000 in
theorem place_nil (w : World) : Calls Tryd.prog 83 #[.nilIface] w fun e w' => e = .returned (.tuple #[I 0, I (-1)]) ∧ w = w' := by
  go_enter Tryd.func83, Tryd.ntmps83
  go_wp2_with (go_at_call 76; refine (tell_nil _).mono ?_; rintro e w9 ⟨rfl, rfl⟩)
  go_loop [0] (fun v => v = .nilIface) (fun _ => 0)
  case atStart => exact rfl
  case round =>
    subst hrel
    go_wp2
    go_ret2
    exact ⟨rfl, rfl⟩
theorem ta_at (v : Value) (w : World) : (Instr.typeAssert (.iface 42 v) 28 175 true).run Tryd.prog w = .ok (.tuple #[.pointer none, .bool false]) w := by kernel_rfl
theorem ta_un (v : Value) (w : World) : (Instr.typeAssert (.iface 42 v) 28 196 true).run Tryd.prog w = .ok (.tuple #[.nilIface, .bool false]) w := run_typeAssert_lacksB Tryd.underlying196 (by kernel_rfl) (by kernel_rfl) v 28 w
set_option maxHeartbeats 2000000 in
set_option maxRecDepth 100000 in
theorem place_errno (n : Int) (w : World) (hg : Hid (EType w)) : Calls Tryd.prog 83 #[.iface 42 (I n)] w fun e w' => e = .returned (.tuple #[I n, I (-1)]) ∧ Below w.heap.size w w' := by
  go_enter Tryd.func83, Tryd.ntmps83
  go_wp2_with (go_at_call 76; refine (tell_errno n _ hg).mono ?_; rintro e w9 ⟨rfl, hb9⟩)
  go_loop [0] (fun v => v = .iface 42 (I n)) (fun _ => 0)
  case atStart => exact rfl
  case round =>
    subst hrel
    have ht1 := ta_at (I n) w9
    have ht2 := ta_un (I n) w9
    go_wp2
    go_ret2
    exact ⟨rfl, hb9⟩
/-- the error of a number: none at 0 -/
def errOf (e : Int) : Value := if e = 0 then .nilIface else .iface 42 (I e)
theorem place_ok (n : Int) (w : World) (hg : Hid (EType w)) : Calls Tryd.prog 83 #[errOf n] w fun e w' => e = .returned (.tuple #[I n, I (-1)]) ∧ Below w.heap.size w w' := by
  unfold errOf
  split
  · subst n
    refine (place_nil w).mono ?_
    rintro e w' ⟨rfl, rfl⟩
    exact ⟨rfl, Below.refl _ _⟩
  · exact place_errno n w hg
theorem bare_ref (n : Int) (w : World) : Calls Tryd.prog 58 #[I n] w fun e w' => e = .returned (.agg #[I n, I (-1)]) ∧ Below w.heap.size w w' := by
  have hb : Below w.heap.size w (w.alloc (.cells #[I 0, I 0] 95)) := (Below.refl _ _).alloc (Nat.le_refl _) _
  go_enter Tryd.func58, Tryd.ntmps58
  go_wp2
  have k := Has.new w 95 #[I n, I (-1)]
  exact bodyPost_ret (results_cell_row rfl _ _ w.heap.size _ #[I n, I (-1)] _ _ rfl k Tryd.underlying95 rfl (by kernel_rfl)) rfl ⟨rfl, (Below.refl _ _).alloc (Nat.le_refl _) _⟩
set_option maxHeartbeats 2000000 in
theorem is_ok (e n : Int) (w : World) (hg : Hid (EType w)) : Calls Tryd.prog 43 #[errOf e, .agg #[I n, I (-1)]] w fun r w' => r = .returned (.bool (e == n)) ∧ Below w.heap.size w w' := by
  have hb : Below w.heap.size w (w.alloc (.cells #[I n, I (-1)] 95)) := (Below.refl _ _).alloc (Nat.le_refl _) _
  have hg1 := Lib.hid (hg.out.after hb)
  have k0 := Has.new w 95 #[I n, I (-1)]
  generalize hv : errOf e = v
  have HV := Lib.hid hv
  clear hv
  go_enter Tryd.func43, Tryd.ntmps43
  go_upto_region 1 with fail
  generalize w.alloc (.cells #[I n, I (-1)] 95) = w1 at *
  have hl := k0.lt
  generalize hG : w.heap.size = g0 at *
  have HG := Lib.hid hG
  clear hG
  have HP : Hid (Calls Tryd.prog 83 #[v] w1 fun r w' => r = .returned (.tuple #[I e, I (-1)]) ∧ Below w1.heap.size w1 w') := Lib.hid (HV.out ▸ place_ok e w1 hg1)
  by_cases hen : e = n
  · subst hen
    go_wp2_with (go_at_call 83; refine HP.out.mono ?_; rintro r w2 ⟨rfl, hb2⟩; have k2 := k0.after hb2; have c2 := k2.cellv 0 _ rfl; have c3 := k2.cellv 1 _ rfl)
    go_ret
    exact ⟨by simp, HG.out ▸ hb.trans (hb2.mono (Nat.le_of_lt hl))⟩
  · have ht : (e == n) = false := by simpa using hen
    go_wp2_with (go_at_call 83; refine HP.out.mono ?_; rintro r w2 ⟨rfl, hb2⟩; have k2 := k0.after hb2; have c2 := k2.cellv 0 _ rfl; have c3 := k2.cellv 1 _ rfl)
    go_ret
    exact ⟨by rw [ht]; rfl, HG.out ▸ hb.trans (hb2.mono (Nat.le_of_lt hl))⟩
theorem bare_ok (e n : Int) (w : World) (hg : Hid (EType w)) : Calls Tryd.prog 19 #[errOf e, I n] w fun r w' => r = .returned (.bool (e == n)) ∧ Below w.heap.size w w' := by
  generalize hv : errOf e = v
  have HV := Lib.hid hv
  clear hv
  have HI : Hid (∀ w1, EType w1 → Calls Tryd.prog 43 #[v, .agg #[I n, I (-1)]] w1 fun r w' => r = .returned (.bool (e == n)) ∧ Below w1.heap.size w1 w') := Lib.hid (fun w1 h => HV.out ▸ is_ok e n w1 (Lib.hid h))
  go_enter Tryd.func19, Tryd.ntmps19
  go_wp2_with (first
    | (go_at_call 58; refine (bare_ref n _).mono ?_; rintro r w2 ⟨rfl, hb2⟩; have hg2 := Lib.hid (hg.out.after hb2))
    | (go_at_call 43; refine (HI.out _ hg2.out).mono ?_; rintro r w3 ⟨rfl, hb3⟩))
  go_ret
  exact ⟨rfl, hb2.trans (hb3.mono hb2.size)⟩
end Go.Proofs.YtdhekhlmdefcnaaDoor
