/- api.Tell at a bare number, and at none. -/
import Derived.Test.YtdhekhlmdefcnaaDoorAs
namespace Go.Proofs.YtdhekhlmdefcnaaDoor
open Go.RowKit Go.Extern.Stop Go.Stop Go.Extern
/-- the variable that errors.As reads -/
def EType (w : World) : Prop := w.cell? ⟨2, 0, none⟩ = some (.iface 215 (.agg #[.pointer (some ⟨3, 28, none⟩)]))
theorem EType.lt {w : World} (h : EType w) : 2 < w.heap.size := World.block_lt_of_cell? w ⟨2, 0, none⟩ h
theorem EType.after {w w' : World} (h : EType w) (hb : Below w.heap.size w w') : EType w' := (hb.cell (p := ⟨2, 0, none⟩) h.lt).trans h
theorem EType.below {w w' : World} {B : Nat} (h : EType w) (hB : 2 < B) (hb : Below B w w') : EType w' := (hb.cell (p := ⟨2, 0, none⟩) hB).trans h
theorem tell_nil (w : World) : Calls Tryd.prog 76 #[.nilIface] w fun e w' => e = .returned (I 0) ∧ w = w' := by
  go_enter Tryd.func76, Tryd.ntmps76
  go_wp2
  go_ret
  exact ⟨rfl, rfl⟩
theorem as_ok (n : Int) (g : Nat) (w : World) (hg : Hid (EType w)) (k : Has w g 42 #[I 0]) :
    Calls Tryd.prog 104 #[.iface 42 (I n), .iface 194 (.pointer (some ⟨g, 0, none⟩))] w fun e w' => e = .returned (.bool true) ∧ Has w' g 42 #[I n] ∧ Below g w w' := by
  refine (as_hit n ⟨g, 0, none⟩ (I 0) w hg.out (k.cellv 0 _ rfl) (k.free 0)).mono ?_
  rintro e w' ⟨rfl, rfl⟩
  have hsz := Nat.le_of_lt k.lt
  refine ⟨rfl, ?_, ((((Below.refl _ _).alloc hsz _).alloc (by simp; omega) _).alloc (by simp; omega) _ |>.alloc (by simp; omega) _).setCell (Nat.le_refl _) _⟩
  exact ((((k.alloc _).alloc _).alloc _).alloc _).set 0 (I n)
set_option maxHeartbeats 2000000 in
theorem tell_errno (n : Int) (w : World) (hg : Hid (EType w)) : Calls Tryd.prog 76 #[.iface 42 (I n)] w fun e w' => e = .returned (I n) ∧ Below w.heap.size w w' := by
  have hb : Below w.heap.size w (w.alloc (.cells #[I 0] 42)) := (Below.refl _ _).alloc (Nat.le_refl _) _
  have hg1 := Lib.hid (hg.out.after hb)
  have k0 := Has.new w 42 #[I 0]
  go_enter Tryd.func76, Tryd.ntmps76
  go_upto_region 4 with (fail)
  generalize w.alloc (.cells #[I 0] 42) = w1 at *
  have hl := k0.lt
  generalize hG : w.heap.size = g0 at *
  have HG := Lib.hid hG
  clear hG
  go_wp2_with (go_at_call 104; refine (as_ok n g0 w1 hg1 k0).mono ?_; rintro e w2 ⟨rfl, k2, hb2⟩; have c2 := k2.cellv 0 _ rfl)
  go_ret
  exact ⟨rfl, HG.out ▸ hb.trans hb2⟩
end Go.Proofs.YtdhekhlmdefcnaaDoor
