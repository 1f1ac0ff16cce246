/- The walk over 'laid'. -/
import Derived.Test.YtdhekhlmdefcnaaDoorMostWalk
namespace Go.Proofs.YtdhekhlmdefcnaaDoor
open Go.RowKit
def ldR : List Nat := [3, 12, 6]
theorem ldChk : chk 4 (zs ldR) 0 = .ok := by kernel_rfl
theorem ldConf : confs ldR = [4, 4, 3] := by decide +kernel
theorem ldMost : bestTo (confs ldR) (2 ^ 3) = 2 := by decide +kernel
theorem ldSmall : ∀ r ∈ ldR, r < 4096 := by decide
set_option maxHeartbeats 2000000 in
set_option maxRecDepth 100000 in
theorem laid_any (w : World) (hT : Hid (TabIs w)) (hg : 1 < w.heap.size) : Calls Tryd.prog 12 #[] w fun e w' => e = .returned (.bool true) ∧ Below w.heap.size w w' := by
  have HM := fun (A : Option Addr) (c : Nat) (W : World) hc hr hT hg => (most_ok 4 0 A 3 c ldR W (Lib.hid rfl) (by decide) (by decide) hc hr (Lib.hid ldSmall) (Lib.hid ldChk) hT hg)
  rw [ldMost] at HM
  have HM := Lib.hid HM
  have HC := fun (A : Option Addr) (c : Nat) (W : World) hc hr => (conflicts_ok 4 0 A 3 c ldR W (Lib.hid rfl) (by decide) (by decide) hc hr (Lib.hid ldSmall) (Lib.hid ldChk))
  rw [ldConf] at HC
  have HC := Lib.hid HC
  go_enter Tryd.func12, Tryd.ntmps12
  go_wp2_with fail
  have k0 : Has ((w.alloc (.cells #[I 3, I 12, I 6] 3)).alloc (.cells #[I 4, .slice (some ⟨w.heap.size, 0, none⟩) 3 3, I 0] 25)) w.heap.size 3 #[I 3, I 12, I 6] := (Has.new' _ _ _ _ rfl).alloc _
  have k1 : Has ((w.alloc (.cells #[I 3, I 12, I 6] 3)).alloc (.cells #[I 4, .slice (some ⟨w.heap.size, 0, none⟩) 3 3, I 0] 25)) (w.heap.size + 1) 25 #[I 4, .slice (some ⟨w.heap.size, 0, none⟩) 3 3, I 0] := Has.new' _ _ _ _ (by simp)
  have hb : Below w.heap.size w ((w.alloc (.cells #[I 3, I 12, I 6] 3)).alloc (.cells #[I 4, .slice (some ⟨w.heap.size, 0, none⟩) 3 3, I 0] 25)) := ((Below.refl _ _).alloc (Nat.le_refl _) _).alloc (by simp) _
  generalize ((w.alloc (.cells #[I 3, I 12, I 6] 3)).alloc (.cells #[I 4, .slice (some ⟨w.heap.size, 0, none⟩) 3 3, I 0] 25)) = w0 at *
  have hr0 : Reads w0 w0.heap.size (some ⟨w.heap.size, 0, none⟩) (ints (zs ldR)) := Reads.of_has k0 k0.lt
  refine (HC.out _ _ _ (Nat.le_refl _) hr0).mono ?_
  rintro e w1 ⟨⟨Ac, nc, rfl, hown⟩, hb1⟩
  have hown' : w1.ownsRow w0.heap.size 3 1 (.slice Ac 3 nc) 3 [I 4, I 4, I 3] := hown
  have m1 := k1.after hb1
  have c0 := m1.cellv 0 _ rfl
  have c1 := m1.cellv 1 _ rfl
  have c2 := m1.cellv 2 _ rfl
  have hw1 : Below w.heap.size w w1 := hb.trans (hb1.mono hb.size)
  have HT1 : Hid (TabIs w1) := Lib.hid (fun j v h => (hw1.cell (p := ⟨1, j, none⟩) hg).trans (hT.out j v h))
  have hg1 : 1 < w1.heap.size := Nat.lt_of_lt_of_le hg hw1.size
  have hr1 : Reads w1 w1.heap.size (some ⟨w.heap.size, 0, none⟩) (ints (zs ldR)) := Reads.of_has (k0.after hb1) (k0.after hb1).lt
  go_wp2_with fail
  refine (HM.out _ _ _ (Nat.le_refl _) hr1 HT1 hg1).mono ?_
  rintro e w2 ⟨rfl, hb2⟩
  obtain ⟨_, _, he, hcc, -, hrc⟩ := own_reads (own_after hown' hb2)
  injection he with e1 _ e3
  subst e1
  subst e3
  obtain ⟨bb, oo, rfl, hbb, hcell⟩ := hrc (by simp)
  have x0 := hcell 0 _ rfl
  rw [Nat.add_zero] at x0
  have x1 := hcell 1 _ rfl
  have x2 := hcell 2 _ rfl
  clear hcell hrc hown hown'
  go_wp2_with fail
  go_ret
  exact ⟨rfl, hw1.trans (hb2.mono hw1.size)⟩
end Go.Proofs.YtdhekhlmdefcnaaDoor
