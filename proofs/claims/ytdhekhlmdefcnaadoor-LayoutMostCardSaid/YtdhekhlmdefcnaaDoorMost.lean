/- Walks over package layout: Most; math/bits. -/
import Derived.Test.YtdhekhlmdefcnaaDoorConf
namespace Go.Proofs.YtdhekhlmdefcnaaDoor
open Go.RowKit
/-- how many bits of a number below 256 -/
def pop (x : Nat) : Nat := ((List.range 8).filter fun i => x.testBit i).length
set_option maxHeartbeats 1000000 in
theorem ones_any (x : Nat) (hx : x < 256) (w : World) : Calls Tryd.prog 103 #[.int .u64 x] w fun e w' => e = .returned (I (pop x)) ∧ w = w' := by
  go_enter Tryd.func103, Tryd.ntmps103
  go_wp2
  go_ret
  refine ⟨congrArg (fun z => Ending.returned (.int .i64 z)) ?_, rfl⟩
  clear w
  revert x
  decide +kernel
theorem onesCount_any (x : Nat) (hx : x < 256) (w : World) : Calls Tryd.prog 72 #[.int .u64 x] w fun e w' => e = .returned (I (pop x)) ∧ w = w' := by
  go_enter Tryd.func72, Tryd.ntmps72
  go_wp2_with (go_at_call 103; refine (ones_any x hx _).mono ?_; rintro e w' ⟨rfl, rfl⟩)
  go_ret
  exact ⟨rfl, rfl⟩
/-- the table of math/bits, as the row lists it -/
def dbTab : List Nat := [0, 1, 56, 2, 57, 49, 28, 3, 61, 58, 42, 50, 38, 29, 17, 4, 62, 47, 59, 36, 45, 43, 51, 22, 53, 39, 33, 30, 24, 18, 12, 5, 63, 55, 48, 27, 60, 41, 37, 16, 46, 35, 44, 21, 52, 32, 23, 11, 54, 26, 40, 15, 34, 20, 31, 10, 25, 14, 19, 9, 13, 8, 7, 6]
def TabIs (w : World) : Prop := ∀ (j v : Nat), dbTab[j]? = some v → w.cell? ⟨1, j, none⟩ = some (.int .u8 v)
/-- the lowest bit -/
def ctz (x : Nat) : Nat := ((List.range 8).find? fun i => x.testBit i).getD 8
theorem dbIdx : ∀ x : Nat, x < 256 → 0 < x → 0 ≤ IntKind.u64.wrap (bits .and .u64 (x : Int) (IntKind.u64.wrap (-(x : Int))) * 285870213051353865) / 288230376151711744 ∧ IntKind.u64.wrap (bits .and .u64 (x : Int) (IntKind.u64.wrap (-(x : Int))) * 285870213051353865) / 288230376151711744 < 64 ∧ dbTab[(IntKind.u64.wrap (bits .and .u64 (x : Int) (IntKind.u64.wrap (-(x : Int))) * 285870213051353865) / 288230376151711744).toNat]? = some (ctz x) := by decide +kernel
theorem ctz_lt : ∀ x : Nat, x < 256 → 0 < x → ctz x < 8 := by decide +kernel
set_option maxHeartbeats 1000000 in
theorem ctz64_any (x : Nat) (h0 : 0 < x) (hx : x < 256) (w : World) (hT : TabIs w) : Calls Tryd.prog 101 #[.int .u64 x] w fun e w' => e = .returned (I (ctz x)) ∧ w = w' := by
  have t0 : ((x : Int) == 0) = false := by simp; omega
  obtain ⟨i1, i2, i3⟩ := dbIdx x hx h0
  have hc := hT _ _ i3
  have hz : wrap64 ((ctz x : Nat) : Int) = ctz x := IntWalk.wrap64_in _ (by have := ctz_lt x hx h0; omega)
  have HZ := Lib.hid hz
  clear i3 hT hz
  go_enter Tryd.func101, Tryd.ntmps101
  go_wp2
  go_ret
  exact ⟨congrArg (fun z => Ending.returned (.int .i64 z)) HZ.out, rfl⟩
theorem trailing_any (x : Nat) (h0 : 0 < x) (hx : x < 256) (w : World) (hT : TabIs w) : Calls Tryd.prog 71 #[.int .u64 x] w fun e w' => e = .returned (I (ctz x)) ∧ w = w' := by
  go_enter Tryd.func71, Tryd.ntmps71
  go_wp2_with (go_at_call 101; refine (ctz64_any x h0 hx _ hT).mono ?_; rintro e w' ⟨rfl, rfl⟩)
  go_ret
  exact ⟨rfl, rfl⟩

/-- no route of the set is in conflict with one of the set -/
def okSet (cs : List Nat) (set : Nat) : Bool := (List.range 8).all fun i => !set.testBit i || decide (cs.getD i 0 &&& set = 0)
/-- those of the set that m has not any more -/
def okBut (cs : List Nat) (set m : Nat) : Bool := (List.range 8).all fun i => !(set.testBit i && !m.testBit i) || decide (cs.getD i 0 &&& set = 0)
def bestTo (cs : List Nat) : Nat → Nat
  | 0 => 0
  | k + 1 => if okSet cs k then max (bestTo cs k) (pop k) else bestTo cs k
theorem clr_bit : ∀ m : Nat, m < 256 → 0 < m → ∀ i, i < 8 → (m &&& (m - 1)).testBit i = (m.testBit i && decide (i ≠ ctz m)) := by decide +kernel
theorem ctz_bit : ∀ m : Nat, m < 256 → 0 < m → m.testBit (ctz m) = true := by decide +kernel
theorem clr_less (m : Nat) (h : 0 < m) : m &&& (m - 1) < m := Nat.lt_of_le_of_lt Nat.and_le_right (by omega)
theorem okBut_self (cs : List Nat) (set : Nat) : okBut cs set set = true := by
  unfold okBut
  rw [List.all_eq_true]
  intro i _
  cases set.testBit i <;> rfl
theorem okBut_zero (cs : List Nat) (set : Nat) : okBut cs set 0 = okSet cs set := by
  unfold okBut okSet
  congr 1
  funext i
  simp
theorem okBut_step {cs : List Nat} {set m : Nat} (hm : m < 256) (h0 : 0 < m) (hs : ∀ i, m.testBit i = true → set.testBit i = true) :
    okBut cs set (m &&& (m - 1)) = (okBut cs set m && decide (cs.getD (ctz m) 0 &&& set = 0)) := by
  have hz := ctz_lt m hm h0
  rw [Bool.eq_iff_iff]
  unfold okBut
  simp only [List.all_eq_true, List.mem_range, Bool.and_eq_true, decide_eq_true_eq]
  constructor
  · intro h
    refine ⟨fun i hi => ?_, ?_⟩
    · have := h i hi
      rw [clr_bit m hm h0 i hi] at this
      cases hsb : set.testBit i <;> cases hmb : m.testBit i <;> simp_all
    · have := h (ctz m) hz
      rw [clr_bit m hm h0 _ hz, hs _ (ctz_bit m hm h0)] at this
      simpa using this
  · rintro ⟨h1, h2⟩ i hi
    have := h1 i hi
    rw [clr_bit m hm h0 i hi]
    by_cases e : i = ctz m
    · subst e
      rw [decide_eq_true h2, Bool.or_true]
    · simpa [e] using this
theorem bestTo_le (cs : List Nat) (k : Nat) : bestTo cs k ≤ 8 := by
  induction k with
  | zero => simp [bestTo]
  | succ k ih =>
    rw [bestTo]
    have : pop k ≤ 8 := by
      unfold pop
      exact Nat.le_trans (List.length_filter_le _ _) (by simp)
    split
    · omega
    · exact ih
theorem and_pred (m : Nat) (h : 0 < m) (hm : m < 256) : bits .and .i64 (m : Int) ((m : Int) - 1) = ((m &&& (m - 1) : Nat) : Int) := by
  have : (m : Int) - 1 = ((m - 1 : Nat) : Int) := by omega
  rw [this, and_i64 _ _ (by omega) (by omega)]
end Go.Proofs.YtdhekhlmdefcnaaDoor
