/- Part 20 of the proof: ReMem, ReWalk, ReFuse, ReFits. -/
import Derived.Test.YtdhekhlmdefcnabGreatDoorPart10
import Derived.Test.YtdhekhlmdefcnabGreatDoorPart17
import Derived.Test.YtdhekhlmdefcnabGreatDoorPart8
import Derived.Test.YtdhekhlmdefcnabGreatDoorPart4
import Derived.Test.YtdhekhlmdefcnabGreatDoorPart16
import Derived.Test.YtdhekhlmdefcnabGreatDoorPart19
import Derived.Test.YtdhekhlmdefcnabGreatDoorPart9
import Derived.Deep.MidRow
namespace Go.Proofs.YtdhekhlmdefcnabGreatDoor
open Go.RowKit
def cellsOf (n : Nat) (f : Nat → Value) : Array Value := ((List.range n).map f).toArray
theorem cellsOf_size (n : Nat) (f : Nat → Value) : (cellsOf n f).size = n := by simp [cellsOf]
theorem cellsOf_get {n : Nat} {f : Nat → Value} {i : Nat} (h : i < n) : (cellsOf n f)[i]? = some (f i) := by simp [cellsOf, h]
theorem cellsOf_congr {n : Nat} {f f' : Nat → Value} (h : ∀ j, j < n → f j = f' j) : cellsOf n f = cellsOf n f' := by
 unfold cellsOf
 congr 1
 exact List.map_congr_left fun j hj => h j (List.mem_range.1 hj)
theorem cellsOf_set (n : Nat) (f : Nat → Value) (i : Nat) (v : Value) : (cellsOf n f).setIfInBounds i v = cellsOf n (fun j => if j = i then v else f j) := by
 apply Array.ext_getElem?
 intro j
 by_cases hj : j < n
 ·rw [cellsOf_get hj, Array.getElem?_setIfInBounds]
  by_cases e : i = j
  ·subst e; simp [cellsOf_size, hj]
  ·rw [if_neg e, cellsOf_get hj, if_neg (fun e' => e e'.symm)]
 ·rw [Array.getElem?_eq_none (by simp [cellsOf_size]; omega), Array.getElem?_eq_none (by simp [cellsOf_size]; omega)]
section
variable {w : World} {g n : Nat} {t : TypeId} {f : Nat → Value}
theorem Has.cellF (h : Has w g t (cellsOf n f)) (i : Nat) (hi : i < n) {v : Value} (hv : f i = v) : w.cell? ⟨g, i, none⟩ = some v := by rw [h.cell, cellsOf_get hi, hv]
theorem Has.setF (h : Has w g t (cellsOf n f)) (i : Nat) (v : Value) : Has (w.setCell ⟨g, i, none⟩ v) g t (cellsOf n (fun j => if j = i then v else f j)) := by
 rw [← cellsOf_set]; exact h.set i v
theorem Has.toF {f' : Nat → Value} (h : Has w g t (cellsOf n f)) (he : ∀ j, j < n → f j = f' j) : Has w g t (cellsOf n f') := by rw [← cellsOf_congr he]; exact h
def setsF (f : Nat → Value) (o : Nat) (cs : List Value) (j : Nat) : Value := if o ≤ j ∧ j < o + cs.length then cs.getD (j - o) undef else f j
theorem Has.setsF : ∀ (cs : List Value) (o : Nat) {w : World} {f : Nat → Value}, Has w g t (cellsOf n f) → Has (w.setCells g o cs) g t (cellsOf n (setsF f o cs))
 | [], o, w, f, h => h.toF fun j _ => by unfold Go.Proofs.YtdhekhlmdefcnabGreatDoor.setsF; rw [if_neg (by simp only [List.length_nil]; omega)]
 | v :: cs, o, w, f, h => by
  refine (Has.setsF cs (o + 1) (h.setF o v)).toF fun j _ => ?_
  unfold Go.Proofs.YtdhekhlmdefcnabGreatDoor.setsF
  by_cases h1 : j = o
  ·subst h1
   rw [if_neg (by omega), if_pos (by simp), Nat.sub_self]
   exact if_pos rfl
  ·by_cases h2 : o + 1 ≤ j ∧ j < o + 1 + cs.length
   ·rw [if_pos h2, if_pos (by simp; omega)]
    obtain ⟨d, rfl⟩ : ∃ d, j = o + 1 + d := ⟨j - (o + 1), by omega⟩
    rw [show o + 1 + d - (o + 1) = d by omega, show o + 1 + d - o = d + 1 by omega]
    rfl
   ·rw [if_neg h2, if_neg (c := o ≤ j ∧ j < o + (v :: cs).length) (by simp only [List.length_cons]; omega)]
    exact if_neg h1
theorem Has.rangeF (h : Has w g t (cellsOf n f)) (o : Nat) (cs : List Value) (hc : ∀ j v, cs[j]? = some v → o + j < n ∧ f (o + j) = v) : w.rangeAt g o cs := fun j v hv => by
 obtain ⟨h1, h2⟩ := hc j v hv
 exact h.cellF (o + j) h1 h2
theorem Has.thereF (h : Has w g t (cellsOf n f)) (o m : Nat) (hm : o + m ≤ n) : w.there g o m := fun j hj => by
 refine ⟨?_, h.free _⟩
 rw [h.cellF (o + j) (by omega) rfl]
 rfl
end
theorem Turned.setCells {F : Nat → Prop} {a : World} {g : Nat} (hp : F g ∨ a.heap.size ≤ g) : ∀ (cs : List Value) (o : Nat) {w : World}, Turned F a w → Turned F a (w.setCells g o cs)
 | [], _, _, h => h
 | v :: cs, o, _, h => Turned.setCells hp cs (o + 1) (h.setCell ⟨g, o, none⟩ v hp)
def kn0 : Nat × St × Bool := (0, St.zero, false)
def knL (k : Nat × St × Bool) : List Value := I k.1 :: (stL k.2.1 ++ [.bool k.2.2])
def seenV (l : List (Nat × Nat)) (m : Nat) : Value := if m % 2 = 0 then I (l.getD (m / 2) (0, 0)).1 else I (l.getD (m / 2) (0, 0)).2
def reF (r : Re) (gc : Nat) (j : Nat) : Value :=
 if j < 20 then (if j = 0 then I r.id else if j = 1 then .pointer (some ⟨gc, 0, none⟩) else if j = 2 then I r.cycle else (stL r.state).getD (j - 3) undef)
 else if j < 28 then (if j = 20 then I r.field.1 else if j = 21 then I r.field.2 else seenV r.seen (j - 22))
 else if j < 34 then (if j < 31 then .bool (r.some.getD (j - 28) false) else I (r.came.getD (j - 31) 0 : Nat))
 else if j < 91 then (knL (r.told.getD ((j - 34) / 19) kn0)).getD ((j - 34) % 19) undef
 else if j = 91 then I r.ticks else I r.ahead
section
variable {r : Re} {gc : Nat}
theorem reF_id : reF r gc 0 = I r.id := rfl
theorem reF_core : reF r gc 1 = .pointer (some ⟨gc, 0, none⟩) := rfl
theorem reF_cycle : reF r gc 2 = I r.cycle := rfl
theorem reF_field1 : reF r gc 20 = I r.field.1 := rfl
theorem reF_field2 : reF r gc 21 = I r.field.2 := rfl
theorem reF_ticks : reF r gc 91 = I r.ticks := rfl
theorem reF_ahead : reF r gc 92 = I r.ahead := rfl
theorem reF_state {i : Nat} (h : i < 17) : reF r gc (3 + i) = (stL r.state).getD i undef := by
 unfold reF
 rw [if_pos (by omega), if_neg (by omega), if_neg (by omega), if_neg (by omega), show 3 + i - 3 = i by omega]
theorem reF_seen1 {k : Nat} (h : k < 3) : reF r gc (22 + k * 2) = I (r.seen.getD k (0, 0)).1 := by
 unfold reF seenV
 rw [if_neg (by omega), if_pos (by omega), if_neg (by omega), if_neg (by omega), if_pos (by omega), show (22 + k * 2 - 22) / 2 = k by omega]
theorem reF_seen2 {k : Nat} (h : k < 3) : reF r gc (22 + k * 2 + 1) = I (r.seen.getD k (0, 0)).2 := by
 unfold reF seenV
 rw [if_neg (by omega), if_pos (by omega), if_neg (by omega), if_neg (by omega), if_neg (by omega), show (22 + k * 2 + 1 - 22) / 2 = k by omega]
theorem reF_some {k : Nat} (h : k < 3) : reF r gc (28 + k) = .bool (r.some.getD k false) := by
 unfold reF
 rw [if_neg (by omega), if_neg (by omega), if_pos (by omega), if_pos (by omega), show 28 + k - 28 = k by omega]
theorem reF_came {k : Nat} (h : k < 3) : reF r gc (31 + k) = I (r.came.getD k 0 : Nat) := by
 unfold reF
 rw [if_neg (by omega), if_neg (by omega), if_pos (by omega), if_neg (by omega), show 31 + k - 31 = k by omega]
theorem reF_told {k i : Nat} (h : k < 3) (hi : i < 19) : reF r gc (34 + k * 19 + i) = (knL (r.told.getD k kn0)).getD i undef := by
 unfold reF
 rw [if_neg (by omega), if_neg (by omega), if_neg (by omega), if_pos (by omega), show (34 + k * 19 + i - 34) / 19 = k by omega, show (34 + k * 19 + i - 34) % 19 = i by omega]
end
theorem getD_set {α : Type} (l : List α) (k m : Nat) (x d : α) (h : k < l.length) : (l.set k x).getD m d = if m = k then x else l.getD m d := by
 rw [List.getD_eq_getElem?_getD, List.getElem?_set]
 by_cases e : k = m
 ·subst e; simp [h]
 ·rw [if_neg e, if_neg (fun e' => e e'.symm), List.getD_eq_getElem?_getD]
theorem reF_set_ticks (r : Re) (gc t : Nat) : ∀ j, j < 93 → (if j = 91 then I (t : Int) else reF r gc j) = reF { r with ticks := t } gc j := by
 intro j hj
 by_cases e : j = 91
 ·subst e; rfl
 ·rw [if_neg e]
  unfold reF
  simp only [e, if_false]
theorem reF_set_ahead (r : Re) (gc t : Nat) : ∀ j, j < 93 → (if j = 92 then I (t : Int) else reF r gc j) = reF { r with ahead := t } gc j := by
 intro j hj
 by_cases e : j = 92
 ·subst e; rfl
 ·rw [if_neg e]
  unfold reF
  by_cases h1 : j < 20
  ·simp only [h1, if_true]
  ·by_cases h2 : j < 28
   ·simp only [h1, h2, if_true, if_false]
   ·by_cases h3 : j < 34
    ·simp only [h1, h2, h3, if_true, if_false]
    ·by_cases h4 : j < 91
     ·simp only [h1, h2, h3, h4, if_true, if_false]
     ·have : j = 91 := by omega
      subst this
      rfl
theorem reF_set_cycle (r : Re) (gc t : Nat) : ∀ j, j < 93 → (if j = 2 then I (t : Int) else reF r gc j) = reF { r with cycle := t } gc j := by
 intro j hj
 by_cases e : j = 2
 ·subst e; rfl
 ·rw [if_neg e]
  unfold reF
  simp only [e, if_false]
theorem reF_set_some (r : Re) (gc k : Nat) (b : Bool) (hk : k < 3) (hl : r.some.length = 3) : ∀ j, j < 93 → (if j = 28 + k then .bool b else reF r gc j) = reF { r with some := r.some.set k b } gc j := by
 intro j hj
 by_cases h1 : 28 ≤ j ∧ j < 31
 ·obtain ⟨m, rfl⟩ : ∃ m, j = 28 + m := ⟨j - 28, by omega⟩
  rw [reF_some (r := { r with some := r.some.set k b }) (by omega), reF_some (by omega)]
  show _ = Value.bool ((r.some.set k b).getD m false)
  rw [getD_set _ _ _ _ _ (by omega)]
  by_cases e : m = k
  ·subst e; simp
  ·rw [if_neg (by omega), if_neg e]
 ·rw [if_neg (by omega)]
  unfold reF
  by_cases a : j < 20
  ·simp only [a, if_true]
  ·by_cases b1 : j < 28
   ·simp only [a, b1, if_true, if_false]
   ·by_cases c : j < 34
    ·have d : ¬ j < 31 := by omega
     simp only [a, b1, c, d, if_true, if_false]
    ·simp only [a, b1, c, if_false]
theorem reF_set_came (r : Re) (gc k t : Nat) (hk : k < 3) (hl : r.came.length = 3) : ∀ j, j < 93 → (if j = 31 + k then I (t : Int) else reF r gc j) = reF { r with came := r.came.set k t } gc j := by
 intro j hj
 by_cases h1 : 31 ≤ j ∧ j < 34
 ·obtain ⟨m, rfl⟩ : ∃ m, j = 31 + m := ⟨j - 31, by omega⟩
  rw [reF_came (r := { r with came := r.came.set k t }) (by omega), reF_came (by omega)]
  show _ = I (((r.came.set k t).getD m 0 : Nat) : Int)
  rw [getD_set _ _ _ _ _ (by omega)]
  by_cases e : m = k
  ·subst e; simp
  ·rw [if_neg (by omega), if_neg e]
 ·rw [if_neg (by omega)]
  unfold reF
  by_cases a : j < 20
  ·simp only [a, if_true]
  ·by_cases b1 : j < 28
   ·simp only [a, b1, if_true, if_false]
   ·by_cases c : j < 34
    ·have d : j < 31 := by omega
     simp only [a, b1, c, d, if_true, if_false]
    ·simp only [a, b1, c, if_false]
theorem reF_set_seen (r : Re) (gc k x y : Nat) (hk : k < 3) (hl : r.seen.length = 3) : ∀ j, j < 93 → (if j = 22 + k * 2 + 1 then I (y : Int) else if j = 22 + k * 2 then I (x : Int) else reF r gc j) = reF { r with seen := r.seen.set k (x, y) } gc j := by
 intro j hj
 by_cases h1 : 22 ≤ j ∧ j < 28
 ·by_cases hp : j % 2 = 0
  ·obtain ⟨m, rfl⟩ : ∃ m, j = 22 + m * 2 := ⟨(j - 22) / 2, by omega⟩
   rw [if_neg (by omega), reF_seen1 (r := { r with seen := r.seen.set k (x, y) }) (by omega), reF_seen1 (by omega)]
   show _ = I ((((r.seen.set k (x, y)).getD m (0, 0)).1 : Nat) : Int)
   rw [getD_set _ _ _ _ _ (by omega)]
   by_cases e : m = k
   ·subst e; simp
   ·rw [if_neg (by omega), if_neg e]
  ·obtain ⟨m, rfl⟩ : ∃ m, j = 22 + m * 2 + 1 := ⟨(j - 22) / 2, by omega⟩
   rw [reF_seen2 (r := { r with seen := r.seen.set k (x, y) }) (by omega), reF_seen2 (by omega)]
   show _ = I ((((r.seen.set k (x, y)).getD m (0, 0)).2 : Nat) : Int)
   rw [getD_set _ _ _ _ _ (by omega)]
   by_cases e : m = k
   ·subst e; simp
   ·rw [if_neg (by omega), if_neg (by omega), if_neg e]
 ·rw [if_neg (by omega), if_neg (by omega)]
  unfold reF
  by_cases a : j < 20
  ·simp only [a, if_true]
  ·by_cases b1 : j < 28
   ·have hj2 : j = 20 ∨ j = 21 := by omega
    rcases hj2 with rfl | rfl <;> rfl
   ·simp only [a, b1, if_false]
theorem reF_set_field (r : Re) (gc : Nat) (x y : Int) : ∀ j, j < 93 → (if j = 21 then I y else if j = 20 then I x else reF r gc j) = reF { r with field := (x, y) } gc j := by
 intro j hj
 by_cases e : j = 21
 ·subst e; rfl
 ·by_cases e2 : j = 20
  ·subst e2; rfl
  ·rw [if_neg e, if_neg e2]
   unfold reF
   simp only [e, e2, if_false]
theorem stL_length {s : St} (h1 : s.used.length = 8) (h2 : s.idle.length = 8) : (stL s).length = 17 := by simp [stL, ints, zs, h1, h2]
theorem reF_set_state (r : Re) (gc : Nat) (s : St) (hs : (stL s).length = 17) : ∀ j, j < 93 → setsF (reF r gc) 3 (stL s) j = reF { r with state := s } gc j := by
 intro j hj
 unfold setsF
 rw [hs]
 by_cases h1 : 3 ≤ j ∧ j < 3 + 17
 ·rw [if_pos h1]
  obtain ⟨m, rfl⟩ : ∃ m, j = 3 + m := ⟨j - 3, by omega⟩
  rw [reF_state (r := { r with state := s }) (by omega), show 3 + m - 3 = m by omega]
 ·rw [if_neg h1]
  unfold reF
  by_cases a : j < 20
  ·have hj2 : j = 0 ∨ j = 1 ∨ j = 2 := by omega
   rcases hj2 with rfl | rfl | rfl <;> rfl
  ·simp only [a, if_false]
theorem knL_length {k : Nat × St × Bool} (h : (stL k.2.1).length = 17) : (knL k).length = 19 := by simp [knL, h]
theorem reF_set_told (r : Re) (gc k : Nat) (x : Nat × St × Bool) (hk : k < 3) (hl : r.told.length = 3) (hx : (knL x).length = 19) : ∀ j, j < 93 → setsF (reF r gc) (34 + k * 19) (knL x) j = reF { r with told := r.told.set k x } gc j := by
 intro j hj
 unfold setsF
 rw [hx]
 by_cases h1 : 34 ≤ j ∧ j < 91
 ·obtain ⟨m, i, hi, rfl⟩ : ∃ m i, i < 19 ∧ j = 34 + m * 19 + i := ⟨(j - 34) / 19, (j - 34) % 19, by omega, by omega⟩
  rw [reF_told (r := { r with told := r.told.set k x }) (by omega) hi, reF_told (by omega) hi]
  show _ = (knL ((r.told.set k x).getD m kn0)).getD i undef
  rw [getD_set _ _ _ _ _ (by omega)]
  by_cases e : m = k
  ·subst e
   rw [if_pos (by omega), if_pos rfl, show 34 + m * 19 + i - (34 + m * 19) = i by omega]
  ·rw [if_neg (by omega), if_neg e]
 ·rw [if_neg (by omega)]
  unfold reF
  by_cases a : j < 20
  ·simp only [a, if_true]
  ·by_cases b1 : j < 28
   ·simp only [a, b1, if_true, if_false]
   ·by_cases c : j < 34
    ·simp only [a, b1, c, if_true, if_false]
    ·have d : ¬ j < 91 := by omega
     simp only [a, b1, c, d, if_false]
def Z6 : List Value := List.replicate 6 (I 0)
def Z3 : List Value := List.replicate 3 (.bool false)
def Z57 : List Value := (List.replicate 3 kn0).flatMap knL
theorem reF_no_seen (r : Re) (gc : Nat) : ∀ j, j < 93 → setsF (reF r gc) 22 Z6 j = reF { r with seen := noSeen } gc j := by
 intro j hj
 unfold setsF
 have hl : Z6.length = 6 := rfl
 rw [hl]
 by_cases h1 : 22 ≤ j ∧ j < 22 + 6
 ·rw [if_pos h1]
  have : j = 22 ∨ j = 23 ∨ j = 24 ∨ j = 25 ∨ j = 26 ∨ j = 27 := by omega
  rcases this with rfl | rfl | rfl | rfl | rfl | rfl <;> rfl
 ·rw [if_neg h1]
  unfold reF
  by_cases a : j < 20
  ·simp only [a, if_true]
  ·by_cases b1 : j < 28
   ·have hj2 : j = 20 ∨ j = 21 := by omega
    rcases hj2 with rfl | rfl <;> rfl
   ·simp only [a, b1, if_false]
theorem reF_no_some (r : Re) (gc : Nat) : ∀ j, j < 93 → setsF (reF r gc) 28 Z3 j = reF { r with some := noSome } gc j := by
 intro j hj
 unfold setsF
 have hl : Z3.length = 3 := rfl
 rw [hl]
 by_cases h1 : 28 ≤ j ∧ j < 28 + 3
 ·rw [if_pos h1]
  have : j = 28 ∨ j = 29 ∨ j = 30 := by omega
  rcases this with rfl | rfl | rfl <;> rfl
 ·rw [if_neg h1]
  unfold reF
  by_cases a : j < 20
  ·simp only [a, if_true]
  ·by_cases b1 : j < 28
   ·simp only [a, b1, if_true, if_false]
   ·by_cases c : j < 34
    ·have d : ¬ j < 31 := by omega
     simp only [a, b1, c, d, if_true, if_false]
    ·simp only [a, b1, c, if_false]
theorem reF_no_told (r : Re) (gc : Nat) : ∀ j, j < 93 → setsF (reF r gc) 34 Z57 j = reF { r with told := noTold } gc j := by
 intro j hj
 unfold setsF
 have hl : Z57.length = 57 := rfl
 rw [hl]
 by_cases h1 : 34 ≤ j ∧ j < 34 + 57
 ·rw [if_pos h1]
  obtain ⟨m, i, hi, rfl⟩ : ∃ m i, i < 19 ∧ j = 34 + m * 19 + i := ⟨(j - 34) / 19, (j - 34) % 19, by omega, by omega⟩
  rw [reF_told (by omega) hi]
  have hm : m = 0 ∨ m = 1 ∨ m = 2 := by omega
  have e : 34 + m * 19 + i - 34 = m * 19 + i := by omega
  rw [e]
  have hk : ∀ m i : Nat, m < 3 → i < 19 → Z57.getD (m * 19 + i) undef = (knL (noTold.getD m kn0)).getD i undef := by
   intro m i hm hi
   have hm : m = 0 ∨ m = 1 ∨ m = 2 := by omega
   have hi : i = 0 ∨ i = 1 ∨ i = 2 ∨ i = 3 ∨ i = 4 ∨ i = 5 ∨ i = 6 ∨ i = 7 ∨ i = 8 ∨ i = 9 ∨ i = 10 ∨ i = 11 ∨ i = 12 ∨ i = 13 ∨ i = 14 ∨ i = 15 ∨ i = 16 ∨ i = 17 ∨ i = 18 := by omega
   rcases hm with rfl | rfl | rfl <;> rcases hi with rfl | rfl | rfl | rfl | rfl | rfl | rfl | rfl | rfl | rfl | rfl | rfl | rfl | rfl | rfl | rfl | rfl | rfl | rfl <;> rfl
  exact hk m i (by omega) hi
 ·rw [if_neg h1]
  unfold reF
  by_cases a : j < 20
  ·simp only [a, if_true]
  ·by_cases b1 : j < 28
   ·simp only [a, b1, if_true, if_false]
   ·by_cases c : j < 34
    ·simp only [a, b1, c, if_true, if_false]
    ·have d : ¬ j < 91 := by omega
     simp only [a, b1, c, d, if_false]
end Go.Proofs.YtdhekhlmdefcnabGreatDoor
namespace Go.Proofs.YtdhekhlmdefcnabGreatDoor
open Go.RowKit
structure RepAt (w : World) (g gc : Nat) (L : Lay) (r : Re) : Prop where
 has : Has w g 108 (cellsOf 93 (reF r gc))
 core : CoreAt w gc L
theorem CoreAt.turnedR {w w' : World} {g gc : Nat} {L : Lay} {t : TypeId} {cs : Array Value} (h : CoreAt w gc L) (k : Has w g t cs) (h1 : 130 ≠ t) (h2 : 3 ≠ t) (ht : Turned (fun b => b = g) w w') : CoreAt w' gc L := by
 obtain ⟨vr, vc, a1, a2, a3⟩ := h
 refine ⟨vr, vc, a1.turned ht (fun e => a1.ne k h1 e), own_turned a2 ht (fun q hq e => own_has_ne a2 k h2 (e ▸ hq)), own_turned a3 ht (fun q hq e => own_has_ne a3 k h2 (e ▸ hq))⟩
theorem RepAt.after {w w' : World} {g gc : Nat} {L : Lay} {r : Re} (h : RepAt w g gc L r) (hb : Below w.heap.size w w') : RepAt w' g gc L r := ⟨h.has.after hb, h.core.after hb⟩
theorem RepAt.cell {w : World} {g gc : Nat} {L : Lay} {r : Re} (h : RepAt w g gc L r) (i : Nat) (hi : i < 93) {v : Value} (hv : reF r gc i = v) : w.cell? ⟨g, i, none⟩ = some v := h.has.cellF i hi hv
theorem RepAt.free {w : World} {g gc : Nat} {L : Lay} {r : Re} (h : RepAt w g gc L r) (i : Nat) : w.frozen? ⟨g, i, none⟩ = false := h.has.free i
theorem RepAt.to {w w' : World} {g gc : Nat} {L : Lay} {r r' : Re} {f : Nat → Value} (h : RepAt w g gc L r) (ht : Turned (fun b => b = g) w w') (k : Has w' g 108 (cellsOf 93 f)) (he : ∀ j, j < 93 → f j = reF r' gc j) : RepAt w' g gc L r' :=
 ⟨k.toF he, h.core.turnedR h.has (by decide) (by decide) ht⟩
section
variable {w : World} {g gc : Nat} {L : Lay} {r : Re}
set_option maxHeartbeats 1000000 in
theorem re_cycle (h : RepAt w g gc L r) : Calls Tryz.prog 134 #[.pointer (some ⟨g, 0, none⟩)] w fun e w' => e = .returned (I (r.cycle : Int)) ∧ w = w' := by
 have c2 := h.cell 2 (by decide) reF_cycle
 clear h
 go_enter Tryz.func134, Tryz.ntmps134
 go_wp2
 go_ret
 exact ⟨rfl, rfl⟩
theorem infoState : (Tryz.prog.info? 100).map (·.size) = some 17 := by kernel_rfl
theorem state_range (h : RepAt w g gc L r) (hs : (stL r.state).length = 17) : w.rangeAt g 3 (stL r.state) := h.has.rangeF 3 _ fun j v hv => by
 have hj : j < 17 := by rw [← hs]; exact (List.getElem?_eq_some_iff.1 hv).1
 refine ⟨by omega, ?_⟩
 rw [reF_state hj, List.getD_eq_getElem?_getD, hv]
 rfl
set_option maxHeartbeats 1000000 in
theorem re_state (h : RepAt w g gc L r) (hs : (stL r.state).length = 17) : Calls Tryz.prog 135 #[.pointer (some ⟨g, 0, none⟩)] w fun e w' => e = .returned (.agg (stC r.state)) ∧ Below w.heap.size w w' := by
 have hb : Below w.heap.size w (w.alloc (.cells #[I 0, I 0, I 0, I 0, I 0, I 0, I 0, I 0, I 0, I 0, I 0, I 0, I 0, I 0, I 0, I 0, I 0] 100)) := (Below.refl _ _).alloc (Nat.le_refl _) _
 have k0 : Has (w.alloc (.cells #[I 0, I 0, I 0, I 0, I 0, I 0, I 0, I 0, I 0, I 0, I 0, I 0, I 0, I 0, I 0, I 0, I 0] 100)) w.heap.size 100 (stC St.zero) := Has.new w 100 #[I 0, I 0, I 0, I 0, I 0, I 0, I 0, I 0, I 0, I 0, I 0, I 0, I 0, I 0, I 0, I 0, I 0]
 have hr := Lib.hid (state_range (h.after hb) hs)
 have hi : (Tryz.prog.info? 100).map (·.size) = some (stL r.state).length := by rw [hs]; exact infoState
 have hi2 : (Tryz.prog.info? 100).map (·.size) = some (stC r.state).size := by unfold stC; rw [List.size_toArray, hs]; exact infoState
 have hz : (stC St.zero).size = (stC r.state).size := by unfold stC; rw [List.size_toArray, List.size_toArray, hs]; rfl
 have h1 : (stC r.state).all (·.oneCell') = true := by
  unfold stC stL
  exact all_oneCell_toArray fun v hv => by
   simp only [List.mem_cons, List.mem_append, ints, List.mem_map] at hv
   rcases hv with rfl | ⟨x, _, rfl⟩ | ⟨x, _, rfl⟩ <;> rfl
 clear h
 go_enter Tryz.func135, Tryz.ntmps135
 go_upto_region 1 with fail
 generalize w.alloc (.cells #[I 0, I 0, I 0, I 0, I 0, I 0, I 0, I 0, I 0, I 0, I 0, I 0, I 0, I 0, I 0, I 0, I 0] 100) = w1 at *
 generalize hG : w.heap.size = g0 at *
 have HG := Lib.hid hG
 clear hG
 go_wp2_with (first
  | (refine wpList_load_mid rfl 100 (.tmp 5) rfl g 3 rfl (stL r.state) _ hr.out Tryz.underlying100 rfl hi ?_)
  | (refine wpList_store_row rfl 100 (.tmp 2) (.tmp 6) rfl g0 (stC r.state) rfl rfl 100 _ k0 hi2 hz h1 ?_))
 exact bodyPost_ret (results_cell_row rfl _ _ g0 _ (stC r.state) _ _ rfl (k0.setRow _) Tryz.underlying100 rfl hi2) rfl ⟨rfl, by rw [HG.out]; exact below_setRow hb (Nat.le_refl _) _⟩
set_option maxHeartbeats 2000000 in
set_option maxRecDepth 100000 in
theorem re_asks (h : RepAt w g gc L r) : Calls Tryz.prog 75 #[.pointer (some ⟨g, 0, none⟩)] w fun e w' => e = .returned (.agg (frC (asks r))) ∧ Below w.heap.size w w' := by
 have c0 := h.cell 0 (by decide) reF_id
 have c2 := h.cell 2 (by decide) reF_cycle
 have hgl := h.has.lt
 have HE : Hid (asks r = [4, (r.id : Int), (r.cycle : Int), 0, 0, 0] ++ List.replicate 17 0) := Lib.hid rfl
 obtain ⟨fr, hfr⟩ : ∃ fr, asks r = fr := ⟨_, rfl⟩
 rw [hfr] at HE ⊢
 clear h hfr
 generalize r.id = id at *
 generalize r.cycle = cy at *
 go_enter Tryz.func75, Tryz.ntmps75
 go_upto_region 1 with (fail)
 have k2 : Has (w.alloc (.cells #[I 0, I 0, I 0, I 0, I 0, I 0, I 0, I 0, I 0, I 0, I 0, I 0, I 0, I 0, I 0, I 0, I 0, I 0, I 0, I 0, I 0, I 0, I 0] 110)) w.heap.size 110 (frC zeroF) := by rw [zeroFrame]; exact Has.new _ _ _
 have hb : Below w.heap.size w (w.alloc (.cells #[I 0, I 0, I 0, I 0, I 0, I 0, I 0, I 0, I 0, I 0, I 0, I 0, I 0, I 0, I 0, I 0, I 0, I 0, I 0, I 0, I 0, I 0, I 0] 110)) := (Below.refl _ _).alloc (Nat.le_refl _) _
 have d0 := (hb.cell (p := ⟨g, 0, none⟩) hgl).trans c0
 have d1 := (hb.cell (p := ⟨g, 2, none⟩) hgl).trans c2
 clear c0 c2
 generalize w.alloc (.cells #[I 0, I 0, I 0, I 0, I 0, I 0, I 0, I 0, I 0, I 0, I 0, I 0, I 0, I 0, I 0, I 0, I 0, I 0, I 0, I 0, I 0, I 0, I 0] 110) = w1 at *
 generalize hG : w.heap.size = g4 at *
 have HG := Lib.hid hG
 clear hG
 go_still_tail 9, (by kernel_rfl)
 change wpList _ _ _ _ _ w1.drew
 have hs1 : (Tryz.prog.info? 110).map (·.size) = some (frC fr).size := by rw [HE.out]; exact infoFrame
 have hs2 : (frC zeroF).size = (frC fr).size := by rw [HE.out]; rfl
 have k3 := k2.drew
 refine wpList_store_row rfl 110 (.tmp 2) (.tmp 11) rfl g4 (frC fr) rfl (by rw [HE.out]; rfl) 110 _ k3 hs1 hs2 (frC_one _) ?_
 have hb5 := below_setRow (hb.drew) (Nat.le_refl _) (frC fr)
 have k4 := k3.setRow (frC fr)
 clear k3 k2 hb
 generalize (w1.drew.setRow g4 (frC fr)) = w2 at *
 go_wp2
 exact bodyPost_ret (results_cell_row rfl _ _ g4 _ (frC fr) _ _ rfl k4 Tryz.underlying110 rfl hs1) rfl ⟨rfl, HG.out ▸ hb5⟩
set_option maxHeartbeats 2000000 in
theorem re_see (h : RepAt w g gc L r) (x y : Int) : Calls Tryz.prog 23 #[.pointer (some ⟨g, 0, none⟩), .agg #[I x, I y]] w fun e w' => e = .returned (.tuple #[]) ∧ RepAt w' g gc L { r with field := (x, y) } ∧ Turned (fun b => b = g) w w' := by
 have hb : Below w.heap.size w (w.alloc (.cells #[I x, I y] 26)) := (Below.refl _ _).alloc (Nat.le_refl _) _
 have h1 := h.after hb
 have ht : Turned (fun b => b = g) w (w.alloc (.cells #[I x, I y] 26)) := Turned.of_below hb _
 have e0 := h1.cell 20 (by decide) reF_field1
 have e1 := h1.cell 21 (by decide) reF_field2
 have f0 := h1.free 20
 have f1 := h1.free 21
 have k := (h1.has.setF 20 (I x)).setF 21 (I y)
 have kt : Turned (fun b => b = g) w (((w.alloc (.cells #[I x, I y] 26)).setCell ⟨g, 20, none⟩ (I x)).setCell ⟨g, 21, none⟩ (I y)) := (ht.setCell ⟨g, 20, none⟩ _ (.inl rfl)).setCell ⟨g, 21, none⟩ _ (.inl rfl)
 have kt1 : Turned (fun b => b = g) (w.alloc (.cells #[I x, I y] 26)) (((w.alloc (.cells #[I x, I y] 26)).setCell ⟨g, 20, none⟩ (I x)).setCell ⟨g, 21, none⟩ (I y)) := ((Turned.refl (fun b => b = g) _).setCell ⟨g, 20, none⟩ _ (.inl rfl)).setCell ⟨g, 21, none⟩ _ (.inl rfl)
 have KR := Lib.hid (h1.to kt1 k (reF_set_field r gc x y))
 have KT := Lib.hid kt
 clear h h1 k kt kt1 ht hb
 go_enter Tryz.func23, Tryz.ntmps23
 go_wp2
 go_end0
 exact ⟨rfl, KR.out, KT.out⟩
set_option maxHeartbeats 2000000 in
set_option maxRecDepth 100000 in
theorem core_layout {g : Nat} (h : CoreAt w g L) (h8 : L.routes.length ≤ 8) : Calls Tryz.prog 111 #[.pointer (some ⟨g, 0, none⟩)] w fun e w' =>
  (∃ A c, e = .returned (.agg #[I L.secs, .slice A L.routes.length c, I L.delay]) ∧ Reads w' w'.heap.size A (ints (zs L.routes))) ∧ Below w.heap.size w w' := by
 obtain ⟨i0, hi0, hz0, hz1, hz2⟩ := info_parts infoInt
 obtain ⟨vr, vc, hcore, hrow, hcon⟩ := h
 obtain ⟨A, c, rfl, hc, hln, hrd⟩ := own_reads hrow
 have HAN : Hid (A = none → L.routes.length = 0 ∧ c = 0) := Lib.hid (by
  rintro rfl
  rcases hrow.2 with ⟨h1, h2⟩ | ⟨g', cap, cur, h1, _⟩
  ·injection h1 with _ h3 h4
   exact ⟨by omega, h4⟩
  ·injection h1 with h1; cases h1)
 have HLN := Lib.hid hln
 clear hrow hcon hln
 generalize L.routes.length = n at *
 have hb1 : Below w.heap.size w (w.alloc (.cells #[I 0, .slice none 0 0, I 0] 29)) := (Below.refl _ _).alloc (Nat.le_refl _) _
 have c0 := hcore.cellv 0 _ rfl
 have c1 := hcore.cellv 1 _ rfl
 have c2 := hcore.cellv 2 _ rfl
 have hgl := hcore.lt
 go_enter Tryz.func111, Tryz.ntmps111
 go_upto_region 2 with fail
 have hb2 : Below w.heap.size w ((w.alloc (.cells #[I 0, .slice none 0 0, I 0] 29)).alloc (.cells #[I L.secs, .slice A n c, I L.delay] 29)) := hb1.alloc (by simp) _
 have k1 := (Has.new w 29 #[I 0, .slice none 0 0, I 0]).alloc (.cells #[I L.secs, .slice A n c, I L.delay] 29)
 have k2 := Has.new' (w.alloc (.cells #[I 0, .slice none 0 0, I 0] 29)) 29 #[I L.secs, .slice A n c, I L.delay] (w.heap.size + 1) (by simp)
 have hr2 := hrd.below hb2
 clear hb1 hrd c0 c1 c2 hcore
 generalize (w.alloc (.cells #[I 0, .slice none 0 0, I 0] 29)).alloc (.cells #[I L.secs, .slice A n c, I L.delay] 29) = w2 at *
 have hl2 := k2.lt
 generalize hG : w.heap.size = g0 at *
 have HG := Lib.hid hG
 clear hG
 have c1 := k2.cellv 1 _ rfl
 have kb : Has (w2.alloc (.cells #[] 3)) (g0 + 1) 29 #[I L.secs, .slice A n c, I L.delay] := k2.alloc _
 go_wp2_with (at_builtin; refine wpList_append_read rfl (.tmp 8) (.tmp 10) 27 rfl w2.heap.size 3 i0 (.int .i64 0) 1 8 Tryz.underlying27 hi0 hz0 hz1 hz2 rfl (by decide) _ _ _ rfl (World.ownsRow_lit w2 #[] 0 (Nat.le_refl _) (Nat.zero_le _) rfl) g0 A n c (ints (zs L.routes)) rfl HAN.out ?c1 ?c2 ?c3 ?c4 ?c5 ?c6 ?_)
 case c1 => rw [ints_length, zs_length]; have := HLN.out; rw [ints_length, zs_length] at this; omega
 case c2 => exact hr2.alloc (by omega) _
 case c3 => intro u hu; simp only [ints, List.mem_map] at hu; obtain ⟨x, _, rfl⟩ := hu; rfl
 case c4 => unfold maxLen; omega
 case c5 => omega
 case c6 => simp
 intro v' w3 hown3 hg3
 have hbg : Below w2.heap.size w2 w3 := ((Below.refl _ _).alloc (Nat.le_refl _) _).grown hg3 (by simp) (fun q hq => by simp [Value.ownBlock] at hq; omega)
 have k13 := k1.after hbg
 have k23 := k2.after hbg
 obtain ⟨A3, d3, rfl, _, -, hr3⟩ := own_reads hown3
 have hb3 : Below g0 w w3 := hb2.trans (hbg.mono (by omega))
 have e1 := k23.cellv 1 _ rfl
 have f1 := k23.free 1
 have e0 := k23.cellv 0 _ rfl
 have e2 := k23.cellv 2 _ rfl
 have d0 := k13.cellv 0 _ rfl
 have d1 := k13.cellv 1 _ rfl
 have d2 := k13.cellv 2 _ rfl
 have fd0 := k13.free 0
 have fd1 := k13.free 1
 have fd2 := k13.free 2
 clear hg3 kb c1
 go_wp2_with fail
 have hne : g0 ≠ g0 + 1 := by omega
 have o1 := own_far hown3 k23 (by decide) 1 (.slice A3 n d3)
 have k14 := k13.far (p := ⟨g0 + 1, 1, none⟩) hne (.slice A3 n d3)
 have o2 := own_far o1 k14 (by decide) 0 (I L.secs)
 have k15 := k14.set 0 (I L.secs)
 have o3 := own_far o2 k15 (by decide) 1 (.slice A3 n d3)
 have k16 := k15.set 1 (.slice A3 n d3)
 have o4 := own_far o3 k16 (by decide) 2 (I L.delay)
 have k17 := k16.set 2 (I L.delay)
 have hb9 : Below g0 w _ := (((hb3.setCell (p := ⟨g0 + 1, 1, none⟩) (Nat.le_succ _) (.slice A3 n d3)).setCell (p := ⟨g0, 0, none⟩) (Nat.le_refl _) (I L.secs)).setCell (p := ⟨g0, 1, none⟩) (Nat.le_refl _) (.slice A3 n d3)).setCell (p := ⟨g0, 2, none⟩) (Nat.le_refl _) (I L.delay)
 exact bodyPost_ret (results_cell_row rfl _ _ g0 _ #[I L.secs, .slice A3 n d3, I L.delay] _ _ rfl k17 Tryz.underlying29 rfl (by kernel_rfl)) rfl ⟨⟨_, _, rfl, (own_slice o4).2⟩, HG.out ▸ hb9⟩
set_option maxHeartbeats 2000000 in
set_option maxRecDepth 100000 in
theorem re_fit (h : RepAt w g gc L r) (hL : L.Ok) (x y : Int) : Calls Tryz.prog 74 #[.pointer (some ⟨g, 0, none⟩), .agg #[I x, I y]] w fun e w' => e = .returned (.agg #[I (fit L (x, y)).1, I (fit L (x, y)).2]) ∧ Below w.heap.size w w' := by
 have hs := hL.secs2
 have hn := hL.many2
 have HA : Hid (bits .and .i64 x (wrap64 (wrap64 (2 ^ L.secs) - 1)) = msk x L.secs) := Lib.hid (by rw [wrap_pow _ (by omega), msk_i64 x _ (by omega)])
 have HB : Hid (bits .and .i64 y (wrap64 (wrap64 (2 ^ L.routes.length) - 1)) = msk y L.routes.length) := Lib.hid (by rw [wrap_pow _ (by omega), msk_i64 y _ (by omega)])
 have HF : Hid (fit L (x, y) = (msk x L.secs, msk y L.routes.length)) := Lib.hid rfl
 have hb1 : Below w.heap.size w ((w.alloc (.cells #[I x, I y] 26)).alloc (.cells #[I 0, I 0] 26)) := ((Below.refl _ _).alloc (Nat.le_refl _) _).alloc (by simp) _
 have k0 := (Has.new w 26 #[I x, I y]).alloc (.cells #[I 0, I 0] 26)
 have k1 := Has.new' (w.alloc (.cells #[I x, I y] 26)) 26 #[I 0, I 0] (w.heap.size + 1) (by simp)
 have h1 := Lib.hid (h.after hb1)
 clear h
 go_enter Tryz.func74, Tryz.ntmps74
 go_upto_region 1 with fail
 generalize (w.alloc (.cells #[I x, I y] 26)).alloc (.cells #[I 0, I 0] 26) = w1 at *
 have hl := k1.lt
 generalize hG : w.heap.size = g0 at *
 have HG := Lib.hid hG
 clear hG
 have c1 := h1.out.cell 1 (by decide) reF_core
 have HC : Hid (Calls Tryz.prog 111 #[.pointer (some ⟨gc, 0, none⟩)] w1 fun e w' => (∃ A c, e = .returned (.agg #[I L.secs, .slice A L.routes.length c, I L.delay]) ∧ Reads w' w'.heap.size A (ints (zs L.routes))) ∧ Below w1.heap.size w1 w') := Lib.hid (core_layout h1.out.core hn)
 clear h1
 generalize L.routes.length = n at *
 generalize L.secs = sc at *
 go_upto_region 2 with (go_at_call 111; refine HC.out.mono ?_; rintro e w2 ⟨⟨A, c, rfl, -⟩, hb2⟩)
 have k3 := Has.new w2 29 #[I sc, .slice A n c, I L.delay]
 have hb3 : Below w2.heap.size w2 (w2.alloc (.cells #[I sc, .slice A n c, I L.delay] 29)) := (Below.refl _ _).alloc (Nat.le_refl _) _
 have k02 := (k0.after hb2).after hb3
 have k12 := (k1.after hb2).after hb3
 have hb9 := (hb1.trans (hb2.mono (by omega))).trans (hb3.mono (Nat.le_trans (by omega) hb2.size))
 clear hb1 hb2 hb3 k0 k1 c1 HC
 generalize w2.alloc (.cells #[I sc, .slice A n c, I L.delay] 29) = w3 at *
 have d0 := k02.cellv 0 _ rfl
 have d1 := k02.cellv 1 _ rfl
 have e0 := k3.cellv 0 _ rfl
 have e1 := k3.cellv 1 _ rfl
 go_still_tail 16, (by kernel_rfl)
 change wpList _ _ _ _ _ w3.drew
 have k13 := k12.drew
 have r0 := k13.cellv 0 _ rfl
 have r1 := k13.cellv 1 _ rfl
 have f0 := k13.free 0
 have f1 := k13.free 1
 generalize hw4 : w3.drew = w4 at *
 have hb10 : Below g0 w w4 := hw4 ▸ hb9.drew
 clear hw4
 go_wp2
 have hA := HA.out
 have hB := HB.out
 rw [hA, hB]
 have hb11 : Below g0 w _ := (hb10.setCell (p := ⟨g0 + 1, 0, none⟩) (Nat.le_succ _) (I (msk x sc : Nat))).setCell (p := ⟨g0 + 1, 1, none⟩) (Nat.le_succ _) (I (msk y n : Nat))
 exact bodyPost_ret (results_cell_row rfl _ _ (g0 + 1) _ #[I (msk x sc : Nat), I (msk y n : Nat)] _ _ rfl ((k13.set 0 _).set 1 _) Tryz.underlying26 rfl (by kernel_rfl)) rfl ⟨by rw [HF.out], HG.out ▸ hb11⟩
theorem z6_one : Z6.toArray.all (·.oneCell') = true := by kernel_rfl
theorem z57_one : Z57.toArray.all (·.oneCell') = true := by kernel_rfl
theorem info6 : (Tryz.prog.info? 101).map (·.size) = some 6 := by kernel_rfl
theorem info57 : (Tryz.prog.info? 106).map (·.size) = some 57 := by kernel_rfl
set_option maxHeartbeats 2000000 in
set_option maxRecDepth 100000 in
theorem re_goes (h : RepAt w g gc L r) (k : Nat) : Calls Tryz.prog 107 #[.pointer (some ⟨g, 0, none⟩), I (k : Int)] w fun e w' => e = .returned (.tuple #[]) ∧ RepAt w' g gc L (goes r k) ∧ Turned (fun b => b = g) w w' := by
 have e2 := h.cell 2 (by decide) reF_cycle
 have f2 := h.free 2
 have k1 := (h.has.setF 2 (I k)).toF (reF_set_cycle r gc k)
 have t1 : Turned (fun b => b = g) w (w.setCell ⟨g, 2, none⟩ (I k)) := (Turned.refl (fun b => b = g) _).setCell ⟨g, 2, none⟩ _ (.inl rfl)
 have HH := Lib.hid h
 clear h
 go_enter Tryz.func107, Tryz.ntmps107
 go_upto_region 1 with fail
 clear e2 f2
 generalize w.setCell ⟨g, 2, none⟩ (I k) = w1 at *
 have th1 := Lib.hid (k1.thereF 22 6 (by decide))
 have K2 := Lib.hid ((k1.setsF Z6 22).toF (reF_no_seen _ gc))
 have T2 := Lib.hid (Turned.setCells (F := fun b => b = g) (g := g) (.inl rfl) Z6 22 t1)
 have th2 := Lib.hid (K2.out.thereF 28 3 (by decide))
 have K3 := Lib.hid ((K2.out.setsF Z3 28).toF (reF_no_some _ gc))
 have T3 := Lib.hid (Turned.setCells (F := fun b => b = g) (g := g) (.inl rfl) Z3 28 T2.out)
 clear k1 t1
 go_upto_region 2 with (refine wpList_store_mid rfl 101 (.tmp 13) (.tmp 10) rfl g 22 Z6.toArray rfl rfl th1.out info6 z6_one ?_; change wpList _ _ _ _ _ (w1.setCells g 22 Z6); generalize w1.setCells g 22 Z6 = w2 at *; clear th1; have e28 := K2.out.cellF 28 (by decide) (reF_some (k := 0) (by decide)); have e29 := K2.out.cellF 29 (by decide) (reF_some (k := 1) (by decide)); have e30 := K2.out.cellF 30 (by decide) (reF_some (k := 2) (by decide)); have f28 := K2.out.free 28; have f29 := K2.out.free 29; have f30 := K2.out.free 30)
 change Code.wp _ _ _ _ (w2.setCells g 28 Z3)
 clear e28 e29 e30 f28 f29 f30
 generalize w2.setCells g 28 Z3 = w3 at *
 have th3 := Lib.hid (K3.out.thereF 34 57 (by decide))
 have K4 := Lib.hid ((K3.out.setsF Z57 34).toF (reF_no_told _ gc))
 have T4 := Lib.hid (Turned.setCells (F := fun b => b = g) (g := g) (.inl rfl) Z57 34 T3.out)
 clear K2 T2 th2
 have HR := Lib.hid (reF_set_ticks ({ r with cycle := k, seen := noSeen, some := noSome, told := noTold } : Re) gc 0)
 go_wp2_with (refine wpList_store_mid rfl 106 (.tmp 20) (.tmp 18) rfl g 34 Z57.toArray rfl rfl th3.out info57 z57_one ?_; change wpList _ _ _ _ _ (w3.setCells g 34 Z57); generalize w3.setCells g 34 Z57 = w4 at *; have e9 := K4.out.cellF 91 (by decide) reF_ticks; have f9 := K4.out.free 91)
 go_end0
 exact ⟨rfl, HH.out.to (T4.out.setCell ⟨g, 91, none⟩ _ (.inl rfl)) (K4.out.setF 91 (I 0)) HR.out, T4.out.setCell ⟨g, 91, none⟩ _ (.inl rfl)⟩
end
end Go.Proofs.YtdhekhlmdefcnabGreatDoor
namespace Go.Proofs.YtdhekhlmdefcnabGreatDoor
open Go.RowKit
theorem fuseTo_succ (r : Re) (k : Nat) : fuseTo r (k + 1) = if r.some.getD k false then
  (((fuseTo r k).1.1 ||| ((fuseTo r k).2.1 &&& (r.seen.getD k (0, 0)).1), (fuseTo r k).1.2 ||| ((fuseTo r k).2.2 &&& (r.seen.getD k (0, 0)).2)), ((fuseTo r k).2.1 ||| (r.seen.getD k (0, 0)).1, (fuseTo r k).2.2 ||| (r.seen.getD k (0, 0)).2)) else fuseTo r k := rfl
def Small2 (p : Nat × Nat) : Prop := p.1 < 4096 ∧ p.2 < 4096
theorem fuseTo_small {r : Re} (h : ∀ k, Small2 (r.seen.getD k (0, 0))) : ∀ k, Small2 (fuseTo r k).1 ∧ Small2 (fuseTo r k).2
 | 0 => ⟨⟨(by show 0 < 4096; decide), (by show 0 < 4096; decide)⟩, (by show 0 < 4096; decide), (by show 0 < 4096; decide)⟩
 | k + 1 => by
  obtain ⟨⟨a1, a2⟩, b1, b2⟩ := fuseTo_small h k
  obtain ⟨s1, s2⟩ := h k
  rw [fuseTo_succ]
  split
  ·exact ⟨⟨Nat.or_lt_two_pow (n := 12) a1 (Nat.and_lt_two_pow _ s1), Nat.or_lt_two_pow (n := 12) a2 (Nat.and_lt_two_pow _ s2)⟩, Nat.or_lt_two_pow (n := 12) b1 s1, Nat.or_lt_two_pow (n := 12) b2 s2⟩
  ·exact ⟨⟨a1, a2⟩, b1, b2⟩
theorem ix0 (x0 x1 x2 : Value) (w : World) : (Instr.index 102 (.agg #[x0, x1, x2]) (I 0)).run Tryz.prog w = .ok x0 w := by kernel_rfl
theorem ix1 (x0 x1 x2 : Value) (w : World) : (Instr.index 102 (.agg #[x0, x1, x2]) (I 1)).run Tryz.prog w = .ok x1 w := by kernel_rfl
theorem ix2 (x0 x1 x2 : Value) (w : World) : (Instr.index 102 (.agg #[x0, x1, x2]) (I 2)).run Tryz.prog w = .ok x2 w := by kernel_rfl
def FuseRel (w : World) (g0 : Nat) (r : Re) (k : Nat) (wr : World) : Prop :=
 Has wr (g0 + 1) 26 #[I (fuseTo r k).2.1, I (fuseTo r k).2.2] ∧ Has wr (g0 + 2) 26 #[I (fuseTo r k).1.1, I (fuseTo r k).1.2] ∧ Has wr g0 26 #[I 0, I 0] ∧ Below g0 w wr
section
variable {w : World} {g gc : Nat} {L : Lay} {r : Re}
set_option maxHeartbeats 4000000 in
set_option maxRecDepth 100000 in
theorem re_fused (h : RepAt w g gc L r) (hs : Hid (∀ k, Small2 (r.seen.getD k (0, 0)))) : Calls Tryz.prog 76 #[.pointer (some ⟨g, 0, none⟩)] w fun e w' => e = .returned (.agg #[I (fused r).1, I (fused r).2]) ∧ Below w.heap.size w w' := by
 have hb1 : Below w.heap.size w (((w.alloc (.cells #[I 0, I 0] 26)).alloc (.cells #[I 0, I 0] 26)).alloc (.cells #[I 0, I 0] 26)) := (((Below.refl _ _).alloc (Nat.le_refl _) _).alloc (by simp) _).alloc (by simp; omega) _
 have k0 := ((Has.new w 26 #[I 0, I 0]).alloc (.cells #[I 0, I 0] 26)).alloc (.cells #[I 0, I 0] 26)
 have k1 := (Has.new' (w.alloc (.cells #[I 0, I 0] 26)) 26 #[I 0, I 0] (w.heap.size + 1) (by simp)).alloc (.cells #[I 0, I 0] 26)
 have k2 := Has.new' ((w.alloc (.cells #[I 0, I 0] 26)).alloc (.cells #[I 0, I 0] 26)) 26 #[I 0, I 0] (w.heap.size + 2) (by simp)
 have HR := Lib.hid h
 have hgl := h.has.lt
 have h1 := h.after hb1
 have c0 := h1.cell 28 (by decide) (reF_some (k := 0) (by decide))
 have c1 := h1.cell 29 (by decide) (reF_some (k := 1) (by decide))
 have c2 := h1.cell 30 (by decide) (reF_some (k := 2) (by decide))
 obtain ⟨s0, hs0⟩ : ∃ s, r.some.getD 0 false = s := ⟨_, rfl⟩
 obtain ⟨s1, hs1⟩ : ∃ s, r.some.getD 1 false = s := ⟨_, rfl⟩
 obtain ⟨s2, hs2⟩ : ∃ s, r.some.getD 2 false = s := ⟨_, rfl⟩
 rw [hs0] at c0
 rw [hs1] at c1
 rw [hs2] at c2
 have HS0 := Lib.hid hs0
 have HS1 := Lib.hid hs1
 have HS2 := Lib.hid hs2
 clear h h1 hs0 hs1 hs2
 go_enter Tryz.func76, Tryz.ntmps76
 go_upto_region 2 with fail
 generalize (((w.alloc (.cells #[I 0, I 0] 26)).alloc (.cells #[I 0, I 0] 26)).alloc (.cells #[I 0, I 0] 26)) = w1 at *
 have hl := k2.lt
 generalize hG : w.heap.size = g0 at *
 have HG := Lib.hid hG
 clear hG
 go_wp2_with fail
 clear c0 c1 c2
 go_loopw [12] (fun i wr => ∃ k : Nat, k ≤ 3 ∧ i = I k ∧ Hid (FuseRel w g0 r k wr)) (fun i _ => 3 - (intOf i).toNat)
 case atStart => exact ⟨0, by omega, rfl, Lib.hid ⟨k1, k2, k0, hb1⟩⟩
 case round =>
  clear k0 k1 k2 hb1
  obtain ⟨k, hk, rfl, HL⟩ := hrel
  by_cases hlt : k < 3
  ·obtain ⟨sk, hsk, hix⟩ : ∃ sk, r.some.getD k false = sk ∧ ∀ wx, (Instr.index 102 (.agg #[.bool s0, .bool s1, .bool s2]) (I (k : Int))).run Tryz.prog wx = .ok (.bool sk) wx := by
    have : k = 0 ∨ k = 1 ∨ k = 2 := by omega
    rcases this with rfl | rfl | rfl
    ·exact ⟨s0, HS0.out, fun wx => ix0 _ _ _ _⟩
    ·exact ⟨s1, HS1.out, fun wx => ix1 _ _ _ _⟩
    ·exact ⟨s2, HS2.out, fun wx => ix2 _ _ _ _⟩
   have hixr := hix wr
   have HSK := Lib.hid hsk
   have hki : (k : Int) < 3 := by omega
   clear hsk hix
   cases sk with
   | false =>
    have HN : Hid (fuseTo r (k + 1) = fuseTo r k) := Lib.hid (by rw [fuseTo_succ, HSK.out]; rfl)
    go_wp2_with fail
    go_roundw
    case rel => exact ⟨k + 1, by omega, by go_num, Lib.hid (by unfold FuseRel; rw [HN.out]; exact HL.out)⟩
    case measure => simp [intOf]; omega
   | true =>
    have HN := Lib.hid (fuseTo_succ r k)
    rw [HSK.out, if_pos rfl] at HN
    obtain ⟨⟨a1, a2⟩, b1, b2⟩ := fuseTo_small hs.out k
    obtain ⟨t1, t2⟩ := hs.out k
    obtain ⟨m1, m2, m0, hbr⟩ := HL.out
    have hR := HR.out.has.below hbr (by omega)
    have e1 := hR.cellF (22 + k * 2) (by omega) (reF_seen1 hlt)
    have e2 := hR.cellF (22 + k * 2 + 1) (by omega) (reF_seen2 hlt)
    have HNL := Lib.hid (show ∀ wx, FuseRel w g0 r (k + 1) wx ↔ (Has wx (g0 + 1) 26 #[I (((fuseTo r k).2.1 ||| (r.seen.getD k (0, 0)).1 : Nat)), I (((fuseTo r k).2.2 ||| (r.seen.getD k (0, 0)).2 : Nat))] ∧
      Has wx (g0 + 2) 26 #[I (((fuseTo r k).1.1 ||| ((fuseTo r k).2.1 &&& (r.seen.getD k (0, 0)).1) : Nat)), I (((fuseTo r k).1.2 ||| ((fuseTo r k).2.2 &&& (r.seen.getD k (0, 0)).2) : Nat))] ∧ Has wx g0 26 #[I 0, I 0] ∧ Below g0 w wx) from fun wx => by unfold FuseRel; rw [HN.out])
    clear HL HN hR
    generalize (fuseTo r k).1.1 = p1 at *
    generalize (fuseTo r k).1.2 = p2 at *
    generalize (fuseTo r k).2.1 = q1 at *
    generalize (fuseTo r k).2.2 = q2 at *
    generalize (r.seen.getD k (0, 0)).1 = x at *
    generalize (r.seen.getD k (0, 0)).2 = y at *
    have hx1 : q1 &&& x < 4096 := Nat.and_lt_two_pow (n := 12) _ t1
    have hx2 : q2 &&& y < 4096 := Nat.and_lt_two_pow (n := 12) _ t2
    have HA1 := Lib.hid (and_i64 q1 x (by omega) (by omega))
    have HA2 := Lib.hid (and_i64 q2 y (by omega) (by omega))
    have HO1 := Lib.hid (or_i64 p1 (q1 &&& x) (by omega) (by omega))
    have HO2 := Lib.hid (or_i64 p2 (q2 &&& y) (by omega) (by omega))
    have HO3 := Lib.hid (or_i64 q1 x (by omega) (by omega))
    have HO4 := Lib.hid (or_i64 q2 y (by omega) (by omega))
    generalize q1 &&& x = z1 at *
    generalize q2 &&& y = z2 at *
    generalize p1 ||| z1 = r1 at *
    generalize p2 ||| z2 = r2 at *
    generalize q1 ||| x = r3 at *
    generalize q2 ||| y = r4 at *
    have hba : Below wr.heap.size wr (wr.alloc (.cells #[I (x : Int), I (y : Int)] 26)) := (Below.refl _ _).alloc (Nat.le_refl _) _
    have k7 := Has.new wr 26 #[I (x : Int), I (y : Int)]
    have n1 := m1.after hba
    have n2 := m2.after hba
    have n0 := m0.after hba
    have hbs := hbr.size
    have hg0r := m0.lt
    have hg1r := m1.lt
    have hg2r := m2.lt
    have hbA := hbr.trans (hba.mono (by omega))
    go_upto_region 7 with fail
    clear hixr e1 e2 m1 m2 m0 hbr hba
    generalize wr.alloc (.cells #[I (x : Int), I (y : Int)] 26) = wa at *
    generalize wr.heap.size = g7 at *
    have c7 := k7.cellv 0 _ rfl
    have d7 := k7.cellv 1 _ rfl
    have c2 := n2.cellv 0 _ rfl
    have d2 := n2.cellv 1 _ rfl
    have c1 := n1.cellv 0 _ rfl
    have d1 := n1.cellv 1 _ rfl
    have f2 := n2.free 0
    have f2' := n2.free 1
    have f1 := n1.free 0
    have f1' := n1.free 1
    have v1 := HA1.out
    have v2 := HA2.out
    have v3 := HO1.out
    have v4 := HO2.out
    have v5 := HO3.out
    have v6 := HO4.out
    have hne : g7 ≠ g0 + 1 := by omega
    have hne2 : g7 ≠ g0 + 2 := by omega
    go_wp2_with fail
    have N2 := (n2.set 0 (I (r1 : Int))).set 1 (I (r2 : Int))
    have N1 := ((n1.far (p := ⟨g0 + 2, 0, none⟩) (show g0 + 1 ≠ g0 + 2 by omega) (I (r1 : Int))).far (p := ⟨g0 + 2, 1, none⟩) (show g0 + 1 ≠ g0 + 2 by omega) (I (r2 : Int)))
    have N0 := ((n0.far (p := ⟨g0 + 2, 0, none⟩) (show g0 ≠ g0 + 2 by omega) (I (r1 : Int))).far (p := ⟨g0 + 2, 1, none⟩) (show g0 ≠ g0 + 2 by omega) (I (r2 : Int)))
    have N1' := (N1.set 0 (I (r3 : Int))).set 1 (I (r4 : Int))
    have N2' := ((N2.far (p := ⟨g0 + 1, 0, none⟩) (show g0 + 2 ≠ g0 + 1 by omega) (I (r3 : Int))).far (p := ⟨g0 + 1, 1, none⟩) (show g0 + 2 ≠ g0 + 1 by omega) (I (r4 : Int)))
    have N0' := ((N0.far (p := ⟨g0 + 1, 0, none⟩) (show g0 ≠ g0 + 1 by omega) (I (r3 : Int))).far (p := ⟨g0 + 1, 1, none⟩) (show g0 ≠ g0 + 1 by omega) (I (r4 : Int)))
    have NB : Below g0 w _ := (((hbA.setCell (p := ⟨g0 + 2, 0, none⟩) (Nat.le_add_right _ _) (I (r1 : Int))).setCell (p := ⟨g0 + 2, 1, none⟩) (Nat.le_add_right _ _) (I (r2 : Int))).setCell (p := ⟨g0 + 1, 0, none⟩) (Nat.le_add_right _ _) (I (r3 : Int))).setCell (p := ⟨g0 + 1, 1, none⟩) (Nat.le_add_right _ _) (I (r4 : Int))
    go_roundw
    case rel => exact ⟨k + 1, by omega, by go_num, Lib.hid ((HNL.out _).2 ⟨N1', N2', N0', NB⟩)⟩
    case measure => simp [intOf]; omega
  ·have hk3 : k = 3 := by omega
   subst hk3
   obtain ⟨m1, m2, m0, hbr⟩ := HL.out
   have e0 := m2.cellv 0 _ rfl
   have e1 := m2.cellv 1 _ rfl
   have f0 := m0.free 0
   have f1 := m0.free 1
   have d0 := m0.cellv 0 _ rfl
   have d1 := m0.cellv 1 _ rfl
   have HFU : Hid (fused r = (fuseTo r 3).1) := Lib.hid rfl
   go_wp2_with fail
   have hb9 : Below g0 w _ := (hbr.setCell (p := ⟨g0, 0, none⟩) (Nat.le_refl _) (I (fuseTo r 3).1.1)).setCell (p := ⟨g0, 1, none⟩) (Nat.le_refl _) (I (fuseTo r 3).1.2)
   exact bodyPost_ret (results_cell_row rfl _ _ g0 _ #[I (fuseTo r 3).1.1, I (fuseTo r 3).1.2] _ _ rfl ((m0.set 0 _).set 1 _) Tryz.underlying26 rfl (by kernel_rfl)) rfl ⟨by rw [HFU.out], HG.out ▸ hb9⟩
end
end Go.Proofs.YtdhekhlmdefcnabGreatDoor
namespace Go.Proofs.YtdhekhlmdefcnabGreatDoor
open Go.RowKit
structure Re.Fits (r : Re) (T : Nat) : Prop where
 id : r.id < 3
 nseen : r.seen.length = 3
 nsome : r.some.length = 3
 ncame : r.came.length = 3
 ntold : r.told.length = 3
 seen : ∀ k, Small2 (r.seen.getD k (0, 0))
 came : ∀ k, r.came.getD k 0 ≤ T
 ticks : r.ticks ≤ T
 cycle : r.cycle ≤ 2000000
 ahead : r.ahead ≤ 2000000
 state : r.state.Fits (2000 + T)
 told : ∀ k, (r.told.getD k kn0).2.1.Fits 2000 ∧ (r.told.getD k kn0).1 ≤ 2000000
 field : (-9223372036854775808 ≤ r.field.1 ∧ r.field.1 < 9223372036854775808) ∧ -9223372036854775808 ≤ r.field.2 ∧ r.field.2 < 9223372036854775808
def someTo (r : Re) (t k : Nat) : Re := { r with ticks := t, some := (List.range 3).map fun i => if i < k then r.some.getD i false && decide (t < r.came.getD i 0 + 3) else r.some.getD i false }
theorem someTo_zero {r : Re} {t : Nat} (h : r.some.length = 3) : someTo r t 0 = { r with ticks := t } := by
 unfold someTo
 have : (List.range 3).map (fun i => if i < 0 then r.some.getD i false && decide (t < r.came.getD i 0 + 3) else r.some.getD i false) = r.some := by
  apply List.ext_getElem?
  intro i
  by_cases hi : i < 3
  ·rw [List.getElem?_map, List.getElem?_range hi]
   simp [List.getD_eq_getElem?_getD, List.getElem?_eq_getElem (show i < r.some.length by omega)]
  ·rw [List.getElem?_eq_none (by simp; omega), List.getElem?_eq_none (by omega)]
 rw [this]
theorem someTo_get {r : Re} {t k i : Nat} (hi : i < 3) : (someTo r t k).some.getD i false = if i < k then r.some.getD i false && decide (t < r.came.getD i 0 + 3) else r.some.getD i false := by
 unfold someTo
 rw [List.getD_eq_getElem?_getD, List.getElem?_map, List.getElem?_range hi]
 rfl
theorem someTo_succ {r : Re} {t k : Nat} (hk : k < 3) : { someTo r t k with some := (someTo r t k).some.set k (r.some.getD k false && decide (t < r.came.getD k 0 + 3)) } = someTo r t (k + 1) := by
 have e : (someTo r t k).some.set k (r.some.getD k false && decide (t < r.came.getD k 0 + 3)) = (someTo r t (k + 1)).some := by
  apply List.ext_getElem?
  intro i
  by_cases hi : i < 3
  ·have h1 : (someTo r t k).some.length = 3 := by show ((List.range 3).map _).length = 3; simp
   have h2 : (someTo r t (k + 1)).some.length = 3 := by show ((List.range 3).map _).length = 3; simp
   have a := someTo_get (r := r) (t := t) (k := k + 1) hi
   have b := someTo_get (r := r) (t := t) (k := k) hi
   rw [List.getD_eq_getElem?_getD, List.getElem?_eq_getElem (by omega)] at a b
   rw [List.getElem?_set, List.getElem?_eq_getElem (by omega), List.getElem?_eq_getElem (by omega)]
   simp only [Option.getD_some] at a b
   by_cases e : k = i
   ·subst e
    rw [if_pos rfl, if_pos (by omega), a, if_pos (by omega)]
   ·rw [if_neg e, b, a]
    by_cases h3 : i < k
    ·rw [if_pos h3, if_pos (by omega)]
    ·rw [if_neg h3, if_neg (by omega)]
  ·rw [List.getElem?_eq_none (by simp [someTo]; omega), List.getElem?_eq_none (by simp [someTo]; omega)]
 rw [e]
 rfl
theorem reTicked_eq (L : Lay) (r : Re) : reTicked L r = { someTo r (r.ticks + 1) 3 with seen := r.seen.set r.id (fit L r.field), some := (someTo r (r.ticks + 1) 3).some.set r.id true, came := r.came.set r.id (r.ticks + 1) } := by
 unfold reTicked someTo
 congr 2
def howManyTo (l : List Bool) (k : Nat) : Nat := howMany (l.take k)
theorem howMany_succ {l : List Bool} {k : Nat} {b : Bool} (h : l[k]? = some b) : howManyTo l (k + 1) = howManyTo l k + if b then 1 else 0 := by
 obtain ⟨hk, hx⟩ := List.getElem?_eq_some_iff.1 h
 unfold howManyTo howMany
 rw [List.take_succ_eq_append_getElem hk, hx, List.filter_append, List.length_append]
 cases b <;> simp
theorem howMany_le (l : List Bool) (k : Nat) : howManyTo l k ≤ k := by
 unfold howManyTo howMany
 exact Nat.le_trans (List.length_filter_le _ _) (List.length_take_le _ _)
theorem howMany_all {l : List Bool} (h : l.length = 3) : howManyTo l 3 = howMany l := by
 unfold howManyTo
 rw [List.take_of_length_le (by omega)]
end Go.Proofs.YtdhekhlmdefcnabGreatDoor
