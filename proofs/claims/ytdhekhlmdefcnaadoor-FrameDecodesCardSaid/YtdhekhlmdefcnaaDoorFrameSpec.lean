/- Frames: what numbers, right, Sum, Encode and Decode compute: plain functions on lists of 23 numbers, and of bytes. -/
import Derived.Test.YtdhekhlmdefcnaaDoorRows
import Derived.Test.YtdhekhlmdefcnaaDoorMem
namespace Go.Proofs.YtdhekhlmdefcnaaDoor
open Go.RowKit
/-- which of a frame's numbers its kind has, in order -/
def idx (k : Int) : List Nat :=
  if k = 1 then [0, 1, 2, 3, 4] else if k = 2 ∨ k = 3 then [0, 1, 2, 3, 4, 5] else
  if k = 5 then [0, 1, 2, 6, 7, 15, 8, 16, 9, 17, 10, 18, 11, 19, 12, 20, 13, 21, 14, 22] else [0, 1, 2]
def ptrs (b : Nat) (l : List Nat) : List Value := l.map fun i => .pointer (some ⟨b, i, none⟩)
theorem ptrs_length (b : Nat) (l : List Nat) : (ptrs b l).length = l.length := by simp [ptrs]
theorem ptrs_get (b : Nat) (l : List Nat) (i : Nat) : (ptrs b l)[i]? = (l[i]?).map fun i => .pointer (some ⟨b, i, none⟩) := by simp [ptrs]
/-- a frame: its 23 numbers; which of them may be -/
def frC (f : List Int) : Array Value := (ints f).toArray
def zeroF : List Int := List.replicate 23 0
/-- what right has copied behind n of the numbers -/
def cpTo (f : List Int) (n : Nat) : List Int := ((idx (f.getD 0 0)).take n).foldl (fun g i => g.set i (f.getD i 0)) (zeroF.set 0 (f.getD 0 0))
def inB (x : Int) : Bool := decide (0 ≤ x) && decide (x ≤ 1048576)
def headB (f : List Int) : Bool := decide (1 ≤ f.getD 0 0) && decide (f.getD 0 0 ≤ 5) && decide (0 ≤ f.getD 1 0) && decide (f.getD 1 0 ≤ 3)
def mayB (f : List Int) : Bool := headB f && (idx (f.getD 0 0)).all (fun i => inB (f.getD i 0)) && decide (f = cpTo f (idx (f.getD 0 0)).length)
theorem idx_lt (k : Int) : ∀ i ∈ idx k, i < 23 := by
  unfold idx
  split
  · decide
  · split
    · decide
    · split <;> decide
theorem idx_len (k : Int) : (idx k).length ≤ 20 := by
  unfold idx
  split
  · decide
  · split
    · decide
    · split <;> decide
theorem cpTo_succ (f : List Int) (n i : Nat) (h : (idx (f.getD 0 0))[n]? = some i) : cpTo f (n + 1) = (cpTo f n).set i (f.getD i 0) := by
  have hn := (List.getElem?_eq_some_iff.1 h).1
  have he := (List.getElem?_eq_some_iff.1 h).2
  unfold cpTo
  rw [List.take_succ_eq_append_getElem hn, List.foldl_append, he]
  rfl
theorem cpTo_length (f : List Int) : ∀ n, (cpTo f n).length = 23 := by
  intro n
  unfold cpTo
  generalize (idx (f.getD 0 0)).take n = l
  have h0 : (zeroF.set 0 (f.getD 0 0)).length = 23 := by simp [zeroF]
  generalize zeroF.set 0 (f.getD 0 0) = g at h0
  induction l generalizing g with
  | nil => exact h0
  | cons i l ih => exact ih _ (by simpa using h0)
theorem frC_size (f : List Int) (h : f.length = 23) : (frC f).size = 23 := by simp [frC, ints, h]
theorem frC_get (f : List Int) (i : Nat) (x : Int) (h : f[i]? = some x) : (frC f)[i]? = some (I x) := by simp [frC, ints, h]
theorem frC_inj {f g : List Int} : frC f = frC g ↔ f = g := by
  constructor
  · intro h
    have h1 : ints f = ints g := by
      have := congrArg Array.toList h
      simpa [frC] using this
    unfold ints at h1
    exact List.map_inj_right (fun a b hab => by injection hab) |>.1 h1
  · rintro rfl; rfl
theorem frC_set (f : List Int) (i : Nat) (x : Int) : (frC f).setIfInBounds i (I x) = frC (f.set i x) := by
  simp [frC, ints, List.map_set]
def Wf (f : List Int) : Prop := f.length = 23 ∧ ∀ x ∈ f, -9223372036854775808 ≤ x ∧ x ≤ 9223372036854775807
end Go.Proofs.YtdhekhlmdefcnaaDoor
