/- The walk over CoreSafe. -/
import Derived.Test.YtdhekhlmdefcnaaShown
import Derived.Test.YtdhekhlmdefcnaaLine
import Derived.Test.YtdhekhlmdefcnaaSafe
import Derived.Test.YtdhekhlmdefcnaaRaw
import Derived.Test.YtdhekhlmdefcnaaRegion
import Derived.Test.YtdhekhlmdefcnaaOps
import Derived.Deep.RegionHeld3
namespace Go.Proofs.Ytdhekhlmdefcnaa
open Go.RowKit
/-- inputs as cells, two each -/
def inCells (l : List (Int × Int)) : List Value := l.flatMap fun p => [I p.1, I p.2]
theorem inCells_get (l : List (Int × Int)) : ∀ (i : Nat) (p : Int × Int), l[i]? = some p → (inCells l)[i * 2]? = some (I p.1) ∧ (inCells l)[i * 2 + 1]? = some (I p.2) := by
  induction l with
  | nil => intro i p h; simp at h
  | cons q l ih =>
    intro i p h
    have hc : inCells (q :: l) = I q.1 :: I q.2 :: inCells l := rfl
    rw [hc]
    cases i with
    | zero => simp at h; subst h; exact ⟨rfl, rfl⟩
    | succ i =>
      rw [List.getElem?_cons_succ] at h
      obtain ⟨h1, h2⟩ := ih i p h
      rw [show (i + 1) * 2 = i * 2 + 1 + 1 by omega, show i * 2 + 1 + 1 + 1 = (i * 2 + 1) + 1 + 1 by omega]
      exact ⟨h1, h2⟩
theorem Reads.in_ {w : World} {B : Nat} {A : Option Addr} {l : List (Int × Int)} (h : Reads w B A (inCells l)) {i : Nat} {p : Int × Int} (hp : l[i]? = some p) :
    ∃ b o, A = some ⟨b, o, none⟩ ∧ b < B ∧ w.cell? ⟨b, o + i * 2, none⟩ = some (I p.1) ∧ w.cell? ⟨b, o + i * 2 + 1, none⟩ = some (I p.2) := by
  obtain ⟨h1, h2⟩ := inCells_get l i p hp
  obtain ⟨b, o, hA, hb, hc⟩ := h (by rintro h0; rw [h0] at h1; simp at h1)
  exact ⟨b, o, hA, hb, hc _ _ h1, hc _ _ h2⟩
theorem own_slice {w : World} {base : Nat} {e : TypeId} {A : Option Addr} {n c : Nat} {xs : List Value} (h : w.ownsRow base e 1 (.slice A n c) n xs) : n ≤ c ∧ Reads w w.heap.size A xs := by
  obtain ⟨A', c', he, h1, _, h2⟩ := own_reads h
  injection he with e1 _ e3
  subst e1
  subst e3
  exact ⟨h1, h2⟩
set_option maxHeartbeats 4000000 in
/-- Seventeen stores, one cell each: a state stored whole. -/
theorem has17 {w : World} {b : Nat} {t : TypeId} (z0 z1 z2 z3 z4 z5 z6 z7 z8 z9 z10 z11 z12 z13 z14 z15 z16 y0 y1 y2 y3 y4 y5 y6 y7 y8 y9 y10 y11 y12 y13 y14 y15 y16 : Value) (h : Has w b t #[z0, z1, z2, z3, z4, z5, z6, z7, z8, z9, z10, z11, z12, z13, z14, z15, z16]) :
    Has (((((((((((((((((w.setCell ⟨b, 0, none⟩ y0).setCell ⟨b, 1, none⟩ y1).setCell ⟨b, 2, none⟩ y2).setCell ⟨b, 3, none⟩ y3).setCell ⟨b, 4, none⟩ y4).setCell ⟨b, 5, none⟩ y5).setCell ⟨b, 6, none⟩ y6).setCell ⟨b, 7, none⟩ y7).setCell ⟨b, 8, none⟩ y8).setCell ⟨b, 9, none⟩ y9).setCell ⟨b, 10, none⟩ y10).setCell ⟨b, 11, none⟩ y11).setCell ⟨b, 12, none⟩ y12).setCell ⟨b, 13, none⟩ y13).setCell ⟨b, 14, none⟩ y14).setCell ⟨b, 15, none⟩ y15).setCell ⟨b, 16, none⟩ y16) b t #[y0, y1, y2, y3, y4, y5, y6, y7, y8, y9, y10, y11, y12, y13, y14, y15, y16] := by
  have h0 : Has (w.setCell ⟨b, 0, none⟩ y0) b t #[y0, z1, z2, z3, z4, z5, z6, z7, z8, z9, z10, z11, z12, z13, z14, z15, z16] := by have q := h.set 0 y0; simpa using q
  have h1 : Has ((w.setCell ⟨b, 0, none⟩ y0).setCell ⟨b, 1, none⟩ y1) b t #[y0, y1, z2, z3, z4, z5, z6, z7, z8, z9, z10, z11, z12, z13, z14, z15, z16] := by have q := h0.set 1 y1; simpa using q
  have h2 : Has (((w.setCell ⟨b, 0, none⟩ y0).setCell ⟨b, 1, none⟩ y1).setCell ⟨b, 2, none⟩ y2) b t #[y0, y1, y2, z3, z4, z5, z6, z7, z8, z9, z10, z11, z12, z13, z14, z15, z16] := by have q := h1.set 2 y2; simpa using q
  have h3 : Has ((((w.setCell ⟨b, 0, none⟩ y0).setCell ⟨b, 1, none⟩ y1).setCell ⟨b, 2, none⟩ y2).setCell ⟨b, 3, none⟩ y3) b t #[y0, y1, y2, y3, z4, z5, z6, z7, z8, z9, z10, z11, z12, z13, z14, z15, z16] := by have q := h2.set 3 y3; simpa using q
  have h4 : Has (((((w.setCell ⟨b, 0, none⟩ y0).setCell ⟨b, 1, none⟩ y1).setCell ⟨b, 2, none⟩ y2).setCell ⟨b, 3, none⟩ y3).setCell ⟨b, 4, none⟩ y4) b t #[y0, y1, y2, y3, y4, z5, z6, z7, z8, z9, z10, z11, z12, z13, z14, z15, z16] := by have q := h3.set 4 y4; simpa using q
  have h5 : Has ((((((w.setCell ⟨b, 0, none⟩ y0).setCell ⟨b, 1, none⟩ y1).setCell ⟨b, 2, none⟩ y2).setCell ⟨b, 3, none⟩ y3).setCell ⟨b, 4, none⟩ y4).setCell ⟨b, 5, none⟩ y5) b t #[y0, y1, y2, y3, y4, y5, z6, z7, z8, z9, z10, z11, z12, z13, z14, z15, z16] := by have q := h4.set 5 y5; simpa using q
  have h6 : Has (((((((w.setCell ⟨b, 0, none⟩ y0).setCell ⟨b, 1, none⟩ y1).setCell ⟨b, 2, none⟩ y2).setCell ⟨b, 3, none⟩ y3).setCell ⟨b, 4, none⟩ y4).setCell ⟨b, 5, none⟩ y5).setCell ⟨b, 6, none⟩ y6) b t #[y0, y1, y2, y3, y4, y5, y6, z7, z8, z9, z10, z11, z12, z13, z14, z15, z16] := by have q := h5.set 6 y6; simpa using q
  have h7 : Has ((((((((w.setCell ⟨b, 0, none⟩ y0).setCell ⟨b, 1, none⟩ y1).setCell ⟨b, 2, none⟩ y2).setCell ⟨b, 3, none⟩ y3).setCell ⟨b, 4, none⟩ y4).setCell ⟨b, 5, none⟩ y5).setCell ⟨b, 6, none⟩ y6).setCell ⟨b, 7, none⟩ y7) b t #[y0, y1, y2, y3, y4, y5, y6, y7, z8, z9, z10, z11, z12, z13, z14, z15, z16] := by have q := h6.set 7 y7; simpa using q
  have h8 : Has (((((((((w.setCell ⟨b, 0, none⟩ y0).setCell ⟨b, 1, none⟩ y1).setCell ⟨b, 2, none⟩ y2).setCell ⟨b, 3, none⟩ y3).setCell ⟨b, 4, none⟩ y4).setCell ⟨b, 5, none⟩ y5).setCell ⟨b, 6, none⟩ y6).setCell ⟨b, 7, none⟩ y7).setCell ⟨b, 8, none⟩ y8) b t #[y0, y1, y2, y3, y4, y5, y6, y7, y8, z9, z10, z11, z12, z13, z14, z15, z16] := by have q := h7.set 8 y8; simpa using q
  have h9 : Has ((((((((((w.setCell ⟨b, 0, none⟩ y0).setCell ⟨b, 1, none⟩ y1).setCell ⟨b, 2, none⟩ y2).setCell ⟨b, 3, none⟩ y3).setCell ⟨b, 4, none⟩ y4).setCell ⟨b, 5, none⟩ y5).setCell ⟨b, 6, none⟩ y6).setCell ⟨b, 7, none⟩ y7).setCell ⟨b, 8, none⟩ y8).setCell ⟨b, 9, none⟩ y9) b t #[y0, y1, y2, y3, y4, y5, y6, y7, y8, y9, z10, z11, z12, z13, z14, z15, z16] := by have q := h8.set 9 y9; simpa using q
  have h10 : Has (((((((((((w.setCell ⟨b, 0, none⟩ y0).setCell ⟨b, 1, none⟩ y1).setCell ⟨b, 2, none⟩ y2).setCell ⟨b, 3, none⟩ y3).setCell ⟨b, 4, none⟩ y4).setCell ⟨b, 5, none⟩ y5).setCell ⟨b, 6, none⟩ y6).setCell ⟨b, 7, none⟩ y7).setCell ⟨b, 8, none⟩ y8).setCell ⟨b, 9, none⟩ y9).setCell ⟨b, 10, none⟩ y10) b t #[y0, y1, y2, y3, y4, y5, y6, y7, y8, y9, y10, z11, z12, z13, z14, z15, z16] := by have q := h9.set 10 y10; simpa using q
  have h11 : Has ((((((((((((w.setCell ⟨b, 0, none⟩ y0).setCell ⟨b, 1, none⟩ y1).setCell ⟨b, 2, none⟩ y2).setCell ⟨b, 3, none⟩ y3).setCell ⟨b, 4, none⟩ y4).setCell ⟨b, 5, none⟩ y5).setCell ⟨b, 6, none⟩ y6).setCell ⟨b, 7, none⟩ y7).setCell ⟨b, 8, none⟩ y8).setCell ⟨b, 9, none⟩ y9).setCell ⟨b, 10, none⟩ y10).setCell ⟨b, 11, none⟩ y11) b t #[y0, y1, y2, y3, y4, y5, y6, y7, y8, y9, y10, y11, z12, z13, z14, z15, z16] := by have q := h10.set 11 y11; simpa using q
  have h12 : Has (((((((((((((w.setCell ⟨b, 0, none⟩ y0).setCell ⟨b, 1, none⟩ y1).setCell ⟨b, 2, none⟩ y2).setCell ⟨b, 3, none⟩ y3).setCell ⟨b, 4, none⟩ y4).setCell ⟨b, 5, none⟩ y5).setCell ⟨b, 6, none⟩ y6).setCell ⟨b, 7, none⟩ y7).setCell ⟨b, 8, none⟩ y8).setCell ⟨b, 9, none⟩ y9).setCell ⟨b, 10, none⟩ y10).setCell ⟨b, 11, none⟩ y11).setCell ⟨b, 12, none⟩ y12) b t #[y0, y1, y2, y3, y4, y5, y6, y7, y8, y9, y10, y11, y12, z13, z14, z15, z16] := by have q := h11.set 12 y12; simpa using q
  have h13 : Has ((((((((((((((w.setCell ⟨b, 0, none⟩ y0).setCell ⟨b, 1, none⟩ y1).setCell ⟨b, 2, none⟩ y2).setCell ⟨b, 3, none⟩ y3).setCell ⟨b, 4, none⟩ y4).setCell ⟨b, 5, none⟩ y5).setCell ⟨b, 6, none⟩ y6).setCell ⟨b, 7, none⟩ y7).setCell ⟨b, 8, none⟩ y8).setCell ⟨b, 9, none⟩ y9).setCell ⟨b, 10, none⟩ y10).setCell ⟨b, 11, none⟩ y11).setCell ⟨b, 12, none⟩ y12).setCell ⟨b, 13, none⟩ y13) b t #[y0, y1, y2, y3, y4, y5, y6, y7, y8, y9, y10, y11, y12, y13, z14, z15, z16] := by have q := h12.set 13 y13; simpa using q
  have h14 : Has (((((((((((((((w.setCell ⟨b, 0, none⟩ y0).setCell ⟨b, 1, none⟩ y1).setCell ⟨b, 2, none⟩ y2).setCell ⟨b, 3, none⟩ y3).setCell ⟨b, 4, none⟩ y4).setCell ⟨b, 5, none⟩ y5).setCell ⟨b, 6, none⟩ y6).setCell ⟨b, 7, none⟩ y7).setCell ⟨b, 8, none⟩ y8).setCell ⟨b, 9, none⟩ y9).setCell ⟨b, 10, none⟩ y10).setCell ⟨b, 11, none⟩ y11).setCell ⟨b, 12, none⟩ y12).setCell ⟨b, 13, none⟩ y13).setCell ⟨b, 14, none⟩ y14) b t #[y0, y1, y2, y3, y4, y5, y6, y7, y8, y9, y10, y11, y12, y13, y14, z15, z16] := by have q := h13.set 14 y14; simpa using q
  have h15 : Has ((((((((((((((((w.setCell ⟨b, 0, none⟩ y0).setCell ⟨b, 1, none⟩ y1).setCell ⟨b, 2, none⟩ y2).setCell ⟨b, 3, none⟩ y3).setCell ⟨b, 4, none⟩ y4).setCell ⟨b, 5, none⟩ y5).setCell ⟨b, 6, none⟩ y6).setCell ⟨b, 7, none⟩ y7).setCell ⟨b, 8, none⟩ y8).setCell ⟨b, 9, none⟩ y9).setCell ⟨b, 10, none⟩ y10).setCell ⟨b, 11, none⟩ y11).setCell ⟨b, 12, none⟩ y12).setCell ⟨b, 13, none⟩ y13).setCell ⟨b, 14, none⟩ y14).setCell ⟨b, 15, none⟩ y15) b t #[y0, y1, y2, y3, y4, y5, y6, y7, y8, y9, y10, y11, y12, y13, y14, y15, z16] := by have q := h14.set 15 y15; simpa using q
  have h16 : Has (((((((((((((((((w.setCell ⟨b, 0, none⟩ y0).setCell ⟨b, 1, none⟩ y1).setCell ⟨b, 2, none⟩ y2).setCell ⟨b, 3, none⟩ y3).setCell ⟨b, 4, none⟩ y4).setCell ⟨b, 5, none⟩ y5).setCell ⟨b, 6, none⟩ y6).setCell ⟨b, 7, none⟩ y7).setCell ⟨b, 8, none⟩ y8).setCell ⟨b, 9, none⟩ y9).setCell ⟨b, 10, none⟩ y10).setCell ⟨b, 11, none⟩ y11).setCell ⟨b, 12, none⟩ y12).setCell ⟨b, 13, none⟩ y13).setCell ⟨b, 14, none⟩ y14).setCell ⟨b, 15, none⟩ y15).setCell ⟨b, 16, none⟩ y16) b t #[y0, y1, y2, y3, y4, y5, y6, y7, y8, y9, y10, y11, y12, y13, y14, y15, y16] := by have q := h15.set 16 y16; simpa using q
  exact h16
theorem far17 (w : World) (b c : Nat) (y0 y1 y2 y3 y4 y5 y6 y7 y8 y9 y10 y11 y12 y13 y14 y15 y16 : Value) (hc : c ≠ b) : (((((((((((((((((w.setCell ⟨b, 0, none⟩ y0).setCell ⟨b, 1, none⟩ y1).setCell ⟨b, 2, none⟩ y2).setCell ⟨b, 3, none⟩ y3).setCell ⟨b, 4, none⟩ y4).setCell ⟨b, 5, none⟩ y5).setCell ⟨b, 6, none⟩ y6).setCell ⟨b, 7, none⟩ y7).setCell ⟨b, 8, none⟩ y8).setCell ⟨b, 9, none⟩ y9).setCell ⟨b, 10, none⟩ y10).setCell ⟨b, 11, none⟩ y11).setCell ⟨b, 12, none⟩ y12).setCell ⟨b, 13, none⟩ y13).setCell ⟨b, 14, none⟩ y14).setCell ⟨b, 15, none⟩ y15).setCell ⟨b, 16, none⟩ y16).heap[c]? = w.heap[c]? := by
  simp only [Below.heap_setCell, hc, ne_eq, not_false_eq_true]
theorem below17 {a w : World} {B : Nat} (b : Nat) (y0 y1 y2 y3 y4 y5 y6 y7 y8 y9 y10 y11 y12 y13 y14 y15 y16 : Value) (hB : B ≤ b) (h : Below B a w) : Below B a (((((((((((((((((w.setCell ⟨b, 0, none⟩ y0).setCell ⟨b, 1, none⟩ y1).setCell ⟨b, 2, none⟩ y2).setCell ⟨b, 3, none⟩ y3).setCell ⟨b, 4, none⟩ y4).setCell ⟨b, 5, none⟩ y5).setCell ⟨b, 6, none⟩ y6).setCell ⟨b, 7, none⟩ y7).setCell ⟨b, 8, none⟩ y8).setCell ⟨b, 9, none⟩ y9).setCell ⟨b, 10, none⟩ y10).setCell ⟨b, 11, none⟩ y11).setCell ⟨b, 12, none⟩ y12).setCell ⟨b, 13, none⟩ y13).setCell ⟨b, 14, none⟩ y14).setCell ⟨b, 15, none⟩ y15).setCell ⟨b, 16, none⟩ y16) := by
  iterate 17 refine Below.setCell ?_ hB _
  exact h
theorem stC_lit (s : St) (h1 : s.used.length = 8) (h2 : s.idle.length = 8) : ∃ x0 x1 x2 x3 x4 x5 x6 x7 x8 x9 x10 x11 x12 x13 x14 x15 x16 : Int, stC s = #[I x0, I x1, I x2, I x3, I x4, I x5, I x6, I x7, I x8, I x9, I x10, I x11, I x12, I x13, I x14, I x15, I x16] := by
  obtain ⟨set, used, idle⟩ := s
  match used, h1, idle, h2 with
  | [a0, a1, a2, a3, a4, a5, a6, a7], _, [b0, b1, b2, b3, b4, b5, b6, b7], _ => exact ⟨_, _, _, _, _, _, _, _, _, _, _, _, _, _, _, _, _, rfl⟩
/-- Step, all cells written out. -/
theorem step_lit (g : Nat) (L : Lay) (s : St) (M : Nat) (a b : Int) (w : World) (hL : L.Ok) (hM : M ≤ 4000000000000000000) (hs : s.Fits M) (hg : CoreAt w g L) (x0 x1 x2 x3 x4 x5 x6 x7 x8 x9 x10 x11 x12 x13 x14 x15 x16 : Int) (hx : Hid (stC s = #[I x0, I x1, I x2, I x3, I x4, I x5, I x6, I x7, I x8, I x9, I x10, I x11, I x12, I x13, I x14, I x15, I x16])) :
    Calls Try.prog 7 #[.pointer (some ⟨g, 0, none⟩), .agg #[I x0, I x1, I x2, I x3, I x4, I x5, I x6, I x7, I x8, I x9, I x10, I x11, I x12, I x13, I x14, I x15, I x16], .agg #[I a, I b]] w fun e w' =>
      ∃ y0 y1 y2 y3 y4 y5 y6 y7 y8 y9 y10 y11 y12 y13 y14 y15 y16 : Int, e = .returned (.tuple #[.agg #[I y0, I y1, I y2, I y3, I y4, I y5, I y6, I y7, I y8, I y9, I y10, I y11, I y12, I y13, I y14, I y15, I y16], I (step L a b s).2]) ∧ Hid (stC (step L a b s).1 = #[I y0, I y1, I y2, I y3, I y4, I y5, I y6, I y7, I y8, I y9, I y10, I y11, I y12, I y13, I y14, I y15, I y16]) ∧ Below w.heap.size w w' := by
  rw [← hx.out]
  refine (step_ok g L s M a b w hL hM hs hg).mono ?_
  rintro e w' ⟨rfl, hb⟩
  have hf := step_fits (c := a) (d := b) hL hs
  obtain ⟨y0, y1, y2, y3, y4, y5, y6, y7, y8, y9, y10, y11, y12, y13, y14, y15, y16, hy⟩ := stC_lit _ hf.used8 hf.idle8
  exact ⟨y0, y1, y2, y3, y4, y5, y6, y7, y8, y9, y10, y11, y12, y13, y14, y15, y16, by rw [hy], hy, hb⟩
set_option maxHeartbeats 40000000 in
set_option maxRecDepth 100000 in
theorem coreSafe_in (a d : Int) (A A2 : Option Addr) (c c2 : Nat) (xs : List Int) (ins : List (Int × Int)) (w : World) (hx : xs.length ≤ 30) (hi : ins.length ≤ 150)
    (hr : Reads w w.heap.size A (ints xs)) (hr2 : Reads w w.heap.size A2 (inCells ins)) :
    Calls Try.prog 3 #[I a, I d, .slice A xs.length c, .slice A2 ins.length c2] w fun e w' => e = .returned (.bool true) ∧ Below w.heap.size w w' := by
  go_enter Try.func3, Try.ntmps3
  go_wp2_with (first
    | (go_at_call 4; refine (shown_any _).mono ?_; rintro e w1 ⟨rfl, hb1⟩)
    | (go_at_call 5; refine (line_any a d A c xs w1 hx ((hr.below hb1).more hb1.size)).mono ?_; rintro e w2 ⟨⟨L, hL, AL, cL, rfl, hown⟩, hb2⟩; obtain ⟨hcl, hrl⟩ := own_slice hown)
    | (go_at_call 6; refine (new_ok AL L.routes.length cL L _ hL (Lib.hid rfl) hcl ((hrl.alloc (Nat.le_refl _) _).more (by simp))).mono ?_; rintro e w3 ⟨⟨g, hg, rfl, hc⟩, hb3⟩))
  have hgl : g < w3.heap.size := by obtain ⟨_, _, h, _⟩ := hc; exact h.lt
  have hwg : w2.heap.size < w3.heap.size := by have := hb3.size; simp at this; omega
  have kL : Has (w3.alloc (.cells #[I 0, I 0, I 0, I 0, I 0, I 0, I 0, I 0, I 0, I 0, I 0, I 0, I 0, I 0, I 0, I 0, I 0] 35)) w2.heap.size 26 #[I L.secs, .slice AL L.routes.length cL, I L.delay] := ((Has.new' w2 _ _ _ rfl).after hb3).alloc _
  have kS : Has (w3.alloc (.cells #[I 0, I 0, I 0, I 0, I 0, I 0, I 0, I 0, I 0, I 0, I 0, I 0, I 0, I 0, I 0, I 0, I 0] 35)) w3.heap.size 35 (stC St.zero) := Has.new _ _ _
  have hcW : CoreAt (w3.alloc (.cells #[I 0, I 0, I 0, I 0, I 0, I 0, I 0, I 0, I 0, I 0, I 0, I 0, I 0, I 0, I 0, I 0, I 0] 35)) g L := hc.after (Below.alloc (Below.refl _ _) (Nat.le_refl _) _)
  have howW : (w3.alloc (.cells #[I 0, I 0, I 0, I 0, I 0, I 0, I 0, I 0, I 0, I 0, I 0, I 0, I 0, I 0, I 0, I 0, I 0] 35)).ownsRow 0 3 1 (.slice AL L.routes.length cL) L.routes.length (ints (zs L.routes)) :=
    own_base (own_after (own_after (hown.alloc _) hb3) (Below.alloc (Below.refl _ _) (Nat.le_refl _) _)) (Nat.zero_le _)
  have hbW : Below w.heap.size w (w3.alloc (.cells #[I 0, I 0, I 0, I 0, I 0, I 0, I 0, I 0, I 0, I 0, I 0, I 0, I 0, I 0, I 0, I 0, I 0] 35)) :=
    ((hb1.trans (hb2.mono hb1.size)).trans (((Below.alloc (Below.refl _ _) (Nat.le_refl _) _).trans (hb3.mono (by simp))).mono (Nat.le_trans hb1.size hb2.size))).alloc (Nat.le_trans hb1.size (Nat.le_trans hb2.size (Nat.le_of_lt hwg))) _
  have hw12 : w.heap.size ≤ w2.heap.size := Nat.le_trans hb1.size hb2.size
  generalize w3.alloc (.cells #[I 0, I 0, I 0, I 0, I 0, I 0, I 0, I 0, I 0, I 0, I 0, I 0, I 0, I 0, I 0, I 0, I 0] 35) = w4 at *
  have hgne : g ≠ w2.heap.size := by
    obtain ⟨_, _, h, _⟩ := hcW
    rintro rfl
    exact absurd (has_type h kL) (by decide)
  generalize w2.heap.size = B at *
  generalize w3.heap.size = B3 at *
  clear hb1 hb2 hb3 hown hc hrl hg w1 w2 w3
  go_loopw [13] (fun i wr => ∃ (k : Nat) (s : St), k ≤ ins.length ∧ i = I k ∧ Hid (s.Fits (8 * k)) ∧ Hid (Inv L.routes s.set) ∧ Hid (s.set < 2 ^ L.routes.length) ∧ Has wr B 26 #[I L.secs, .slice AL L.routes.length cL, I L.delay] ∧
    Has wr B3 35 (stC s) ∧ CoreAt wr g L ∧ wr.ownsRow 0 3 1 (.slice AL L.routes.length cL) L.routes.length (ints (zs L.routes)) ∧ Below w.heap.size w wr) (fun i _ => ins.length - (intOf i).toNat)
  case atStart => exact ⟨0, St.zero, by omega, rfl, fits_of_B (by decide +kernel), fun i j _ _ _ h _ => by simp [St.zero] at h, Nat.two_pow_pos _, kL, kS, hcW, howW, hbW⟩
  case round =>
    clear kL kS hcW howW hbW
    obtain ⟨k, s, hk, rfl, hF, hI, hS, kL, kS, hc, how, hbr⟩ := hrel
    by_cases hlt : k < ins.length
    · obtain ⟨⟨p, q⟩, hp⟩ := some_at ins k hlt
      obtain ⟨bi, oi, rfl, hbi, hi0, hi1⟩ := (hr2.below hbr).in_ hp
      have HP := Lib.hid hp
      clear hp
      go_wp2_with fail
      go_cut [14, 15] (fun s14 s15 wx => ∃ b14 : Nat, s14 = .pointer (some ⟨b14, 0, none⟩) ∧ s15 = I (step L p q s).2 ∧ Has wx b14 35 (stC (step L p q s).1) ∧ Has wx B3 35 (stC s) ∧ b14 ≠ B3 ∧
        Has wx B 26 #[I L.secs, .slice AL L.routes.length cL, I L.delay] ∧ CoreAt wx g L ∧ wx.ownsRow 0 3 1 (.slice AL L.routes.length cL) L.routes.length (ints (zs L.routes)) ∧ Below w.heap.size w wx)
      case first =>
        rename_i J0 K0 hJ0 hK0
        --<R1
        have HST := fun W hW => Lib.hid (step_ok g L s (8 * k) p q W hL (by omega) hF.out hW)
        have hsz17 := stC_size s hF.out.used8 hF.out.idle8
        have hf14 := step_fits (c := p) (d := q) hL hF.out
        have hsz14 := stC_size _ hf14.used8 hf14.idle8
        have hic17 : Hid ((Try.prog.info? 35).map (·.size) = some (stC s).size) := Lib.hid (by rw [hsz17]; kernel_rfl)
        have hic14 : Hid ((Try.prog.info? 35).map (·.size) = some (stC (step L p q s).1).size) := Lib.hid (by rw [hsz14]; kernel_rfl)
        have HC0 : Hid (∀ wx : World, Below w.heap.size w wx → wx.cell? ⟨bi, oi + k * 2, none⟩ = some (I p)) := Lib.hid (fun wx h => by obtain ⟨b', o', e, _, h0, _⟩ := (hr2.below h).in_ HP.out; injection e with e; injection e with e1 e2; subst e1; subst e2; exact h0)
        have HC1 : Hid (∀ wx : World, Below w.heap.size w wx → wx.cell? ⟨bi, oi + k * 2 + 1, none⟩ = some (I q)) := Lib.hid (fun wx h => by obtain ⟨b', o', e, _, _, h0⟩ := (hr2.below h).in_ HP.out; injection e with e; injection e with e1 e2; subst e1; subst e2; exact h0)
        refine region_inv0 (by kernel_rfl) (fun a0 li a w' => Frm [51, 52, 53, 54, 55, 56, 57, 50, 58, 59, 14, 15] a0 a ∧
            (li.getD 0 false = true → a.tmps.getD 51 undef = .pointer (some ⟨g, 0, none⟩)) ∧ (li.getD 1 false = true → a.tmps.getD 52 undef = .agg (stC s)) ∧ (li.getD 2 false = true → a.tmps.getD 53 undef = .slice (some ⟨bi, oi, none⟩) ins.length c2) ∧ (li.getD 3 false = true → a.tmps.getD 54 undef = I k) ∧ (li.getD 4 false = true → a.tmps.getD 55 undef = .pointer (some ⟨bi, oi + k * 2, none⟩)) ∧ (li.getD 5 false = true → a.tmps.getD 56 undef = .agg #[I p, I q]) ∧ (li.getD 6 false = true → a.tmps.getD 57 undef = .tuple #[.agg (stC (step L p q s).1), I (step L p q s).2]) ∧ (li.getD 7 false = true → a.tmps.getD 50 undef = .tuple #[.agg (stC (step L p q s).1), I (step L p q s).2]) ∧ (li.getD 8 false = true → a.tmps.getD 58 undef = .agg (stC (step L p q s).1)) ∧ (li.getD 9 false = true → a.tmps.getD 59 undef = I (step L p q s).2) ∧ (li.getD 12 false = true → a.tmps.getD 15 undef = I (step L p q s).2) ∧
            li.size = 13 ∧ (li.getD 11 false = true → li.getD 10 false = true) ∧ (li.getD 10 false = true → ∃ (b14 : Nat) (cs : Array Value), a.tmps.getD 14 undef = .pointer (some ⟨b14, 0, none⟩) ∧ b14 ≠ B3 ∧ Has w' b14 35 cs ∧ cs.size = 17 ∧ w.heap.size ≤ b14 ∧ (li.getD 11 false = true → cs = stC (step L p q s).1)) ∧
            Below w.heap.size w w' ∧ Has w' B 26 #[I L.secs, .slice AL L.routes.length cL, I L.delay] ∧ Has w' B3 35 (stC s) ∧ CoreAt w' g L ∧ w'.ownsRow 0 3 1 (.slice AL L.routes.length cL) L.routes.length (ints (zs L.routes))) ?_ ?_ ?_
        · refine ⟨Frm.refl _ _, ?_, ?_, ?_, ?_, ?_, ?_, ?_, ?_, ?_, ?_, ?_, by simp, ?_, ?_, below_drewN hbr 1, kL.drewN 1, kS.drewN 1, hc, how⟩
          all_goals (intro h; exact absurd h (by decide))
        · intro i li a w' hi hJ
          --<S1
          obtain ⟨hF, j0, j1, j2, j3, j4, j5, j6, j7, j8, j9, j12, hsz0, j11, j10, wB, wL, wS, wC, wO⟩ := hJ
          obtain ⟨hli, o, ho, hed⟩ := mem_ready.1 hi
          have hi13 : i < 13 := (Array.getElem?_eq_some_iff.1 ho).1
          have kA : ∀ {w2 : World} {d : Nat} {v : Value}, Below w'.heap.size w' w2 → d ≠ 14 → i ≠ 10 → i ≠ 11 → ((li.setIfInBounds i true).getD 10 false = true → ∃ (b14 : Nat) (cs : Array Value), (a.put (some d) v).tmps.getD 14 undef = .pointer (some ⟨b14, 0, none⟩) ∧ b14 ≠ B3 ∧ Has w2 b14 35 cs ∧ cs.size = 17 ∧ w.heap.size ≤ b14 ∧ ((li.setIfInBounds i true).getD 11 false = true → cs = stC (step L p q s).1)) := by
            intro w2 d v hb hd h1 h2 h
            rw [Go.getD_set_ne false h1] at h
            obtain ⟨b14, cs, e1, e2, e3, e4, e6, e5⟩ := j10 h
            exact ⟨b14, cs, by rw [put_ne _ _ _ _ hd]; exact e1, e2, e3.after hb, e4, e6, fun h' => e5 (by rw [Go.getD_set_ne false h2] at h'; exact h')⟩
          have k10 : ∀ (d : Nat) (v : Value), d ≠ 14 → i ≠ 10 → i ≠ 11 → ((li.setIfInBounds i true).getD 10 false = true → ∃ (b14 : Nat) (cs : Array Value), (a.put (some d) v).tmps.getD 14 undef = .pointer (some ⟨b14, 0, none⟩) ∧ b14 ≠ B3 ∧ Has w' b14 35 cs ∧ cs.size = 17 ∧ w.heap.size ≤ b14 ∧ ((li.setIfInBounds i true).getD 11 false = true → cs = stC (step L p q s).1)) := fun d v => kA (Below.refl _ _)
          have k11 : i ≠ 10 → i ≠ 11 → ((li.setIfInBounds i true).getD 11 false = true → (li.setIfInBounds i true).getD 10 false = true) := by
            intro h1 h2
            rw [Go.getD_set_ne false h1, Go.getD_set_ne false h2]
            exact j11
          have hsz : (li.setIfInBounds i true).size = 13 := by simpa using hsz0
          have hnot : li.getD i false = false := by rw [Array.getD_eq_getD_getElem?] at hli ⊢; rw [Array.getElem?_eq_getElem (by omega)] at hli ⊢; exact hli
          have hcase : i = 0 ∨ i = 1 ∨ i = 2 ∨ i = 3 ∨ i = 4 ∨ i = 5 ∨ i = 6 ∨ i = 7 ∨ i = 8 ∨ i = 9 ∨ i = 10 ∨ i = 11 ∨ i = 12 := by omega
          rcases hcase with rfl | rfl | rfl | rfl | rfl | rfl | rfl | rfl | rfl | rfl | rfl | rfl | rfl
          · cases ho
            refine wpOp_step rfl (fun K' hK => step_plain rfl ?_)
            refine BigFrame.wp_move (.tmp 10) rfl (hK _ _ ?_)
            exact ⟨hF.put (by decide) _, fld_eq (by rw [hF.size]; exact (by decide : 51 < 187)) (hF.slot (by decide)), fld_ne (by decide) (by decide) j1, fld_ne (by decide) (by decide) j2, fld_ne (by decide) (by decide) j3, fld_ne (by decide) (by decide) j4, fld_ne (by decide) (by decide) j5, fld_ne (by decide) (by decide) j6, fld_ne (by decide) (by decide) j7, fld_ne (by decide) (by decide) j8, fld_ne (by decide) (by decide) j9, fld_ne (by decide) (by decide) j12, hsz, k11 (by decide) (by decide), k10 _ _ (by decide) (by decide) (by decide), wB, wL, wS, wC, wO⟩
          · cases ho
            refine wpOp_step rfl (fun K' hK => step_plain rfl ?_)
            refine wp_load_row 35 (.tmp 12) rfl B3 (hF.slot (by decide)) 35 (stC s) (0, 0) _ wS Try.underlying35 rfl hic17.out (hK _ _ ?_)
            exact ⟨hF.put (by decide) _, fld_ne (by decide) (by decide) j0, fld_eq (by rw [hF.size]; exact (by decide : 52 < 187)) (rfl), fld_ne (by decide) (by decide) j2, fld_ne (by decide) (by decide) j3, fld_ne (by decide) (by decide) j4, fld_ne (by decide) (by decide) j5, fld_ne (by decide) (by decide) j6, fld_ne (by decide) (by decide) j7, fld_ne (by decide) (by decide) j8, fld_ne (by decide) (by decide) j9, fld_ne (by decide) (by decide) j12, hsz, k11 (by decide) (by decide), k10 _ _ (by decide) (by decide) (by decide), wB, wL, wS, wC, wO⟩
          · cases ho
            refine wpOp_step rfl (fun K' hK => step_plain rfl ?_)
            refine BigFrame.wp_move (.tmp 3) rfl (hK _ _ ?_)
            exact ⟨hF.put (by decide) _, fld_ne (by decide) (by decide) j0, fld_ne (by decide) (by decide) j1, fld_eq (by rw [hF.size]; exact (by decide : 53 < 187)) (hF.slot (by decide)), fld_ne (by decide) (by decide) j3, fld_ne (by decide) (by decide) j4, fld_ne (by decide) (by decide) j5, fld_ne (by decide) (by decide) j6, fld_ne (by decide) (by decide) j7, fld_ne (by decide) (by decide) j8, fld_ne (by decide) (by decide) j9, fld_ne (by decide) (by decide) j12, hsz, k11 (by decide) (by decide), k10 _ _ (by decide) (by decide) (by decide), wB, wL, wS, wC, wO⟩
          · cases ho
            refine wpOp_step rfl (fun K' hK => step_plain rfl ?_)
            refine BigFrame.wp_move (.tmp 13) rfl (hK _ _ ?_)
            exact ⟨hF.put (by decide) _, fld_ne (by decide) (by decide) j0, fld_ne (by decide) (by decide) j1, fld_ne (by decide) (by decide) j2, fld_eq (by rw [hF.size]; exact (by decide : 54 < 187)) (hF.slot (by decide)), fld_ne (by decide) (by decide) j4, fld_ne (by decide) (by decide) j5, fld_ne (by decide) (by decide) j6, fld_ne (by decide) (by decide) j7, fld_ne (by decide) (by decide) j8, fld_ne (by decide) (by decide) j9, fld_ne (by decide) (by decide) j12, hsz, k11 (by decide) (by decide), k10 _ _ (by decide) (by decide) (by decide), wB, wL, wS, wC, wO⟩
          · cases ho
            refine wpOp_step rfl (fun K' hK => step_plain rfl ?_)
            have e2 := j2 (hed ⟨2, .data⟩ (by simp) rfl)
            have e3 := j3 (hed ⟨3, .data⟩ (by simp) rfl)
            exact wp_inIndex hlt e2 e3 (hK _ _ ⟨hF.put (by decide) _, fld_ne (by decide) (by decide) j0, fld_ne (by decide) (by decide) j1, fld_ne (by decide) (by decide) j2, fld_ne (by decide) (by decide) j3, fld_eq (by rw [hF.size]; exact (by decide : 55 < 187)) (rfl), fld_ne (by decide) (by decide) j5, fld_ne (by decide) (by decide) j6, fld_ne (by decide) (by decide) j7, fld_ne (by decide) (by decide) j8, fld_ne (by decide) (by decide) j9, fld_ne (by decide) (by decide) j12, hsz, k11 (by decide) (by decide), k10 _ _ (by decide) (by decide) (by decide), wB, wL, wS, wC, wO⟩)
          · cases ho
            refine wpOp_step rfl (fun K' hK => step_plain rfl ?_)
            have e4 := j4 (hed ⟨4, .data⟩ (by simp) rfl)
            exact wp_inLoad (HC0.out _ wB) (HC1.out _ wB) e4 (hK _ _ ⟨hF.put (by decide) _, fld_ne (by decide) (by decide) j0, fld_ne (by decide) (by decide) j1, fld_ne (by decide) (by decide) j2, fld_ne (by decide) (by decide) j3, fld_ne (by decide) (by decide) j4, fld_eq (by rw [hF.size]; exact (by decide : 56 < 187)) (rfl), fld_ne (by decide) (by decide) j6, fld_ne (by decide) (by decide) j7, fld_ne (by decide) (by decide) j8, fld_ne (by decide) (by decide) j9, fld_ne (by decide) (by decide) j12, hsz, k11 (by decide) (by decide), k10 _ _ (by decide) (by decide) (by decide), wB, wL, wS, wC, wO⟩)
          · cases ho
            refine wpOp_step rfl (fun K' hK => step_plain rfl ?_)
            have e0 := j0 (hed ⟨0, .data⟩ (by simp) rfl)
            have e1 := j1 (hed ⟨1, .data⟩ (by simp) rfl)
            have e5 := j5 (hed ⟨5, .data⟩ (by simp) rfl)
            refine wp_callStep e0 e1 e5 (HST w' wC).out ?_
            rintro e w2 ⟨rfl, hb⟩
            exact ⟨_, rfl, hK _ _ ⟨hF.put (by decide) _, fld_ne (by decide) (by decide) j0, fld_ne (by decide) (by decide) j1, fld_ne (by decide) (by decide) j2, fld_ne (by decide) (by decide) j3, fld_ne (by decide) (by decide) j4, fld_ne (by decide) (by decide) j5, fld_eq (by rw [hF.size]; exact (by decide : 57 < 187)) (rfl), fld_ne (by decide) (by decide) j7, fld_ne (by decide) (by decide) j8, fld_ne (by decide) (by decide) j9, fld_ne (by decide) (by decide) j12, hsz, k11 (by decide) (by decide), kA hb (by decide) (by decide) (by decide), wB.trans (hb.mono wB.size), wL.after hb, wS.after hb, wC.after hb, own_base (own_after wO hb) (Nat.zero_le _)⟩⟩
          · cases ho
            refine wpOp_step rfl (fun K' hK => step_plain rfl ?_)
            have e := j6 (hed ⟨6, .data⟩ (by simp) rfl)
            refine BigFrame.wp_move (.tmp 57) rfl (hK _ _ ?_)
            exact ⟨hF.put (by decide) _, fld_ne (by decide) (by decide) j0, fld_ne (by decide) (by decide) j1, fld_ne (by decide) (by decide) j2, fld_ne (by decide) (by decide) j3, fld_ne (by decide) (by decide) j4, fld_ne (by decide) (by decide) j5, fld_ne (by decide) (by decide) j6, fld_eq (by rw [hF.size]; exact (by decide : 50 < 187)) (e), fld_ne (by decide) (by decide) j8, fld_ne (by decide) (by decide) j9, fld_ne (by decide) (by decide) j12, hsz, k11 (by decide) (by decide), k10 _ _ (by decide) (by decide) (by decide), wB, wL, wS, wC, wO⟩
          · cases ho
            refine wpOp_step rfl (fun K' hK => step_plain rfl ?_)
            have e := j7 (hed ⟨7, .data⟩ (by simp) rfl)
            refine wp_extract_at 50 0 rfl e rfl (hK _ _ ?_)
            exact ⟨hF.put (by decide) _, fld_ne (by decide) (by decide) j0, fld_ne (by decide) (by decide) j1, fld_ne (by decide) (by decide) j2, fld_ne (by decide) (by decide) j3, fld_ne (by decide) (by decide) j4, fld_ne (by decide) (by decide) j5, fld_ne (by decide) (by decide) j6, fld_ne (by decide) (by decide) j7, fld_eq (by rw [hF.size]; exact (by decide : 58 < 187)) (rfl), fld_ne (by decide) (by decide) j9, fld_ne (by decide) (by decide) j12, hsz, k11 (by decide) (by decide), k10 _ _ (by decide) (by decide) (by decide), wB, wL, wS, wC, wO⟩
          · cases ho
            refine wpOp_step rfl (fun K' hK => step_plain rfl ?_)
            have e := j7 (hed ⟨7, .data⟩ (by simp) rfl)
            refine wp_extract_at 50 1 rfl e rfl (hK _ _ ?_)
            exact ⟨hF.put (by decide) _, fld_ne (by decide) (by decide) j0, fld_ne (by decide) (by decide) j1, fld_ne (by decide) (by decide) j2, fld_ne (by decide) (by decide) j3, fld_ne (by decide) (by decide) j4, fld_ne (by decide) (by decide) j5, fld_ne (by decide) (by decide) j6, fld_ne (by decide) (by decide) j7, fld_ne (by decide) (by decide) j8, fld_eq (by rw [hF.size]; exact (by decide : 59 < 187)) (rfl), fld_ne (by decide) (by decide) j12, hsz, k11 (by decide) (by decide), k10 _ _ (by decide) (by decide) (by decide), wB, wL, wS, wC, wO⟩
          · cases ho
            refine wpOp_step rfl (fun K' hK => step_plain rfl ?_)
            exact wp_stAlloc (hK _ _ ⟨hF.put (by decide) _, fld_ne (by decide) (by decide) j0, fld_ne (by decide) (by decide) j1, fld_ne (by decide) (by decide) j2, fld_ne (by decide) (by decide) j3, fld_ne (by decide) (by decide) j4, fld_ne (by decide) (by decide) j5, fld_ne (by decide) (by decide) j6, fld_ne (by decide) (by decide) j7, fld_ne (by decide) (by decide) j8, fld_ne (by decide) (by decide) j9, fld_ne (by decide) (by decide) j12, hsz, fun h => absurd (j11 (by rw [Go.getD_set_ne false (by decide)] at h; exact h)) (by rw [hnot]; decide), fun _ => ⟨_, _, put_at _ _ _ (by rw [hF.size]; exact (by decide : 14 < 187)), Nat.ne_of_gt wS.lt, Has.new _ _ _, rfl, wB.size, fun h => absurd (j11 (by rw [Go.getD_set_ne false (by decide)] at h; exact h)) (by rw [hnot]; decide)⟩, wB.alloc wB.size _, wL.alloc _, wS.alloc _, wC.after (Below.alloc (Below.refl _ _) (Nat.le_refl _) _), wO.alloc _⟩)
          · cases ho
            refine wpOp_step rfl (fun K' hK => step_plain rfl ?_)
            have l10 := hed ⟨10, .data⟩ (by simp) rfl
            obtain ⟨b14, cs, f1, f2, f3, f4, f6, -⟩ := j10 l10
            have e8 : a.eval (.tmp 58) = _ := j8 (hed ⟨8, .data⟩ (by simp) rfl)
            refine wp_store_row 35 (.tmp 14) (.tmp 58) rfl b14 (stC (step L p q s).1) f1 e8 35 cs f3 hic14.out (by rw [f4, hsz14]) (stC_one _) (hK _ _ ?_)
            exact ⟨hF.put_none _, fld_no (by decide) j0, fld_no (by decide) j1, fld_no (by decide) j2, fld_no (by decide) j3, fld_no (by decide) j4, fld_no (by decide) j5, fld_no (by decide) j6, fld_no (by decide) j7, fld_no (by decide) j8, fld_no (by decide) j9, fld_no (by decide) j12, hsz, fun _ => by rw [Go.getD_set_ne false (by decide)]; exact l10, fun _ => ⟨b14, _, f1, f2, f3.setRow _, hsz14, f6, fun _ => rfl⟩, below_setRow wB f6 _, wL.farRow (by rintro rfl; exact absurd (has_type wL f3) (by decide)) _, wS.farRow (fun h => f2 h.symm) _, CoreAt.keep wC f3 (by decide) (by decide) (fun b hb => heap_setRow_other _ _ _ _ hb), own_keep wO (fun b cs hb hh => heap_setRow_other _ _ _ _ (by rintro rfl; exact absurd (has_type f3 hh) (by decide)))⟩
          · cases ho
            refine wpOp_step rfl (fun K' hK => step_plain rfl ?_)
            have e : a.eval (.tmp 59) = _ := j9 (hed ⟨9, .data⟩ (by simp) rfl)
            refine BigFrame.wp_assign (.tmp 59) rfl (hK _ _ ?_)
            exact ⟨hF.put (by decide) _, fld_ne (by decide) (by decide) j0, fld_ne (by decide) (by decide) j1, fld_ne (by decide) (by decide) j2, fld_ne (by decide) (by decide) j3, fld_ne (by decide) (by decide) j4, fld_ne (by decide) (by decide) j5, fld_ne (by decide) (by decide) j6, fld_ne (by decide) (by decide) j7, fld_ne (by decide) (by decide) j8, fld_ne (by decide) (by decide) j9, fld_eq (by rw [hF.size]; exact (by decide : 15 < 187)) (e), hsz, k11 (by decide) (by decide), k10 _ _ (by decide) (by decide) (by decide), wB, wL, wS, wC, wO⟩
          --S1>
        · intro li a w' hJ hr
          obtain ⟨hF, j0, j1, j2, j3, j4, j5, j6, j7, j8, j9, j12, hsz0, j11, j10, wB, wL, wS, wC, wO⟩ := hJ
          have hall := all_listed hr hsz0 (by kernel_rfl)
          obtain ⟨b14, cs, f1, f2, f3, f4, f6, f5⟩ := j10 (hall 10 (by decide))
          have e15 := j12 (hall 12 (by decide))
          have ecs := f5 (hall 11 (by decide))
          have hM := hF.meet
          simp only [List.foldl_cons, List.foldl_nil, List.setIfInBounds_toArray, List.set_cons_succ, List.set_cons_zero, f1, e15] at hM
          subst ecs
          refine hK0 _ _ (Met.intro (hJ0 _ _ ?_))
          (repeat apply Exists.intro)
          refine ⟨⟨b14, rfl, rfl, f3, wS, f2, wL, wC, wO, wB⟩, hM⟩
        --R1>
      case rest =>
        obtain ⟨b14, rfl, rfl, k14, kS, hne, kL, hc, how, hbr⟩ := hcut
        have hf14 := step_fits (c := p) (d := q) hL hF.out
        have hsf := fun j r h => step_safe (c := p) (w := q) hI.out hS.out (j := j) (r := r) h
        have HSF := Lib.hid hsf
        have hinv' := step_inv (cl := msk p L.secs) (wa := msk q L.routes.length) hI.out hS.out
        have HI' : Hid (Inv L.routes (step L p q s).1.set) := Lib.hid hinv'.1
        have HP' : Hid ((step L p q s).1.set < 2 ^ L.routes.length) := Lib.hid hinv'.2
        have HO' : Hid ((step L p q s).2 < 2 ^ L.routes.length) := Lib.hid (outTo_pow _ _ _ _ _)
        have ho256 : (step L p q s).2 < 256 := outTo_lt _ _ _ _ _ hL.many2
        clear hsf hinv'
        have hn8 := hL.many2
        have hs12 := hL.secs2
        have HW : Hid (∀ j, j < L.routes.length → bits .and .i64 (q / 2 ^ j) 1 = if (msk q L.routes.length).testBit j then 1 else 0) := Lib.hid (fun j hj => raw_bit q j _ hj)
        have HC : Hid (∀ r, r ∈ L.routes → bits .andNot .i64 (r : Int) p = ((nb r (msk p L.secs) : Nat) : Int)) := Lib.hid (fun r hr => raw_nb r p L.secs (hL.high r hr) (by omega))
        have HF' : Hid ((step L p q s).1.Fits (8 * (k + 1))) := Lib.hid (by rw [Nat.mul_add]; exact hf14)
        generalize msk p L.secs = cl at *
        generalize msk q L.routes.length = wa at *
        generalize (step L p q s).1 = nx at *
        generalize (step L p q s).2 = out at *
        have hx1 := hf14.set
        have hs1 := hF.out.set
        have HU8 : Hid (s.used.length = 8) := Lib.hid hF.out.used8
        have HU4 : Hid (∀ x ∈ s.used, x < 4096) := Lib.hid hF.out.used
        clear hf14
        obtain ⟨hcl, hrl⟩ := own_slice how
        have l1 := kL.cellv 1 _ rfl
        obtain ⟨bi', oi', hAe, _, i0, i1⟩ := (hr2.below hbr).in_ HP.out
        cases hAe
        go_wp2_with fail
        go_loopw [16, 17] (fun h j w' => ∃ (l nq : Nat), l ≤ L.routes.length ∧ j = I l ∧ h = I (heldTo L.routes nx.set l) ∧ w' = wc.drewN nq) (fun _ j _ => L.routes.length - (intOf j).toNat)
        case atStart => exact ⟨0, 0, by omega, rfl, rfl, rfl⟩
        case round =>
          obtain ⟨l, nq, hl, rfl, rfl, rfl⟩ := hrel
          by_cases hlt2 : l < L.routes.length
          · --<R2
            as_aux_lemma =>
              obtain ⟨r, hr⟩ := some_at L.routes l hlt2
              obtain ⟨br, or', rfl, hbr', hcell⟩ := hrl.at_ (zs_some hr)
              obtain ⟨x, hx⟩ := some_at s.used l (by rw [HU8.out]; omega)
              have hr4 : r < 4096 := hL.small r (List.mem_of_getElem? hr)
              have hx4 : x < 4096 := HU4.out x (List.mem_of_getElem? hx)
              have hh4 : heldTo L.routes nx.set l < 4096 := Nat.lt_of_lt_of_le (heldTo_lt L.routes nx.set L.secs hL.high l (by omega)) (Nat.pow_le_pow_right (n := 2) (by decide) hs12)
              have hsf := HSF.out l r hr
              have tC := HC.out r (List.mem_of_getElem? hr)
              have tW := HW.out l hlt2
              have HH : Hid (heldTo L.routes nx.set (l + 1) = if nx.set.testBit l then heldTo L.routes nx.set l ||| r else heldTo L.routes nx.set l) := Lib.hid (by
                have : rt L.routes l = r := getD_of hr
                rw [heldTo, this])
              have n0 := k14.cellv 0 (I nx.set) rfl
              have s0 := kS.cellv 0 (I s.set) rfl
              have s1 := kS.cellv (1 + l) (I x) (stC_used hx)
              have tN1 := bit_eq1 nx.set l (by omega)
              have tN0 := bit_eq0 nx.set l (by omega)
              have tS1 := bit_eq1 s.set l (by omega)
              have tO1 := bit_eq1 out l (by omega)
              have hall := fun h1 h2 h3 => hsf.all h1 h2 x hx h3
              have Hhr := Lib.hid hsf.held
              have Ho1 := Lib.hid hsf.out1
              have Ho2 := Lib.hid hsf.out2
              have Ho3 := Lib.hid hsf.out3
              have Hg := Lib.hid hsf.gone
              have Ha := Lib.hid hall
              clear hall hsf hx hr
              generalize heldTo L.routes nx.set l = hd at *
              cases hN : nx.set.testBit l with
              | true =>
                rw [hN] at tN1 tN0
                have HN := Lib.hid hN
                have tH : (bits .and .i64 (hd : Int) (r : Int) != 0) = false := by rw [and_i64 _ _ (by omega) (by omega), Hhr.out hN]; rfl
                clear hN
                cases hO : out.testBit l with
                | true =>
                  rw [hO] at tO1
                  have tW0 : (bits .and .i64 (q / 2 ^ l) 1 == 0) = false := by rw [tW, if_pos (Ho2.out hO)]; rfl
                  have tC0 : (bits .andNot .i64 (r : Int) p != 0) = false := by rw [tC, Ho3.out hO]; rfl
                  clear hO tW tC
                  cases hS' : s.set.testBit l with
                  | true =>
                    rw [hS'] at tS1
                    clear hS'
                    go_wp2_with fail
                    go_quiet (fail)
                    go_wp2_with fail
                    go_roundw
                    case rel => exact ⟨l + 1, _, by omega, by go_num, I_eq (by rw [HH.out, if_pos HN.out, or_i64 _ _ (by omega) (by omega)]), rfl⟩
                    case measure => simp [intOf]; omega
                  | false =>
                    rw [hS'] at tS1
                    clear hS'
                    go_wp2_with fail
                    go_quiet (fail)
                    go_wp2_with fail
                    go_roundw
                    case rel => exact ⟨l + 1, _, by omega, by go_num, I_eq (by rw [HH.out, if_pos HN.out, or_i64 _ _ (by omega) (by omega)]), rfl⟩
                    case measure => simp [intOf]; omega
                | false =>
                  rw [hO] at tO1
                  clear hO tW tC
                  cases hS' : s.set.testBit l with
                  | true =>
                    rw [hS'] at tS1
                    clear hS'
                    go_wp2_with fail
                    go_quiet (fail)
                    go_wp2_with fail
                    go_roundw
                    case rel => exact ⟨l + 1, _, by omega, by go_num, I_eq (by rw [HH.out, if_pos HN.out, or_i64 _ _ (by omega) (by omega)]), rfl⟩
                    case measure => simp [intOf]; omega
                  | false =>
                    rw [hS'] at tS1
                    clear hS'
                    go_wp2_with fail
                    go_quiet (fail)
                    go_wp2_with fail
                    go_roundw
                    case rel => exact ⟨l + 1, _, by omega, by go_num, I_eq (by rw [HH.out, if_pos HN.out, or_i64 _ _ (by omega) (by omega)]), rfl⟩
                    case measure => simp [intOf]; omega
              | false =>
                have hO : out.testBit l = false := by
                  cases h : out.testBit l with
                  | false => rfl
                  | true => rw [Ho1.out h] at hN; cases hN
                rw [hN] at tN1 tN0
                rw [hO] at tO1
                have HN : Hid (¬ nx.set.testBit l = true) := Lib.hid (by rw [hN]; simp)
                clear hO tW
                cases hS' : s.set.testBit l with
                | false =>
                  rw [hS'] at tS1
                  clear hS' hN tC
                  go_wp2_with fail
                  go_quiet (fail)
                  go_wp2_with fail
                  go_roundw
                  case rel => exact ⟨l + 1, _, by omega, by go_num, I_eq (by rw [HH.out, if_neg HN.out]), rfl⟩
                  case measure => simp [intOf]; omega
                | true =>
                  rw [hS'] at tS1
                  have hnb := Hg.out hS' hN
                  have tC0 : (bits .andNot .i64 (r : Int) p != 0) = false := by rw [tC, hnb]; rfl
                  by_cases hx0 : x = 0
                  · have tX : ((x : Int) != 0) = false := by rw [hx0]; rfl
                    clear hx0 hS' hN tC hnb
                    go_wp2_with fail
                    go_quiet (fail)
                    go_wp2_with fail
                    go_roundw
                    case rel => exact ⟨l + 1, _, by omega, by go_num, I_eq (by rw [HH.out, if_neg HN.out]), rfl⟩
                    case measure => simp [intOf]; omega
                  · have tX : ((x : Int) != 0) = true := by simp; omega
                    have tE : (bits .or .i64 (x : Int) (bits .andNot .i64 (r : Int) p) != (r : Int)) = false := by
                      rw [tC, or_i64 _ _ (by omega) (nb_lt (by omega)), Ha.out hS' hN hx0]
                      simp
                    clear hx0 hS' hN tC hnb
                    go_wp2_with fail
                    go_quiet (fail)
                    go_wp2_with fail
                    go_roundw
                    case rel => exact ⟨l + 1, _, by omega, by go_num, I_eq (by rw [HH.out, if_neg HN.out]), rfl⟩
                    case measure => simp [intOf]; omega
            --R2>
          · have hln : l = L.routes.length := by omega
            have tOut : ((out : Int) / 2 ^ L.routes.length != 0) = false := by
              have h := HO'.out
              have : out / 2 ^ L.routes.length = 0 := Nat.div_eq_of_lt h
              rw [shr_cast, Nat.shiftRight_eq_div_pow, this]; rfl
            have hsz := stC_size nx HF'.out.used8 HF'.out.idle8
            have hsz' := stC_size s HU8.out hF.out.idle8
            have hic : Hid ((Try.prog.info? 35).map (·.size) = some (stC nx).size) := Lib.hid (by rw [hsz]; kernel_rfl)
            have HZ := Lib.hid hsz
            have HZ' := Lib.hid hsz'
            clear hsz hsz' hln
            go_wp2_with (first
              | (refine wpList_load_row rfl 35 _ rfl b14 rfl 35 (stC nx) (0, 0) _ (k14.drewN nq) Try.underlying35 rfl hic.out ?_)
              | (refine wpList_store_row rfl 35 _ _ rfl B3 (stC nx) rfl rfl 35 _ (kS.drewN nq) hic.out (by rw [HZ.out, HZ'.out]) (stC_one _) ?_))
            go_roundw
            case rel =>
              have kS' := kS.drewN nq
              exact ⟨k + 1, nx, by omega, by go_num, HF', HI', HP', (kL.drewN nq).farRow (by omega) _, kS'.setRow _,
                CoreAt.keep (w := wc.drewN nq) hc kS' (by decide) (by decide) (fun b hb => heap_setRow_other _ _ _ _ hb),
                own_keep (w := wc.drewN nq) how (fun b cs hb hh => heap_setRow_other _ _ _ _ (by rintro rfl; exact absurd (has_type kS' hh) (by decide))),
                below_setRow (below_drewN hbr nq) (by omega) _⟩
            case measure => simp [intOf]; omega
    · go_wp2_with fail
      go_ret
      exact ⟨rfl, hbr⟩
end Go.Proofs.Ytdhekhlmdefcnaa
