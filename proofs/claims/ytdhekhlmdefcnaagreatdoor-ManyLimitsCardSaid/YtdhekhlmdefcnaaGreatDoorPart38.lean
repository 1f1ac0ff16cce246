/- Part 38 of the proof: DkSplit, DkRange. -/
import Derived.Test.YtdhekhlmdefcnaaGreatDoorPart35
import Derived.RangeFuncNested
import Derived.RangeFuncBound
import Derived.RangeFuncCalls
import Derived.RangeFuncLeaves
import Derived.Shelf.Abstract
import Derived.Shelf.RegionOpen
import Derived.WalkKit
import Derived.OwnWalkIn
import Derived.TacticsInMore
import Derived.LoopNIn
import Derived.LoopIn
import Derived.Lib.IndexLaws
namespace Go.Proofs.YtdhekhlmdefcnaaGreatDoor
open Go.RowKit Go.Shelf
attribute [local go_sem] Oper.semAt_some
def piecesB : Nat → ByteArray → List ByteArray
 | 0, s => [s]
 | n + 1, s => if Lib.indexByte s.data.toList 10 < 0 then [s] else s.extract 0 (Lib.indexByte s.data.toList 10).toNat :: piecesB n (s.extract ((Lib.indexByte s.data.toList 10).toNat + 1) s.size)
theorem piecesB_none {k : Nat} {r : ByteArray} (h : Lib.indexByte r.data.toList 10 < 0) : piecesB k r = [r] := by
 cases k with
 | zero => rfl
 | succ k => unfold piecesB; rw [if_pos h]
theorem piecesB_some {k i : Nat} {r : ByteArray} (h : Lib.indexByte r.data.toList 10 = (i : Int)) : piecesB (k + 1) r = r.extract 0 i :: piecesB k (r.extract (i + 1) r.size) := by
 conv => lhs; unfold piecesB
 rw [h, if_neg (by omega)]
 rfl
theorem index_lt {r : ByteArray} {i : Nat} (h : Lib.indexByte r.data.toList 10 = (i : Int)) : i < r.size := by
 have := (Lib.indexByte_some h).1
 have h2 := (List.getElem?_eq_some_iff.1 this).1
 rw [Array.length_toList] at h2
 exact h2
def leftB (sb : Nat) (w : World) : Nat := match w.cell? ⟨sb, 0, none⟩ with | some (.string s) => s.size | _ => 0
set_option maxHeartbeats 4000000 in
set_option maxRecDepth 100000 in
theorem split_iter (n l : Nat) (J : List ByteArray → World → Prop) (s : ByteArray) (hz : s.size ≤ 100000) (sb pb vb : Nat) (hne : pb ≠ sb) (W : World) (h1 : Has W sb 9 #[.string s]) (h2 : Has W pb 9 #[.string ⟨#[10]⟩]) (h3 : Has W vb 3 #[I 0])
  (hJ : ∀ pre W1 v, J pre W1 → J pre (W1.setCell ⟨sb, 0, none⟩ (.string v)))
  (hY : ∀ pre x W1, J pre W1 → (∃ rest, pre ++ x :: rest = piecesB s.size s) → YieldAt Fence.wide (n - 1) Tryz.prog l #[.string x] W1 fun e W' => e = .returned (.bool true) ∧ J (pre ++ [x]) W' ∧ ∀ k, k = sb ∨ k = pb ∨ k = vb → W'.heap[k]? = W1.heap[k]?)
  (h0 : J [] W) : CallsIn Fence.wide n Tryz.prog 63 #[.func (.yield l) #[] #[], .pointer (some ⟨pb, 0, none⟩), .pointer (some ⟨sb, 0, none⟩), .pointer (some ⟨vb, 0, none⟩)] W fun e W' => (∃ v, e = .returned v) ∧ J (piecesB s.size s) W' := by
 have HNE := Lib.hid hne
 have HJ := Lib.hid hJ
 have HY := Lib.hid hY
 have H1 := Lib.hid h1
 have H2 := Lib.hid h2
 have H3 := Lib.hid h3
 have q2 := h2.cellv 0 (.string ⟨#[10]⟩) rfl
 have l2 := h2.lt
 clear hJ hY h1 h3 h2
 refine callsIn_of_wp Tryz.func63 rfl trivial ?_ rfl
 simp only [Tryz.ntmps63, List.size_toArray, List.length_cons, List.length_nil, Nat.reduceAdd, Nat.reduceSub, Array.replicate_succ, Array.replicate_zero, List.push_toArray, List.append_toArray, List.nil_append, List.cons_append]
 gi_wp2
 gi_loopw [7] (fun (_ : Value) wr => ∃ (pre : List ByteArray) (k : Nat) (r : ByteArray), r.size ≤ k ∧ pre ++ piecesB k r = piecesB s.size s ∧ r.size ≤ 100000 ∧ Hid (Has wr sb 9 #[.string r]) ∧ Hid (Has wr pb 9 #[.string ⟨#[10]⟩]) ∧ Hid (Has wr vb 3 #[I 0]) ∧ J pre wr) (fun (_ : Value) wr => leftB sb wr)
 case atStart => exact ⟨[], s.size, s, Nat.le_refl _, rfl, hz, H1, H2, H3, h0⟩
 case round =>
  obtain ⟨pre, k, r, hrk, hpk, hrz, K1, K2, K3, hJs⟩ := hrel
  have c1 := K1.out.cellv 0 (.string r) rfl
  have c2 := K2.out.cellv 0 (.string ⟨#[10]⟩) rfl
  have c3 := K3.out.cellv 0 (I 0) rfl
  have g1 := K1.out.lt
  have g2 := K2.out.lt
  have g3 := K3.out.lt
  have HIX := Lib.hid (Tryz.strings_Index_one r 10 wr)
  by_cases hneg : Lib.indexByte r.data.toList 10 < 0
  ·have hin : Lib.indexByte r.data.toList 10 = -1 := by have := Lib.indexByte_ge r.data.toList 10; omega
   rw [hin] at HIX
   obtain ⟨fn, tmps, assign, body, hy, hR⟩ := HY.out pre r wr hJs ⟨[], by rw [← hpk, piecesB_none hneg]⟩
   have HE : Hid (pre ++ [r] = piecesB s.size s) := Lib.hid (by rw [← hpk, piecesB_none hneg])
   clear hneg hin hpk HY HJ
   gi_wp2_with (refine ⟨trivial, fun hd => absurd hd (by decide), ?_⟩; refine (callsIn_wide.2 HIX.out).mono ?_; rintro e w2 ⟨rfl, rfl⟩)
   refine ⟨fun hd => absurd hd (by decide), ?_⟩
   refine hR.mono ?_
   rintro e W3 ⟨rfl, hJ3, hk3⟩
   gi_wp2
   go_end0
   exact ⟨⟨_, rfl⟩, HE.out ▸ hJ3⟩
  ·obtain ⟨i, hi⟩ : ∃ i : Nat, Lib.indexByte r.data.toList 10 = (i : Int) := ⟨(Lib.indexByte r.data.toList 10).toNat, by omega⟩
   have hlt := index_lt hi
   rw [hi] at HIX
   obtain ⟨k', rfl⟩ : ∃ k', k = k' + 1 := ⟨k - 1, by omega⟩
   rw [piecesB_some hi] at hpk
   obtain ⟨fn, tmps, assign, body, hy, hR⟩ := HY.out pre (r.extract 0 i) wr hJs ⟨_, hpk⟩
   have HPK : Hid ((pre ++ [r.extract 0 i]) ++ piecesB k' (r.extract (i + 1) r.size) = piecesB s.size s) := Lib.hid (by rw [← hpk]; simp)
   have hi0 : ¬ (i : Int) < 0 := by omega
   have hi1 : (i : Int) ≤ (r.size : Int) := by omega
   have hi2 : (i : Int) + 1 ≤ (r.size : Int) := by omega
   have hrz2 : r.size ≤ 100000 := hrz
   have HLT : Hid (i < r.size ∧ r.size ≤ k' + 1 ∧ r.size ≤ 100000) := Lib.hid ⟨hlt, hrk, hrz⟩
   clear hneg hi hpk hrk
   gi_wp2_with (refine ⟨trivial, fun hd => absurd hd (by decide), ?_⟩; refine (callsIn_wide.2 HIX.out).mono ?_; rintro e w2 ⟨rfl, rfl⟩)
   refine ⟨fun hd => absurd hd (by decide), ?_⟩
   refine hR.mono ?_
   rintro e W3 ⟨rfl, hJ3, hk3⟩
   have J1 : Has W3 sb 9 #[.string r] := (hk3 sb (.inl rfl)).trans K1.out
   have J2 : Has W3 pb 9 #[.string ⟨#[10]⟩] := (hk3 pb (.inr (.inl rfl))).trans K2.out
   have J3 : Has W3 vb 3 #[I 0] := (hk3 vb (.inr (.inr rfl))).trans K3.out
   have d1 := J1.cellv 0 (.string r) rfl
   have d2 := J2.cellv 0 (.string ⟨#[10]⟩) rfl
   have f1 := J1.free 0
   have m1 := J1.lt
   have m2 := J2.lt
   have P1 := Lib.hid J1
   have P2 := Lib.hid J2
   have P3 := Lib.hid J3
   have HJ3 := Lib.hid (HJ.out _ _ (r.extract (i + 1) r.size) hJ3)
   clear J1 J2 J3 hk3 hJ3 c1 c2 c3
   gi_wp2
   have hset : Has (W3.setCell ⟨sb, 0, none⟩ (.string (r.extract (i + 1) r.size))) sb 9 #[.string (r.extract (i + 1) r.size)] := P1.out.set 0 _
   have hsz : (r.extract (i + 1) r.size).size = r.size - (i + 1) := by rw [ByteArray.size_extract, Nat.min_self]
   obtain ⟨b1, b2, b3⟩ := HLT.out
   refine ⟨⟨pre ++ [r.extract 0 i], k', r.extract (i + 1) r.size, by rw [hsz]; omega, HPK.out, by rw [hsz]; omega, Lib.hid hset, Lib.hid (P2.out.far HNE.out _), Lib.hid (P3.out.far (P3.out.ne P1.out (by decide)) _), HJ3.out⟩, ?_⟩
   have e1 : leftB sb (W3.setCell ⟨sb, 0, none⟩ (.string (r.extract (i + 1) r.size))) = (r.extract (i + 1) r.size).size := by
    unfold leftB
    rw [hset.cellv 0 (.string (r.extract (i + 1) r.size)) rfl]
   have e2 : leftB sb w2 = r.size := by
    unfold leftB
    rw [K1.out.cellv 0 (.string r) rfl]
   rw [e1, e2, hsz]
   omega
end Go.Proofs.YtdhekhlmdefcnaaGreatDoor
namespace Go.Proofs.YtdhekhlmdefcnaaGreatDoor
open Go.RowKit Go.Shelf
structure Mild (N sb : Nat) (W W' : World) : Prop where
 os : W'.os = W.os
 tape : W'.tape = W.tape
 output : W'.output = W.output
 size : W.heap.size ≤ W'.heap.size
 block : ∀ k, k < W.heap.size → k ≠ sb → W'.heap[k]? = W.heap[k]? ∨ (N ≤ k ∧ ∃ o, W.heap[k]? = some o ∧ o.isCells = false)
 box : ∀ u, Has W sb 9 #[u] → ∃ u', Has W' sb 9 #[u']
theorem Mild.below {N sb B : Nat} {W W' : World} (h : Mild N sb W W') (h1 : B ≤ N) (h2 : B ≤ sb) (h3 : B ≤ W.heap.size) : Below B W W' := ⟨h.os, h.tape, h.output, h.size, fun k hk => by
 rcases h.block k (by omega) (by omega) with e | ⟨h4, _⟩
 ·exact e
 ·omega⟩
theorem Mild.has {N sb : Nat} {W W' : World} (h : Mild N sb W W') {b : Nat} {t : TypeId} {cs : Array Value} (hh : Has W b t cs) (hb : b ≠ sb) : Has W' b t cs := by
 rcases h.block b hh.lt hb with e | ⟨_, o, e, ho⟩
 ·exact e.trans hh
 ·unfold Has at hh
  rw [hh] at e
  injection e with e
  rw [← e] at ho
  cases ho
theorem Mild.alloc (N sb : Nat) (W : World) (o : Obj) : Mild N sb W (W.alloc o) := ⟨rfl, rfl, rfl, by simp, fun k hk _ => .inl (Below.heap_alloc _ _ _ hk), fun u hu => ⟨u, hu.alloc _⟩⟩
theorem Mild.putObj {N sb : Nat} {W : World} {l : Nat} {o : Obj} (o' : Obj) (hN : N ≤ l) (hl : W.heap[l]? = some o) (ho : o.isCells = false) : Mild N sb W (W.putObj l o') := ⟨rfl, rfl, rfl, by simp, fun k _ _ => by
 by_cases e : k = l
 ·subst e
  exact .inr ⟨hN, o, hl, ho⟩
 ·exact .inl (World.putObj_heap_other e), fun u hu => ⟨u, by
 have e : sb ≠ l := fun e => by
  subst e
  unfold Has at hu
  rw [hu] at hl
  injection hl with hl
  rw [← hl] at ho
  cases ho
 exact (World.putObj_heap_other e).trans hu⟩⟩
theorem Mild.setCell (N sb : Nat) (W : World) (v : Value) : Mild N sb W (W.setCell ⟨sb, 0, none⟩ v) := ⟨rfl, rfl, rfl, by simp [World.setCell], fun k _ hk => .inl (Below.heap_setCell _ _ _ _ hk), fun u hu => ⟨v, hu.set 0 v⟩⟩
theorem range_split {n : Nat} (h1n : 1 ≤ n) {g : Operand} {ps : Array Tmp} {assign body : Code} {Q : Exit → Act → World → Prop} {a : Act} {w : World} (s : ByteArray) (hz : s.size ≤ 100000) (sb pb vb : Nat) (hne : pb ≠ sb)
  (hg : a.eval g = .func (.func 63) #[] #[.pointer (some ⟨pb, 0, none⟩), .pointer (some ⟨sb, 0, none⟩), .pointer (some ⟨vb, 0, none⟩)]) (hps : ps.size = 1)
  (b1 : Has w sb 9 #[.string s]) (b2 : Has w pb 9 #[.string ⟨#[10]⟩]) (b3 : Has w vb 3 #[I 0])
  (I : List ByteArray → World → Prop) (hI : ∀ pre W W', I pre W → Mild w.heap.size sb W W' → I pre W') (h0 : I [] w) (a₁ : ByteArray → Act)
  (hassign : ∀ (l : Nat) (x : ByteArray) (W : World) (K : Act → World → Prop), K (a₁ x) W →
   assign.wpIn (Fence.wide.inRound l) (n - 1 - 1) Tryz.prog (Exit.then K (fun _ _ _ => False)) { tmps := (ps.zip #[.string x]).foldl (fun t (p, v) => t.setIfInBounds p v) a.tmps, defers := [] } W)
  (hbody : ∀ (l : Nat) (pre : List ByteArray) (x : ByteArray) (W : World), I pre W → (∃ rest, pre ++ x :: rest = piecesB s.size s) →
   body.wpIn (Fence.wide.inRound l) (n - 1 - 1) Tryz.prog (fun e _ W' => e = .normal ∧ KeepsOthers W W' ∧ (∀ k, k = sb ∨ k = pb ∨ k = vb → W'.heap[k]? = W.heap[k]?) ∧ I (pre ++ [x]) W') (a₁ x) W)
  (hdone : ∀ (D : Nat) (W : World), w.heap.size ≤ D → I (piecesB s.size s) W → W.heap[D]? = some (.deferred (some [])) → Q .normal { a with defers := { target := .collected D, args := #[] } :: a.defers } W) :
  (Code.rangeFunc g ps assign body).wpIn Fence.wide n Tryz.prog Q a w := by
 have g1 := b1.lt
 have g2 := b2.lt
 have g3 := b3.lt
 refine wpIn_rangeFunc ?_
 intro fn hfn
 obtain ⟨rec, hrec⟩ : ∃ rec : LoopState → Option Code → Loop, rec = fun st pe => { state := st, pending := pe, fn, tmps := a.tmps, params := ps, assign, body, defers := w.heap.size } := ⟨_, rfl⟩
 obtain ⟨W1, hW1⟩ : ∃ W1, (w.alloc (.deferred (some []))).alloc (.loop (rec .ready none)) = W1 := ⟨_, rfl⟩
 have hL1 : W1.heap[w.heap.size + 1]? = some (.loop (rec .ready none)) := by
  rw [← hW1]; have := World.alloc_heap_new (w.alloc (.deferred (some []))) (.loop (rec .ready none)); rwa [World.size_alloc] at this
 have hK1 : W1.heap[w.heap.size]? = some (.deferred (some [])) := by
  rw [← hW1]; exact (Below.heap_alloc _ _ _ (by simp)).trans (World.alloc_heap_new w _)
 have hI1 : I [] W1 := by rw [← hW1]; exact hI _ _ _ (hI _ _ _ h0 (Mild.alloc _ _ _ _)) (Mild.alloc _ _ _ _)
 have hc1 : ∀ {b : Nat} {t : TypeId} {cs : Array Value}, Has w b t cs → Has W1 b t cs := fun hh => by rw [← hW1]; exact (hh.alloc _).alloc _
 refine ⟨w.heap.size + 1, [{ target := .collected w.heap.size, args := #[] }], W1, { target := .fn (.func 63) #[.pointer (some ⟨pb, 0, none⟩), .pointer (some ⟨sb, 0, none⟩), .pointer (some ⟨vb, 0, none⟩)], args := #[.func (.yield (w.heap.size + 1)) #[] #[]] }, W1, 63,
  #[.func (.yield (w.heap.size + 1)) #[] #[]] ++ #[.pointer (some ⟨pb, 0, none⟩), .pointer (some ⟨sb, 0, none⟩), .pointer (some ⟨vb, 0, none⟩)], W1, ?_, ?_, ?_, ?_, fun _ => h1n, ?_⟩
 ·rw [← hW1, hrec]; exact run_enterLoop_outer _ _ _ _ _
 ·simp only [resolve, hg]
  simp [go_sem]
 ·intro f' _; trivial
 ·simp [invoke, go_sem]
 ·refine (split_iter (n - 1) (w.heap.size + 1)
   (fun pre W => I pre W ∧ W.heap[w.heap.size + 1]? = some (.loop (rec .ready none)) ∧ W.heap[w.heap.size]? = some (.deferred (some [])))
   s hz sb pb vb hne W1 (hc1 b1) (hc1 b2) (hc1 b3) ?_ ?_ ⟨hI1, hL1, hK1⟩).mono ?_
  ·rintro pre W v ⟨hi, hl, hk⟩
   exact ⟨hI _ _ _ hi (Mild.setCell _ _ _ _), (Below.heap_setCell _ _ _ _ (by show w.heap.size + 1 ≠ sb; omega)).trans hl, (Below.heap_setCell _ _ _ _ (by show w.heap.size ≠ sb; omega)).trans hk⟩
  ·rintro pre x W ⟨hi, hl, hk⟩ hrest
   have hlt : w.heap.size + 1 < W.heap.size := (Array.getElem?_eq_some_iff.1 hl).1
   have hy := run_yield (P := Tryz.prog) (args := #[.string x]) hl (by rw [hrec]; simp [hps])
   rw [hrec] at hy
   refine ⟨fn, _, assign, body, hy, roundIn_of_wpIn hfn (hassign _ x W _ ⟨_, run_beginRound hl (by rw [hrec]), ?_⟩)⟩
   have hl2 : (W.putObj (w.heap.size + 1) (.loop { rec .ready none with state := .busy })).heap[w.heap.size + 1]? = some (.loop { rec .ready none with state := .busy }) := World.putObj_heap_same hlt
   have hk2 : (W.putObj (w.heap.size + 1) (.loop { rec .ready none with state := .busy })).heap[w.heap.size]? = some (.deferred (some [])) := (World.putObj_heap_other (by omega)).trans hk
   refine wpIn_mono (hbody _ pre x _ (hI _ _ _ hi (Mild.putObj _ (by omega) hl rfl)) hrest) ?_
   rintro e a3 W3 ⟨rfl, hk3, hkp3, hi3⟩
   have hl3 := hk3.same _ _ hl2 rfl
   have hr := run_endRound (P := Tryz.prog) none hl3
   have hq : ∀ k, k = sb ∨ k = pb ∨ k = vb → k ≠ w.heap.size + 1 := fun k hk => by omega
   refine ⟨.bool true, W3.putObj (w.heap.size + 1) (.loop (rec .ready none)), by rw [hrec] at hr ⊢; exact hr, rfl, ⟨hI _ _ _ hi3 (Mild.putObj _ (by omega) hl3 rfl), World.putObj_heap_same (Array.getElem?_eq_some_iff.1 hl3).1, (World.putObj_heap_other (by omega)).trans (hk3.same _ _ hk2 rfl)⟩, fun k hk => ?_⟩
   rw [World.putObj_heap_other (hq k hk), hkp3 k hk, World.putObj_heap_other (hq k hk)]
  ·rintro e W2 ⟨⟨v, rfl⟩, hi, hl, hk⟩
   exact ⟨none, _, by have := run_endLoop (P := Tryz.prog) hl (by rw [hrec]; simp); rw [hrec] at this; exact this, hdone _ _ (by omega) (hI _ _ _ hi (Mild.putObj _ (by omega) hl rfl)) ((World.putObj_heap_other (by omega)).trans hk)⟩
end Go.Proofs.YtdhekhlmdefcnaaGreatDoor
