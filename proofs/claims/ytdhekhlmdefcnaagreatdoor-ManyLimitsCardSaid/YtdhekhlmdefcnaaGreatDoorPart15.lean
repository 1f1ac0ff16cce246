/- Part 15 of the proof: Mem, CoreSpec, AllG. -/
import Derived.Test.YtdhekhlmdefcnaaGreatDoorPart14
import Derived.WalkKit
import Derived.Deep.Draws
import Derived.Deep.AppendLies
import Derived.Laws.Rows
import Derived.Laws.ResultCell
import Derived.Laws.Tables
namespace Go.Proofs.YtdhekhlmdefcnaaGreatDoor
open Go.RowKit
abbrev I (n : Int) : Value := .int .i64 n
theorem I_eq {a b : Int} (h : a = b) : Value.int .i64 a = Value.int .i64 b := by rw [h]
def Has (w : World) (g : Nat) (t : TypeId) (cs : Array Value) : Prop := w.heap[g]? = some (.cells cs t (0, 0))
section
variable {w w' : World} {g : Nat} {t : TypeId} {cs : Array Value}
theorem Has.lt (h : Has w g t cs) : g < w.heap.size := by
 unfold Has at h
 exact (Array.getElem?_eq_some_iff.1 h).1
theorem Has.cell (h : Has w g t cs) (i : Nat) : w.cell? ⟨g, i, none⟩ = cs[i]? := by
 unfold Has at h
 simp [World.cell?, h]
theorem Has.cellv (h : Has w g t cs) (i : Nat) (v : Value) (hv : cs[i]? = some v) : w.cell? ⟨g, i, none⟩ = some v := by rw [h.cell, hv]
theorem Has.free (h : Has w g t cs) (i : Nat) : w.frozen? ⟨g, i, none⟩ = false := by
 unfold Has at h
 simp [World.frozen?, h]
theorem Has.new (w : World) (t : TypeId) (cs : Array Value) : Has (w.alloc (.cells cs t)) w.heap.size t cs := by
 show (w.heap.push _)[w.heap.size]? = _
 simp
theorem Has.new' (w : World) (t : TypeId) (cs : Array Value) (n : Nat) (h : n = w.heap.size) : Has (w.alloc (.cells cs t)) n t cs := by
 subst h; exact Has.new w t cs
theorem Has.alloc (h : Has w g t cs) (o : Obj) : Has (w.alloc o) g t cs := (Below.heap_alloc w o g h.lt).trans h
theorem Has.set (h : Has w g t cs) (i : Nat) (v : Value) : Has (w.setCell ⟨g, i, none⟩ v) g t (cs.setIfInBounds i v) := by
 unfold Has at h ⊢
 simp [World.setCell, Array.getElem?_modify, h]
theorem Has.far (h : Has w g t cs) {p : Addr} (hp : g ≠ p.block) (v : Value) : Has (w.setCell p v) g t cs := (Below.heap_setCell w p v g hp).trans h
theorem Has.below {B : Nat} (h : Has w g t cs) (hb : Below B w w') (hg : g < B) : Has w' g t cs := (hb.block g hg).trans h
theorem Has.after (h : Has w g t cs) (hb : Below w.heap.size w w') : Has w' g t cs := h.below hb h.lt
theorem Has.grown {row : Option Nat} (h : Has w g t cs) (hb : w.grownBy w' row) (hg : some g ≠ row) : Has w' g t cs := (hb.block g h.lt hg).trans h
end
theorem Has.setRow {w : World} {g : Nat} {t : TypeId} {cs : Array Value} (h : Has w g t cs) (cs' : Array Value) : Has (w.setRow g cs') g t cs' := by
 unfold Has at h ⊢
 simp [World.setRow, Array.getElem?_modify, h]
theorem heap_setRow_other (w : World) (g : Nat) (cs : Array Value) (k : Nat) (h : k ≠ g) : (w.setRow g cs).heap[k]? = w.heap[k]? := by
 simp only [World.setRow, Array.getElem?_modify]
 rw [if_neg (by omega)]
theorem below_setRow {B : Nat} {a w : World} (h : Below B a w) {g : Nat} (hg : B ≤ g) (cs : Array Value) : Below B a (w.setRow g cs) :=
 h.trans ⟨rfl, rfl, rfl, by simp [World.setRow], fun k hk => heap_setRow_other _ _ _ _ (by omega)⟩
theorem below_drewN {B : Nat} {a w : World} (h : Below B a w) (n : Nat) : Below B a (w.drewN n) := ⟨h.os, h.tape, h.output, h.size, h.block⟩
theorem bcell {W w1 : World} (hb : Below W.heap.size W w1) : (∀ b o, b < W.heap.size → w1.cell? ⟨b, o, none⟩ = W.cell? ⟨b, o, none⟩) ∧ (∀ b o, b < W.heap.size → w1.frozen? ⟨b, o, none⟩ = W.frozen? ⟨b, o, none⟩) :=
 ⟨fun b o h => hb.cell (p := ⟨b, o, none⟩) h, fun b o h => hb.frozen (p := ⟨b, o, none⟩) h⟩
def Reads (w : World) (B : Nat) (A : Option Addr) (xs : List Value) : Prop :=
 xs ≠ [] → ∃ b o, A = some ⟨b, o, none⟩ ∧ b < B ∧ ∀ j u, xs[j]? = some u → w.cell? ⟨b, o + j, none⟩ = some u
section
variable {w w' : World} {B B' : Nat} {A : Option Addr} {xs : List Value}
theorem Reads.keep (h : Reads w B A xs) (hk : ∀ b o, b < B → w'.cell? ⟨b, o, none⟩ = w.cell? ⟨b, o, none⟩) : Reads w' B A xs := fun hn => by
 obtain ⟨b, o, e, hb, hc⟩ := h hn
 exact ⟨b, o, e, hb, fun j u hu => (hk _ _ hb).trans (hc j u hu)⟩
theorem Reads.more (h : Reads w B A xs) (hB : B ≤ B') : Reads w B' A xs := fun hn => by
 obtain ⟨b, o, e, hb, hc⟩ := h hn
 exact ⟨b, o, e, by omega, hc⟩
theorem Reads.below (h : Reads w B A xs) (hb : Below B w w') : Reads w' B A xs := h.keep fun _ _ hp => hb.cell hp
theorem Reads.alloc (h : Reads w B A xs) (hB : B ≤ w.heap.size) (o : Obj) : Reads (w.alloc o) B A xs := h.keep fun b i hp => World.cell?_alloc_lt w o ⟨b, i, none⟩ (Nat.lt_of_lt_of_le hp hB)
theorem Reads.take (h : Reads w B A xs) (k : Nat) : Reads w B A (xs.take k) := fun hn => by
 have h0 : xs ≠ [] := by rintro rfl; simp at hn
 obtain ⟨b, o, e, hb, hc⟩ := h h0
 refine ⟨b, o, e, hb, fun j u hu => hc j u ?_⟩
 rw [List.getElem?_take] at hu
 split at hu
 ·exact hu
 ·cases hu
theorem Reads.of_has {g : Nat} {t : TypeId} {cs : Array Value} (h : Has w g t cs) (hB : g < B) : Reads w B (some ⟨g, 0, none⟩) cs.toList := fun _ =>
 ⟨g, 0, rfl, hB, fun j u hu => by rw [Nat.zero_add, h.cell]; simpa using hu⟩
end
theorem add_at (b o j : Nat) : (⟨b, o, none⟩ : Addr).add j = ⟨b, o + j, none⟩ := by unfold Addr.add; split <;> simp_all
theorem own_reads {w : World} {base : Nat} {e : TypeId} {v : Value} {n : Nat} {xs : List Value} (h : w.ownsRow base e 1 v n xs) :
  ∃ A c, v = .slice A n c ∧ n ≤ c ∧ xs.length = n ∧ Reads w w.heap.size A xs := by
 obtain ⟨h1, h2⟩ := h
 rw [Nat.mul_one] at h1
 rcases h2 with ⟨hv, hn⟩ | ⟨g, cap, cur, hv, hg, hh, hnc, _, _, ht⟩
 ·exact ⟨none, 0, by rw [hv, hn], by omega, h1, fun hx => absurd (List.eq_nil_of_length_eq_zero (by omega)) hx⟩
 ·refine ⟨some ⟨g, 0, none⟩, cap, hv, hnc, h1, fun _ => ⟨g, 0, rfl, (Array.getElem?_eq_some_iff.1 hh).1, fun j u hu => ?_⟩⟩
  have hc : Has w g e cur := hh
  rw [hc.cell]
  have := ht
  rw [Nat.mul_one] at this
  rw [← this, List.getElem?_take] at hu
  split at hu
  ·simpa using hu
  ·cases hu
theorem own_base {w : World} {base base' : Nat} {e : TypeId} {size : Nat} {v : Value} {n : Nat} {xs : List Value} (h : w.ownsRow base e size v n xs) (hb : base' ≤ base) : w.ownsRow base' e size v n xs := by
 obtain ⟨h1, h2⟩ := h
 refine ⟨h1, ?_⟩
 rcases h2 with h2 | ⟨g, cap, cur, hv, hg, r⟩
 ·exact .inl h2
 ·exact .inr ⟨g, cap, cur, hv, by omega, r⟩
theorem own_keep {w w' : World} {base : Nat} {e : TypeId} {size : Nat} {v : Value} {n : Nat} {xs : List Value} (h : w.ownsRow base e size v n xs)
  (hk : ∀ g cs, v.ownBlock = some g → Has w g e cs → w'.heap[g]? = w.heap[g]?) : w'.ownsRow base e size v n xs := by
 obtain ⟨h1, h2⟩ := h
 refine ⟨h1, ?_⟩
 rcases h2 with h2 | ⟨g, cap, cur, hv, hg, hh, r⟩
 ·exact .inl h2
 ·exact .inr ⟨g, cap, cur, hv, hg, (hk g cur (by rw [hv]; rfl) hh).trans hh, r⟩
theorem own_after {w w' : World} {base : Nat} {e : TypeId} {size : Nat} {v : Value} {n : Nat} {xs : List Value} (h : w.ownsRow base e size v n xs) (hb : Below w.heap.size w w') : w'.ownsRow base e size v n xs :=
 own_keep h fun g _ _ hh => hb.block g hh.lt
theorem own_far {w : World} {base : Nat} {e : TypeId} {size : Nat} {v : Value} {n : Nat} {xs : List Value} (h : w.ownsRow base e size v n xs) {g : Nat} {t : TypeId} {cs : Array Value} (hg : Has w g t cs) (hne : t ≠ e) (o : Nat) (u : Value) :
  (w.setCell ⟨g, o, none⟩ u).ownsRow base e size v n xs :=
 own_keep h fun g' cs' _ hh => Below.heap_setCell w _ u g' (by
  rintro rfl
  unfold Has at hg hh
  rw [hg] at hh
  injection hh with hh
  injection hh with _ ht
  exact hne ht)
def ints (l : List Int) : List Value := l.map I
theorem ints_length (l : List Int) : (ints l).length = l.length := by simp [ints]
theorem ints_get (l : List Int) (i : Nat) : (ints l)[i]? = (l[i]?).map I := by simp [ints]
theorem Reads.at_ {w : World} {B : Nat} {A : Option Addr} {xs : List Int} (h : Reads w B A (ints xs)) {k : Nat} {x : Int} (hx : xs[k]? = some x) :
  ∃ b o, A = some ⟨b, o, none⟩ ∧ b < B ∧ w.cell? ⟨b, o + k, none⟩ = some (I x) := by
 have hk : (ints xs)[k]? = some (I x) := by rw [ints_get, hx]; rfl
 obtain ⟨b, o, hA, hb, hc⟩ := h (by rintro h0; rw [h0] at hk; simp at hk)
 exact ⟨b, o, hA, hb, hc _ _ hk⟩
theorem some_at {α : Type} (xs : List α) (k : Nat) (h : k < xs.length) : ∃ x, xs[k]? = some x := ⟨xs[k], List.getElem?_eq_getElem h⟩
def zs (l : List Nat) : List Int := l.map fun (x : Nat) => (x : Int)
theorem zs_length (l : List Nat) : (zs l).length = l.length := by simp [zs]
theorem zs_get (l : List Nat) (i : Nat) : (zs l)[i]? = (l[i]?).map fun (x : Nat) => (x : Int) := by simp [zs]
theorem zs_some {l : List Nat} {i x : Nat} (h : l[i]? = some x) : (zs l)[i]? = some (x : Int) := by rw [zs_get, h]; rfl
end Go.Proofs.YtdhekhlmdefcnaaGreatDoor
namespace Go.Proofs.YtdhekhlmdefcnaaGreatDoor
open Go.RowKit
structure Lay where
 secs : Nat
 routes : List Nat
 delay : Nat
structure Lay.Ok (L : Lay) : Prop where
 secs1 : 1 ≤ L.secs
 secs2 : L.secs ≤ 12
 many1 : 1 ≤ L.routes.length
 many2 : L.routes.length ≤ 8
 delay : L.delay ≤ 20
 low : ∀ r ∈ L.routes, 1 ≤ r
 high : ∀ r ∈ L.routes, r < 2 ^ L.secs
 apart : L.routes.Nodup
structure St where
 set : Nat
 used : List Nat
 idle : List Nat
def St.zero : St := ⟨0, List.replicate 8 0, List.replicate 8 0⟩
structure St.Fits (s : St) (M : Nat) : Prop where
 set : s.set < 256
 used8 : s.used.length = 8
 idle8 : s.idle.length = 8
 used : ∀ x ∈ s.used, x < 4096
 idle : ∀ x ∈ s.idle, x ≤ M
def stL (s : St) : List Value := I s.set :: (ints (zs s.used) ++ ints (zs s.idle))
inductive Err where
 | ok
 | bare (e : Int)
 | place (e : Int) (p : Nat)
def badRoute (S : Int) (rs : List Int) : Option Nat := rs.findIdx? fun r => decide (r ≤ 0) || decide (2 ^ S.toNat ≤ r)
def twice (rs : List Int) (i : Nat) : Bool := (rs.take i).contains (rs.getD i 0)
def twiceAt (rs : List Int) : Option Nat := (List.range rs.length).find? (twice rs)
def outOf (S : Int) (n : Nat) (d : Int) : Prop := S < 1 ∨ 12 < S ∨ n < 1 ∨ 8 < n ∨ d < 0 ∨ 20 < d
instance (S : Int) (n : Nat) (d : Int) : Decidable (outOf S n d) := by unfold outOf; infer_instance
def chk (S : Int) (rs : List Int) (d : Int) : Err :=
 if outOf S rs.length d then .bare 2 else
 match badRoute S rs with
 | some i => .place 1 i
 | none => match twiceAt rs with
  | some i => .place 9 i
  | none => .ok
def confTo (rs : List Nat) (i : Nat) : Nat → Nat
 | 0 => 0
 | k + 1 => if k ≠ i ∧ rs.getD i 0 &&& rs.getD k 0 ≠ 0 then confTo rs i k ||| 1 <<< k else confTo rs i k
def conf (rs : List Nat) (i : Nat) : Nat := confTo rs i rs.length
def confs (rs : List Nat) : List Nat := (List.range rs.length).map (conf rs)
def one (delay clear wanted : Nat) (s : St) (k r : Nat) : St :=
 if s.set.testBit k then
  let u := s.used.getD k 0 ||| nb r clear
  let i := if wanted.testBit k then 0 else s.idle.getD k 0 + 1
  if u = r ∧ nb r clear = 0 ∨ u = 0 ∧ delay < i then ⟨nb s.set (1 <<< k), s.used.set k 0, s.idle.set k 0⟩
  else ⟨s.set, s.used.set k u, s.idle.set k i⟩
 else s
def letGo (L : Lay) (clear wanted : Nat) (s : St) : Nat → St
 | 0 => s
 | k + 1 => one L.delay clear wanted (letGo L clear wanted s k) k (L.routes.getD k 0)
def newOne (rs : List Nat) (clear wanted set k : Nat) : Bool :=
 wanted.testBit k && !set.testBit k && decide (set &&& conf rs k = 0) && decide (nb (rs.getD k 0) clear = 0)
def setTo (rs : List Nat) (clear wanted set : Nat) : Nat → Nat
 | 0 => set
 | k + 1 => if newOne rs clear wanted (setTo rs clear wanted set k) k then setTo rs clear wanted set k ||| 1 <<< k else setTo rs clear wanted set k
def shows (rs : List Nat) (clear wanted : Nat) (s : St) (k : Nat) : Bool :=
 s.set.testBit k && decide (s.used.getD k 0 = 0) && decide (nb (rs.getD k 0) clear = 0) && wanted.testBit k
def outTo (rs : List Nat) (clear wanted : Nat) (s : St) : Nat → Nat
 | 0 => 0
 | k + 1 => if shows rs clear wanted s k then outTo rs clear wanted s k ||| 1 <<< k else outTo rs clear wanted s k
def stepS (L : Lay) (clear wanted : Nat) (s : St) : St :=
 let t := letGo L clear wanted s L.routes.length
 { t with set := setTo L.routes clear wanted t.set L.routes.length }
def step (L : Lay) (c w : Int) (s : St) : St × Nat :=
 let clear := msk c L.secs
 let wanted := msk w L.routes.length
 (stepS L clear wanted s, outTo L.routes clear wanted (stepS L clear wanted s) L.routes.length)
end Go.Proofs.YtdhekhlmdefcnaaGreatDoor
namespace Go.Proofs.YtdhekhlmdefcnaaGreatDoor
open Go.RowKit
section
variable {P : Program} {ops : Array Oper} {Q : Exit → Act → World → Prop}
end
end Go.Proofs.YtdhekhlmdefcnaaGreatDoor
