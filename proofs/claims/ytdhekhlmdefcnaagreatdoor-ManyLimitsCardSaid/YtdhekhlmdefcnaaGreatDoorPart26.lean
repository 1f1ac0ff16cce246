/- Part 26 of the proof: ReTakeK, ReTakeN, ReTake, ReKept, VoTake2, SyMem. -/
import Derived.Test.YtdhekhlmdefcnaaGreatDoorPart25
import Derived.Test.YtdhekhlmdefcnaaGreatDoorPart24
import Derived.Test.YtdhekhlmdefcnaaGreatDoorPart20
import Derived.Deep.RegionWith
import Derived.Deep.MidRow
namespace Go.Proofs.YtdhekhlmdefcnaaGreatDoor
open Go.RowKit
section
variable {w : World} {g gc : Nat} {L : Lay} {r : Re} {f : List Int} {kd fr cy c d : Nat} {s : St}
end
end Go.Proofs.YtdhekhlmdefcnaaGreatDoor
namespace Go.Proofs.YtdhekhlmdefcnaaGreatDoor
open Go.RowKit
section
variable {w : World} {g gc : Nat} {L : Lay} {r : Re} {f : List Int} {kd fr cy c d : Nat} {s : St}
end
end Go.Proofs.YtdhekhlmdefcnaaGreatDoor
namespace Go.Proofs.YtdhekhlmdefcnaaGreatDoor
open Go.RowKit
end Go.Proofs.YtdhekhlmdefcnaaGreatDoor
namespace Go.Proofs.YtdhekhlmdefcnaaGreatDoor
theorem zero_fits (M : Nat) : St.zero.Fits M := ⟨by decide, rfl, rfl, fun x hx => by have := List.eq_of_mem_replicate hx; omega, fun x hx => by have := List.eq_of_mem_replicate hx; omega⟩
theorem rep_getD {α : Type} (n k : Nat) (x : α) : (List.replicate n x).getD k x = x := by
 rw [List.getD_eq_getElem?_getD, List.getElem?_replicate]
 split <;> rfl
theorem new_fits {k : Nat} (hk : k < 3) : (Re.new k).Fits 0 :=
 ⟨hk, rfl, rfl, rfl, rfl, fun i => by show Small2 (noSeen.getD i (0, 0)); unfold noSeen; rw [rep_getD]; exact ⟨by decide, by decide⟩, fun i => by show (List.replicate 3 0).getD i 0 ≤ 0; rw [rep_getD]; exact Nat.le_refl _, Nat.le_refl _, Nat.zero_le _, Nat.zero_le _, zero_fits _,
  fun i => by
   have e : (Re.new k).told.getD i kn0 = kn0 := rep_getD 3 i kn0
   rw [e]
   exact ⟨zero_fits _, Nat.zero_le _⟩,
  by show (-9223372036854775808 ≤ (0 : Int) ∧ (0 : Int) < 9223372036854775808) ∧ -9223372036854775808 ≤ (0 : Int) ∧ (0 : Int) < 9223372036854775808; decide⟩
end Go.Proofs.YtdhekhlmdefcnaaGreatDoor
namespace Go.Proofs.YtdhekhlmdefcnaaGreatDoor
open Go.RowKit
section
variable {w : World} {B g : Nat} {vt : Value} {v : Vo}
end
end Go.Proofs.YtdhekhlmdefcnaaGreatDoor
namespace Go.Proofs.YtdhekhlmdefcnaaGreatDoor
open Go.RowKit
def mutT (t : TypeId) : Bool := t == 121 || t == 176 || t == 162 || t == 157 || t == 217
def Mut (w : World) (b : Nat) : Prop := ∃ t cs, Has w b t cs ∧ mutT t = true
def wayL : List Gram → List Value → List Value
 | g :: l, v :: vs => I g.src :: I g.dst :: v :: wayL l vs
 | _, _ => []
structure SyX where
 g : Nat
 rb : Nat → Nat
 cb : Nat → Nat
 vb : Nat
 vt : Value
 vr : Value
 vw : Value
 vs : List Value
def FS (x : SyX) (b : Nat) : Prop := b = x.g ∨ (∃ k, k < 3 ∧ b = x.rb k) ∨ FV x.vb x.vt b ∨ x.vw.ownBlock = some b
def syC (x : SyX) (L : Lay) (s : Sys) : Array Value := #[I L.secs, x.vr, I L.delay, .pointer (some ⟨x.rb 0, 0, none⟩), .pointer (some ⟨x.rb 1, 0, none⟩), .pointer (some ⟨x.rb 2, 0, none⟩), .pointer (some ⟨x.vb, 0, none⟩), x.vw, I s.lost]
def BAt (w : World) (v : Value) (l : List UInt8) : Prop := ∃ A c, v = .slice A l.length c ∧ l.length ≤ c ∧ (l ≠ [] → ∃ g cur, A = some ⟨g, 0, none⟩ ∧ Has w g 5 cur ∧ cur.toList.take l.length = bytes l)
theorem BAt.keep {w w' : World} {v : Value} {l : List UInt8} (h : BAt w v l) (hk : ∀ g cs, Has w g 5 cs → Has w' g 5 cs) : BAt w' v l := by
 obtain ⟨A, c, h1, h2, h3⟩ := h
 refine ⟨A, c, h1, h2, fun hn => ?_⟩
 obtain ⟨g, cur, e, hh, ht⟩ := h3 hn
 exact ⟨g, cur, e, hk g cur hh, ht⟩
theorem BAt.after {w w' : World} {v : Value} {l : List UInt8} (h : BAt w v l) (hb : Below w.heap.size w w') : BAt w' v l := h.keep fun _ _ hh => hh.after hb
structure SyAt (w : World) (B : Nat) (x : SyX) (L : Lay) (s : Sys) : Prop where
 has : Has w x.g 121 (syC x L s)
 routes : w.ownsRow 0 3 1 x.vr L.routes.length (ints (zs L.routes))
 n3 : s.rs.length = 3
 rep : ∀ k, k < 3 → RepAt w (x.rb k) (x.cb k) L (re s k)
 apart : ∀ i j, i < 3 → j < 3 → x.rb i = x.rb j → i = j
 vo : VoAt w B x.vb x.vt s.v
 way : w.ownsRow B 217 3 x.vw s.way.length (wayL s.way x.vs)
 len : x.vs.length = s.way.length
 bytes : ∀ (i : Nat) (gm : Gram) (v : Value), s.way[i]? = some gm → x.vs[i]? = some v → BAt w v gm.bytes
 low : B ≤ x.g
 lows : ∀ k, k < 3 → B ≤ x.rb k
theorem own_block {w : World} {base : Nat} {e : TypeId} {size n : Nat} {v : Value} {xs : List Value} (h : w.ownsRow base e size v n xs) {q : Nat} (hq : v.ownBlock = some q) : base ≤ q ∧ ∃ cur, Has w q e cur := by
 rcases h.2 with ⟨rfl, _⟩ | ⟨g', cap, cur, rfl, hg, hh, _⟩
 ·simp [Value.ownBlock] at hq
 ·have : g' = q := by simpa [Value.ownBlock] using hq
  subst this
  exact ⟨hg, cur, hh⟩
section
variable {w w' : World} {B : Nat} {x x' : SyX} {L : Lay} {s : Sys} {F : Nat → Prop}
theorem Has.keepT {g : Nat} {t : TypeId} {cs : Array Value} (h : Has w g t cs) (ht : Turned F w w') (hF : ∀ b, F b → Mut w b) (hn : mutT t = false) : Has w' g t cs :=
 h.turned ht fun hf => by
  obtain ⟨t', cs', h', hm⟩ := hF g hf
  have e : t = t' := by
   unfold Has at h h'
   rw [h] at h'
   injection h' with h'
   injection h' with _ ht
  rw [e, hm] at hn
  cases hn
theorem own_keepT {base : Nat} {e : TypeId} {size n : Nat} {v : Value} {xs : List Value} (h : w.ownsRow base e size v n xs) (ht : Turned F w w') (hF : ∀ b, F b → Mut w b) (hn : mutT e = false) : w'.ownsRow base e size v n xs :=
 own_keep h fun g _ _ hh => (show w'.heap[g]? = w.heap[g]? from (hh.keepT ht hF hn).trans hh.symm)
theorem CoreAt.keepT {gc : Nat} (h : CoreAt w gc L) (ht : Turned F w w') (hF : ∀ b, F b → Mut w b) : CoreAt w' gc L := by
 obtain ⟨vr, vc, a1, a2, a3⟩ := h
 exact ⟨vr, vc, a1.keepT ht hF (by decide), own_keepT a2 ht hF (by decide), own_keepT a3 ht hF (by decide)⟩
theorem RepAt.keepT {g gc : Nat} {r : Re} (h : RepAt w g gc L r) (ht : Turned F w w') (hF : ∀ b, F b → Mut w b) (hn : ¬ F g) : RepAt w' g gc L r := ⟨h.has.turned ht hn, h.core.keepT ht hF⟩
theorem SyAt.mut (h : SyAt w B x L s) {b : Nat} (hb : FS x b) : Mut w b := by
 rcases hb with rfl | ⟨k, hk, rfl⟩ | (rfl | hb) | hb
 ·exact ⟨_, _, h.has, rfl⟩
 ·exact ⟨_, _, (h.rep k hk).has, rfl⟩
 ·exact ⟨_, _, h.vo.has, rfl⟩
 ·obtain ⟨_, cur, hh⟩ := own_block h.vo.own hb
  exact ⟨_, _, hh, rfl⟩
 ·obtain ⟨_, cur, hh⟩ := own_block h.way hb
  exact ⟨_, _, hh, rfl⟩
theorem SyAt.ge (h : SyAt w B x L s) {b : Nat} (hb : FS x b) : B ≤ b := by
 rcases hb with rfl | ⟨k, hk, rfl⟩ | hb | hb
 ·exact h.low
 ·exact h.lows k hk
 ·exact h.vo.ge b hb
 ·exact (own_block h.way hb).1
theorem SyAt.lt (h : SyAt w B x L s) {b : Nat} (hb : FS x b) : b < w.heap.size := by
 obtain ⟨t, cs, hh, _⟩ := h.mut hb
 exact hh.lt
theorem SyAt.after (h : SyAt w B x L s) (hb : Below w.heap.size w w') : SyAt w' B x L s :=
 ⟨h.has.after hb, own_after h.routes hb, h.n3, fun k hk => (h.rep k hk).after hb, h.apart, h.vo.after hb, own_after h.way hb, h.len, fun i gm v h1 h2 => (h.bytes i gm v h1 h2).after hb, h.low, h.lows⟩
theorem SyAt.cell (h : SyAt w B x L s) (i : Nat) (v : Value) (hv : (syC x L s)[i]? = some v) : w.cell? ⟨x.g, i, none⟩ = some v := h.has.cellv i v hv
end
end Go.Proofs.YtdhekhlmdefcnaaGreatDoor
