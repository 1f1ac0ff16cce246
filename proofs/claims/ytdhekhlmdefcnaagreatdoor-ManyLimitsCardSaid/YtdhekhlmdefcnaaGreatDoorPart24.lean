/- Part 24 of the proof: VoMem, VoWalk, VoTake, VoTakeP, VoPlain. -/
import Derived.Test.YtdhekhlmdefcnaaGreatDoorPart16
import Derived.Test.YtdhekhlmdefcnaaGreatDoorPart20
import Derived.Test.YtdhekhlmdefcnaaGreatDoorPart18
import Derived.Test.YtdhekhlmdefcnaaGreatDoorPart17
import Derived.Test.YtdhekhlmdefcnaaGreatDoorPart19
import Derived.StillTailTactics
import Derived.Maps.AppendAt
namespace Go.Proofs.YtdhekhlmdefcnaaGreatDoor
open Go.RowKit
def vv (v : Vo) (j : Nat) : Cm × Bool := v.votes.getD j (Cm.zero, false)
def voC (vt : Value) (v : Vo) : Array Value := #[vt, I (vv v 0).1.1, I (vv v 0).1.2.1, I (vv v 0).1.2.2, .bool (vv v 0).2, I (vv v 1).1.1, I (vv v 1).1.2.1, I (vv v 1).1.2.2, .bool (vv v 1).2,
 I (vv v 2).1.1, I (vv v 2).1.2.1, I (vv v 2).1.2.2, .bool (vv v 2).2, I (v.out : Int), I v.time, I v.window, .bool v.latched]
def cmL (c : Cm) : List Value := [I c.1, I c.2.1, I c.2.2]
def cmsC (t : List Cm) : List Value := t.flatMap cmL
theorem cmsC_get : ∀ (t : List Cm) (k : Nat) (c : Cm), t[k]? = some c → (cmsC t)[3 * k]? = some (I c.1) ∧ (cmsC t)[3 * k + 1]? = some (I c.2.1) ∧ (cmsC t)[3 * k + 2]? = some (I c.2.2)
 | [], k, c, h => by simp at h
 | d :: t, 0, c, h => by
  simp at h
  subst h
  exact ⟨rfl, rfl, rfl⟩
 | d :: t, k + 1, c, h => by
  rw [List.getElem?_cons_succ] at h
  obtain ⟨h1, h2, h3⟩ := cmsC_get t k c h
  have e : cmsC (d :: t) = I d.1 :: I d.2.1 :: I d.2.2 :: cmsC t := rfl
  rw [e, show 3 * (k + 1) = 3 * k + 1 + 1 + 1 by omega]
  exact ⟨h1, h2, h3⟩
structure VoAt (w : World) (B g : Nat) (vt : Value) (v : Vo) : Prop where
 has : Has w g 162 (voC vt v)
 own : w.ownsRow B 157 3 vt v.trace.length (cmsC v.trace)
 low : B ≤ g
structure Vo.Wf (v : Vo) : Prop where
 out : v.out < 8
 votes : v.votes.length = 3
 many : v.trace.length ≤ 1000
 more : v.latched = false → v.trace.length < 1000 ∧ 1 ≤ v.time
 time : v.time ≤ 20
 low : 0 ≤ v.time
 window : 1 ≤ v.window ∧ v.window ≤ 20
def FV (g : Nat) (vt : Value) (b : Nat) : Prop := b = g ∨ vt.ownBlock = some b
theorem VoAt.turned {F : Nat → Prop} {w w' : World} {B g : Nat} {vt : Value} {v : Vo} (h : VoAt w B g vt v) (ht : Turned F w w') (hn : ∀ b, FV g vt b → ¬ F b) : VoAt w' B g vt v :=
 ⟨h.has.turned ht (hn g (.inl rfl)), own_turned h.own ht fun q hq => hn q (.inr hq), h.low⟩
theorem VoAt.after {w w' : World} {B g : Nat} {vt : Value} {v : Vo} (h : VoAt w B g vt v) (hb : Below w.heap.size w w') : VoAt w' B g vt v := ⟨h.has.after hb, own_after h.own hb, h.low⟩
theorem VoAt.ge {w : World} {B g : Nat} {vt : Value} {v : Vo} (h : VoAt w B g vt v) : ∀ b, FV g vt b → B ≤ b := by
 intro b hb
 rcases hb with rfl | hb
 ·exact h.low
 ·rcases h.own.2 with ⟨rfl, _⟩ | ⟨g', _, _, rfl, hg, _⟩
  ·simp [Value.ownBlock] at hb
  ·have : g' = b := by simpa [Value.ownBlock] using hb
   omega
theorem VoAt.slice {w : World} {B g : Nat} {vt : Value} {v : Vo} (h : VoAt w B g vt v) : ∃ A c, vt = .slice A v.trace.length c ∧ v.trace.length ≤ c ∧ ∀ k cm, v.trace[k]? = some cm → ∃ b, A = some ⟨b, 0, none⟩ ∧ vt.ownBlock = some b ∧ b < w.heap.size ∧
  w.cell? ⟨b, k * 3, none⟩ = some (I cm.1) ∧ w.cell? ⟨b, k * 3 + 1, none⟩ = some (I cm.2.1) ∧ w.cell? ⟨b, k * 3 + 2, none⟩ = some (I cm.2.2) := by
 obtain ⟨h1, h2⟩ := h.own
 rcases h2 with ⟨hv, hn⟩ | ⟨b, cap, cur, hv, hg, hh, hnc, _, _, ht⟩
 ·refine ⟨none, 0, by rw [hv, hn], by omega, fun k cm hk => ?_⟩
  have := (List.getElem?_eq_some_iff.1 hk).1
  omega
 ·refine ⟨some ⟨b, 0, none⟩, cap, hv, hnc, fun k cm hk => ?_⟩
  have hc : Has w b 157 cur := hh
  have key : ∀ j u, (cmsC v.trace)[j]? = some u → w.cell? ⟨b, j, none⟩ = some u := by
   intro j u hu
   rw [hc.cell]
   rw [← ht, List.getElem?_take] at hu
   split at hu
   ·simpa using hu
   ·cases hu
  obtain ⟨a1, a2, a3⟩ := cmsC_get _ _ _ hk
  rw [Nat.mul_comm] at a1 a2 a3
  exact ⟨b, rfl, by rw [hv]; rfl, hc.lt, key _ _ a1, key _ _ a2, key _ _ a3⟩
end Go.Proofs.YtdhekhlmdefcnaaGreatDoor
namespace Go.Proofs.YtdhekhlmdefcnaaGreatDoor
open Go.RowKit
section
variable {w : World} {B g : Nat} {vt : Value} {v : Vo}
set_option maxHeartbeats 1000000 in
theorem vo_latched (h : VoAt w B g vt v) : Calls Tryz.prog 148 #[.pointer (some ⟨g, 0, none⟩)] w fun e w' => e = .returned (.bool v.latched) ∧ w = w' := by
 have c16 := h.has.cellv 16 (.bool v.latched) rfl
 clear h
 go_enter Tryz.func148, Tryz.ntmps148
 go_wp2
 go_ret
 exact ⟨rfl, rfl⟩
set_option maxHeartbeats 1000000 in
theorem vo_out (h : VoAt w B g vt v) : Calls Tryz.prog 146 #[.pointer (some ⟨g, 0, none⟩)] w fun e w' => e = .returned (I (v.out : Int)) ∧ w = w' := by
 have c13 := h.has.cellv 13 (I (v.out : Int)) rfl
 clear h
 go_enter Tryz.func146, Tryz.ntmps146
 go_wp2
 go_ret
 exact ⟨rfl, rfl⟩
set_option maxHeartbeats 2000000 in
theorem vo_new (n : Int) (h1 : 1 ≤ n) (h2 : n ≤ 20) (w : World) : Calls Tryz.prog 61 #[I n] w fun e w' => (e = .returned (.tuple #[.pointer (some ⟨w.heap.size, 0, none⟩), .nilIface]) ∧ VoAt w' w.heap.size w.heap.size (.slice none 0 0) (Vo.new n)) ∧ Below w.heap.size w w' := by
 have k := Has.new w 162 (voC (.slice none 0 0) (Vo.new n))
 go_enter Tryz.func61, Tryz.ntmps61
 go_wp2
 go_ret2
 exact ⟨⟨rfl, k, World.ownsRow_nil _ _ _ _, Nat.le_refl _⟩, (Below.refl _ _).alloc (Nat.le_refl _) _⟩
theorem shown_last (v : Vo) (cm : Cm) (h : v.latched = false) (hc : v.trace[v.trace.length - 1]? = some cm) : voShown v = cm.2.2 := by
 unfold voShown
 rw [h, List.getLast?_eq_getElem?, hc]
 rfl
set_option maxHeartbeats 2000000 in
set_option maxRecDepth 100000 in
theorem vo_shown (h : VoAt w B g vt v) (hw : v.trace.length ≤ 1000) : Calls Tryz.prog 145 #[.pointer (some ⟨g, 0, none⟩)] w fun e w' => e = .returned (I (voShown v)) ∧ ∃ q, w.drewN q = w' := by
 obtain ⟨A, c, hvt, hc, hget⟩ := h.slice
 have c16 := h.has.cellv 16 (.bool v.latched) rfl
 have c0 : w.cell? ⟨g, 0, none⟩ = some (.slice A v.trace.length c) := by rw [← hvt]; exact h.has.cellv 0 _ rfl
 have hgl := h.has.lt
 cases hl : v.latched with
 | true =>
  have HE : Hid (voShown v = 0) := Lib.hid (by unfold voShown; rw [hl]; rfl)
  rw [hl] at c16
  clear h hget hvt hl
  go_enter Tryz.func145, Tryz.ntmps145
  go_wp2
  go_ret
  exact ⟨by rw [HE.out]; rfl, 0, rfl⟩
 | false =>
  rw [hl] at c16
  by_cases hn : v.trace.length = 0
  ·have HE : Hid (voShown v = 0) := Lib.hid (by unfold voShown; rw [hl, List.getLast?_eq_none_iff.2 (List.eq_nil_of_length_eq_zero hn)]; rfl)
   have ht : (((v.trace.length : Nat) : Int) == 0) = true := by simp; exact List.eq_nil_of_length_eq_zero hn
   clear h hget hvt hl hn
   generalize v.trace.length = n at *
   go_enter Tryz.func145, Tryz.ntmps145
   go_wp2
   go_ret
   exact ⟨by rw [HE.out]; rfl, 0, rfl⟩
  ·obtain ⟨cm, hcm⟩ := some_at v.trace (v.trace.length - 1) (by omega)
   have HE : Hid (voShown v = cm.2.2) := Lib.hid (shown_last v cm hl hcm)
   obtain ⟨b, rfl, hb, hlt, a0, a1, a2⟩ := hget _ cm hcm
   obtain ⟨m, hm⟩ : ∃ m, v.trace.length = m + 1 := ⟨v.trace.length - 1, by omega⟩
   rw [hm] at c0 a2 hc
   have e1 : m + 1 - 1 = m := rfl
   rw [e1] at a2
   have ht : ((((m + 1 : Nat)) : Int) == 0) = false := by simp; omega
   have hmi : (m : Int) < (m : Int) + 1 := by omega
   have hm1000 : m < 1000 := by omega
   clear h hget hvt hl hn hm hcm a0 a1 hb
   go_enter Tryz.func145, Tryz.ntmps145
   go_wp2
   go_quiet (fail)
   go_wp2
   go_ret
   exact ⟨by rw [HE.out]; rfl, _, rfl⟩
end
end Go.Proofs.YtdhekhlmdefcnaaGreatDoor
namespace Go.Proofs.YtdhekhlmdefcnaaGreatDoor
open Go.RowKit
section
variable {w : World} {B g : Nat} {vt : Value} {v : Vo}
end
end Go.Proofs.YtdhekhlmdefcnaaGreatDoor
namespace Go.Proofs.YtdhekhlmdefcnaaGreatDoor
open Go.RowKit
end Go.Proofs.YtdhekhlmdefcnaaGreatDoor
namespace Go.Proofs.YtdhekhlmdefcnaaGreatDoor
theorem voNew_wf {n : Int} (h1 : 1 ≤ n) (h2 : n ≤ 20) : (Vo.new n).Wf :=
 ⟨by show (0 : Nat) < 8; decide, rfl, by show ([] : List Cm).length ≤ 1000; simp, fun _ => ⟨by show ([] : List Cm).length < 1000; simp, h1⟩, h2, by show 0 ≤ n; omega, ⟨h1, h2⟩⟩
end Go.Proofs.YtdhekhlmdefcnaaGreatDoor
