/- Part 22 of the proof: VoMem, VoWalk, VoTake, VoTakeP, VoPlain. -/
import Derived.Test.YtdhekhlmdefcnabGreatDoorPart10
import Derived.Test.YtdhekhlmdefcnabGreatDoorPart17
import Derived.Test.YtdhekhlmdefcnabGreatDoorPart16
import Derived.Test.YtdhekhlmdefcnabGreatDoorPart13
import Derived.Test.YtdhekhlmdefcnabGreatDoorPart8
import Derived.StillTailTactics
import Derived.Maps.AppendAt
namespace Go.Proofs.YtdhekhlmdefcnabGreatDoor
open Go.RowKit
def vv (v : Vo) (j : Nat) : Cm × Bool := v.votes.getD j (Cm.zero, false)
def voC (vt : Value) (v : Vo) : Array Value := #[vt, I (vv v 0).1.1, I (vv v 0).1.2.1, I (vv v 0).1.2.2, .bool (vv v 0).2, I (vv v 1).1.1, I (vv v 1).1.2.1, I (vv v 1).1.2.2, .bool (vv v 1).2,
 I (vv v 2).1.1, I (vv v 2).1.2.1, I (vv v 2).1.2.2, .bool (vv v 2).2, I (v.out : Int), I v.time, I v.window, .bool v.latched]
def cmL (c : Cm) : List Value := [I c.1, I c.2.1, I c.2.2]
def cmsC (t : List Cm) : List Value := t.flatMap cmL
theorem cmsC_get : ∀ (t : List Cm) (k : Nat) (c : Cm), t[k]? = some c → (cmsC t)[3 * k]? = some (I c.1) ∧ (cmsC t)[3 * k + 1]? = some (I c.2.1) ∧ (cmsC t)[3 * k + 2]? = some (I c.2.2)
 | [], k, c, h => by simp at h
 | d :: t, 0, c, h => by
  simp at h
  subst h
  exact ⟨rfl, rfl, rfl⟩
 | d :: t, k + 1, c, h => by
  rw [List.getElem?_cons_succ] at h
  obtain ⟨h1, h2, h3⟩ := cmsC_get t k c h
  have e : cmsC (d :: t) = I d.1 :: I d.2.1 :: I d.2.2 :: cmsC t := rfl
  rw [e, show 3 * (k + 1) = 3 * k + 1 + 1 + 1 by omega]
  exact ⟨h1, h2, h3⟩
theorem cmsC_snoc (t : List Cm) (c : Cm) : cmsC (t ++ [c]) = cmsC t ++ [I c.1, I c.2.1, I c.2.2] := by simp [cmsC, cmL]
structure VoAt (w : World) (B g : Nat) (vt : Value) (v : Vo) : Prop where
 has : Has w g 94 (voC vt v)
 own : w.ownsRow B 42 3 vt v.trace.length (cmsC v.trace)
 low : B ≤ g
structure Vo.Wf (v : Vo) : Prop where
 out : v.out < 8
 votes : v.votes.length = 3
 many : v.trace.length ≤ 1000
 more : v.latched = false → v.trace.length < 1000 ∧ 1 ≤ v.time
 time : v.time ≤ 20
 low : 0 ≤ v.time
 window : 1 ≤ v.window ∧ v.window ≤ 20
def FV (g : Nat) (vt : Value) (b : Nat) : Prop := b = g ∨ vt.ownBlock = some b
theorem VoAt.turned {F : Nat → Prop} {w w' : World} {B g : Nat} {vt : Value} {v : Vo} (h : VoAt w B g vt v) (ht : Turned F w w') (hn : ∀ b, FV g vt b → ¬ F b) : VoAt w' B g vt v :=
 ⟨h.has.turned ht (hn g (.inl rfl)), own_turned h.own ht fun q hq => hn q (.inr hq), h.low⟩
theorem VoAt.after {w w' : World} {B g : Nat} {vt : Value} {v : Vo} (h : VoAt w B g vt v) (hb : Below w.heap.size w w') : VoAt w' B g vt v := ⟨h.has.after hb, own_after h.own hb, h.low⟩
theorem VoAt.ge {w : World} {B g : Nat} {vt : Value} {v : Vo} (h : VoAt w B g vt v) : ∀ b, FV g vt b → B ≤ b := by
 intro b hb
 rcases hb with rfl | hb
 ·exact h.low
 ·rcases h.own.2 with ⟨rfl, _⟩ | ⟨g', _, _, rfl, hg, _⟩
  ·simp [Value.ownBlock] at hb
  ·have : g' = b := by simpa [Value.ownBlock] using hb
   omega
theorem VoAt.slice {w : World} {B g : Nat} {vt : Value} {v : Vo} (h : VoAt w B g vt v) : ∃ A c, vt = .slice A v.trace.length c ∧ v.trace.length ≤ c ∧ ∀ k cm, v.trace[k]? = some cm → ∃ b, A = some ⟨b, 0, none⟩ ∧ vt.ownBlock = some b ∧ b < w.heap.size ∧
  w.cell? ⟨b, k * 3, none⟩ = some (I cm.1) ∧ w.cell? ⟨b, k * 3 + 1, none⟩ = some (I cm.2.1) ∧ w.cell? ⟨b, k * 3 + 2, none⟩ = some (I cm.2.2) := by
 obtain ⟨h1, h2⟩ := h.own
 rcases h2 with ⟨hv, hn⟩ | ⟨b, cap, cur, hv, hg, hh, hnc, _, _, ht⟩
 ·refine ⟨none, 0, by rw [hv, hn], by omega, fun k cm hk => ?_⟩
  have := (List.getElem?_eq_some_iff.1 hk).1
  omega
 ·refine ⟨some ⟨b, 0, none⟩, cap, hv, hnc, fun k cm hk => ?_⟩
  have hc : Has w b 42 cur := hh
  have key : ∀ j u, (cmsC v.trace)[j]? = some u → w.cell? ⟨b, j, none⟩ = some u := by
   intro j u hu
   rw [hc.cell]
   rw [← ht, List.getElem?_take] at hu
   split at hu
   ·simpa using hu
   ·cases hu
  obtain ⟨a1, a2, a3⟩ := cmsC_get _ _ _ hk
  rw [Nat.mul_comm] at a1 a2 a3
  exact ⟨b, rfl, by rw [hv]; rfl, hc.lt, key _ _ a1, key _ _ a2, key _ _ a3⟩
end Go.Proofs.YtdhekhlmdefcnabGreatDoor
namespace Go.Proofs.YtdhekhlmdefcnabGreatDoor
open Go.RowKit
section
variable {w : World} {B g : Nat} {vt : Value} {v : Vo}
set_option maxHeartbeats 1000000 in
theorem vo_latch (h : VoAt w B g vt v) : Calls Tryz.prog 131 #[.pointer (some ⟨g, 0, none⟩)] w fun e w' => e = .returned (.tuple #[]) ∧ VoAt w' B g vt { v with latched := true } ∧ Turned (FV g vt) w w' := by
 have c16 := h.has.cellv 16 (.bool v.latched) rfl
 have f16 := h.has.free 16
 have k := h.has.set 16 (.bool true)
 have ko : (w.setCell ⟨g, 16, none⟩ (.bool true)).ownsRow B 42 3 vt v.trace.length (cmsC v.trace) := own_far h.own h.has (by decide) _ _
 have kt : Turned (FV g vt) w (w.setCell ⟨g, 16, none⟩ (.bool true)) := (Turned.refl _ _).setCell _ _ (.inl (.inl rfl))
 have hl := h.low
 clear h
 go_enter Tryz.func131, Tryz.ntmps131
 go_wp2
 go_end0
 exact ⟨rfl, ⟨k, ko, hl⟩, kt⟩
set_option maxHeartbeats 1000000 in
theorem vo_latched (h : VoAt w B g vt v) : Calls Tryz.prog 139 #[.pointer (some ⟨g, 0, none⟩)] w fun e w' => e = .returned (.bool v.latched) ∧ w = w' := by
 have c16 := h.has.cellv 16 (.bool v.latched) rfl
 clear h
 go_enter Tryz.func139, Tryz.ntmps139
 go_wp2
 go_ret
 exact ⟨rfl, rfl⟩
set_option maxHeartbeats 1000000 in
theorem vo_out (h : VoAt w B g vt v) : Calls Tryz.prog 137 #[.pointer (some ⟨g, 0, none⟩)] w fun e w' => e = .returned (I (v.out : Int)) ∧ w = w' := by
 have c13 := h.has.cellv 13 (I (v.out : Int)) rfl
 clear h
 go_enter Tryz.func137, Tryz.ntmps137
 go_wp2
 go_ret
 exact ⟨rfl, rfl⟩
set_option maxHeartbeats 2000000 in
theorem vo_tick (h : VoAt w B g vt v) (hw : v.Wf) : Calls Tryz.prog 40 #[.pointer (some ⟨g, 0, none⟩)] w fun e w' => e = .returned (.tuple #[]) ∧ VoAt w' B g vt (voTick v) ∧ Turned (FV g vt) w w' := by
 have c16 := h.has.cellv 16 (.bool v.latched) rfl
 have f16 := h.has.free 16
 have c14 := h.has.cellv 14 (I v.time) rfl
 have f14 := h.has.free 14
 have hl := h.low
 have HH := Lib.hid h
 clear h
 cases hla : v.latched with
 | true =>
  rw [hla] at c16
  have HE : Hid (voTick v = v) := Lib.hid (by unfold voTick; rw [hla]; rfl)
  clear hla
  go_enter Tryz.func40, Tryz.ntmps40
  go_wp2
  exact bodyPost_ret (results_none rfl _ _ _) rfl ⟨rfl, by rw [HE.out]; exact HH.out, Turned.refl _ _⟩
 | false =>
  rw [hla] at c16
  obtain ⟨_, h1⟩ := hw.more hla
  have h20 := hw.time
  by_cases ht : v.time - 1 = 0
  ·have HE : Hid (voTick v = { v with time := v.time - 1, latched := true }) := Lib.hid (by unfold voTick; rw [hla, if_pos ht]; rfl)
   have hte : (v.time - 1 == 0) = true := by simpa using ht
   have k := (HH.out.has.set 14 (I (v.time - 1))).set 16 (.bool true)
   have ko : ((w.setCell ⟨g, 14, none⟩ (I (v.time - 1))).setCell ⟨g, 16, none⟩ (.bool true)).ownsRow B 42 3 vt v.trace.length (cmsC v.trace) := own_far (own_far HH.out.own HH.out.has (by decide) _ _) (HH.out.has.set 14 _) (by decide) _ _
   have kt : Turned (FV g vt) w ((w.setCell ⟨g, 14, none⟩ (I (v.time - 1))).setCell ⟨g, 16, none⟩ (.bool true)) := ((Turned.refl _ _).setCell _ _ (.inl (.inl rfl))).setCell _ _ (.inl (.inl rfl))
   have K := Lib.hid k
   have KO := Lib.hid ko
   have KT := Lib.hid kt
   clear hla ht k ko kt hw
   generalize v.time = t at *
   go_enter Tryz.func40, Tryz.ntmps40
   go_wp2
   go_end0
   exact ⟨rfl, by rw [HE.out]; exact ⟨K.out, KO.out, hl⟩, KT.out⟩
  ·have HE : Hid (voTick v = { v with time := v.time - 1 }) := Lib.hid (by unfold voTick; rw [hla, if_neg ht]; rfl)
   have hte : (v.time - 1 == 0) = false := by simpa using ht
   have k := HH.out.has.set 14 (I (v.time - 1))
   have ko : (w.setCell ⟨g, 14, none⟩ (I (v.time - 1))).ownsRow B 42 3 vt v.trace.length (cmsC v.trace) := own_far HH.out.own HH.out.has (by decide) _ _
   have kt : Turned (FV g vt) w (w.setCell ⟨g, 14, none⟩ (I (v.time - 1))) := (Turned.refl _ _).setCell _ _ (.inl (.inl rfl))
   have K := Lib.hid k
   have KO := Lib.hid ko
   have KT := Lib.hid kt
   clear hla ht k ko kt hw
   generalize v.time = t at *
   go_enter Tryz.func40, Tryz.ntmps40
   go_wp2
   go_end0
   exact ⟨rfl, by rw [HE.out]; exact ⟨K.out, KO.out, hl⟩, KT.out⟩
set_option maxHeartbeats 2000000 in
set_option maxRecDepth 100000 in
theorem vo_done (h : VoAt w B g vt v) (k : Nat) (hk : k < v.trace.length) : Calls Tryz.prog 109 #[.pointer (some ⟨g, 0, none⟩), I k] w fun e w' => e = .returned (.agg (frC (voDone v k))) ∧ Below w.heap.size w w' := by
 obtain ⟨A, c, hvt, hc, hget⟩ := h.slice
 obtain ⟨cm, hcm⟩ : ∃ cm, v.trace[k]? = some cm := ⟨_, List.getElem?_eq_getElem hk⟩
 obtain ⟨b, rfl, hb, hlt, a0, a1, a2⟩ := hget k cm hcm
 have hE : frC (voDone v k) = #[I 3, I 3, I k, I cm.1, I cm.2.1, I cm.2.2, I 0, I 0, I 0, I 0, I 0, I 0, I 0, I 0, I 0, I 0, I 0, I 0, I 0, I 0, I 0, I 0, I 0] := by
  unfold voDone
  rw [List.getD_eq_getElem?_getD, hcm]
  rfl
 have c0 : w.cell? ⟨g, 0, none⟩ = some (.slice (some ⟨b, 0, none⟩) v.trace.length c) := by rw [← hvt]; exact h.has.cellv 0 _ rfl
 have hgl := h.has.lt
 have HE := Lib.hid hE
 generalize v.trace.length = n at *
 clear h hget hvt hcm hE hb
 have hki : (k : Int) < (n : Int) := by omega
 go_enter Tryz.func109, Tryz.ntmps109
 go_upto_region 1 with (fail)
 have k2 : Has (w.alloc (.cells #[I 0, I 0, I 0, I 0, I 0, I 0, I 0, I 0, I 0, I 0, I 0, I 0, I 0, I 0, I 0, I 0, I 0, I 0, I 0, I 0, I 0, I 0, I 0] 110)) w.heap.size 110 (frC zeroF) := by rw [zeroFrame]; exact Has.new _ _ _
 have hb : Below w.heap.size w (w.alloc (.cells #[I 0, I 0, I 0, I 0, I 0, I 0, I 0, I 0, I 0, I 0, I 0, I 0, I 0, I 0, I 0, I 0, I 0, I 0, I 0, I 0, I 0, I 0, I 0] 110)) := (Below.refl _ _).alloc (Nat.le_refl _) _
 have d0 := (hb.cell (p := ⟨g, 0, none⟩) hgl).trans c0
 have d1 := (hb.cell (p := ⟨b, k * 3, none⟩) hlt).trans a0
 have d2 := (hb.cell (p := ⟨b, k * 3 + 1, none⟩) hlt).trans a1
 have d3 := (hb.cell (p := ⟨b, k * 3 + 2, none⟩) hlt).trans a2
 clear c0 a0 a1 a2
 generalize w.alloc (.cells #[I 0, I 0, I 0, I 0, I 0, I 0, I 0, I 0, I 0, I 0, I 0, I 0, I 0, I 0, I 0, I 0, I 0, I 0, I 0, I 0, I 0, I 0, I 0] 110) = w1 at *
 generalize hG : w.heap.size = g4 at *
 have HG := Lib.hid hG
 clear hG
 go_still_tail 18, (by kernel_rfl)
 change wpList _ _ _ _ _ w1.drew
 have hs1 : (Tryz.prog.info? 110).map (·.size) = some (frC (voDone v k)).size := by rw [HE.out]; exact infoFrame
 have hs2 : (frC zeroF).size = (frC (voDone v k)).size := by rw [HE.out]; rfl
 have k3 := k2.drew
 refine wpList_store_row rfl 110 (.tmp 4) (.tmp 22) rfl g4 (frC (voDone v k)) rfl (by rw [HE.out]; rfl) 110 _ k3 hs1 hs2 (frC_one _) ?_
 have hb5 := below_setRow (hb.drew) (Nat.le_refl _) (frC (voDone v k))
 have k4 := k3.setRow (frC (voDone v k))
 clear k3 k2 hb
 generalize (w1.drew.setRow g4 (frC (voDone v k))) = w2 at *
 go_wp2
 exact bodyPost_ret (results_cell_row rfl _ _ g4 _ (frC (voDone v k)) _ _ rfl k4 Tryz.underlying110 rfl hs1) rfl ⟨rfl, HG.out ▸ hb5⟩
set_option maxHeartbeats 2000000 in
theorem vo_new (n : Int) (h1 : 1 ≤ n) (h2 : n ≤ 20) (w : World) : Calls Tryz.prog 20 #[I n] w fun e w' => (e = .returned (.tuple #[.pointer (some ⟨w.heap.size, 0, none⟩), .nilIface]) ∧ VoAt w' w.heap.size w.heap.size (.slice none 0 0) (Vo.new n)) ∧ Below w.heap.size w w' := by
 have k := Has.new w 94 (voC (.slice none 0 0) (Vo.new n))
 go_enter Tryz.func20, Tryz.ntmps20
 go_wp2
 go_ret2
 exact ⟨⟨rfl, k, World.ownsRow_nil _ _ _ _, Nat.le_refl _⟩, (Below.refl _ _).alloc (Nat.le_refl _) _⟩
theorem shown_last (v : Vo) (cm : Cm) (h : v.latched = false) (hc : v.trace[v.trace.length - 1]? = some cm) : voShown v = cm.2.2 := by
 unfold voShown
 rw [h, List.getLast?_eq_getElem?, hc]
 rfl
set_option maxHeartbeats 2000000 in
set_option maxRecDepth 100000 in
theorem vo_shown (h : VoAt w B g vt v) (hw : v.trace.length ≤ 1000) : Calls Tryz.prog 136 #[.pointer (some ⟨g, 0, none⟩)] w fun e w' => e = .returned (I (voShown v)) ∧ ∃ q, w.drewN q = w' := by
 obtain ⟨A, c, hvt, hc, hget⟩ := h.slice
 have c16 := h.has.cellv 16 (.bool v.latched) rfl
 have c0 : w.cell? ⟨g, 0, none⟩ = some (.slice A v.trace.length c) := by rw [← hvt]; exact h.has.cellv 0 _ rfl
 have hgl := h.has.lt
 cases hl : v.latched with
 | true =>
  have HE : Hid (voShown v = 0) := Lib.hid (by unfold voShown; rw [hl]; rfl)
  rw [hl] at c16
  clear h hget hvt hl
  go_enter Tryz.func136, Tryz.ntmps136
  go_wp2
  go_ret
  exact ⟨by rw [HE.out]; rfl, 0, rfl⟩
 | false =>
  rw [hl] at c16
  by_cases hn : v.trace.length = 0
  ·have HE : Hid (voShown v = 0) := Lib.hid (by unfold voShown; rw [hl, List.getLast?_eq_none_iff.2 (List.eq_nil_of_length_eq_zero hn)]; rfl)
   have ht : (((v.trace.length : Nat) : Int) == 0) = true := by simp; exact List.eq_nil_of_length_eq_zero hn
   clear h hget hvt hl hn
   generalize v.trace.length = n at *
   go_enter Tryz.func136, Tryz.ntmps136
   go_wp2
   go_ret
   exact ⟨by rw [HE.out]; rfl, 0, rfl⟩
  ·obtain ⟨cm, hcm⟩ := some_at v.trace (v.trace.length - 1) (by omega)
   have HE : Hid (voShown v = cm.2.2) := Lib.hid (shown_last v cm hl hcm)
   obtain ⟨b, rfl, hb, hlt, a0, a1, a2⟩ := hget _ cm hcm
   obtain ⟨m, hm⟩ : ∃ m, v.trace.length = m + 1 := ⟨v.trace.length - 1, by omega⟩
   rw [hm] at c0 a2 hc
   have e1 : m + 1 - 1 = m := rfl
   rw [e1] at a2
   have ht : ((((m + 1 : Nat)) : Int) == 0) = false := by simp; omega
   have hmi : (m : Int) < (m : Int) + 1 := by omega
   have hm1000 : m < 1000 := by omega
   clear h hget hvt hl hn hm hcm a0 a1 hb
   go_enter Tryz.func136, Tryz.ntmps136
   go_wp2
   go_quiet (fail)
   go_wp2
   go_ret
   exact ⟨by rw [HE.out]; rfl, _, rfl⟩
end
end Go.Proofs.YtdhekhlmdefcnabGreatDoor
namespace Go.Proofs.YtdhekhlmdefcnabGreatDoor
open Go.RowKit
theorem infoCm : (Tryz.prog.info? 42).map (fun i => (i.zero, i.size, i.bytes)) = some (some (.agg #[.int .i64 0, .int .i64 0, .int .i64 0]), 3, 24) := by kernel_rfl
theorem cmsC_one (t : List Cm) : ∀ u ∈ cmsC t, u.oneCell' = true := by
 intro u hu
 unfold cmsC at hu
 obtain ⟨c, _, hc⟩ := List.mem_flatMap.1 hu
 simp [cmL] at hc
 rcases hc with rfl | rfl | rfl <;> rfl
section
variable {w : World} {B g : Nat} {vt : Value} {v : Vo}
set_option maxHeartbeats 2000000 in
set_option maxRecDepth 100000 in
theorem vo_trace (h : VoAt w B g vt v) (hw : v.trace.length ≤ 1000) : Calls Tryz.prog 26 #[.pointer (some ⟨g, 0, none⟩)] w fun e w' => (∃ vr, e = .returned vr ∧ w'.ownsRow w.heap.size 42 3 vr v.trace.length (cmsC v.trace)) ∧ Below w.heap.size w w' := by
 obtain ⟨i0, hi0, hz0, hz1, hz2⟩ := info_parts infoCm
 obtain ⟨A, c, hvt, hc, hlen, hA, hR⟩ := own_read h.own
 have c0 : w.cell? ⟨g, 0, none⟩ = some (.slice A v.trace.length c) := by rw [← hvt]; exact h.has.cellv 0 _ rfl
 have hgl := h.has.lt
 have HA := Lib.hid hA
 have HR := Lib.hid hR
 have HL := Lib.hid hlen
 clear h hvt hA hR hlen
 generalize v.trace.length = n at *
 go_enter Tryz.func26, Tryz.ntmps26
 go_wp2_with (at_builtin; go_loud (refine wpList_append_read rfl (.tmp 3) (.tmp 7) 39 rfl w.heap.size 42 i0 (.agg #[.int .i64 0, .int .i64 0, .int .i64 0]) 3 24 Tryz.underlying39 hi0 hz0 hz1 hz2 rfl (by decide) _ _ _ rfl (World.ownsRow_lit w #[] 0 (Nat.le_refl _) (Nat.zero_le _) rfl) w.heap.size A n c (cmsC v.trace) rfl HA.out HL.out ?c2 (cmsC_one _) ?c3 ?c4 ?c5 ?_))
 case c2 => exact HR.out.alloc (Nat.le_refl _) _
 case c3 => unfold maxLen; omega
 case c4 => omega
 case c5 => simp
 intro v1 w1 hown1 hgrow1
 have hb1 : Below w.heap.size w w1 := ((Below.refl _ _).alloc (Nat.le_refl _) _).grown hgrow1 (by simp) (fun q hq => by simp [Value.ownBlock] at hq; omega)
 have HO1 : Hid (w1.ownsRow w.heap.size 42 3 v1 n (cmsC v.trace)) := Lib.hid (by simpa using hown1)
 have HB := Lib.hid hb1
 clear hown1 hgrow1 hb1
 go_wp2
 go_ret
 exact ⟨⟨_, rfl, HO1.out⟩, HB.out⟩
theorem index_vote0 (a0 a1 a2 a3 a4 a5 a6 a7 a8 a9 a10 a11 : Value) (w : World) : (Instr.index 92 (.agg #[a0, a1, a2, a3, a4, a5, a6, a7, a8, a9, a10, a11]) (.int .i64 0)).run Tryz.prog w = .ok (.agg #[a0, a1, a2, a3]) w := by kernel_rfl
theorem index_vote1 (a0 a1 a2 a3 a4 a5 a6 a7 a8 a9 a10 a11 : Value) (w : World) : (Instr.index 92 (.agg #[a0, a1, a2, a3, a4, a5, a6, a7, a8, a9, a10, a11]) (.int .i64 1)).run Tryz.prog w = .ok (.agg #[a4, a5, a6, a7]) w := by kernel_rfl
theorem index_vote2 (a0 a1 a2 a3 a4 a5 a6 a7 a8 a9 a10 a11 : Value) (w : World) : (Instr.index 92 (.agg #[a0, a1, a2, a3, a4, a5, a6, a7, a8, a9, a10, a11]) (.int .i64 2)).run Tryz.prog w = .ok (.agg #[a8, a9, a10, a11]) w := by kernel_rfl
theorem voOut_lt (votes : List (Cm × Bool)) (c : Cm) (out : Nat) (h : out < 8) : ∀ k, k ≤ 3 → voOut votes c out k < 8
 | 0, _ => h
 | k + 1, hk => by
  have ih := voOut_lt votes c out h k (by omega)
  rw [voOut]
  split
  ·exact Nat.or_lt_two_pow (n := 3) ih (by rw [Nat.shiftLeft_eq, Nat.one_mul]; exact Nat.pow_lt_pow_right (by decide) (by omega))
  ·exact ih
def othB (x : Cm × Bool) (c : Cm) : Bool := x.2 && decide (x.1.1 = c.1) && decide (x.1.2.1 = c.2.1) && !decide (x.1.2.2 = c.2.2)
theorem voOut_succ (v : Vo) (c : Cm) (out k : Nat) : voOut v.votes c out (k + 1) = if othB (vv v k) c then voOut v.votes c out k ||| 1 <<< k else voOut v.votes c out k := by
 rw [voOut]
 unfold othB vv
 by_cases h : (v.votes.getD k (Cm.zero, false)).2 = true ∧ (v.votes.getD k (Cm.zero, false)).1.1 = c.1 ∧ (v.votes.getD k (Cm.zero, false)).1.2.1 = c.2.1 ∧ (v.votes.getD k (Cm.zero, false)).1.2.2 ≠ c.2.2
 ·obtain ⟨h1, h2, h3, h4⟩ := h
  rw [if_pos ⟨h1, h2, h3, h4⟩, if_pos (by simp only [Bool.and_eq_true, decide_eq_true_eq, Bool.not_eq_true', decide_eq_false_iff_not]; exact ⟨⟨⟨h1, h2⟩, h3⟩, h4⟩)]
 ·rw [if_neg h, if_neg]
  intro h2
  apply h
  simp only [Bool.and_eq_true, decide_eq_true_eq, Bool.not_eq_true', decide_eq_false_iff_not] at h2
  exact ⟨h2.1.1.1, h2.1.1.2, h2.1.2, h2.2⟩
def voD (vt : Value) (x0 x1 x2 : Cm × Bool) (out : Nat) (time window : Int) (latched : Bool) : Array Value := #[vt, I x0.1.1, I x0.1.2.1, I x0.1.2.2, .bool x0.2, I x1.1.1, I x1.1.2.1, I x1.1.2.2, .bool x1.2,
 I x2.1.1, I x2.1.2.1, I x2.1.2.2, .bool x2.2, I (out : Int), I time, I window, .bool latched]
theorem voD_clear (vt : Value) (x0 x1 x2 : Cm × Bool) (o : Nat) (t wi : Int) (la : Bool) : ((((((((((((((voD vt x0 x1 x2 o t wi la).setIfInBounds 1 (I 0)).setIfInBounds 2 (I 0)).setIfInBounds 3 (I 0)).setIfInBounds 4 (.bool false)).setIfInBounds 5 (I 0)).setIfInBounds 6 (I 0)).setIfInBounds 7 (I 0)).setIfInBounds 8 (.bool false)).setIfInBounds 9 (I 0)).setIfInBounds 10 (I 0)).setIfInBounds 11 (I 0)).setIfInBounds 12 (.bool false)).setIfInBounds 14 (I wi)) = voD vt (Cm.zero, false) (Cm.zero, false) (Cm.zero, false) o wi wi la := by
 simp only [voD, List.setIfInBounds_toArray, List.set_cons_succ, List.set_cons_zero]
 rfl
set_option maxHeartbeats 4000000 in
set_option maxRecDepth 100000 in
theorem vo_commits (h : VoAt w B g vt v) (hw : v.Wf) (hn : v.trace.length < 1000) (_hB : B ≤ w.heap.size) (c : Cm) : Calls Tryz.prog 110 #[.pointer (some ⟨g, 0, none⟩), .agg #[I c.1, I c.2.1, I c.2.2]] w fun e w' =>
  (∃ gr, e = .returned (.slice (some ⟨gr, 0, none⟩) 1 1) ∧ w.heap.size ≤ gr ∧ Has w' gr 110 (frC (voDone (voCommits v c) v.trace.length))) ∧
  (∃ vt', VoAt w' B g vt' (voCommits v c) ∧ (vt'.ownBlock = vt.ownBlock ∨ ∃ b, w.heap.size ≤ b ∧ vt'.ownBlock = some b)) ∧ Turned (FV g vt) w w' := by
 obtain ⟨i0, hi0, hz0, hz1, hz2⟩ := info_parts infoCm
 have kd : Has w g 94 (voD vt (vv v 0) (vv v 1) (vv v 2) v.out v.time v.window v.latched) := h.has
 have H0 := Lib.hid (voOut_succ v c v.out 0)
 have H1 := Lib.hid (voOut_succ v c v.out 1)
 have H2 := Lib.hid (voOut_succ v c v.out 2)
 have HLT := Lib.hid (voOut_lt v.votes c v.out hw.out)
 have HOW := Lib.hid h.own
 have hlow := h.low
 have HW := Lib.hid hw
 have hz : voOut v.votes c v.out 0 = v.out := rfl
 have HZ := Lib.hid hz
 clear h hw hz
 generalize vv v 0 = x0 at *
 generalize vv v 1 = x1 at *
 generalize vv v 2 = x2 at *
 have hg1 := kd.lt
 have k1 := kd.alloc (.cells #[I c.1, I c.2.1, I c.2.2] 42)
 have kb := Has.new w 42 #[I c.1, I c.2.1, I c.2.2]
 have ho1 := Lib.hid (HOW.out.alloc (.cells #[I c.1, I c.2.1, I c.2.2] 42))
 have ht1 : Turned (FV g vt) w (w.alloc (.cells #[I c.1, I c.2.1, I c.2.2] 42)) := (Turned.refl _ _).alloc _
 have HT1 := Lib.hid ht1
 have hs1 : (w.alloc (.cells #[I c.1, I c.2.1, I c.2.2] 42)).heap.size = w.heap.size + 1 := by simp
 have HS1 : Hid (w.heap.size ≤ (w.alloc (.cells #[I c.1, I c.2.1, I c.2.2] 42)).heap.size) := Lib.hid (by omega)
 clear ht1 hs1 kd
 go_enter Tryz.func110, Tryz.ntmps110
 go_upto_region 1 with (fail)
 generalize w.alloc (.cells #[I c.1, I c.2.1, I c.2.2] 42) = w1 at *
 have c1 := k1.cellv 1 (I x0.1.1) rfl
 have c2 := k1.cellv 2 (I x0.1.2.1) rfl
 have c3 := k1.cellv 3 (I x0.1.2.2) rfl
 have c4 := k1.cellv 4 (.bool x0.2) rfl
 have c5 := k1.cellv 5 (I x1.1.1) rfl
 have c6 := k1.cellv 6 (I x1.1.2.1) rfl
 have c7 := k1.cellv 7 (I x1.1.2.2) rfl
 have c8 := k1.cellv 8 (.bool x1.2) rfl
 have c9 := k1.cellv 9 (I x2.1.1) rfl
 have c10 := k1.cellv 10 (I x2.1.2.1) rfl
 have c11 := k1.cellv 11 (I x2.1.2.2) rfl
 have c12 := k1.cellv 12 (.bool x2.2) rfl
 go_wp2_with fail
 clear c1 c2 c3 c4 c5 c6 c7 c8 c9 c10 c11 c12
 generalize hG : w.heap.size = g0 at *
 have HG := Lib.hid hG
 clear hG
 go_loopw [11] (fun i wr => ∃ k : Nat, k ≤ 3 ∧ i = I k ∧ Has wr g 94 (voD vt x0 x1 x2 (voOut v.votes c v.out k) v.time v.window v.latched) ∧ Has wr g0 42 #[I c.1, I c.2.1, I c.2.2] ∧ Hid (wr.ownsRow B 42 3 vt v.trace.length (cmsC v.trace)) ∧ Hid (Turned (FV g vt) w wr) ∧ w1.heap.size ≤ wr.heap.size) (fun i _ => 3 - (intOf i).toNat)
 case atStart => exact ⟨0, by omega, rfl, k1, kb, ho1, HT1, Nat.le_refl _⟩
 case round =>
  clear k1 kb ho1 HT1
  obtain ⟨k, hk, rfl, ka, kb, ho, HT, hsz⟩ := hrel
  by_cases hlt : k < 3
  ·have hcase : k = 0 ∨ k = 1 ∨ k = 2 := by omega
   have hga := ka.lt
   have hgb := kb.lt
   have b0 := kb.cellv 0 _ rfl
   have b1 := kb.cellv 1 _ rfl
   have b2 := kb.cellv 2 _ rfl
   have o13 := ka.cellv 13 (I (voOut v.votes c v.out k)) rfl
   have f13 := ka.free 13
   have hq8 := HLT.out k (by omega)
   rcases hcase with rfl | rfl | rfl
   ·have hix := index_vote0 (I x0.1.1) (I x0.1.2.1) (I x0.1.2.2) (.bool x0.2) (I x1.1.1) (I x1.1.2.1) (I x1.1.2.2) (.bool x1.2) (I x2.1.1) (I x2.1.2.1) (I x2.1.2.2) (.bool x2.2) wr
    obtain ⟨⟨y0, y1, y2⟩, yf⟩ := x0
    cases yf with
    | false =>
     have HE : Hid (voOut v.votes c v.out (0 + 1) = voOut v.votes c v.out 0) := Lib.hid (by rw [H0.out, if_neg]; unfold othB; simp)
     go_wp2_with fail
     go_roundw
     case rel => exact ⟨1, by omega, by rfl, by rw [HE.out]; exact ka.alloc _, kb.alloc _, Lib.hid (ho.out.alloc _), Lib.hid (HT.out.alloc _), by simp; omega⟩
     case measure => simp [intOf]
    | true =>
     by_cases h0 : y0 = c.1
     ·subst h0
      by_cases h1 : y1 = c.2.1
      ·subst h1
       by_cases h2 : y2 = c.2.2
       ·subst h2
        have HE : Hid (voOut v.votes c v.out (0 + 1) = voOut v.votes c v.out 0) := Lib.hid (by rw [H0.out, if_neg]; unfold othB; simp)
        go_wp2_with fail
        go_roundw
        case rel => exact ⟨1, by omega, by rfl, by rw [HE.out]; exact ka.alloc _, kb.alloc _, Lib.hid (ho.out.alloc _), Lib.hid (HT.out.alloc _), by simp; omega⟩
        case measure => simp [intOf]
       ·have h2n : (y2 != c.2.2) = true := by simpa using h2
        have HE : Hid (voOut v.votes c v.out (0 + 1) = voOut v.votes c v.out 0 ||| 1 <<< 0) := Lib.hid (by rw [H0.out, if_pos]; unfold othB; simp [h2])
        have hq : bits .or .i64 ((voOut v.votes c v.out 0 : Nat) : Int) 1 = ((voOut v.votes c v.out 0 ||| 1 <<< 0 : Nat) : Int) := or_i64 (voOut v.votes c v.out 0) (1 <<< 0) (by omega) (by decide)
        have HQ := Lib.hid hq
        clear h2 hq
        go_wp2_with fail
        go_region
        all_goals
         go_wp2_with fail
         go_roundw
         case rel =>
          refine ⟨1, by omega, by rfl, ?_, ((kb.far (kb.ne ka (by decide)) _).alloc _).drew, Lib.hid ((own_far ho.out ka (by decide) _ _).alloc _).drew, Lib.hid (((HT.out.setCell _ _ (.inl (.inl rfl))).alloc _).drew), by simp; omega⟩
          rw [HE.out]
          show Has _ g 94 ((voD vt ((c.1, c.2.1, y2), true) x1 x2 (voOut v.votes c v.out 0) v.time v.window v.latched).setIfInBounds 13 (I ((voOut v.votes c v.out 0 ||| 1 <<< 0 : Nat) : Int)))
          rw [← HQ.out]
          exact ((ka.set 13 _).alloc _).drew
         case measure => simp [intOf]
      ·have h1n : (y1 == c.2.1) = false := by simpa using h1
       have HE : Hid (voOut v.votes c v.out (0 + 1) = voOut v.votes c v.out 0) := Lib.hid (by rw [H0.out, if_neg]; unfold othB; simp [h1])
       go_wp2_with fail
       go_roundw
       case rel => exact ⟨1, by omega, by rfl, by rw [HE.out]; exact ka.alloc _, kb.alloc _, Lib.hid (ho.out.alloc _), Lib.hid (HT.out.alloc _), by simp; omega⟩
       case measure => simp [intOf]
     ·have h0n : (y0 == c.1) = false := by simpa using h0
      have HE : Hid (voOut v.votes c v.out (0 + 1) = voOut v.votes c v.out 0) := Lib.hid (by rw [H0.out, if_neg]; unfold othB; simp [h0])
      go_wp2_with fail
      go_roundw
      case rel => exact ⟨1, by omega, by rfl, by rw [HE.out]; exact ka.alloc _, kb.alloc _, Lib.hid (ho.out.alloc _), Lib.hid (HT.out.alloc _), by simp; omega⟩
      case measure => simp [intOf]
   ·have hix := index_vote1 (I x0.1.1) (I x0.1.2.1) (I x0.1.2.2) (.bool x0.2) (I x1.1.1) (I x1.1.2.1) (I x1.1.2.2) (.bool x1.2) (I x2.1.1) (I x2.1.2.1) (I x2.1.2.2) (.bool x2.2) wr
    obtain ⟨⟨y0, y1, y2⟩, yf⟩ := x1
    cases yf with
    | false =>
     have HE : Hid (voOut v.votes c v.out (1 + 1) = voOut v.votes c v.out 1) := Lib.hid (by rw [H1.out, if_neg]; unfold othB; simp)
     go_wp2_with fail
     go_roundw
     case rel => exact ⟨2, by omega, by rfl, by rw [HE.out]; exact ka.alloc _, kb.alloc _, Lib.hid (ho.out.alloc _), Lib.hid (HT.out.alloc _), by simp; omega⟩
     case measure => simp [intOf]
    | true =>
     by_cases h0 : y0 = c.1
     ·subst h0
      by_cases h1 : y1 = c.2.1
      ·subst h1
       by_cases h2 : y2 = c.2.2
       ·subst h2
        have HE : Hid (voOut v.votes c v.out (1 + 1) = voOut v.votes c v.out 1) := Lib.hid (by rw [H1.out, if_neg]; unfold othB; simp)
        go_wp2_with fail
        go_roundw
        case rel => exact ⟨2, by omega, by rfl, by rw [HE.out]; exact ka.alloc _, kb.alloc _, Lib.hid (ho.out.alloc _), Lib.hid (HT.out.alloc _), by simp; omega⟩
        case measure => simp [intOf]
       ·have h2n : (y2 != c.2.2) = true := by simpa using h2
        have HE : Hid (voOut v.votes c v.out (1 + 1) = voOut v.votes c v.out 1 ||| 1 <<< 1) := Lib.hid (by rw [H1.out, if_pos]; unfold othB; simp [h2])
        have hq : bits .or .i64 ((voOut v.votes c v.out 1 : Nat) : Int) 2 = ((voOut v.votes c v.out 1 ||| 1 <<< 1 : Nat) : Int) := or_i64 (voOut v.votes c v.out 1) (1 <<< 1) (by omega) (by decide)
        have HQ := Lib.hid hq
        clear h2 hq
        go_wp2_with fail
        go_region
        all_goals
         go_wp2_with fail
         go_roundw
         case rel =>
          refine ⟨2, by omega, by rfl, ?_, ((kb.far (kb.ne ka (by decide)) _).alloc _).drew, Lib.hid ((own_far ho.out ka (by decide) _ _).alloc _).drew, Lib.hid (((HT.out.setCell _ _ (.inl (.inl rfl))).alloc _).drew), by simp; omega⟩
          rw [HE.out]
          show Has _ g 94 ((voD vt x0 ((c.1, c.2.1, y2), true) x2 (voOut v.votes c v.out 1) v.time v.window v.latched).setIfInBounds 13 (I ((voOut v.votes c v.out 1 ||| 1 <<< 1 : Nat) : Int)))
          rw [← HQ.out]
          exact ((ka.set 13 _).alloc _).drew
         case measure => simp [intOf]
      ·have h1n : (y1 == c.2.1) = false := by simpa using h1
       have HE : Hid (voOut v.votes c v.out (1 + 1) = voOut v.votes c v.out 1) := Lib.hid (by rw [H1.out, if_neg]; unfold othB; simp [h1])
       go_wp2_with fail
       go_roundw
       case rel => exact ⟨2, by omega, by rfl, by rw [HE.out]; exact ka.alloc _, kb.alloc _, Lib.hid (ho.out.alloc _), Lib.hid (HT.out.alloc _), by simp; omega⟩
       case measure => simp [intOf]
     ·have h0n : (y0 == c.1) = false := by simpa using h0
      have HE : Hid (voOut v.votes c v.out (1 + 1) = voOut v.votes c v.out 1) := Lib.hid (by rw [H1.out, if_neg]; unfold othB; simp [h0])
      go_wp2_with fail
      go_roundw
      case rel => exact ⟨2, by omega, by rfl, by rw [HE.out]; exact ka.alloc _, kb.alloc _, Lib.hid (ho.out.alloc _), Lib.hid (HT.out.alloc _), by simp; omega⟩
      case measure => simp [intOf]
   ·have hix := index_vote2 (I x0.1.1) (I x0.1.2.1) (I x0.1.2.2) (.bool x0.2) (I x1.1.1) (I x1.1.2.1) (I x1.1.2.2) (.bool x1.2) (I x2.1.1) (I x2.1.2.1) (I x2.1.2.2) (.bool x2.2) wr
    obtain ⟨⟨y0, y1, y2⟩, yf⟩ := x2
    cases yf with
    | false =>
     have HE : Hid (voOut v.votes c v.out (2 + 1) = voOut v.votes c v.out 2) := Lib.hid (by rw [H2.out, if_neg]; unfold othB; simp)
     go_wp2_with fail
     go_roundw
     case rel => exact ⟨3, by omega, by rfl, by rw [HE.out]; exact ka.alloc _, kb.alloc _, Lib.hid (ho.out.alloc _), Lib.hid (HT.out.alloc _), by simp; omega⟩
     case measure => simp [intOf]
    | true =>
     by_cases h0 : y0 = c.1
     ·subst h0
      by_cases h1 : y1 = c.2.1
      ·subst h1
       by_cases h2 : y2 = c.2.2
       ·subst h2
        have HE : Hid (voOut v.votes c v.out (2 + 1) = voOut v.votes c v.out 2) := Lib.hid (by rw [H2.out, if_neg]; unfold othB; simp)
        go_wp2_with fail
        go_roundw
        case rel => exact ⟨3, by omega, by rfl, by rw [HE.out]; exact ka.alloc _, kb.alloc _, Lib.hid (ho.out.alloc _), Lib.hid (HT.out.alloc _), by simp; omega⟩
        case measure => simp [intOf]
       ·have h2n : (y2 != c.2.2) = true := by simpa using h2
        have HE : Hid (voOut v.votes c v.out (2 + 1) = voOut v.votes c v.out 2 ||| 1 <<< 2) := Lib.hid (by rw [H2.out, if_pos]; unfold othB; simp [h2])
        have hq : bits .or .i64 ((voOut v.votes c v.out 2 : Nat) : Int) 4 = ((voOut v.votes c v.out 2 ||| 1 <<< 2 : Nat) : Int) := or_i64 (voOut v.votes c v.out 2) (1 <<< 2) (by omega) (by decide)
        have HQ := Lib.hid hq
        clear h2 hq
        go_wp2_with fail
        go_region
        all_goals
         go_wp2_with fail
         go_roundw
         case rel =>
          refine ⟨3, by omega, by rfl, ?_, ((kb.far (kb.ne ka (by decide)) _).alloc _).drew, Lib.hid ((own_far ho.out ka (by decide) _ _).alloc _).drew, Lib.hid (((HT.out.setCell _ _ (.inl (.inl rfl))).alloc _).drew), by simp; omega⟩
          rw [HE.out]
          show Has _ g 94 ((voD vt x0 x1 ((c.1, c.2.1, y2), true) (voOut v.votes c v.out 2) v.time v.window v.latched).setIfInBounds 13 (I ((voOut v.votes c v.out 2 ||| 1 <<< 2 : Nat) : Int)))
          rw [← HQ.out]
          exact ((ka.set 13 _).alloc _).drew
         case measure => simp [intOf]
      ·have h1n : (y1 == c.2.1) = false := by simpa using h1
       have HE : Hid (voOut v.votes c v.out (2 + 1) = voOut v.votes c v.out 2) := Lib.hid (by rw [H2.out, if_neg]; unfold othB; simp [h1])
       go_wp2_with fail
       go_roundw
       case rel => exact ⟨3, by omega, by rfl, by rw [HE.out]; exact ka.alloc _, kb.alloc _, Lib.hid (ho.out.alloc _), Lib.hid (HT.out.alloc _), by simp; omega⟩
       case measure => simp [intOf]
     ·have h0n : (y0 == c.1) = false := by simpa using h0
      have HE : Hid (voOut v.votes c v.out (2 + 1) = voOut v.votes c v.out 2) := Lib.hid (by rw [H2.out, if_neg]; unfold othB; simp [h0])
      go_wp2_with fail
      go_roundw
      case rel => exact ⟨3, by omega, by rfl, by rw [HE.out]; exact ka.alloc _, kb.alloc _, Lib.hid (ho.out.alloc _), Lib.hid (HT.out.alloc _), by simp; omega⟩
      case measure => simp [intOf]
  ·have hk3 : k = 3 := by omega
   subst hk3
   have hq8 := HLT.out 3 (by omega)
   have HE : Hid (voCommits v c = { v with out := voOut v.votes c v.out 3, trace := v.trace ++ [c], votes := noVotes, time := v.window, latched := v.latched || manyOut (voOut v.votes c v.out 3) || decide (1000 ≤ v.trace.length + 1) }) := Lib.hid rfl
   clear HLT H0 H1 H2 HZ
   obtain ⟨A, cc, hvt, hcc, hlen, hA, hR⟩ := own_read ho.out
   have HVT := Lib.hid hvt
   have hgb := kb.lt
   have hga := ka.lt
   have b0 := kb.cellv 0 _ rfl
   have b1 := kb.cellv 1 _ rfl
   have b2 := kb.cellv 2 _ rfl
   have a0 : wr.cell? ⟨g, 0, none⟩ = some (.slice A v.trace.length cc) := by rw [← hvt]; exact ka.cellv 0 vt rfl
   have h15 := ka.cellv 15 (I v.window) rfl
   have h16 := ka.cellv 16 (.bool v.latched) rfl
   have HN1 : Hid (v.trace.length = v.trace.length) := Lib.hid rfl
   have HS : Hid (w1.heap.size ≤ wr.heap.size) := Lib.hid hsz
   have hm1 : v.trace.length + 1 ≤ maxLen := by unfold maxLen; omega
   have hm2 : (v.trace.length + 1) * 24 ≤ 140737488355328 := by omega
   have hBr : B ≤ wr.heap.size := by have := HS1.out; have := HG.out; omega
   clear hvt hA hR hlen hcc hsz
   rw [HVT.out] at ho
   have HNE : Hid (some g ≠ (Value.slice A v.trace.length cc).ownBlock) := Lib.hid (fun e => own_has_ne ho.out ka (by decide) e.symm)
   go_upto_region 7 with (fail)
   go_cut [] (fun wx => ∃ A2 c2, Has wx g 94 (voD (.slice A2 (v.trace.length + 1) c2) x0 x1 x2 (voOut v.votes c v.out 3) v.time v.window v.latched) ∧ Hid (wx.ownsRow B 42 3 (.slice A2 (v.trace.length + 1) c2) (v.trace.length + 1) (cmsC (v.trace ++ [c]))) ∧
    Hid ((Value.slice A2 (v.trace.length + 1) c2).ownBlock = vt.ownBlock ∨ ∃ b, g0 ≤ b ∧ (Value.slice A2 (v.trace.length + 1) c2).ownBlock = some b) ∧ Hid (Turned (FV g vt) w wx) ∧ w1.heap.size ≤ wx.heap.size)
   case first =>
    go_region_law ((refine step_append_at rfl _ _ 39 rfl B 42 i0 (.agg #[.int .i64 0, .int .i64 0, .int .i64 0]) 3 24 Tryz.underlying39 hi0 hz0 hz1 hz2 rfl (by decide) _ v.trace.length _ rfl (World.ownsRow.alloc ho.out _) _ 1 1 _ rfl rfl (cells_new _ _ _) (by intro u hu; simp at hu; rcases hu with rfl | rfl | rfl <;> rfl) hm1 hm2 (Nat.le_trans hBr (by simp)) ?_; intro v2 w2 hown2 hgrow2 hloc2; obtain ⟨A2, c2, rfl, hc2, -⟩ := own_read hown2; have k2 : Has w2 g 94 (voD vt x0 x1 x2 (voOut v.votes c v.out 3) v.time v.window v.latched) := (ka.alloc _).drew.grown hgrow2 HNE.out; have f20 := k2.free 0; have c20 := k2.cellv 0 vt rfl))
    all_goals
     have hg2 : (wr.alloc (.cells #[I c.1, I c.2.1, I c.2.2] 42)).drew.grownBy w2 (Value.slice A v.trace.length cc).ownBlock := hgrow2
     have ho2 : Hid ((w2.setCell ⟨g, 0, none⟩ (.slice A2 (v.trace.length + 1) c2)).ownsRow B 42 3 (.slice A2 (v.trace.length + 1) c2) (v.trace.length + 1) (cmsC (v.trace ++ [c]))) := Lib.hid (own_far (by rw [cmsC_snoc]; exact hown2) k2 (by decide) _ _)
     have hl2 : Hid ((Value.slice A2 (v.trace.length + 1) c2).ownBlock = vt.ownBlock ∨ ∃ b, g0 ≤ b ∧ (Value.slice A2 (v.trace.length + 1) c2).ownBlock = some b) := Lib.hid (by
      rw [HVT.out]
      rcases hloc2 with h | h
      ·exact .inl h
      ·exact .inr ⟨_, by have := HG.out; have := HS1.out; have := HS.out; simp; omega, h⟩)
     have ht2 : Hid (Turned (FV g vt) w (w2.setCell ⟨g, 0, none⟩ (.slice A2 (v.trace.length + 1) c2))) := Lib.hid ((((HT.out.alloc _).drew).grown hg2 (fun q hq => .inl (.inr (by rw [HVT.out]; exact hq)))).setCell _ _ (.inl (.inl rfl)))
     have hz2 : w1.heap.size ≤ (w2.setCell ⟨g, 0, none⟩ (.slice A2 (v.trace.length + 1) c2)).heap.size := by have h1 := hg2.size; have h2 := HS.out; simp at h1; simp [World.setCell]; omega
     have k3 := k2.set 0 (.slice A2 (v.trace.length + 1) c2)
     clear hgrow2 hloc2 hown2 hg2 f20 c20
     go_wp2_with fail
     go_meet
     case rel => exact ⟨A2, c2, k3, ho2, hl2, ht2, hz2⟩
   case rest =>
    obtain ⟨A2, c2, kv, ho2, hl2, ht2, hz2⟩ := hcut
    generalize voOut v.votes c v.out 3 = OUT at *
    clear ka kb ho HT a0 h15 h16 b0 b1 b2 hm1 hm2 HVT HNE HS HOW hga hgb HS1 hg1 HN1
    have e1 := kv.cellv 1 (I x0.1.1) rfl
    have e2 := kv.cellv 2 (I x0.1.2.1) rfl
    have e3 := kv.cellv 3 (I x0.1.2.2) rfl
    have e4 := kv.cellv 4 (.bool x0.2) rfl
    have e5 := kv.cellv 5 (I x1.1.1) rfl
    have e6 := kv.cellv 6 (I x1.1.2.1) rfl
    have e7 := kv.cellv 7 (I x1.1.2.2) rfl
    have e8 := kv.cellv 8 (.bool x1.2) rfl
    have e9 := kv.cellv 9 (I x2.1.1) rfl
    have e10 := kv.cellv 10 (I x2.1.2.1) rfl
    have e11 := kv.cellv 11 (I x2.1.2.2) rfl
    have e12 := kv.cellv 12 (.bool x2.2) rfl
    have e13 := kv.cellv 13 (I (OUT : Int)) rfl
    have e14 := kv.cellv 14 (I v.time) rfl
    have e15 := kv.cellv 15 (I v.window) rfl
    have e16 := kv.cellv 16 (.bool v.latched) rfl
    have f1 := kv.free 1
    have f2 := kv.free 2
    have f3 := kv.free 3
    have f4 := kv.free 4
    have f5 := kv.free 5
    have f6 := kv.free 6
    have f7 := kv.free 7
    have f8 := kv.free 8
    have f9 := kv.free 9
    have f10 := kv.free 10
    have f11 := kv.free 11
    have f12 := kv.free 12
    have f14 := kv.free 14
    have f16 := kv.free 16
    go_upto_region 9 with (fail)
    have k8 : Has (((((((((((((wc.setCell ⟨g, 1, none⟩ (I 0)).setCell ⟨g, 2, none⟩ (I 0)).setCell ⟨g, 3, none⟩ (I 0)).setCell ⟨g, 4, none⟩ (.bool false)).setCell ⟨g, 5, none⟩ (I 0)).setCell ⟨g, 6, none⟩ (I 0)).setCell ⟨g, 7, none⟩ (I 0)).setCell ⟨g, 8, none⟩ (.bool false)).setCell ⟨g, 9, none⟩ (I 0)).setCell ⟨g, 10, none⟩ (I 0)).setCell ⟨g, 11, none⟩ (I 0)).setCell ⟨g, 12, none⟩ (.bool false)).setCell ⟨g, 14, none⟩ (I v.window)) g 94 (voD (.slice A2 (v.trace.length + 1) c2) (Cm.zero, false) (Cm.zero, false) (Cm.zero, false) OUT v.window v.window v.latched) := by
     have h := (((((((((((((kv.set 1 (I 0)).set 2 (I 0)).set 3 (I 0)).set 4 (.bool false)).set 5 (I 0)).set 6 (I 0)).set 7 (I 0)).set 8 (.bool false)).set 9 (I 0)).set 10 (I 0)).set 11 (I 0)).set 12 (.bool false)).set 14 (I v.window))
     rw [voD_clear] at h
     exact h
    have t8 : Turned (fun b => b = g) wc (((((((((((((wc.setCell ⟨g, 1, none⟩ (I 0)).setCell ⟨g, 2, none⟩ (I 0)).setCell ⟨g, 3, none⟩ (I 0)).setCell ⟨g, 4, none⟩ (.bool false)).setCell ⟨g, 5, none⟩ (I 0)).setCell ⟨g, 6, none⟩ (I 0)).setCell ⟨g, 7, none⟩ (I 0)).setCell ⟨g, 8, none⟩ (.bool false)).setCell ⟨g, 9, none⟩ (I 0)).setCell ⟨g, 10, none⟩ (I 0)).setCell ⟨g, 11, none⟩ (I 0)).setCell ⟨g, 12, none⟩ (.bool false)).setCell ⟨g, 14, none⟩ (I v.window)) := ((((((((((((((Turned.refl (fun b => b = g) wc).setCell ⟨g, 1, none⟩ (I 0) (.inl rfl)).setCell ⟨g, 2, none⟩ (I 0) (.inl rfl)).setCell ⟨g, 3, none⟩ (I 0) (.inl rfl)).setCell ⟨g, 4, none⟩ (.bool false) (.inl rfl)).setCell ⟨g, 5, none⟩ (I 0) (.inl rfl)).setCell ⟨g, 6, none⟩ (I 0) (.inl rfl)).setCell ⟨g, 7, none⟩ (I 0) (.inl rfl)).setCell ⟨g, 8, none⟩ (.bool false) (.inl rfl)).setCell ⟨g, 9, none⟩ (I 0) (.inl rfl)).setCell ⟨g, 10, none⟩ (I 0) (.inl rfl)).setCell ⟨g, 11, none⟩ (I 0) (.inl rfl)).setCell ⟨g, 12, none⟩ (.bool false) (.inl rfl)).setCell ⟨g, 14, none⟩ (I v.window) (.inl rfl))
    have HO8 := Lib.hid (own_turned ho2.out t8 (fun q hq e => own_has_ne ho2.out kv (by decide) (by rw [hq, e])))
    have HT8 : Hid (Turned (FV g vt) w (((((((((((((wc.setCell ⟨g, 1, none⟩ (I 0)).setCell ⟨g, 2, none⟩ (I 0)).setCell ⟨g, 3, none⟩ (I 0)).setCell ⟨g, 4, none⟩ (.bool false)).setCell ⟨g, 5, none⟩ (I 0)).setCell ⟨g, 6, none⟩ (I 0)).setCell ⟨g, 7, none⟩ (I 0)).setCell ⟨g, 8, none⟩ (.bool false)).setCell ⟨g, 9, none⟩ (I 0)).setCell ⟨g, 10, none⟩ (I 0)).setCell ⟨g, 11, none⟩ (I 0)).setCell ⟨g, 12, none⟩ (.bool false)).setCell ⟨g, 14, none⟩ (I v.window))) := Lib.hid (ht2.out.trans t8 (fun b _ e => .inl e))
    have HS8 : Hid (w1.heap.size ≤ ((((((((((((((wc.setCell ⟨g, 1, none⟩ (I 0)).setCell ⟨g, 2, none⟩ (I 0)).setCell ⟨g, 3, none⟩ (I 0)).setCell ⟨g, 4, none⟩ (.bool false)).setCell ⟨g, 5, none⟩ (I 0)).setCell ⟨g, 6, none⟩ (I 0)).setCell ⟨g, 7, none⟩ (I 0)).setCell ⟨g, 8, none⟩ (.bool false)).setCell ⟨g, 9, none⟩ (I 0)).setCell ⟨g, 10, none⟩ (I 0)).setCell ⟨g, 11, none⟩ (I 0)).setCell ⟨g, 12, none⟩ (.bool false)).setCell ⟨g, 14, none⟩ (I v.window))).heap.size) := Lib.hid (Nat.le_trans hz2 t8.size)
    clear e1 e2 e3 e4 e5 e6 e7 e8 e9 e10 e11 e12 e13 e14 e15 e16 f1 f2 f3 f4 f5 f6 f7 f8 f9 f10 f11 f12 f14 f16 kv ho2 ht2 hz2 t8
    generalize (((((((((((((wc.setCell ⟨g, 1, none⟩ (I 0)).setCell ⟨g, 2, none⟩ (I 0)).setCell ⟨g, 3, none⟩ (I 0)).setCell ⟨g, 4, none⟩ (.bool false)).setCell ⟨g, 5, none⟩ (I 0)).setCell ⟨g, 6, none⟩ (I 0)).setCell ⟨g, 7, none⟩ (I 0)).setCell ⟨g, 8, none⟩ (.bool false)).setCell ⟨g, 9, none⟩ (I 0)).setCell ⟨g, 10, none⟩ (I 0)).setCell ⟨g, 11, none⟩ (I 0)).setCell ⟨g, 12, none⟩ (.bool false)).setCell ⟨g, 14, none⟩ (I v.window)) = w8 at *
    have e13 := k8.cellv 13 (I (OUT : Int)) rfl
    have e0 := k8.cellv 0 (.slice A2 (v.trace.length + 1) c2) rfl
    have e16 := k8.cellv 16 (.bool v.latched) rfl
    have f16 := k8.free 16
    have hpm : decide ((1 : Int) < (pop OUT : Int)) = manyOut OUT := pop_many OUT hq8
    have hn1 : v.trace.length + 1 ≤ 1000 := by omega
    by_cases hfull : manyOut OUT = true ∨ 1000 ≤ v.trace.length + 1
    ·have HL : Hid ((v.latched || manyOut OUT || decide (1000 ≤ v.trace.length + 1)) = true) := Lib.hid (by rcases hfull with h | h <;> simp [h])
     have k9 : Has (w8.setCell ⟨g, 16, none⟩ (.bool true)) g 94 (voD (.slice A2 (v.trace.length + 1) c2) (Cm.zero, false) (Cm.zero, false) (Cm.zero, false) OUT v.window v.window true) := k8.set 16 _
     have o9 := Lib.hid (own_far HO8.out k8 (by decide) 16 (.bool true))
     have HT9 : Hid (Turned (FV g vt) w (w8.setCell ⟨g, 16, none⟩ (.bool true))) := Lib.hid (HT8.out.setCell _ _ (.inl (.inl rfl)))
     have c90 := k9.cellv 0 (.slice A2 (v.trace.length + 1) c2) rfl
     have hc9 : voC (.slice A2 (v.trace.length + 1) c2) (voCommits v c) = voD (.slice A2 (v.trace.length + 1) c2) (Cm.zero, false) (Cm.zero, false) (Cm.zero, false) OUT v.window v.window true := by
      rw [HE.out]
      show voD (.slice A2 (v.trace.length + 1) c2) (Cm.zero, false) (Cm.zero, false) (Cm.zero, false) OUT v.window v.window (v.latched || manyOut OUT || decide (1000 ≤ v.trace.length + 1)) = _
      rw [HL.out]
     have hv9 : VoAt (w8.setCell ⟨g, 16, none⟩ (.bool true)) B g (.slice A2 (v.trace.length + 1) c2) (voCommits v c) := ⟨by rw [hc9]; exact k9, by rw [HE.out]; show World.ownsRow _ B 42 3 _ (v.trace ++ [c]).length (cmsC (v.trace ++ [c])); rw [List.length_append]; exact o9.out, hlow⟩
     have HV9 := Lib.hid hv9
     have hlen9 : v.trace.length < (voCommits v c).trace.length := by rw [HE.out]; show _ < (v.trace ++ [c]).length; simp
     have HL9 := Lib.hid hlen9
     have HF9 : Hid ((frC (voDone (voCommits v c) v.trace.length)).size = 23) := Lib.hid (frC_size _ rfl)
     clear hc9 hv9 hlen9
     cases hm : manyOut OUT with
     | true =>
      rw [hm] at hpm
      clear hm hfull
      go_wp2_with (first
       | (go_at_call 133; refine (onesCount_any OUT (by omega) _).mono ?_; rintro e w' ⟨rfl, rfl⟩)
       | (go_at_call 109; refine (vo_done HV9.out v.trace.length HL9.out).mono ?_; rintro e wd ⟨rfl, hbd⟩)
       | (refine wpList_frames1 rfl (.tmp 89) rfl (frC (voDone (voCommits v c) v.trace.length)) rfl HF9.out ?_))
      go_ret
      have hbd2 := hbd.alloc hbd.size (.cells (frC (voDone (voCommits v c) v.trace.length)) 110)
      exact ⟨⟨_, rfl, by have h1 := hbd.size; have h2 := HT9.out.size; omega, Has.new _ _ _⟩, ⟨_, HV9.out.after hbd2, by rw [HG.out]; exact hl2.out⟩, HT9.out.thenBelow hbd2⟩
     | false =>
      rw [hm] at hpm
      have hfl : 1000 ≤ v.trace.length + 1 := by
       rcases hfull with h | h
       ·rw [hm] at h; cases h
       ·exact h
      have hfi : (1000 : Int) ≤ (v.trace.length : Int) + 1 := by omega
      clear hm hfull
      go_wp2_with (first
       | (go_at_call 133; refine (onesCount_any OUT (by omega) _).mono ?_; rintro e w' ⟨rfl, rfl⟩)
       | (go_at_call 109; refine (vo_done HV9.out v.trace.length HL9.out).mono ?_; rintro e wd ⟨rfl, hbd⟩)
       | (refine wpList_frames1 rfl (.tmp 89) rfl (frC (voDone (voCommits v c) v.trace.length)) rfl HF9.out ?_))
      go_ret
      have hbd2 := hbd.alloc hbd.size (.cells (frC (voDone (voCommits v c) v.trace.length)) 110)
      exact ⟨⟨_, rfl, by have h1 := hbd.size; have h2 := HT9.out.size; omega, Has.new _ _ _⟩, ⟨_, HV9.out.after hbd2, by rw [HG.out]; exact hl2.out⟩, HT9.out.thenBelow hbd2⟩
    ·have hm : manyOut OUT = false := by
      cases h : manyOut OUT with
      | true => exact absurd (.inl h) hfull
      | false => rfl
     have hnf : ¬ 1000 ≤ v.trace.length + 1 := fun h => hfull (.inr h)
     have hfi : ¬ (1000 : Int) ≤ (v.trace.length : Int) + 1 := by omega
     have HL : Hid ((v.latched || manyOut OUT || decide (1000 ≤ v.trace.length + 1)) = v.latched) := Lib.hid (by simp [hm, hnf])
     have k9 := k8
     have o9 := HO8
     have HT9 := HT8
     have hc9 : voC (.slice A2 (v.trace.length + 1) c2) (voCommits v c) = voD (.slice A2 (v.trace.length + 1) c2) (Cm.zero, false) (Cm.zero, false) (Cm.zero, false) OUT v.window v.window v.latched := by
      rw [HE.out]
      show voD (.slice A2 (v.trace.length + 1) c2) (Cm.zero, false) (Cm.zero, false) (Cm.zero, false) OUT v.window v.window (v.latched || manyOut OUT || decide (1000 ≤ v.trace.length + 1)) = _
      rw [HL.out]
     have hv9 : VoAt w8 B g (.slice A2 (v.trace.length + 1) c2) (voCommits v c) := ⟨by rw [hc9]; exact k9, by rw [HE.out]; show World.ownsRow _ B 42 3 _ (v.trace ++ [c]).length (cmsC (v.trace ++ [c])); rw [List.length_append]; exact o9.out, hlow⟩
     have HV9 := Lib.hid hv9
     have hlen9 : v.trace.length < (voCommits v c).trace.length := by rw [HE.out]; show _ < (v.trace ++ [c]).length; simp
     have HL9 := Lib.hid hlen9
     have HF9 : Hid ((frC (voDone (voCommits v c) v.trace.length)).size = 23) := Lib.hid (frC_size _ rfl)
     clear hc9 hv9 hlen9
     rw [hm] at hpm
     clear hm hfull hnf
     go_wp2_with (first
      | (go_at_call 133; refine (onesCount_any OUT (by omega) _).mono ?_; rintro e w' ⟨rfl, rfl⟩)
      | (go_at_call 109; refine (vo_done HV9.out v.trace.length HL9.out).mono ?_; rintro e wd ⟨rfl, hbd⟩)
      | (refine wpList_frames1 rfl (.tmp 89) rfl (frC (voDone (voCommits v c) v.trace.length)) rfl HF9.out ?_))
     go_ret
     have hbd2 := hbd.alloc hbd.size (.cells (frC (voDone (voCommits v c) v.trace.length)) 110)
     exact ⟨⟨_, rfl, by have h1 := hbd.size; have h2 := HT9.out.size; omega, Has.new _ _ _⟩, ⟨_, HV9.out.after hbd2, by rw [HG.out]; exact hl2.out⟩, HT9.out.thenBelow hbd2⟩
end
end Go.Proofs.YtdhekhlmdefcnabGreatDoor
namespace Go.Proofs.YtdhekhlmdefcnabGreatDoor
open Go.RowKit
def frsC : List (List Int) → Array Value
 | [] => #[]
 | f :: l => frC f ++ frsC l
theorem frsC_one (f : List Int) : frsC [f] = frC f := by simp [frsC]
theorem frsC_two (f f' : List Int) : frsC [f, f'] = frC f ++ frC f' := by simp [frsC]
def FramesAt (w : World) (lo : Nat) (x : Value) (fs : List (List Int)) : Prop :=
 (fs = [] ∧ x = .slice none 0 0) ∨ ∃ gr, x = .slice (some ⟨gr, 0, none⟩) fs.length fs.length ∧ lo ≤ gr ∧ Has w gr 110 (frsC fs)
theorem getDi {f : List Int} {i : Nat} {x : Int} (h : f[i]? = some x) : f.getD i 0 = x := by rw [List.getD_eq_getElem?_getD, h]; rfl
theorem and5 {a b c d e : Bool} : (a && b && c && d && e) = true ↔ a = true ∧ b = true ∧ c = true ∧ d = true ∧ e = true := by
 cases a <;> cases b <;> cases c <;> cases d <;> cases e <;> decide
theorem take_no {v : Vo} {f : List Int} (h : voHears v f = false) : voTake v f = (v, [], false) := by unfold voTake; rw [if_pos h]
theorem take_last {v : Vo} {f : List Int} {C : Nat} (h : voHears v f = true) (hc : f.getD 2 0 = (C : Int)) (hn : C + 1 = v.trace.length) : voTake v f = (v, [voDone v C], false) := by
 unfold voTake
 rw [if_neg (by rw [h]; decide), hc, if_pos (by omega)]
 simp
theorem take_old {v : Vo} {f : List Int} {C : Nat} (h : voHears v f = true) (hc : f.getD 2 0 = (C : Int)) (hn : C + 1 < v.trace.length) : voTake v f = (v, [voDone v C, voDone v (v.trace.length - 1)], false) := by
 unfold voTake
 rw [if_neg (by rw [h]; decide), hc, if_neg (by omega), if_pos (by omega)]
 simp
theorem take_not {v : Vo} {f : List Int} {C : Nat} (h : voHears v f = true) (hc : f.getD 2 0 = (C : Int)) (hn : v.trace.length ≤ C) (h2 : v.trace.length < C ∨ v.latched = true ∨ f.getD 0 0 = 4) : voTake v f = (v, [], false) := by
 unfold voTake
 rw [if_neg (by rw [h]; decide), hc, if_neg (by omega), if_neg (by omega), if_pos (by rcases h2 with h | h | h; exact .inl (by omega); exact .inr (.inl h); exact .inr (.inr h))]
def voted (v : Vo) (J : Nat) (c : Cm) : Vo := { v with votes := v.votes.set J (c, true) }
theorem take_vote {v : Vo} {f : List Int} {C J : Nat} (h : voHears v f = true) (hc : f.getD 2 0 = (C : Int)) (hn : v.trace.length = C) (hl : v.latched = false) (hk : f.getD 0 0 ≠ 4) (hj : f.getD 1 0 = (J : Int)) :
  voTake v f = if alike (voted v J (cmOf f)).votes J (cmOf f) then (voCommits (voted v J (cmOf f)) (cmOf f), [voDone (voCommits (voted v J (cmOf f)) (cmOf f)) v.trace.length], true) else (voted v J (cmOf f), [], false) := by
 unfold voTake
 rw [if_neg (by rw [h]; decide), hc, if_neg (by omega), if_neg (by omega), if_neg (by rintro (h | h | h); omega; rw [hl] at h; cases h; exact hk h), hj]
 rfl
theorem list3 {α : Type} (l : List α) (h : l.length = 3) : ∃ a b c, l = [a, b, c] := by
 match l, h with
 | [a, b, c], _ => exact ⟨a, b, c, rfl⟩
theorem voD_vote (vt : Value) (v : Vo) (J : Nat) (p0 p1 p2 : Int) (hJ : J < 3) (hv : v.votes.length = 3) :
  ((((voC vt v).setIfInBounds (1 + J * 4) (I p0)).setIfInBounds (1 + J * 4 + 1) (I p1)).setIfInBounds (1 + J * 4 + 2) (I p2)).setIfInBounds (1 + J * 4 + 3) (.bool true) = voC vt (voted v J (p0, p1, p2)) := by
 obtain ⟨a, b, c, e⟩ := list3 _ hv
 have hc : J = 0 ∨ J = 1 ∨ J = 2 := by omega
 unfold voC vv voted
 dsimp only
 rw [e]
 rcases hc with rfl | rfl | rfl <;> simp
theorem vv_vote (v : Vo) (J : Nat) (c : Cm) (hJ : J < 3) (hv : v.votes.length = 3) : vv (voted v J c) J = (c, true) := by
 unfold vv voted
 have hl : J < v.votes.length := by omega
 simp [List.getD_eq_getElem?_getD, hl]
theorem voted_wf {v : Vo} (h : v.Wf) (J : Nat) (c : Cm) : (voted v J c).Wf := ⟨h.out, by simpa [voted] using h.votes, h.many, h.more, h.time, h.low, h.window⟩
theorem voC_at (vt : Value) (v : Vo) (J : Nat) (hJ : J < 3) : (voC vt v)[1 + J * 4]? = some (I (vv v J).1.1) ∧ (voC vt v)[1 + J * 4 + 1]? = some (I (vv v J).1.2.1) ∧ (voC vt v)[1 + J * 4 + 2]? = some (I (vv v J).1.2.2) := by
 have hc : J = 0 ∨ J = 1 ∨ J = 2 := by omega
 rcases hc with rfl | rfl | rfl <;> exact ⟨rfl, rfl, rfl⟩
def alikeAt (v : Vo) (J : Nat) (c : Cm) (r : Nat) : Bool := decide (r ≠ J) && (vv v r).2 && decide ((vv v r).1 = c)
theorem alike_at (v : Vo) (J : Nat) (c : Cm) : alike v.votes J c = (alikeAt v J c 0 || (alikeAt v J c 1 || (alikeAt v J c 2 || false))) := rfl
theorem framesAt_nil (w : World) (lo : Nat) : FramesAt w lo (.slice none 0 0) [] := .inl ⟨rfl, rfl⟩
end Go.Proofs.YtdhekhlmdefcnabGreatDoor
namespace Go.Proofs.YtdhekhlmdefcnabGreatDoor
theorem voNew_wf {n : Int} (h1 : 1 ≤ n) (h2 : n ≤ 20) : (Vo.new n).Wf :=
 ⟨by show (0 : Nat) < 8; decide, rfl, by show ([] : List Cm).length ≤ 1000; simp, fun _ => ⟨by show ([] : List Cm).length < 1000; simp, h1⟩, h2, by show 0 ≤ n; omega, ⟨h1, h2⟩⟩
theorem voTick_wf {v : Vo} (h : v.Wf) : (voTick v).Wf := by
 unfold voTick
 cases hl : v.latched with
 | true => simpa using h
 | false =>
  obtain ⟨h1, h2⟩ := h.more hl
  have ht := h.time
  simp only [Bool.false_eq_true, if_false]
  split
  ·exact ⟨h.out, h.votes, h.many, fun e => (by cases e), by show v.time - 1 ≤ 20; omega, by show 0 ≤ v.time - 1; omega, h.window⟩
  ·exact ⟨h.out, h.votes, h.many, fun _ => ⟨h1, by show 1 ≤ v.time - 1; omega⟩, by show v.time - 1 ≤ 20; omega, by show 0 ≤ v.time - 1; omega, h.window⟩
theorem voLatch_wf {v : Vo} (h : v.Wf) : ({ v with latched := true } : Vo).Wf := ⟨h.out, h.votes, h.many, fun e => (by cases e), h.time, h.low, h.window⟩
theorem voCommits_wf {v : Vo} (h : v.Wf) (hl : v.latched = false) (c : Cm) : (voCommits v c).Wf := by
 obtain ⟨h1, _⟩ := h.more hl
 have hw := h.window
 unfold voCommits
 refine ⟨voOut_lt v.votes c v.out h.out 3 (by decide), rfl, ?_, ?_, hw.2, by have := hw.1; show 0 ≤ v.window; omega, hw⟩
 ·show (v.trace ++ [c]).length ≤ 1000
  simp; omega
 ·intro e
  have e' : (v.latched || manyOut (voOut v.votes c v.out 3) || decide (1000 ≤ v.trace.length + 1)) = false := e
  rw [Bool.or_eq_false_iff, Bool.or_eq_false_iff, decide_eq_false_iff_not] at e'
  refine ⟨?_, hw.1⟩
  show (v.trace ++ [c]).length < 1000
  simp; omega
theorem voTake_wf {v : Vo} (h : v.Wf) (f : List Int) : (voTake v f).1.Wf := by
 unfold voTake
 split
 ·exact h
 split
 ·exact h
 split
 ·exact h
 split
 ·exact h
 ·rename_i hn
  have hl : v.latched = false := by
   cases e : v.latched with
   | false => rfl
   | true => exact absurd (.inr (.inl e)) hn
  have hv := voted_wf h (f.getD 1 0).toNat (cmOf f)
  dsimp only
  split
  ·exact voCommits_wf hv hl _
  ·exact hv
end Go.Proofs.YtdhekhlmdefcnabGreatDoor
