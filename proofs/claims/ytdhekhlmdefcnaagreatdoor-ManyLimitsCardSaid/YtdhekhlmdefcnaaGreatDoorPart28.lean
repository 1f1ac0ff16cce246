/- Part 28 of the proof: SyDel, SyCalm, SyRep, SyBad, SyNew. -/
import Derived.Test.YtdhekhlmdefcnaaGreatDoorPart27
import Derived.Deep.RegionHeld3
namespace Go.Proofs.YtdhekhlmdefcnaaGreatDoor
open Go.RowKit
section
variable {w0 w w1 w' : World} {B : Nat} {x : SyX} {L : Lay} {s s' : Sys} {T : Nat}
end
end Go.Proofs.YtdhekhlmdefcnaaGreatDoor
namespace Go.Proofs.YtdhekhlmdefcnaaGreatDoor
open Go.RowKit
section
variable {w0 w w1 w' : World} {B : Nat} {x : SyX} {L : Lay} {s s' : Sys} {T : Nat}
end
end Go.Proofs.YtdhekhlmdefcnaaGreatDoor
namespace Go.Proofs.YtdhekhlmdefcnaaGreatDoor
open Go.RowKit
section
variable {w0 w w' : World} {B : Nat} {x : SyX} {L : Lay} {s : Sys} {T : Nat}
end
end Go.Proofs.YtdhekhlmdefcnaaGreatDoor
namespace Go.Proofs.YtdhekhlmdefcnaaGreatDoor
open Go.RowKit
section
variable {w : World} {B : Nat} {x : SyX} {L : Lay} {s : Sys}
end
end Go.Proofs.YtdhekhlmdefcnaaGreatDoor
namespace Go.Proofs.YtdhekhlmdefcnaaGreatDoor
open Go.RowKit
section
variable {w0 w w' : World} {B : Nat} {L : Lay}
def newC (vr : Value) (L : Lay) (vb : Nat) (rb : Nat → Nat) (k : Nat) : Array Value := #[I L.secs, vr, I L.delay, (if 0 < k then .pointer (some ⟨rb 0, 0, none⟩) else .pointer none), (if 1 < k then .pointer (some ⟨rb 1, 0, none⟩) else .pointer none), (if 2 < k then .pointer (some ⟨rb 2, 0, none⟩) else .pointer none), .pointer (some ⟨vb, 0, none⟩), .slice none 0 0, I 0]
theorem newC_at (vr : Value) (L : Lay) (vb : Nat) (rb : Nat → Nat) {k : Nat} (hk : k < 3) : (newC vr L vb rb k)[3 + k]? = some (.pointer none) := by
 have : k = 0 ∨ k = 1 ∨ k = 2 := by omega
 rcases this with rfl | rfl | rfl <;> rfl
theorem newC_set (vr : Value) (L : Lay) (vb : Nat) (rb : Nat → Nat) {k : Nat} (hk : k < 3) (g : Nat) : (newC vr L vb rb k).setIfInBounds (3 + k) (.pointer (some ⟨g, 0, none⟩)) = newC vr L vb (upd rb k g) (k + 1) := by
 have : k = 0 ∨ k = 1 ∨ k = 2 := by omega
 rcases this with rfl | rfl | rfl <;> rfl
def NewAt (w0 : World) (g2 gs vb : Nat) (vr : Value) (L : Lay) (win : Int) (k : Nat) (rb cb : Nat → Nat) (wr : World) : Prop :=
 Has wr gs 121 (newC vr L vb rb k) ∧ Has wr g2 51 #[I L.secs, vr, I L.delay] ∧ wr.ownsRow 0 3 1 vr L.routes.length (ints (zs L.routes)) ∧ VoAt wr g2 vb (.slice none 0 0) (Vo.new win) ∧
 (∀ j, j < k → RepAt wr (rb j) (cb j) L (Re.new j) ∧ g2 ≤ rb j ∧ rb j < wr.heap.size) ∧ (∀ i j, i < k → j < k → rb i = rb j → i = j) ∧ g2 ≤ gs ∧ Below g2 w0 wr
theorem newS {wx : World} {g2 n cR : Nat} {AR : Option Addr} (h : Has wx g2 51 #[I L.secs, .slice AR n cR, I L.delay]) : wx.cell? ⟨g2, 0, none⟩ = some (I L.secs) ∧ wx.cell? ⟨g2, 1, none⟩ = some (.slice AR n cR) ∧ wx.cell? ⟨g2, 2, none⟩ = some (I L.delay) :=
 ⟨h.cellv 0 _ rfl, h.cellv 1 _ rfl, h.cellv 2 _ rfl⟩
theorem NewAt.step {wr wn : World} {g2 gs vb k : Nat} {vr : Value} {win : Int} {rb cb : Nat → Nat} (h : NewAt w0 g2 gs vb vr L win k rb cb wr) (hk : k < 3) {gr gc : Nat} (hgr : wr.heap.size ≤ gr) (hr : RepAt wn gr gc L (Re.new k)) (hb : Below wr.heap.size wr wn) :
  NewAt w0 g2 gs vb vr L win (k + 1) (upd rb k gr) (upd cb k gc) (wn.setCell ⟨gs, 3 + k, none⟩ (.pointer (some ⟨gr, 0, none⟩))) := by
 obtain ⟨h1, h2, h3, h4, h5, h6, h7, h8⟩ := h
 have k1 := h1.after hb
 have ht : Turned (fun b => b = gs) wn (wn.setCell ⟨gs, 3 + k, none⟩ (.pointer (some ⟨gr, 0, none⟩))) := (Turned.refl _ _).setCell _ _ (.inl rfl)
 have hF : ∀ b, b = gs → Mut wn b := fun b e => ⟨_, _, e ▸ k1, rfl⟩
 have hsz : wn.heap.size = (wn.setCell ⟨gs, 3 + k, none⟩ (.pointer (some ⟨gr, 0, none⟩))).heap.size := by simp [World.setCell]
 have hgs := h1.lt
 refine ⟨by rw [← newC_set _ _ _ _ hk]; exact k1.set _ _, (h2.after hb).keepT ht hF (by decide), own_keepT (own_after h3 hb) ht hF (by decide), (h4.after hb).turned ht ?_, fun j hj => ?_, fun i j hi hj e => ?_, h7, (h8.trans (hb.mono (by omega))).setCell h7 _⟩
 ·rintro b (rfl | hb') e
  ·exact (h4.after hb).has.ne k1 (by decide) e
  ·simp [Value.ownBlock] at hb'
 ·unfold upd
  by_cases e : j = k
  ·subst e
   rw [if_pos rfl, if_pos rfl]
   refine ⟨hr.keepT ht hF fun e => hr.has.ne k1 (by decide) e, by omega, ?_⟩
   rw [← hsz]; exact hr.has.lt
  ·rw [if_neg e, if_neg e]
   obtain ⟨a1, a2, a3⟩ := h5 j (by omega)
   have a4 := a1.after hb
   refine ⟨a4.keepT ht hF fun e => a4.has.ne k1 (by decide) e, a2, ?_⟩
   rw [← hsz]; exact a4.has.lt
 ·unfold upd at e
  split at e
  ·split at e
   ·omega
   ·have := (h5 j (by omega)).2.2; omega
  ·split at e
   ·have := (h5 i (by omega)).2.2; omega
   ·exact h6 i j (by omega) (by omega) e
theorem NewAt.sy {wr : World} {g2 gs vb : Nat} {vr : Value} {win : Int} {rb cb : Nat → Nat} (h : NewAt w0 g2 gs vb vr L win 3 rb cb wr) : SyAt wr g2 ⟨gs, rb, cb, vb, .slice none 0 0, vr, .slice none 0 0, []⟩ L (Sys.new win) := by
 obtain ⟨h1, h2, h3, h4, h5, h6, h7, h8⟩ := h
 refine ⟨h1, h3, rfl, fun k hk => ?_, fun i j hi hj e => h6 i j hi hj e, h4, World.ownsRow_nil _ _ _ _, rfl, fun i gm v e => (by cases e), h7, fun k hk => (h5 k hk).2.1⟩
 have : k = 0 ∨ k = 1 ∨ k = 2 := by omega
 rcases this with rfl | rfl | rfl
 ·exact (h5 0 hk).1
 ·exact (h5 1 hk).1
 ·exact (h5 2 hk).1
set_option maxHeartbeats 4000000 in
set_option maxRecDepth 100000 in
theorem sy_new (A : Option Addr) (n c : Nat) (L : Lay) (w : World) (hL : L.Ok) (hxn : Hid (L.routes.length = n)) (hc : n ≤ c) (hr : Reads w w.heap.size A (ints (zs L.routes))) (win : Int) (hw1 : 1 ≤ win) (hw2 : win ≤ 20) :
  Calls Tryz.prog 40 #[.agg #[I L.secs, .slice A n c, I L.delay], I win] w fun e w' => (∃ x, e = .returned (.tuple #[.pointer (some ⟨x.g, 0, none⟩), .nilIface]) ∧ SyAt w' w.heap.size x L (Sys.new win)) ∧ Below w.heap.size w w' := by
 obtain ⟨i0, hi0, hz0, hz1, hz2⟩ := info_parts infoInt
 have hnn := hxn.out
 subst hnn
 have hn1 : 1 ≤ L.routes.length := hL.many1
 have hn8 : L.routes.length ≤ 8 := hL.many2
 obtain ⟨ab, ao, hA⟩ : ∃ ab ao, A = some ⟨ab, ao, none⟩ := by
  obtain ⟨b, o, e, _⟩ := hr (by intro h; have := congrArg List.length h; rw [ints_length, zs_length] at this; simp at this; rw [this] at hn1; simp at hn1)
  exact ⟨b, o, e⟩
 subst hA
 have hb1 : Below w.heap.size w (w.alloc (.cells #[I L.secs, .slice (some ⟨ab, ao, none⟩) L.routes.length c, I L.delay] 51)) := (Below.refl _ _).alloc (Nat.le_refl _) _
 have k2 := Has.new w 51 #[I L.secs, .slice (some ⟨ab, ao, none⟩) L.routes.length c, I L.delay]
 have hsz1 : (w.alloc (.cells #[I L.secs, .slice (some ⟨ab, ao, none⟩) L.routes.length c, I L.delay] 51)).heap.size = w.heap.size + 1 := by simp
 have hok := Lib.hid (chk_lay hL)
 have hxz : Hid ((zs L.routes).length = L.routes.length) := Lib.hid (zs_length _)
 go_enter Tryz.func40, Tryz.ntmps40
 go_upto_region 1 with fail
 generalize w.alloc (.cells #[I L.secs, .slice (some ⟨ab, ao, none⟩) L.routes.length c, I L.delay] 51) = w1 at *
 generalize hG : w.heap.size = g2 at *
 have HG := Lib.hid hG
 have HR1 := Lib.hid ((hr.below hb1).more (by omega : g2 ≤ w1.heap.size))
 have HB1 := Lib.hid hb1
 have a0 := k2.cellv 0 (I L.secs) rfl
 have a1 := k2.cellv 1 (.slice (some ⟨ab, ao, none⟩) L.routes.length c) rfl
 have a2 := k2.cellv 2 (I L.delay) rfl
 clear hG hr hb1
 go_upto_region 4 with (go_at_call 60; refine (check_ok _ _ _ _ _ (zs L.routes) _ w1.heap.size hxz hn8 hc (Nat.le_refl _) HR1.out hok).mono ?_; rintro e w2 ⟨rfl, hb2⟩)
 have k22 := k2.after hb2
 have HR2 := Lib.hid ((HR1.out.below hb2).more hb2.size)
 have HB2 := Lib.hid (HB1.out.trans (hb2.mono (by omega)))
 have hg22 := k22.lt
 clear k2 hb2 HR1 HB1 hsz1 a0 a1 a2
 go_upto_region 7 with (go_at_call 61; refine (vo_new win hw1 hw2 w2).mono ?_; rintro e w3 ⟨⟨rfl, hvo⟩, hb3⟩)
 have k23 := k22.after hb3
 have HR3 := Lib.hid ((HR2.out.below hb3).more hb3.size)
 have HB3 := Lib.hid (HB2.out.trans (hb3.mono (by omega)))
 have HV3 := Lib.hid hvo
 have hg23 := k23.lt
 have hvl := HV3.out.has.lt
 generalize hVB : w2.heap.size = vb at *
 have hvb : g2 < vb := hg22
 clear k22 hb3 HR2 HB2 hvo hVB hg22
 have d1 := k23.cellv 1 _ rfl
 go_upto_region 8 with (at_builtin; go_loud (refine wpList_append_read rfl (.tmp 24) (.tmp 26) 49 rfl w3.heap.size 3 i0 (.int .i64 0) 1 8 Tryz.underlying49 hi0 hz0 hz1 hz2 rfl (by decide) _ _ _ rfl (World.ownsRow_lit w3 #[] 0 (Nat.le_refl _) (Nat.zero_le _) rfl) w3.heap.size (some ⟨ab, ao, none⟩) L.routes.length c (ints (zs L.routes)) rfl (fun h => by cases h) (by rw [ints_length, hxz.out, Nat.mul_one]) ?c2 (ints_one _) ?c3 ?c4 ?c5 ?_))
 case c2 => exact HR3.out.alloc (Nat.le_refl _) _
 case c3 => unfold maxLen; omega
 case c4 => omega
 case c5 => simp
 intro v1 w4 hown4 hgrow4
 have hb4 : Below w3.heap.size w3 w4 := ((Below.refl _ _).alloc (Nat.le_refl _) _).grown hgrow4 (by simp) (fun q hq => by simp [Value.ownBlock] at hq; omega)
 have HO4 : Hid (w4.ownsRow 0 3 1 v1 L.routes.length (ints (zs L.routes))) := Lib.hid (by exact own_base (by simpa using hown4) (Nat.zero_le _))
 have k24 := k23.after hb4
 have d1 := k24.cellv 1 _ rfl
 have f1 := k24.free 1
 have HV4 := Lib.hid (HV3.out.after hb4)
 have HB4 := Lib.hid (HB3.out.trans (hb4.mono (by omega)))
 have hg24 := k24.lt
 have KG4 := Lib.hid k24
 clear hown4 hgrow4 HR3 HV3 HB3 k23 hb4 hg23 hvl k24
 obtain ⟨AR, cR, rfl, hcR, _, _, _⟩ := own_read HO4.out
 go_upto_region 8 with fail
 have k25 : Has (w4.setCell ⟨g2, 1, none⟩ (.slice AR L.routes.length cR)) g2 51 #[I L.secs, .slice AR L.routes.length cR, I L.delay] := KG4.out.set 1 _
 have hF : ∀ b, b = g2 → ¬ FV vb (.slice none 0 0) b := fun b e h => by
  rcases h with h | h
  ·omega
  ·simp [Value.ownBlock] at h
 have ht5 : Turned (fun b => b = g2) w4 (w4.setCell ⟨g2, 1, none⟩ (.slice AR L.routes.length cR)) := (Turned.refl _ _).setCell _ _ (.inl rfl)
 have hv5 := HV4.out.turned ht5 (fun b hb e => hF b e hb)
 have HV5 : Hid (VoAt (w4.setCell ⟨g2, 1, none⟩ (.slice AR L.routes.length cR)) g2 vb (.slice none 0 0) (Vo.new win)) := Lib.hid ⟨hv5.has, World.ownsRow_nil _ _ _ _, by omega⟩
 have HO5 : Hid ((w4.setCell ⟨g2, 1, none⟩ (.slice AR L.routes.length cR)).ownsRow 0 3 1 (.slice AR L.routes.length cR) L.routes.length (ints (zs L.routes))) := Lib.hid (own_far HO4.out KG4.out (by decide) _ _)
 have HB5 := Lib.hid (HB4.out.setCell (p := ⟨g2, 1, none⟩) (Nat.le_refl _) (.slice AR L.routes.length cR))
 clear hF ht5 hv5 HV4 HO4 HB4 d1 f1 KG4
 generalize w4.setCell ⟨g2, 1, none⟩ (.slice AR L.routes.length cR) = w5 at *
 have e0 := k25.cellv 0 _ rfl
 have e1 := k25.cellv 1 _ rfl
 have e2 := k25.cellv 2 _ rfl
 have hg5 := k25.lt
 go_upto_region 9 with fail
 have hb6 : Below w5.heap.size w5 (w5.alloc (.cells #[I L.secs, .slice AR L.routes.length cR, I L.delay, .pointer none, .pointer none, .pointer none, .pointer (some ⟨vb, 0, none⟩), .slice none 0 0, I 0] 121)) := (Below.refl _ _).alloc (Nat.le_refl _) _
 have HN0 : Hid (NewAt w g2 w5.heap.size vb (.slice AR L.routes.length cR) L win 0 (fun _ => 0) (fun _ => 0) (w5.alloc (.cells #[I L.secs, .slice AR L.routes.length cR, I L.delay, .pointer none, .pointer none, .pointer none, .pointer (some ⟨vb, 0, none⟩), .slice none 0 0, I 0] 121))) := Lib.hid ⟨Has.new w5 _ _, k25.after hb6, own_after HO5.out hb6, HV5.out.after hb6, fun j hj => by omega, fun i j hi hj => by omega, by omega, HB5.out.trans (hb6.mono (by omega))⟩
 clear hb6 e0 e1 e2 k25 HO5 HV5 HB5 hg24
 generalize w5.alloc (.cells #[I L.secs, .slice AR L.routes.length cR, I L.delay, .pointer none, .pointer none, .pointer none, .pointer (some ⟨vb, 0, none⟩), .slice none 0 0, I 0] 121) = w6 at *
 generalize w5.heap.size = gs at *
 go_wp2_with fail
 go_loopw [33] (fun iv wr => ∃ k : Nat, k ≤ 3 ∧ iv = I k ∧ ∃ rb cb, Hid (NewAt w g2 gs vb (.slice AR L.routes.length cR) L win k rb cb wr)) (fun iv _ => 3 - (intOf iv).toNat)
 case atStart => exact ⟨0, by omega, rfl, _, _, HN0⟩
 case round =>
  clear HN0
  obtain ⟨k, hk, rfl, rb, cb, hnew⟩ := hrel
  by_cases hlt : k < 3
  ·have hk3 := Lib.hid hlt
   have hki : (k : Int) < 3 := by omega
   have HSS : Hid (∀ wx, Below wr.heap.size wr wx → wx.cell? ⟨g2, 0, none⟩ = some (I L.secs) ∧ wx.cell? ⟨g2, 1, none⟩ = some (.slice AR L.routes.length cR) ∧ wx.cell? ⟨g2, 2, none⟩ = some (I L.delay)) := Lib.hid (fun wx hb => newS (hnew.out.2.1.after hb))
   have hgs := hnew.out.1.lt
   have HC := Lib.hid (re_new k hlt AR L.routes.length cR L wr.drew hL (Lib.hid rfl) hcR (by
    obtain ⟨A', c', e, _, _, _, hrd⟩ := own_read hnew.out.2.2.1
    injection e with e1 e2 e3
    rw [e1]
    exact hrd))
   clear hlt hk
   go_upto_region 12 with fail
   refine wp_region_held_drew (S := fun wx => (wx.cell? ⟨g2, 0, none⟩ = some (I L.secs)) ∧ (wx.cell? ⟨g2, 1, none⟩ = some (.slice AR L.routes.length cR)) ∧ (wx.cell? ⟨g2, 2, none⟩ = some (I L.delay))) (by kernel_rfl) (HSS.out wr.drew ((Below.refl _ _).drew)) (fun hHeld => ?_)
   refine wpAnyH_take (i := 0) (oi := { dst := some 37, op := Op.move (Operand.tmp 9), type := 52, pos := "system.go:41", after := #[], guard := none }) (v := .pointer (some ⟨gs, 0, none⟩)) rfl (by kernel_rfl) (by kernel_rfl) (by kernel_rfl) (fun _ _ _ h => h) (Or.inl ⟨by rfl, ?_⟩) hHeld ?_
   ·rintro wx ⟨hs0, hs1, hs2⟩
    go_simp
   simp only [Act.put, List.setIfInBounds_toArray, List.set_cons_zero, List.set_cons_succ]
   refine wpAnyH_take (i := 1) (oi := { dst := some 38, op := Op.move (Operand.tmp 10), type := 3, pos := "system.go:41", after := #[], guard := none }) (v := I k) rfl (by kernel_rfl) (by kernel_rfl) (by kernel_rfl) (fun _ _ _ h => h) (Or.inl ⟨by rfl, ?_⟩) hHeld ?_
   ·rintro wx ⟨hs0, hs1, hs2⟩
    go_simp
   simp only [Act.put, List.setIfInBounds_toArray, List.set_cons_zero, List.set_cons_succ]
   refine wpAnyH_take (i := 2) (oi := { dst := some 39, op := Op.move (Operand.tmp 10), type := 3, pos := "system.go:41", after := #[], guard := none }) (v := I k) rfl (by kernel_rfl) (by kernel_rfl) (by kernel_rfl) (fun _ _ _ h => h) (Or.inl ⟨by rfl, ?_⟩) hHeld ?_
   ·rintro wx ⟨hs0, hs1, hs2⟩
    go_simp
   simp only [Act.put, List.setIfInBounds_toArray, List.set_cons_zero, List.set_cons_succ]
   refine wpAnyH_take (i := 3) (oi := { dst := some 40, op := Op.load 51 (Operand.tmp 2), type := 51, pos := "system.go:41", after := #[], guard := none }) (v := .agg #[I L.secs, .slice AR L.routes.length cR, I L.delay]) rfl (by kernel_rfl) (by kernel_rfl) (by kernel_rfl) (fun _ _ _ h => h) (Or.inl ⟨by rfl, ?_⟩) hHeld ?_
   ·rintro wx ⟨hs0, hs1, hs2⟩
    go_simp
   simp only [Act.put, List.setIfInBounds_toArray, List.set_cons_zero, List.set_cons_succ]
   refine wpAnyH_take (i := 8) (oi := { dst := some 44, op := Op.nilCheck (Operand.tmp 37), type := 0, pos := "system.go:41", after := #[{ on := 0, ground := Ground.data }], guard := none }) (v := .pointer (some ⟨gs, 0, none⟩)) rfl (by kernel_rfl) (by kernel_rfl) (by kernel_rfl) (fun _ _ _ h => h) (Or.inl ⟨by rfl, ?_⟩) hHeld ?_
   ·rintro wx ⟨hs0, hs1, hs2⟩
    go_simp
   simp only [Act.put, List.setIfInBounds_toArray, List.set_cons_zero, List.set_cons_succ]
   refine wpAnyH_take (i := 9) (oi := { dst := some 45, op := Op.fieldAddr 121 (Operand.tmp 44) 1, type := 0, pos := "system.go:41", after := #[{ on := 8, ground := Ground.data }], guard := none }) (v := .pointer (some ⟨gs, 3, none⟩)) rfl (by kernel_rfl) (by kernel_rfl) (by kernel_rfl) (fun _ _ _ h => h) (Or.inl ⟨by rfl, ?_⟩) hHeld ?_
   ·rintro wx ⟨hs0, hs1, hs2⟩
    go_simp
   simp only [Act.put, List.setIfInBounds_toArray, List.set_cons_zero, List.set_cons_succ]
   refine wpAnyH_ready (rs := [4]) (by kernel_rfl) (by simp) (AllReadyH.cons (o := { dst := some 41, op := Op.call { callee := Callee.value (Operand.func 62), args := #[Operand.tmp 39, Operand.tmp 40], argTypes := #[3, 51] }, type := 122, pos := "system.go:41", after := #[{ on := 2, ground := Ground.data }, { on := 3, ground := Ground.data }], guard := none }) rfl (fun K hK => ?_) AllReadyH.nil)
   go_simp
   go_at_call 62; refine HC.out.mono ?_; rintro e wn ⟨⟨gr, gc, hgr, rfl, hr⟩, hbn0⟩; have hbn : Below wr.heap.size wr wn := (show Below wr.heap.size wr wr.drew from (Below.refl _ _).drew).trans hbn0; have HST := Lib.hid (NewAt.step hnew.out hk3.out hgr hr hbn); have HSN := Lib.hid (HSS.out wn hbn); have dk := (hnew.out.1.after hbn).cellv (3 + k) _ (newC_at _ _ _ _ hk3.out); have fk := (hnew.out.1.after hbn).free (3 + k); have HFG := Lib.hid (hnew.out.2.1.after hbn); have HFS := Lib.hid (hnew.out.1.after hbn); clear hgr hr hbn hbn0
   refine hK.out _ _ HSN.out (fun hHeld => ?_)
   clear hK K
   try simp only [Act.put, List.setIfInBounds_toArray, List.set_cons_zero, List.set_cons_succ]
   refine wpAnyH_take (i := 5) (oi := { dst := some 36, op := Op.move (Operand.tmp 41), type := 122, pos := "system.go:41", after := #[{ on := 4, ground := Ground.data }], guard := none }) (v := .tuple #[.pointer (some ⟨gr, 0, none⟩), .nilIface]) rfl (by kernel_rfl) (by kernel_rfl) (by kernel_rfl) (fun _ _ _ h => h) (Or.inl ⟨by rfl, ?_⟩) hHeld ?_
   ·rintro wx ⟨hs0, hs1, hs2⟩
    go_simp
   simp only [Act.put, List.setIfInBounds_toArray, List.set_cons_zero, List.set_cons_succ]
   refine wpAnyH_take (i := 6) (oi := { dst := some 42, op := Op.extract (Operand.tmp 36) 0, type := 117, pos := "system.go:41", after := #[{ on := 5, ground := Ground.data }], guard := none }) (v := .pointer (some ⟨gr, 0, none⟩)) rfl (by kernel_rfl) (by kernel_rfl) (by kernel_rfl) (fun _ _ _ h => h) (Or.inl ⟨by rfl, ?_⟩) hHeld ?_
   ·rintro wx ⟨hs0, hs1, hs2⟩
    go_simp
   simp only [Act.put, List.setIfInBounds_toArray, List.set_cons_zero, List.set_cons_succ]
   refine wpAnyH_take (i := 7) (oi := { dst := some 43, op := Op.extract (Operand.tmp 36) 1, type := 25, pos := "system.go:41", after := #[{ on := 5, ground := Ground.data }, { on := 11, ground := Ground.gcOnly Departure.lateStores }], guard := none }) (v := .nilIface) rfl (by kernel_rfl) (by kernel_rfl) (by kernel_rfl) (fun _ _ _ h => h) (Or.inl ⟨by rfl, ?_⟩) hHeld ?_
   ·rintro wx ⟨hs0, hs1, hs2⟩
    go_simp
   simp only [Act.put, List.setIfInBounds_toArray, List.set_cons_zero, List.set_cons_succ]
   refine wpAnyH_take (i := 10) (oi := { dst := some 46, op := Op.indexAddr 118 (Operand.tmp 45) (Operand.tmp 38), type := 0, pos := "system.go:41", after := #[{ on := 9, ground := Ground.data }, { on := 1, ground := Ground.data }, { on := 0, ground := Ground.phase }, { on := 1, ground := Ground.phase }, { on := 2, ground := Ground.phase }, { on := 3, ground := Ground.phase }, { on := 4, ground := Ground.phase }, { on := 5, ground := Ground.phase }, { on := 6, ground := Ground.phase }, { on := 7, ground := Ground.textOnly Departure.lateStores }], guard := none }) (v := .pointer (some ⟨gs, 3 + k, none⟩)) rfl (by kernel_rfl) (by kernel_rfl) (by kernel_rfl) (fun _ _ _ h => h) (Or.inl ⟨by rfl, ?_⟩) hHeld ?_
   ·rintro wx ⟨hs0, hs1, hs2⟩
    go_simp
   simp only [Act.put, List.setIfInBounds_toArray, List.set_cons_zero, List.set_cons_succ]
   refine wpAnyH_ready (rs := [11]) (by kernel_rfl) (by simp) (AllReadyH.cons (o := { dst := none, op := Op.store 117 (Operand.tmp 46) (Operand.tmp 42), type := 0, pos := "system.go:41", after := #[{ on := 10, ground := Ground.data }, { on := 6, ground := Ground.data }, { on := 4, ground := Ground.chain }, { on := 0, ground := Ground.phase }, { on := 1, ground := Ground.phase }, { on := 2, ground := Ground.phase }, { on := 3, ground := Ground.phase }, { on := 4, ground := Ground.phase }, { on := 5, ground := Ground.phase }, { on := 6, ground := Ground.phase }, { on := 7, ground := Ground.textOnly Departure.lateStores }], guard := none }) rfl (fun K hK => ?_) AllReadyH.nil)
   go_simp
   refine hK.out _ _ (newS (HFG.out.far (HFG.out.ne HFS.out (by decide)) _)) (fun hHeld => ?_)
   clear hK K
   try simp only [Act.put, List.setIfInBounds_toArray, List.set_cons_zero, List.set_cons_succ]
   refine wpAnyH_done (by kernel_rfl) ?_ _
   go_wp2_with fail
   go_roundw
   case rel => exact ⟨k + 1, hk3.out, by rfl, _, _, HST⟩
   case measure => have := hk3.out; simp [intOf]; omega
  ·have hk3 : k = 3 := by omega
   subst hk3
   go_wp2
   go_ret2
   rw [HG.out]
   exact ⟨⟨_, rfl, hnew.out.sy⟩, hnew.out.2.2.2.2.2.2.2⟩
end
end Go.Proofs.YtdhekhlmdefcnaaGreatDoor
