/- Part 21 of the proof: ReTick. -/
import Derived.Test.YtdhekhlmdefcnabGreatDoorPart20
import Derived.Test.YtdhekhlmdefcnabGreatDoorPart5
import Derived.Test.YtdhekhlmdefcnabGreatDoorPart8
namespace Go.Proofs.YtdhekhlmdefcnabGreatDoor
open Go.RowKit
def TR (w : World) (g gc g0 : Nat) (L : Lay) (r : Re) (c1 c2 : Array Value) (wx : World) : Prop :=
 RepAt wx g gc L r ∧ Turned (fun b => b = g) w wx ∧ Has wx g0 110 c1 ∧ Has wx (g0 + 1) 110 c2
theorem TR.after {w wx wy : World} {g gc g0 : Nat} {L : Lay} {r : Re} {c1 c2 : Array Value} (h : TR w g gc g0 L r c1 c2 wx) (hb : Below wx.heap.size wx wy) : TR w g gc g0 L r c1 c2 wy :=
 ⟨h.1.after hb, h.2.1.thenBelow hb, h.2.2.1.after hb, h.2.2.2.after hb⟩
theorem TR.set {w wx : World} {g gc g0 : Nat} {L : Lay} {r r' : Re} {c1 c2 : Array Value} (h : TR w g gc g0 L r c1 c2 wx) (i : Nat) (v : Value) (he : ∀ j, j < 93 → (if j = i then v else reF r gc j) = reF r' gc j) : TR w g gc g0 L r' c1 c2 (wx.setCell ⟨g, i, none⟩ v) := by
 have n1 := h.2.2.1.ne h.1.has (by decide)
 have n2 := h.2.2.2.ne h.1.has (by decide)
 exact ⟨h.1.to ((Turned.refl (fun b => b = g) wx).setCell ⟨g, i, none⟩ v (.inl rfl)) (h.1.has.setF i v) he, h.2.1.setCell ⟨g, i, none⟩ v (.inl rfl), h.2.2.1.far (p := ⟨g, i, none⟩) n1 v, h.2.2.2.far (p := ⟨g, i, none⟩) n2 v⟩
theorem TR.set2 {w wx : World} {g gc g0 : Nat} {L : Lay} {r r' : Re} {c1 c2 : Array Value} (h : TR w g gc g0 L r c1 c2 wx) (i j : Nat) (u v : Value) (he : ∀ m, m < 93 → (if m = j then v else if m = i then u else reF r gc m) = reF r' gc m) : TR w g gc g0 L r' c1 c2 ((wx.setCell ⟨g, i, none⟩ u).setCell ⟨g, j, none⟩ v) := by
 have n1 := h.2.2.1.ne h.1.has (by decide)
 have n2 := h.2.2.2.ne h.1.has (by decide)
 exact ⟨h.1.to (((Turned.refl (fun b => b = g) wx).setCell ⟨g, i, none⟩ u (.inl rfl)).setCell ⟨g, j, none⟩ v (.inl rfl)) ((h.1.has.setF i u).setF j v) he, (h.2.1.setCell ⟨g, i, none⟩ u (.inl rfl)).setCell ⟨g, j, none⟩ v (.inl rfl), (h.2.2.1.far (p := ⟨g, i, none⟩) n1 u).far (p := ⟨g, j, none⟩) n1 v, (h.2.2.2.far (p := ⟨g, i, none⟩) n2 u).far (p := ⟨g, j, none⟩) n2 v⟩
theorem TR.drew {w wx : World} {g gc g0 : Nat} {L : Lay} {r : Re} {c1 c2 : Array Value} (h : TR w g gc g0 L r c1 c2 wx) : TR w g gc g0 L r c1 c2 { wx with drawn := wx.drawn + 1 } := h.after ((Below.refl _ _).drew)
theorem TR.row1 {w wx : World} {g gc g0 : Nat} {L : Lay} {r : Re} {c1 c2 : Array Value} (h : TR w g gc g0 L r c1 c2 wx) (hg : w.heap.size ≤ g0) (cs : Array Value) : TR w g gc g0 L r cs c2 (wx.setRow g0 cs) := by
 have n1 := h.1.has.ne h.2.2.1 (by decide)
 exact ⟨⟨h.1.has.farRow n1 cs, h.1.core.turnedR h.2.2.1 (by decide) (by decide) ((Turned.refl (fun b => b = g0) wx).setRow g0 cs (.inl rfl))⟩, h.2.1.setRow g0 cs (.inr hg), h.2.2.1.setRow cs, h.2.2.2.farRow (by omega) cs⟩
theorem TR.row2 {w wx : World} {g gc g0 : Nat} {L : Lay} {r : Re} {c1 c2 : Array Value} (h : TR w g gc g0 L r c1 c2 wx) (hg : w.heap.size ≤ g0) (cs : Array Value) : TR w g gc g0 L r c1 cs (wx.setRow (g0 + 1) cs) := by
 have n1 := h.1.has.ne h.2.2.2 (by decide)
 exact ⟨⟨h.1.has.farRow n1 cs, h.1.core.turnedR h.2.2.2 (by decide) (by decide) ((Turned.refl (fun b => b = g0 + 1) wx).setRow (g0 + 1) cs (.inl rfl))⟩, h.2.1.setRow (g0 + 1) cs (.inr (by omega)), h.2.2.1.farRow (by omega) cs, h.2.2.2.setRow cs⟩
theorem results_cell2_tmp {P : Program} {fn : Func} {p q u : Tmp} {ty : TypeId} (h : fn.results = #[.cell p ty, .cell q ty, .tmp u]) (tmps : Array Value) (w : World) (g1 g2 : Nat) (t : TypeId) (cs ds : Array Value) (d : TypeDesc)
  (hp : tmps.getD p undef = .pointer (some ⟨g1, 0, none⟩)) (hq : tmps.getD q undef = .pointer (some ⟨g2, 0, none⟩)) (hg : Has w g1 t cs) (hg2 : Has w g2 t ds)
  (hu : P.underlying ty = some d) (hd : (match d with | .struct _ | .array _ _ => true | _ => false) = true) (hi : (P.info? ty).map (·.size) = some cs.size) (hi2 : (P.info? ty).map (·.size) = some ds.size) :
  (results fn tmps).run P w = .ok (.tuple #[.agg cs, .agg ds, tmps.getD u undef]) w := by
 simp only [results, h]
 rw [Array.getD_eq_getD_getElem?] at hp hq
 simp [Sem.run_bind, Result.andThen, asAddr, hp, hq, run_loadVar_row w g1 t ty cs (0, 0) d hg hu hd hi, run_loadVar_row w g2 t ty ds (0, 0) d hg2 hu hd hi2]
theorem eval_at {a : Act} {s : Nat} {v : Value} (h : a.tmps[s]?.getD undef = v) : a.eval (.tmp s) = v := by
 show a.tmps.getD s undef = v
 rw [Array.getD_eq_getD_getElem?]
 exact h
theorem TR.far {w wx : World} {g gc g0 q : Nat} {L : Lay} {r : Re} {c1 c2 : Array Value} {t : TypeId} {cs : Array Value} (h : TR w g gc g0 L r c1 c2 wx) (hq : Has wx q t cs) (hB : w.heap.size ≤ q) (n1 : 108 ≠ t) (n2 : 130 ≠ t) (n3 : 3 ≠ t) (n4 : 110 ≠ t) (ds : Array Value) : TR w g gc g0 L r c1 c2 (wx.setRow q ds) :=
 ⟨⟨h.1.has.farRow (h.1.has.ne hq n1) ds, h.1.core.turnedR hq n2 n3 ((Turned.refl (fun b => b = q) wx).setRow q ds (.inl rfl))⟩, h.2.1.setRow q ds (.inr hB), h.2.2.1.farRow (h.2.2.1.ne hq n4) ds, h.2.2.2.farRow (h.2.2.2.ne hq n4) ds⟩
def TickPost (w : World) (g gc : Nat) (L : Lay) (r : Re) (e : Ending) (w' : World) : Prop :=
 e = .returned (.tuple #[.agg (frC (reTick L r).2.1), .agg (frC (reTick L r).2.2.1), .bool (reTick L r).2.2.2]) ∧ RepAt w' g gc L (reTick L r).1 ∧ Turned (fun b => b = g) w w'
section
variable {w : World} {g gc : Nat} {L : Lay} {r : Re}
set_option maxHeartbeats 20000000 in
set_option maxRecDepth 100000 in
theorem re_tick (h : RepAt w g gc L r) (hL : L.Ok) (T : Nat) (hT : T ≤ 10000000000) (hf : Hid (r.Fits T)) : Calls Tryz.prog 41 #[.pointer (some ⟨g, 0, none⟩)] w (TickPost w g gc L r) := by
 have hb1 : Below w.heap.size w ((w.alloc (.cells #[I 0, I 0, I 0, I 0, I 0, I 0, I 0, I 0, I 0, I 0, I 0, I 0, I 0, I 0, I 0, I 0, I 0, I 0, I 0, I 0, I 0, I 0, I 0] 110)).alloc (.cells #[I 0, I 0, I 0, I 0, I 0, I 0, I 0, I 0, I 0, I 0, I 0, I 0, I 0, I 0, I 0, I 0, I 0, I 0, I 0, I 0, I 0, I 0, I 0] 110)) := ((Below.refl _ _).alloc (Nat.le_refl _) _).alloc (by simp) _
 have k0 : Has ((w.alloc (.cells #[I 0, I 0, I 0, I 0, I 0, I 0, I 0, I 0, I 0, I 0, I 0, I 0, I 0, I 0, I 0, I 0, I 0, I 0, I 0, I 0, I 0, I 0, I 0] 110)).alloc (.cells #[I 0, I 0, I 0, I 0, I 0, I 0, I 0, I 0, I 0, I 0, I 0, I 0, I 0, I 0, I 0, I 0, I 0, I 0, I 0, I 0, I 0, I 0, I 0] 110)) w.heap.size 110 (frC zeroF) := by rw [zeroFrame]; exact (Has.new w 110 _).alloc _
 have k1 : Has ((w.alloc (.cells #[I 0, I 0, I 0, I 0, I 0, I 0, I 0, I 0, I 0, I 0, I 0, I 0, I 0, I 0, I 0, I 0, I 0, I 0, I 0, I 0, I 0, I 0, I 0] 110)).alloc (.cells #[I 0, I 0, I 0, I 0, I 0, I 0, I 0, I 0, I 0, I 0, I 0, I 0, I 0, I 0, I 0, I 0, I 0, I 0, I 0, I 0, I 0, I 0, I 0] 110)) (w.heap.size + 1) 110 (frC zeroF) := by rw [zeroFrame]; exact Has.new' (w.alloc (.cells #[I 0, I 0, I 0, I 0, I 0, I 0, I 0, I 0, I 0, I 0, I 0, I 0, I 0, I 0, I 0, I 0, I 0, I 0, I 0, I 0, I 0, I 0, I 0] 110)) 110 _ (w.heap.size + 1) (by simp)
 have HT1 : Hid (TR w g gc w.heap.size L r (frC zeroF) (frC zeroF) ((w.alloc (.cells #[I 0, I 0, I 0, I 0, I 0, I 0, I 0, I 0, I 0, I 0, I 0, I 0, I 0, I 0, I 0, I 0, I 0, I 0, I 0, I 0, I 0, I 0, I 0] 110)).alloc (.cells #[I 0, I 0, I 0, I 0, I 0, I 0, I 0, I 0, I 0, I 0, I 0, I 0, I 0, I 0, I 0, I 0, I 0, I 0, I 0, I 0, I 0, I 0, I 0] 110))) := Lib.hid ⟨h.after hb1, Turned.of_below hb1 _, k0, k1⟩
 have hgl := h.has.lt
 obtain ⟨tt, htt, htt2⟩ : ∃ tt : Nat, (r.ticks : Int) + 1 = (tt : Int) ∧ r.ticks + 1 = tt := ⟨r.ticks + 1, by omega, rfl⟩
 have hticks := hf.out.ticks
 have hid3 := hf.out.id
 have HTT := Lib.hid htt2
 clear h hb1 k0 k1 htt2
 go_enter Tryz.func41, Tryz.ntmps41
 go_upto_region 1 with fail
 generalize (w.alloc (.cells #[I 0, I 0, I 0, I 0, I 0, I 0, I 0, I 0, I 0, I 0, I 0, I 0, I 0, I 0, I 0, I 0, I 0, I 0, I 0, I 0, I 0, I 0, I 0] 110)).alloc (.cells #[I 0, I 0, I 0, I 0, I 0, I 0, I 0, I 0, I 0, I 0, I 0, I 0, I 0, I 0, I 0, I 0, I 0, I 0, I 0, I 0, I 0, I 0, I 0] 110) = w1 at *
 generalize hG : w.heap.size = g0 at *
 have HG := Lib.hid hG
 clear hG
 have c91 := HT1.out.1.cell 91 (by decide) reF_ticks
 have f91 := HT1.out.1.free 91
 go_upto_region 2 with fail
 have HT2 : Hid (TR w g gc g0 L (someTo r tt 0) (frC zeroF) (frC zeroF) (w1.setCell ⟨g, 91, none⟩ (I (tt : Int)))) := Lib.hid (HT1.out.set 91 (I (tt : Int)) (by rw [someTo_zero hf.out.nsome]; exact reF_set_ticks r gc tt))
 clear c91 f91 htt HT1 hticks
 generalize w1.setCell ⟨g, 91, none⟩ (I (tt : Int)) = w2 at *
 go_wp2_with fail
 go_loopw [19] (fun i wr => ∃ k : Nat, k ≤ 3 ∧ i = I k ∧ Hid (TR w g gc g0 L (someTo r tt k) (frC zeroF) (frC zeroF) wr)) (fun i _ => 3 - (intOf i).toNat)
 case atStart => exact ⟨0, by omega, rfl, HT2⟩
 case round =>
  clear HT2
  obtain ⟨k, hk, rfl, HR⟩ := hrel
  by_cases hlt : k < 3
  ·have hki : (k : Int) < 3 := by omega
   have hsome := someTo_get (r := r) (t := tt) (k := k) (i := k) hlt
   rw [if_neg (by omega)] at hsome
   obtain ⟨b, hb⟩ : ∃ b, r.some.getD k false = b := ⟨_, rfl⟩
   obtain ⟨cm, hcm⟩ : ∃ cm, r.came.getD k 0 = cm := ⟨_, rfl⟩
   have hcmT : cm ≤ T := hcm ▸ hf.out.came k
   have httT : tt ≤ T + 1 := by have := hf.out.ticks; have := HTT.out; omega
   have HSU := Lib.hid (someTo_succ (r := r) (t := tt) hlt)
   rw [hb, hcm] at HSU
   rw [hb] at hsome
   have HCS : Hid (∀ wx, TR w g gc g0 L (someTo r tt k) (frC zeroF) (frC zeroF) wx → wx.cell? ⟨g, 28 + k, none⟩ = some (.bool b) ∧ wx.cell? ⟨g, 91, none⟩ = some (I (tt : Int)) ∧ wx.cell? ⟨g, 31 + k, none⟩ = some (I (cm : Int)) ∧ wx.frozen? ⟨g, 28 + k, none⟩ = false) := Lib.hid (fun wx hx =>
    ⟨hx.1.cell (28 + k) (by omega) (by rw [reF_some hlt, hsome]), hx.1.cell 91 (by decide) reF_ticks, hx.1.cell (31 + k) (by omega) (by rw [reF_came hlt]; show I ((r.came.getD k 0 : Nat) : Int) = _; rw [hcm]), hx.1.free _⟩)
   have HST : Hid (∀ wx v, TR w g gc g0 L (someTo r tt k) (frC zeroF) (frC zeroF) wx → v = (b && decide (tt < cm + 3)) → TR w g gc g0 L (someTo r tt (k + 1)) (frC zeroF) (frC zeroF) (wx.setCell ⟨g, 28 + k, none⟩ (.bool v))) := Lib.hid (fun wx v hx hv => by
    subst hv
    refine hx.set (28 + k) _ ?_
    have := reF_set_some (someTo r tt k) gc k (b && decide (tt < cm + 3)) hlt (by unfold someTo; simp)
    rw [HSU.out] at this
    exact this)
   have HDT : Hid (decide ((tt : Int) - (cm : Int) < 3) = decide (tt < cm + 3)) := Lib.hid (by rw [decide_eq_decide]; omega)
   have hw1 : IntKind.i64.wrap ((tt : Int) - (cm : Int)) = (tt : Int) - (cm : Int) := wr64 (by omega) (by omega)
   clear hsome hb hcm HSU
   go_upto_region 5 with fail
   have HW1 := Lib.hid hw1
   clear hw1
   obtain ⟨rb, hrb⟩ : ∃ rb, someTo r tt (k + 1) = rb := ⟨_, rfl⟩
   rw [hrb] at HST
   have HRB := Lib.hid hrb
   clear hrb
   generalize someTo r tt k = ra at *
   cases b with
   | false =>
    refine region_all (by kernel_rfl) (fun b0 => b0.tmps.getD 0 undef = .pointer (some ⟨g, 0, none⟩) ∧ b0.tmps.getD 5 undef = I (k : Int)) ⟨rfl, rfl⟩ 167 rfl (fun i => ([.pointer (some ⟨g, 0, none⟩), I (k : Int), .pointer (some ⟨g, 0, none⟩), I (k : Int), .pointer (some ⟨g, 0, none⟩), .pointer (some ⟨g, 28, none⟩), .pointer (some ⟨g, 28 + k, none⟩), .bool false, .bool false, undef, undef, undef, undef, undef, undef, undef, undef, undef, undef, undef, undef, .bool false, .pointer (some ⟨g, 0, none⟩), .pointer (some ⟨g, 28, none⟩), .pointer (some ⟨g, 28 + k, none⟩), undef] : List Value).getD i undef) [25] (by kernel_rfl) (fun j => ([(TR w g gc g0 L ra (frC zeroF) (frC zeroF)), (TR w g gc g0 L rb (frC zeroF) (frC zeroF))] : List (World → Prop)).getD j (fun _ => True)) [22, 23, 24, 25, 26, 27, 28, 29, 30, 31, 32, 33, 34, 35, 36, 37, 38, 39, 40, 41, 42, 43, 44, 45, 46] (by kernel_rfl) (by kernel_rfl) (HR.out.drew) ?_ ?_
    ·intro b0 hb0 i o ho
     have hi : i < 26 := (Array.getElem?_eq_some_iff.1 ho).1
     obtain ⟨f0, f5⟩ := hb0
     have hcase : i = 0 ∨ i = 1 ∨ i = 2 ∨ i = 3 ∨ i = 4 ∨ i = 5 ∨ i = 6 ∨ i = 7 ∨ i = 8 ∨ i = 9 ∨ i = 10 ∨ i = 11 ∨ i = 12 ∨ i = 13 ∨ i = 14 ∨ i = 15 ∨ i = 16 ∨ i = 17 ∨ i = 18 ∨ i = 19 ∨ i = 20 ∨ i = 21 ∨ i = 22 ∨ i = 23 ∨ i = 24 ∨ i = 25 := by omega
     clear hi
     rcases hcase with rfl | rfl | rfl | rfl | rfl | rfl | rfl | rfl | rfl | rfl | rfl | rfl | rfl | rfl | rfl | rfl | rfl | rfl | rfl | rfl | rfl | rfl | rfl | rfl | rfl | rfl
     ·simp only [List.getElem?_toArray, List.getElem?_cons_zero] at ho
      cases ho
      refine .inl ⟨by decide, fun M => stepA rfl (fun li ac wx H hn hed hM K hk => ?_)⟩
      have e0 : ac.tmps[0]?.getD undef = .pointer (some ⟨g, 0, none⟩) := slot_at ((H.frm.slot (by decide)).trans f0)
      clear hed H
      go_simp
      exact hk _ hM
     ·simp only [List.getElem?_toArray, List.getElem?_cons_zero, List.getElem?_cons_succ] at ho
      cases ho
      refine .inl ⟨by decide, fun M => stepA rfl (fun li ac wx H hn hed hM K hk => ?_)⟩
      have e5 : ac.tmps[5]?.getD undef = I (k : Int) := slot_at ((H.frm.slot (by decide)).trans f5)
      clear hed H
      go_simp
      exact hk _ hM
     ·simp only [List.getElem?_toArray, List.getElem?_cons_zero, List.getElem?_cons_succ] at ho
      cases ho
      refine .inl ⟨by decide, fun M => stepA rfl (fun li ac wx H hn hed hM K hk => ?_)⟩
      have e0 : ac.tmps[0]?.getD undef = .pointer (some ⟨g, 0, none⟩) := slot_at ((H.frm.slot (by decide)).trans f0)
      clear hed H
      go_simp
      exact hk _ hM
     ·simp only [List.getElem?_toArray, List.getElem?_cons_zero, List.getElem?_cons_succ] at ho
      cases ho
      refine .inl ⟨by decide, fun M => stepA rfl (fun li ac wx H hn hed hM K hk => ?_)⟩
      have e5 : ac.tmps[5]?.getD undef = I (k : Int) := slot_at ((H.frm.slot (by decide)).trans f5)
      clear hed H
      go_simp
      exact hk _ hM
     ·simp only [List.getElem?_toArray, List.getElem?_cons_zero, List.getElem?_cons_succ] at ho
      cases ho
      refine .inl ⟨by decide, fun M => stepA rfl (fun li ac wx H hn hed hM K hk => ?_)⟩
      have e24 : ac.tmps[24]?.getD undef = .pointer (some ⟨g, 0, none⟩) := slot_at (H.known 2 _ rfl (hed ⟨2, .data⟩ (by simp) rfl) 24 rfl)
      clear hed H
      go_simp
      exact hk _ hM
     ·simp only [List.getElem?_toArray, List.getElem?_cons_zero, List.getElem?_cons_succ] at ho
      cases ho
      refine .inl ⟨by decide, fun M => stepA rfl (fun li ac wx H hn hed hM K hk => ?_)⟩
      have e26 : ac.tmps[26]?.getD undef = .pointer (some ⟨g, 0, none⟩) := slot_at (H.known 4 _ rfl (hed ⟨4, .data⟩ (by simp) rfl) 26 rfl)
      clear hed H
      go_simp
      exact hk _ hM
     ·simp only [List.getElem?_toArray, List.getElem?_cons_zero, List.getElem?_cons_succ] at ho
      cases ho
      refine .inl ⟨by decide, fun M => stepA rfl (fun li ac wx H hn hed hM K hk => ?_)⟩
      have e25 : ac.tmps[25]?.getD undef = I (k : Int) := slot_at (H.known 3 _ rfl (hed ⟨3, .data⟩ (by simp) rfl) 25 rfl)
      have e27 : ac.tmps[27]?.getD undef = .pointer (some ⟨g, 28, none⟩) := slot_at (H.known 5 _ rfl (hed ⟨5, .data⟩ (by simp) rfl) 27 rfl)
      have hk0 : (0 : Int) ≤ (k : Int) := by omega
      clear hed H
      go_simp
      exact hk _ hM
     ·simp only [List.getElem?_toArray, List.getElem?_cons_zero, List.getElem?_cons_succ] at ho
      cases ho
      refine .inr (.inl ⟨by decide, by kernel_rfl, stepA rfl (fun li ac wx H hn hed hM K hk => ?_)⟩)
      have e28 : ac.tmps[28]?.getD undef = .pointer (some ⟨g, 28 + k, none⟩) := slot_at (H.known 6 _ rfl (hed ⟨6, .data⟩ (by simp) rfl) 28 rfl)
      have hM1 : (TR w g gc g0 L ra (frC zeroF) (frC zeroF)) wx := hM
      obtain ⟨x1, x2, x3, x4⟩ := HCS.out wx hM1
      clear hed H
      go_simp
      exact hk _ hM
     ·simp only [List.getElem?_toArray, List.getElem?_cons_zero, List.getElem?_cons_succ] at ho
      cases ho
      refine .inl ⟨by decide, fun M => stepA rfl (fun li ac wx H hn hed hM K hk => ?_)⟩
      have e29 : ac.tmps[29]?.getD undef = .bool false := slot_at (H.known 7 _ rfl (hed ⟨7, .data⟩ (by simp) rfl) 29 rfl)
      clear hed H
      go_simp
      exact hk _ hM
     ·simp only [List.getElem?_toArray, List.getElem?_cons_zero, List.getElem?_cons_succ] at ho
      cases ho
      exact .inl ⟨by decide, fun M => stepAN (j := 8) rfl rfl rfl rfl (by simp) rfl (fun _ h => h)⟩
     ·simp only [List.getElem?_toArray, List.getElem?_cons_zero, List.getElem?_cons_succ] at ho
      cases ho
      exact .inl ⟨by decide, fun M => stepAN (j := 8) rfl rfl rfl rfl (by simp) rfl (fun _ h => h)⟩
     ·simp only [List.getElem?_toArray, List.getElem?_cons_zero, List.getElem?_cons_succ] at ho
      cases ho
      exact .inl ⟨by decide, fun M => stepAN (j := 8) rfl rfl rfl rfl (by simp) rfl (fun _ h => h)⟩
     ·simp only [List.getElem?_toArray, List.getElem?_cons_zero, List.getElem?_cons_succ] at ho
      cases ho
      exact .inl ⟨by decide, fun M => stepAN (j := 8) rfl rfl rfl rfl (by simp) rfl (fun _ h => h)⟩
     ·simp only [List.getElem?_toArray, List.getElem?_cons_zero, List.getElem?_cons_succ] at ho
      cases ho
      exact .inl ⟨by decide, fun M => stepAN (j := 8) rfl rfl rfl rfl (by simp) rfl (fun _ h => h)⟩
     ·simp only [List.getElem?_toArray, List.getElem?_cons_zero, List.getElem?_cons_succ] at ho
      cases ho
      exact .inl ⟨by decide, fun M => stepAN (j := 8) rfl rfl rfl rfl (by simp) rfl (fun _ h => h)⟩
     ·simp only [List.getElem?_toArray, List.getElem?_cons_zero, List.getElem?_cons_succ] at ho
      cases ho
      exact .inl ⟨by decide, fun M => stepAN (j := 8) rfl rfl rfl rfl (by simp) rfl (fun _ h => h)⟩
     ·simp only [List.getElem?_toArray, List.getElem?_cons_zero, List.getElem?_cons_succ] at ho
      cases ho
      exact .inl ⟨by decide, fun M => stepAN (j := 8) rfl rfl rfl rfl (by simp) rfl (fun _ h => h)⟩
     ·simp only [List.getElem?_toArray, List.getElem?_cons_zero, List.getElem?_cons_succ] at ho
      cases ho
      exact .inl ⟨by decide, fun M => stepAN (j := 8) rfl rfl rfl rfl (by simp) rfl (fun _ h => h)⟩
     ·simp only [List.getElem?_toArray, List.getElem?_cons_zero, List.getElem?_cons_succ] at ho
      cases ho
      exact .inl ⟨by decide, fun M => stepAN (j := 8) rfl rfl rfl rfl (by simp) rfl (fun _ h => h)⟩
     ·simp only [List.getElem?_toArray, List.getElem?_cons_zero, List.getElem?_cons_succ] at ho
      cases ho
      exact .inl ⟨by decide, fun M => stepAN (j := 8) rfl rfl rfl rfl (by simp) rfl (fun _ h => h)⟩
     ·simp only [List.getElem?_toArray, List.getElem?_cons_zero, List.getElem?_cons_succ] at ho
      cases ho
      exact .inl ⟨by decide, fun M => stepAN (j := 8) rfl rfl rfl rfl (by simp) rfl (fun _ h => h)⟩
     ·simp only [List.getElem?_toArray, List.getElem?_cons_zero, List.getElem?_cons_succ] at ho
      cases ho
      refine .inl ⟨by decide, fun M => stepA rfl (fun li ac wx H hn hed hM K hk => ?_)⟩
      have e30 : ac.tmps[30]?.getD undef = .bool false := slot_at (H.known 8 _ rfl (hed ⟨8, .data⟩ (by simp) rfl) 30 rfl)
      have e42 : ac.tmps[42]?.getD undef = undef := slot_at (H.known 20 _ rfl (hed ⟨20, .data⟩ (by simp) rfl) 42 rfl)
      clear hed H
      go_simp
      exact hk _ hM
     ·simp only [List.getElem?_toArray, List.getElem?_cons_zero, List.getElem?_cons_succ] at ho
      cases ho
      refine .inl ⟨by decide, fun M => stepA rfl (fun li ac wx H hn hed hM K hk => ?_)⟩
      have e22 : ac.tmps[22]?.getD undef = .pointer (some ⟨g, 0, none⟩) := slot_at (H.known 0 _ rfl (hed ⟨0, .data⟩ (by simp) rfl) 22 rfl)
      clear hed H
      go_simp
      exact hk _ hM
     ·simp only [List.getElem?_toArray, List.getElem?_cons_zero, List.getElem?_cons_succ] at ho
      cases ho
      refine .inl ⟨by decide, fun M => stepA rfl (fun li ac wx H hn hed hM K hk => ?_)⟩
      have e44 : ac.tmps[44]?.getD undef = .pointer (some ⟨g, 0, none⟩) := slot_at (H.known 22 _ rfl (hed ⟨22, .data⟩ (by simp) rfl) 44 rfl)
      clear hed H
      go_simp
      exact hk _ hM
     ·simp only [List.getElem?_toArray, List.getElem?_cons_zero, List.getElem?_cons_succ] at ho
      cases ho
      refine .inl ⟨by decide, fun M => stepA rfl (fun li ac wx H hn hed hM K hk => ?_)⟩
      have e23 : ac.tmps[23]?.getD undef = I (k : Int) := slot_at (H.known 1 _ rfl (hed ⟨1, .data⟩ (by simp) rfl) 23 rfl)
      have e45 : ac.tmps[45]?.getD undef = .pointer (some ⟨g, 28, none⟩) := slot_at (H.known 23 _ rfl (hed ⟨23, .data⟩ (by simp) rfl) 45 rfl)
      have hk0 : (0 : Int) ≤ (k : Int) := by omega
      clear hed H
      go_simp
      exact hk _ hM
     ·simp only [List.getElem?_toArray, List.getElem?_cons_zero, List.getElem?_cons_succ] at ho
      cases ho
      refine .inr (.inr (.inl ⟨0, rfl, stepA rfl (fun li ac wx H hn hed hM K hk => ?_)⟩))
      have e43 : ac.tmps[43]?.getD undef = .bool false := slot_at (H.known 21 _ rfl (hed ⟨21, .data⟩ (by simp) rfl) 43 rfl)
      have e46 : ac.tmps[46]?.getD undef = .pointer (some ⟨g, 28 + k, none⟩) := slot_at (H.known 24 _ rfl (hed ⟨24, .data⟩ (by simp) rfl) 46 rfl)
      have hM1 : (TR w g gc g0 L ra (frC zeroF) (frC zeroF)) wx := hM
      obtain ⟨x1, x2, x3, x4⟩ := HCS.out wx hM1
      clear hed H
      go_simp
      exact hk _ (HST.out wx _ hM1 (by simp))
    ·intro ac wx hF hK hM0
     have hM : (TR w g gc g0 L rb (frC zeroF) (frC zeroF)) wx := hM0
     have hMet := hF.meet
     simp only [List.foldl_cons, List.foldl_nil, List.setIfInBounds_toArray, List.set_cons_succ, List.set_cons_zero] at hMet
     generalize ac.tmps.getD 22 undef = v22 at hMet
     generalize ac.tmps.getD 23 undef = v23 at hMet
     generalize ac.tmps.getD 24 undef = v24 at hMet
     generalize ac.tmps.getD 25 undef = v25 at hMet
     generalize ac.tmps.getD 26 undef = v26 at hMet
     generalize ac.tmps.getD 27 undef = v27 at hMet
     generalize ac.tmps.getD 28 undef = v28 at hMet
     generalize ac.tmps.getD 29 undef = v29 at hMet
     generalize ac.tmps.getD 30 undef = v30 at hMet
     generalize ac.tmps.getD 31 undef = v31 at hMet
     generalize ac.tmps.getD 32 undef = v32 at hMet
     generalize ac.tmps.getD 33 undef = v33 at hMet
     generalize ac.tmps.getD 34 undef = v34 at hMet
     generalize ac.tmps.getD 35 undef = v35 at hMet
     generalize ac.tmps.getD 36 undef = v36 at hMet
     generalize ac.tmps.getD 37 undef = v37 at hMet
     generalize ac.tmps.getD 38 undef = v38 at hMet
     generalize ac.tmps.getD 39 undef = v39 at hMet
     generalize ac.tmps.getD 40 undef = v40 at hMet
     generalize ac.tmps.getD 41 undef = v41 at hMet
     generalize ac.tmps.getD 42 undef = v42 at hMet
     generalize ac.tmps.getD 43 undef = v43 at hMet
     generalize ac.tmps.getD 44 undef = v44 at hMet
     generalize ac.tmps.getD 45 undef = v45 at hMet
     generalize ac.tmps.getD 46 undef = v46 at hMet
     clear hF hK hM0
     subst hMet
     go_wp2_with fail
     go_roundw
     case rel => exact ⟨k + 1, by omega, by go_num, Lib.hid (by rw [HRB.out]; exact hM)⟩
     case measure => simp [intOf]; omega
   | true =>
    refine region_all (by kernel_rfl) (fun b0 => b0.tmps.getD 0 undef = .pointer (some ⟨g, 0, none⟩) ∧ b0.tmps.getD 5 undef = I (k : Int)) ⟨rfl, rfl⟩ 167 rfl (fun i => ([.pointer (some ⟨g, 0, none⟩), I (k : Int), .pointer (some ⟨g, 0, none⟩), I (k : Int), .pointer (some ⟨g, 0, none⟩), .pointer (some ⟨g, 28, none⟩), .pointer (some ⟨g, 28 + k, none⟩), .bool true, .bool true, .pointer (some ⟨g, 0, none⟩), .pointer (some ⟨g, 0, none⟩), .pointer (some ⟨g, 91, none⟩), I (tt : Int), .pointer (some ⟨g, 0, none⟩), I (k : Int), .pointer (some ⟨g, 0, none⟩), .pointer (some ⟨g, 31, none⟩), .pointer (some ⟨g, 31 + k, none⟩), I (cm : Int), I ((tt : Int) - (cm : Int)), .bool (decide (tt < cm + 3)), .bool (decide (tt < cm + 3)), .pointer (some ⟨g, 0, none⟩), .pointer (some ⟨g, 28, none⟩), .pointer (some ⟨g, 28 + k, none⟩), undef] : List Value).getD i undef) [25] (by kernel_rfl) (fun j => ([(TR w g gc g0 L ra (frC zeroF) (frC zeroF)), (TR w g gc g0 L rb (frC zeroF) (frC zeroF))] : List (World → Prop)).getD j (fun _ => True)) [22, 23, 24, 25, 26, 27, 28, 29, 30, 31, 32, 33, 34, 35, 36, 37, 38, 39, 40, 41, 42, 43, 44, 45, 46] (by kernel_rfl) (by kernel_rfl) (HR.out.drew) ?_ ?_
    ·intro b0 hb0 i o ho
     have hi : i < 26 := (Array.getElem?_eq_some_iff.1 ho).1
     obtain ⟨f0, f5⟩ := hb0
     have hcase : i = 0 ∨ i = 1 ∨ i = 2 ∨ i = 3 ∨ i = 4 ∨ i = 5 ∨ i = 6 ∨ i = 7 ∨ i = 8 ∨ i = 9 ∨ i = 10 ∨ i = 11 ∨ i = 12 ∨ i = 13 ∨ i = 14 ∨ i = 15 ∨ i = 16 ∨ i = 17 ∨ i = 18 ∨ i = 19 ∨ i = 20 ∨ i = 21 ∨ i = 22 ∨ i = 23 ∨ i = 24 ∨ i = 25 := by omega
     clear hi
     rcases hcase with rfl | rfl | rfl | rfl | rfl | rfl | rfl | rfl | rfl | rfl | rfl | rfl | rfl | rfl | rfl | rfl | rfl | rfl | rfl | rfl | rfl | rfl | rfl | rfl | rfl | rfl
     ·simp only [List.getElem?_toArray, List.getElem?_cons_zero] at ho
      cases ho
      refine .inl ⟨by decide, fun M => stepA rfl (fun li ac wx H hn hed hM K hk => ?_)⟩
      have e0 : ac.tmps[0]?.getD undef = .pointer (some ⟨g, 0, none⟩) := slot_at ((H.frm.slot (by decide)).trans f0)
      clear hed H
      go_simp
      exact hk _ hM
     ·simp only [List.getElem?_toArray, List.getElem?_cons_zero, List.getElem?_cons_succ] at ho
      cases ho
      refine .inl ⟨by decide, fun M => stepA rfl (fun li ac wx H hn hed hM K hk => ?_)⟩
      have e5 : ac.tmps[5]?.getD undef = I (k : Int) := slot_at ((H.frm.slot (by decide)).trans f5)
      clear hed H
      go_simp
      exact hk _ hM
     ·simp only [List.getElem?_toArray, List.getElem?_cons_zero, List.getElem?_cons_succ] at ho
      cases ho
      refine .inl ⟨by decide, fun M => stepA rfl (fun li ac wx H hn hed hM K hk => ?_)⟩
      have e0 : ac.tmps[0]?.getD undef = .pointer (some ⟨g, 0, none⟩) := slot_at ((H.frm.slot (by decide)).trans f0)
      clear hed H
      go_simp
      exact hk _ hM
     ·simp only [List.getElem?_toArray, List.getElem?_cons_zero, List.getElem?_cons_succ] at ho
      cases ho
      refine .inl ⟨by decide, fun M => stepA rfl (fun li ac wx H hn hed hM K hk => ?_)⟩
      have e5 : ac.tmps[5]?.getD undef = I (k : Int) := slot_at ((H.frm.slot (by decide)).trans f5)
      clear hed H
      go_simp
      exact hk _ hM
     ·simp only [List.getElem?_toArray, List.getElem?_cons_zero, List.getElem?_cons_succ] at ho
      cases ho
      refine .inl ⟨by decide, fun M => stepA rfl (fun li ac wx H hn hed hM K hk => ?_)⟩
      have e24 : ac.tmps[24]?.getD undef = .pointer (some ⟨g, 0, none⟩) := slot_at (H.known 2 _ rfl (hed ⟨2, .data⟩ (by simp) rfl) 24 rfl)
      clear hed H
      go_simp
      exact hk _ hM
     ·simp only [List.getElem?_toArray, List.getElem?_cons_zero, List.getElem?_cons_succ] at ho
      cases ho
      refine .inl ⟨by decide, fun M => stepA rfl (fun li ac wx H hn hed hM K hk => ?_)⟩
      have e26 : ac.tmps[26]?.getD undef = .pointer (some ⟨g, 0, none⟩) := slot_at (H.known 4 _ rfl (hed ⟨4, .data⟩ (by simp) rfl) 26 rfl)
      clear hed H
      go_simp
      exact hk _ hM
     ·simp only [List.getElem?_toArray, List.getElem?_cons_zero, List.getElem?_cons_succ] at ho
      cases ho
      refine .inl ⟨by decide, fun M => stepA rfl (fun li ac wx H hn hed hM K hk => ?_)⟩
      have e25 : ac.tmps[25]?.getD undef = I (k : Int) := slot_at (H.known 3 _ rfl (hed ⟨3, .data⟩ (by simp) rfl) 25 rfl)
      have e27 : ac.tmps[27]?.getD undef = .pointer (some ⟨g, 28, none⟩) := slot_at (H.known 5 _ rfl (hed ⟨5, .data⟩ (by simp) rfl) 27 rfl)
      have hk0 : (0 : Int) ≤ (k : Int) := by omega
      clear hed H
      go_simp
      exact hk _ hM
     ·simp only [List.getElem?_toArray, List.getElem?_cons_zero, List.getElem?_cons_succ] at ho
      cases ho
      refine .inr (.inl ⟨by decide, by kernel_rfl, stepA rfl (fun li ac wx H hn hed hM K hk => ?_)⟩)
      have e28 : ac.tmps[28]?.getD undef = .pointer (some ⟨g, 28 + k, none⟩) := slot_at (H.known 6 _ rfl (hed ⟨6, .data⟩ (by simp) rfl) 28 rfl)
      have hM1 : (TR w g gc g0 L ra (frC zeroF) (frC zeroF)) wx := hM
      obtain ⟨x1, x2, x3, x4⟩ := HCS.out wx hM1
      clear hed H
      go_simp
      exact hk _ hM
     ·simp only [List.getElem?_toArray, List.getElem?_cons_zero, List.getElem?_cons_succ] at ho
      cases ho
      refine .inl ⟨by decide, fun M => stepA rfl (fun li ac wx H hn hed hM K hk => ?_)⟩
      have e29 : ac.tmps[29]?.getD undef = .bool true := slot_at (H.known 7 _ rfl (hed ⟨7, .data⟩ (by simp) rfl) 29 rfl)
      clear hed H
      go_simp
      exact hk _ hM
     ·simp only [List.getElem?_toArray, List.getElem?_cons_zero, List.getElem?_cons_succ] at ho
      cases ho
      refine .inl ⟨by decide, fun M => stepAG (j := 8) rfl rfl rfl rfl (by simp) (fun li ac wx H hn hed hM K hk => ?_)⟩
      have e0 : ac.tmps[0]?.getD undef = .pointer (some ⟨g, 0, none⟩) := slot_at ((H.frm.slot (by decide)).trans f0)
      clear hed H
      go_simp
      exact hk _ hM
     ·simp only [List.getElem?_toArray, List.getElem?_cons_zero, List.getElem?_cons_succ] at ho
      cases ho
      refine .inl ⟨by decide, fun M => stepAG (j := 8) rfl rfl rfl rfl (by simp) (fun li ac wx H hn hed hM K hk => ?_)⟩
      have e31 : ac.tmps[31]?.getD undef = .pointer (some ⟨g, 0, none⟩) := slot_at (H.known 9 _ rfl (hed ⟨9, .data⟩ (by simp) rfl) 31 rfl)
      clear hed H
      go_simp
      exact hk _ hM
     ·simp only [List.getElem?_toArray, List.getElem?_cons_zero, List.getElem?_cons_succ] at ho
      cases ho
      refine .inl ⟨by decide, fun M => stepAG (j := 8) rfl rfl rfl rfl (by simp) (fun li ac wx H hn hed hM K hk => ?_)⟩
      have e32 : ac.tmps[32]?.getD undef = .pointer (some ⟨g, 0, none⟩) := slot_at (H.known 10 _ rfl (hed ⟨10, .data⟩ (by simp) rfl) 32 rfl)
      clear hed H
      go_simp
      exact hk _ hM
     ·simp only [List.getElem?_toArray, List.getElem?_cons_zero, List.getElem?_cons_succ] at ho
      cases ho
      refine .inr (.inl ⟨by decide, by kernel_rfl, stepAG (j := 8) rfl rfl rfl rfl (by simp) (fun li ac wx H hn hed hM K hk => ?_)⟩)
      have e33 : ac.tmps[33]?.getD undef = .pointer (some ⟨g, 91, none⟩) := slot_at (H.known 11 _ rfl (hed ⟨11, .data⟩ (by simp) rfl) 33 rfl)
      have hM1 : (TR w g gc g0 L ra (frC zeroF) (frC zeroF)) wx := hM
      obtain ⟨x1, x2, x3, x4⟩ := HCS.out wx hM1
      clear hed H
      go_simp
      exact hk _ hM
     ·simp only [List.getElem?_toArray, List.getElem?_cons_zero, List.getElem?_cons_succ] at ho
      cases ho
      refine .inl ⟨by decide, fun M => stepAG (j := 8) rfl rfl rfl rfl (by simp) (fun li ac wx H hn hed hM K hk => ?_)⟩
      have e0 : ac.tmps[0]?.getD undef = .pointer (some ⟨g, 0, none⟩) := slot_at ((H.frm.slot (by decide)).trans f0)
      clear hed H
      go_simp
      exact hk _ hM
     ·simp only [List.getElem?_toArray, List.getElem?_cons_zero, List.getElem?_cons_succ] at ho
      cases ho
      refine .inl ⟨by decide, fun M => stepAG (j := 8) rfl rfl rfl rfl (by simp) (fun li ac wx H hn hed hM K hk => ?_)⟩
      have e5 : ac.tmps[5]?.getD undef = I (k : Int) := slot_at ((H.frm.slot (by decide)).trans f5)
      clear hed H
      go_simp
      exact hk _ hM
     ·simp only [List.getElem?_toArray, List.getElem?_cons_zero, List.getElem?_cons_succ] at ho
      cases ho
      refine .inl ⟨by decide, fun M => stepAG (j := 8) rfl rfl rfl rfl (by simp) (fun li ac wx H hn hed hM K hk => ?_)⟩
      have e35 : ac.tmps[35]?.getD undef = .pointer (some ⟨g, 0, none⟩) := slot_at (H.known 13 _ rfl (hed ⟨13, .data⟩ (by simp) rfl) 35 rfl)
      clear hed H
      go_simp
      exact hk _ hM
     ·simp only [List.getElem?_toArray, List.getElem?_cons_zero, List.getElem?_cons_succ] at ho
      cases ho
      refine .inl ⟨by decide, fun M => stepAG (j := 8) rfl rfl rfl rfl (by simp) (fun li ac wx H hn hed hM K hk => ?_)⟩
      have e37 : ac.tmps[37]?.getD undef = .pointer (some ⟨g, 0, none⟩) := slot_at (H.known 15 _ rfl (hed ⟨15, .data⟩ (by simp) rfl) 37 rfl)
      clear hed H
      go_simp
      exact hk _ hM
     ·simp only [List.getElem?_toArray, List.getElem?_cons_zero, List.getElem?_cons_succ] at ho
      cases ho
      refine .inl ⟨by decide, fun M => stepAG (j := 8) rfl rfl rfl rfl (by simp) (fun li ac wx H hn hed hM K hk => ?_)⟩
      have e36 : ac.tmps[36]?.getD undef = I (k : Int) := slot_at (H.known 14 _ rfl (hed ⟨14, .data⟩ (by simp) rfl) 36 rfl)
      have e38 : ac.tmps[38]?.getD undef = .pointer (some ⟨g, 31, none⟩) := slot_at (H.known 16 _ rfl (hed ⟨16, .data⟩ (by simp) rfl) 38 rfl)
      have hk0 : (0 : Int) ≤ (k : Int) := by omega
      clear hed H
      go_simp
      exact hk _ hM
     ·simp only [List.getElem?_toArray, List.getElem?_cons_zero, List.getElem?_cons_succ] at ho
      cases ho
      refine .inr (.inl ⟨by decide, by kernel_rfl, stepAG (j := 8) rfl rfl rfl rfl (by simp) (fun li ac wx H hn hed hM K hk => ?_)⟩)
      have e39 : ac.tmps[39]?.getD undef = .pointer (some ⟨g, 31 + k, none⟩) := slot_at (H.known 17 _ rfl (hed ⟨17, .data⟩ (by simp) rfl) 39 rfl)
      have hM1 : (TR w g gc g0 L ra (frC zeroF) (frC zeroF)) wx := hM
      obtain ⟨x1, x2, x3, x4⟩ := HCS.out wx hM1
      clear hed H
      go_simp
      exact hk _ hM
     ·simp only [List.getElem?_toArray, List.getElem?_cons_zero, List.getElem?_cons_succ] at ho
      cases ho
      refine .inl ⟨by decide, fun M => stepAG (j := 8) rfl rfl rfl rfl (by simp) (fun li ac wx H hn hed hM K hk => ?_)⟩
      have e34 : ac.tmps[34]?.getD undef = I (tt : Int) := slot_at (H.known 12 _ rfl (hed ⟨12, .data⟩ (by simp) rfl) 34 rfl)
      have e40 : ac.tmps[40]?.getD undef = I (cm : Int) := slot_at (H.known 18 _ rfl (hed ⟨18, .data⟩ (by simp) rfl) 40 rfl)
      have hw1 := HW1.out
      clear hed H
      go_simp
      exact hk _ hM
     ·simp only [List.getElem?_toArray, List.getElem?_cons_zero, List.getElem?_cons_succ] at ho
      cases ho
      refine .inl ⟨by decide, fun M => stepAG (j := 8) rfl rfl rfl rfl (by simp) (fun li ac wx H hn hed hM K hk => ?_)⟩
      have e41 : ac.tmps[41]?.getD undef = I ((tt : Int) - (cm : Int)) := slot_at (H.known 19 _ rfl (hed ⟨19, .data⟩ (by simp) rfl) 41 rfl)
      have hd := HDT.out
      clear hed H
      go_simp
      exact hk _ hM
     ·simp only [List.getElem?_toArray, List.getElem?_cons_zero, List.getElem?_cons_succ] at ho
      cases ho
      refine .inl ⟨by decide, fun M => stepA rfl (fun li ac wx H hn hed hM K hk => ?_)⟩
      have e30 : ac.tmps[30]?.getD undef = .bool true := slot_at (H.known 8 _ rfl (hed ⟨8, .data⟩ (by simp) rfl) 30 rfl)
      have e42 : ac.tmps[42]?.getD undef = .bool (decide (tt < cm + 3)) := slot_at (H.known 20 _ rfl (hed ⟨20, .data⟩ (by simp) rfl) 42 rfl)
      clear hed H
      go_simp
      exact hk _ hM
     ·simp only [List.getElem?_toArray, List.getElem?_cons_zero, List.getElem?_cons_succ] at ho
      cases ho
      refine .inl ⟨by decide, fun M => stepA rfl (fun li ac wx H hn hed hM K hk => ?_)⟩
      have e22 : ac.tmps[22]?.getD undef = .pointer (some ⟨g, 0, none⟩) := slot_at (H.known 0 _ rfl (hed ⟨0, .data⟩ (by simp) rfl) 22 rfl)
      clear hed H
      go_simp
      exact hk _ hM
     ·simp only [List.getElem?_toArray, List.getElem?_cons_zero, List.getElem?_cons_succ] at ho
      cases ho
      refine .inl ⟨by decide, fun M => stepA rfl (fun li ac wx H hn hed hM K hk => ?_)⟩
      have e44 : ac.tmps[44]?.getD undef = .pointer (some ⟨g, 0, none⟩) := slot_at (H.known 22 _ rfl (hed ⟨22, .data⟩ (by simp) rfl) 44 rfl)
      clear hed H
      go_simp
      exact hk _ hM
     ·simp only [List.getElem?_toArray, List.getElem?_cons_zero, List.getElem?_cons_succ] at ho
      cases ho
      refine .inl ⟨by decide, fun M => stepA rfl (fun li ac wx H hn hed hM K hk => ?_)⟩
      have e23 : ac.tmps[23]?.getD undef = I (k : Int) := slot_at (H.known 1 _ rfl (hed ⟨1, .data⟩ (by simp) rfl) 23 rfl)
      have e45 : ac.tmps[45]?.getD undef = .pointer (some ⟨g, 28, none⟩) := slot_at (H.known 23 _ rfl (hed ⟨23, .data⟩ (by simp) rfl) 45 rfl)
      have hk0 : (0 : Int) ≤ (k : Int) := by omega
      clear hed H
      go_simp
      exact hk _ hM
     ·simp only [List.getElem?_toArray, List.getElem?_cons_zero, List.getElem?_cons_succ] at ho
      cases ho
      refine .inr (.inr (.inl ⟨0, rfl, stepA rfl (fun li ac wx H hn hed hM K hk => ?_)⟩))
      have e43 : ac.tmps[43]?.getD undef = .bool (decide (tt < cm + 3)) := slot_at (H.known 21 _ rfl (hed ⟨21, .data⟩ (by simp) rfl) 43 rfl)
      have e46 : ac.tmps[46]?.getD undef = .pointer (some ⟨g, 28 + k, none⟩) := slot_at (H.known 24 _ rfl (hed ⟨24, .data⟩ (by simp) rfl) 46 rfl)
      have hM1 : (TR w g gc g0 L ra (frC zeroF) (frC zeroF)) wx := hM
      obtain ⟨x1, x2, x3, x4⟩ := HCS.out wx hM1
      clear hed H
      go_simp
      exact hk _ (HST.out wx _ hM1 (by simp))
    ·intro ac wx hF hK hM0
     have hM : (TR w g gc g0 L rb (frC zeroF) (frC zeroF)) wx := hM0
     have hMet := hF.meet
     simp only [List.foldl_cons, List.foldl_nil, List.setIfInBounds_toArray, List.set_cons_succ, List.set_cons_zero] at hMet
     generalize ac.tmps.getD 22 undef = v22 at hMet
     generalize ac.tmps.getD 23 undef = v23 at hMet
     generalize ac.tmps.getD 24 undef = v24 at hMet
     generalize ac.tmps.getD 25 undef = v25 at hMet
     generalize ac.tmps.getD 26 undef = v26 at hMet
     generalize ac.tmps.getD 27 undef = v27 at hMet
     generalize ac.tmps.getD 28 undef = v28 at hMet
     generalize ac.tmps.getD 29 undef = v29 at hMet
     generalize ac.tmps.getD 30 undef = v30 at hMet
     generalize ac.tmps.getD 31 undef = v31 at hMet
     generalize ac.tmps.getD 32 undef = v32 at hMet
     generalize ac.tmps.getD 33 undef = v33 at hMet
     generalize ac.tmps.getD 34 undef = v34 at hMet
     generalize ac.tmps.getD 35 undef = v35 at hMet
     generalize ac.tmps.getD 36 undef = v36 at hMet
     generalize ac.tmps.getD 37 undef = v37 at hMet
     generalize ac.tmps.getD 38 undef = v38 at hMet
     generalize ac.tmps.getD 39 undef = v39 at hMet
     generalize ac.tmps.getD 40 undef = v40 at hMet
     generalize ac.tmps.getD 41 undef = v41 at hMet
     generalize ac.tmps.getD 42 undef = v42 at hMet
     generalize ac.tmps.getD 43 undef = v43 at hMet
     generalize ac.tmps.getD 44 undef = v44 at hMet
     generalize ac.tmps.getD 45 undef = v45 at hMet
     generalize ac.tmps.getD 46 undef = v46 at hMet
     clear hF hK hM0
     subst hMet
     go_wp2_with fail
     go_roundw
     case rel => exact ⟨k + 1, by omega, by go_num, Lib.hid (by rw [HRB.out]; exact hM)⟩
     case measure => simp [intOf]; omega
  ·have hk3 : k = 3 := by omega
   subst hk3
   clear hlt
   obtain ⟨f1, f2, hff⟩ : ∃ f1 f2, fit L r.field = (f1, f2) := ⟨_, _, rfl⟩
   obtain ⟨q0, hq0⟩ : ∃ q0, someTo r tt 3 = q0 := ⟨_, rfl⟩
   obtain ⟨id, hidd⟩ : ∃ id, r.id = id := ⟨_, rfl⟩
   obtain ⟨q1, hq1⟩ : ∃ q1 : Re, q1 = { q0 with seen := q0.seen.set id (f1, f2) } := ⟨_, rfl⟩
   obtain ⟨q2, hq2⟩ : ∃ q2 : Re, q2 = { q1 with some := q1.some.set id true } := ⟨_, rfl⟩
   obtain ⟨q3, hq3⟩ : ∃ q3 : Re, q3 = { q2 with came := q2.came.set id tt } := ⟨_, rfl⟩
   have HQ : Hid (reTicked L r = q3) := Lib.hid (by rw [reTicked_eq, hq3, hq2, hq1, ← hq0, HTT.out, hff, hidd]; rfl)
   have e1 : q0.id = id := by rw [← hq0]; exact hidd
   have e2 : q0.ticks = tt := by rw [← hq0]; rfl
   have e3 : q0.field = r.field := by rw [← hq0]; rfl
   have e4 : q0.seen.length = 3 := by rw [← hq0]; exact hf.out.nseen
   have e5 : q1.some.length = 3 := by rw [hq1, ← hq0]; unfold someTo; simp
   have e6 : q2.came.length = 3 := by rw [hq2, hq1, ← hq0]; exact hf.out.ncame
   have hid3' : id < 3 := hidd ▸ hid3
   obtain ⟨fx, hfx⟩ : ∃ fx, r.field.1 = fx := ⟨_, rfl⟩
   obtain ⟨fy, hfy⟩ : ∃ fy, r.field.2 = fy := ⟨_, rfl⟩
   have HC0 : Hid (∀ wx, TR w g gc g0 L q0 (frC zeroF) (frC zeroF) wx → wx.cell? ⟨g, 0, none⟩ = some (I (id : Int)) ∧ wx.cell? ⟨g, 20, none⟩ = some (I fx) ∧ wx.cell? ⟨g, 21, none⟩ = some (I fy) ∧ wx.cell? ⟨g, 91, none⟩ = some (I (tt : Int)) ∧ (∃ v, wx.cell? ⟨g, 22 + id * 2, none⟩ = some v) ∧ (∃ v, wx.cell? ⟨g, 22 + id * 2 + 1, none⟩ = some v) ∧ wx.frozen? ⟨g, 22 + id * 2, none⟩ = false ∧ wx.frozen? ⟨g, 22 + id * 2 + 1, none⟩ = false) := Lib.hid (fun wx hx =>
    ⟨hx.1.cell 0 (by decide) (by rw [reF_id, e1]), hx.1.cell 20 (by decide) (by rw [reF_field1, e3, hfx]), hx.1.cell 21 (by decide) (by rw [reF_field2, e3, hfy]), hx.1.cell 91 (by decide) (by rw [reF_ticks, e2]), ⟨_, hx.1.cell (22 + id * 2) (by omega) (reF_seen1 hid3')⟩, ⟨_, hx.1.cell (22 + id * 2 + 1) (by omega) (reF_seen2 hid3')⟩, hx.1.free _, hx.1.free _⟩)
   have HS0 : Hid (∀ wx, TR w g gc g0 L q0 (frC zeroF) (frC zeroF) wx → TR w g gc g0 L q1 (frC zeroF) (frC zeroF) ((wx.setCell ⟨g, 22 + id * 2, none⟩ (I (f1 : Int))).setCell ⟨g, 22 + id * 2 + 1, none⟩ (I (f2 : Int)))) := Lib.hid (fun wx hx => hx.set2 _ _ _ _ (by rw [hq1]; exact reF_set_seen q0 gc id f1 f2 hid3' e4))
   have HC1 : Hid (∀ wx, TR w g gc g0 L q1 (frC zeroF) (frC zeroF) wx → (∃ v, wx.cell? ⟨g, 28 + id, none⟩ = some v) ∧ wx.frozen? ⟨g, 28 + id, none⟩ = false) := Lib.hid (fun wx hx => ⟨⟨_, hx.1.cell (28 + id) (by omega) (reF_some hid3')⟩, hx.1.free _⟩)
   have HS1 : Hid (∀ wx, TR w g gc g0 L q1 (frC zeroF) (frC zeroF) wx → TR w g gc g0 L q2 (frC zeroF) (frC zeroF) (wx.setCell ⟨g, 28 + id, none⟩ (.bool true))) := Lib.hid (fun wx hx => hx.set _ _ (by rw [hq2]; exact reF_set_some q1 gc id true hid3' e5))
   have HC2 : Hid (∀ wx, TR w g gc g0 L q2 (frC zeroF) (frC zeroF) wx → (∃ v, wx.cell? ⟨g, 31 + id, none⟩ = some v) ∧ wx.frozen? ⟨g, 31 + id, none⟩ = false) := Lib.hid (fun wx hx => ⟨⟨_, hx.1.cell (31 + id) (by omega) (reF_came hid3')⟩, hx.1.free _⟩)
   have HS2 : Hid (∀ wx, TR w g gc g0 L q2 (frC zeroF) (frC zeroF) wx → TR w g gc g0 L q3 (frC zeroF) (frC zeroF) (wx.setCell ⟨g, 31 + id, none⟩ (I (tt : Int)))) := Lib.hid (fun wx hx => hx.set _ _ (by rw [hq3]; exact reF_set_came q2 gc id tt hid3' e6))
   have HFT : Hid (∀ wx, TR w g gc g0 L q0 (frC zeroF) (frC zeroF) wx → Calls Tryz.prog 74 #[.pointer (some ⟨g, 0, none⟩), .agg #[I fx, I fy]] wx fun e w' => e = .returned (.agg #[I (f1 : Int), I (f2 : Int)]) ∧ Below wx.heap.size wx w') := Lib.hid (fun wx hx => by
    have h := re_fit hx.1 hL fx fy
    have e : fit L (fx, fy) = (f1, f2) := by rw [← hfx, ← hfy]; exact hff
    rw [e] at h
    exact h)
   have hfs : Small2 (f1, f2) := by
    have e8 : fit L r.field = (msk r.field.1 L.secs, msk r.field.2 L.routes.length) := rfl
    rw [hff] at e8
    injection e8 with e8 e9
    refine ⟨?_, ?_⟩
    ·show f1 < 4096
     rw [e8]
     exact Nat.lt_of_lt_of_le (msk_lt _ _) (Nat.pow_le_pow_right (n := 2) (by decide) hL.secs2)
    ·show f2 < 4096
     rw [e9]
     exact Nat.lt_of_lt_of_le (msk_lt _ _) (Nat.pow_le_pow_right (n := 2) (by decide) (show L.routes.length ≤ 12 from Nat.le_trans hL.many2 (by decide)))
   have QG : Hid (∀ k, Small2 (q3.seen.getD k (0, 0))) := Lib.hid (fun k => by
    have e7 : q3.seen = q0.seen.set id (f1, f2) := by rw [hq3, hq2, hq1]
    rw [e7, getD_set _ _ _ _ _ (by omega)]
    split
    ·exact hfs
    ·rw [← hq0]; exact hf.out.seen k)
   have Q1 : Hid (q3.id = id ∧ q3.cycle = r.cycle ∧ q3.seen.getD id (0, 0) = (f1, f2) ∧ q3.ticks = tt ∧ q3.state = r.state ∧ q3.some.length = 3) := Lib.hid (by
    have e7 : q3.seen = q0.seen.set id (f1, f2) := by rw [hq3, hq2, hq1]
    refine ⟨by rw [hq3, hq2, hq1]; exact e1, by rw [hq3, hq2, hq1, ← hq0]; rfl, ?_, by rw [hq3, hq2, hq1]; exact e2, by rw [hq3, hq2, hq1, ← hq0]; rfl, by rw [hq3, hq2]; simp [e5]⟩
    rw [e7, getD_set _ _ _ _ _ (by omega), if_pos rfl])
   have HRR : Hid (TR w g gc g0 L q0 (frC zeroF) (frC zeroF) wr) := Lib.hid (hq0 ▸ HR.out)
   clear HR hq0 hq1 hq2 hq3 e1 e2 e3 e4 e5 e6 hfx hfy hff hidd hid3
   go_upto_region 7 with fail
   go_cut [] (fun wx => (TR w g gc g0 L q3 (frC zeroF) (frC zeroF)) wx)
   case first =>
    rename_i J0 K0 hJ0 hK0
    have HK0 := Lib.hid hK0
    clear hK0
    refine region_all (by kernel_rfl) (fun b0 => b0.tmps.getD 0 undef = .pointer (some ⟨g, 0, none⟩)) rfl 167 rfl (fun i => ([.pointer (some ⟨g, 0, none⟩), .pointer (some ⟨g, 0, none⟩), .pointer (some ⟨g, 0, none⟩), .pointer (some ⟨g, 0, none⟩), I (id : Int), .pointer (some ⟨g, 0, none⟩), .pointer (some ⟨g, 0, none⟩), .pointer (some ⟨g, 0, none⟩), .pointer (some ⟨g, 0, none⟩), I (id : Int), .pointer (some ⟨g, 0, none⟩), .pointer (some ⟨g, 0, none⟩), .pointer (some ⟨g, 0, none⟩), .pointer (some ⟨g, 0, none⟩), I (id : Int), .pointer (some ⟨g, 0, none⟩), .pointer (some ⟨g, 0, none⟩), .pointer (some ⟨g, 0, none⟩), .pointer (some ⟨g, 20, none⟩), .agg #[I fx, I fy], .agg #[I (f1 : Int), I (f2 : Int)], .pointer (some ⟨g, 0, none⟩), .pointer (some ⟨g, 0, none⟩), .pointer (some ⟨g, 91, none⟩), I (tt : Int), .pointer (some ⟨g, 0, none⟩), .pointer (some ⟨g, 22, none⟩), .pointer (some ⟨g, 22 + id * 2, none⟩), undef, .pointer (some ⟨g, 0, none⟩), .pointer (some ⟨g, 28, none⟩), .pointer (some ⟨g, 28 + id, none⟩), undef, .pointer (some ⟨g, 0, none⟩), .pointer (some ⟨g, 31, none⟩), .pointer (some ⟨g, 31 + id, none⟩), undef] : List Value).getD i undef) [28, 32, 36] (by kernel_rfl) (fun j => ([(TR w g gc g0 L q0 (frC zeroF) (frC zeroF)), (TR w g gc g0 L q1 (frC zeroF) (frC zeroF)), (TR w g gc g0 L q2 (frC zeroF) (frC zeroF)), (TR w g gc g0 L q3 (frC zeroF) (frC zeroF))] : List (World → Prop)).getD j (fun _ => True)) [48, 49, 50, 51, 52, 53, 54, 55, 56, 57, 58, 59, 60, 61, 62, 63, 64, 65, 66, 67, 68, 69, 70, 71, 72, 73, 74, 75, 76, 77, 78, 79, 80, 81] (by kernel_rfl) (by kernel_rfl) (HRR.out.drew) ?_ ?_
    ·intro b0 hb0 i o ho
     have hi : i < 37 := (Array.getElem?_eq_some_iff.1 ho).1
     have f0 := hb0
     have hcase : i = 0 ∨ i = 1 ∨ i = 2 ∨ i = 3 ∨ i = 4 ∨ i = 5 ∨ i = 6 ∨ i = 7 ∨ i = 8 ∨ i = 9 ∨ i = 10 ∨ i = 11 ∨ i = 12 ∨ i = 13 ∨ i = 14 ∨ i = 15 ∨ i = 16 ∨ i = 17 ∨ i = 18 ∨ i = 19 ∨ i = 20 ∨ i = 21 ∨ i = 22 ∨ i = 23 ∨ i = 24 ∨ i = 25 ∨ i = 26 ∨ i = 27 ∨ i = 28 ∨ i = 29 ∨ i = 30 ∨ i = 31 ∨ i = 32 ∨ i = 33 ∨ i = 34 ∨ i = 35 ∨ i = 36 := by omega
     clear hi
     rcases hcase with rfl | rfl | rfl | rfl | rfl | rfl | rfl | rfl | rfl | rfl | rfl | rfl | rfl | rfl | rfl | rfl | rfl | rfl | rfl | rfl | rfl | rfl | rfl | rfl | rfl | rfl | rfl | rfl | rfl | rfl | rfl | rfl | rfl | rfl | rfl | rfl | rfl
     ·simp only [List.getElem?_toArray, List.getElem?_cons_zero] at ho
      cases ho
      refine .inl ⟨by decide, fun M => stepA rfl (fun li ac wx H hn hed hM K hk => ?_)⟩
      have e0 : ac.tmps[0]?.getD undef = .pointer (some ⟨g, 0, none⟩) := slot_at ((H.frm.slot (by decide)).trans f0)
      clear hed H
      go_simp
      exact hk _ hM
     ·simp only [List.getElem?_toArray, List.getElem?_cons_zero, List.getElem?_cons_succ] at ho
      cases ho
      refine .inl ⟨by decide, fun M => stepA rfl (fun li ac wx H hn hed hM K hk => ?_)⟩
      have e0 : ac.tmps[0]?.getD undef = .pointer (some ⟨g, 0, none⟩) := slot_at ((H.frm.slot (by decide)).trans f0)
      clear hed H
      go_simp
      exact hk _ hM
     ·simp only [List.getElem?_toArray, List.getElem?_cons_zero, List.getElem?_cons_succ] at ho
      cases ho
      refine .inl ⟨by decide, fun M => stepA rfl (fun li ac wx H hn hed hM K hk => ?_)⟩
      have e49 : ac.tmps[49]?.getD undef = .pointer (some ⟨g, 0, none⟩) := slot_at (H.known 1 _ rfl (hed ⟨1, .data⟩ (by simp) rfl) 49 rfl)
      clear hed H
      go_simp
      exact hk _ hM
     ·simp only [List.getElem?_toArray, List.getElem?_cons_zero, List.getElem?_cons_succ] at ho
      cases ho
      refine .inl ⟨by decide, fun M => stepA rfl (fun li ac wx H hn hed hM K hk => ?_)⟩
      have e50 : ac.tmps[50]?.getD undef = .pointer (some ⟨g, 0, none⟩) := slot_at (H.known 2 _ rfl (hed ⟨2, .data⟩ (by simp) rfl) 50 rfl)
      clear hed H
      go_simp
      exact hk _ hM
     ·simp only [List.getElem?_toArray, List.getElem?_cons_zero, List.getElem?_cons_succ] at ho
      cases ho
      refine .inr (.inl ⟨by decide, by kernel_rfl, stepA rfl (fun li ac wx H hn hed hM K hk => ?_)⟩)
      have e51 : ac.tmps[51]?.getD undef = .pointer (some ⟨g, 0, none⟩) := slot_at (H.known 3 _ rfl (hed ⟨3, .data⟩ (by simp) rfl) 51 rfl)
      have hM1 : (TR w g gc g0 L q0 (frC zeroF) (frC zeroF)) wx := hM
      obtain ⟨x1, x2, x3, x4, ⟨y1, x5⟩, ⟨y2, x6⟩, x7, x8⟩ := HC0.out wx hM1
      clear hed H
      go_simp
      exact hk _ hM
     ·simp only [List.getElem?_toArray, List.getElem?_cons_zero, List.getElem?_cons_succ] at ho
      cases ho
      refine .inl ⟨by decide, fun M => stepA rfl (fun li ac wx H hn hed hM K hk => ?_)⟩
      have e0 : ac.tmps[0]?.getD undef = .pointer (some ⟨g, 0, none⟩) := slot_at ((H.frm.slot (by decide)).trans f0)
      clear hed H
      go_simp
      exact hk _ hM
     ·simp only [List.getElem?_toArray, List.getElem?_cons_zero, List.getElem?_cons_succ] at ho
      cases ho
      refine .inl ⟨by decide, fun M => stepA rfl (fun li ac wx H hn hed hM K hk => ?_)⟩
      have e0 : ac.tmps[0]?.getD undef = .pointer (some ⟨g, 0, none⟩) := slot_at ((H.frm.slot (by decide)).trans f0)
      clear hed H
      go_simp
      exact hk _ hM
     ·simp only [List.getElem?_toArray, List.getElem?_cons_zero, List.getElem?_cons_succ] at ho
      cases ho
      refine .inl ⟨by decide, fun M => stepA rfl (fun li ac wx H hn hed hM K hk => ?_)⟩
      have e54 : ac.tmps[54]?.getD undef = .pointer (some ⟨g, 0, none⟩) := slot_at (H.known 6 _ rfl (hed ⟨6, .data⟩ (by simp) rfl) 54 rfl)
      clear hed H
      go_simp
      exact hk _ hM
     ·simp only [List.getElem?_toArray, List.getElem?_cons_zero, List.getElem?_cons_succ] at ho
      cases ho
      refine .inl ⟨by decide, fun M => stepA rfl (fun li ac wx H hn hed hM K hk => ?_)⟩
      have e55 : ac.tmps[55]?.getD undef = .pointer (some ⟨g, 0, none⟩) := slot_at (H.known 7 _ rfl (hed ⟨7, .data⟩ (by simp) rfl) 55 rfl)
      clear hed H
      go_simp
      exact hk _ hM
     ·simp only [List.getElem?_toArray, List.getElem?_cons_zero, List.getElem?_cons_succ] at ho
      cases ho
      refine .inr (.inl ⟨by decide, by kernel_rfl, stepA rfl (fun li ac wx H hn hed hM K hk => ?_)⟩)
      have e56 : ac.tmps[56]?.getD undef = .pointer (some ⟨g, 0, none⟩) := slot_at (H.known 8 _ rfl (hed ⟨8, .data⟩ (by simp) rfl) 56 rfl)
      have hM1 : (TR w g gc g0 L q0 (frC zeroF) (frC zeroF)) wx := hM
      obtain ⟨x1, x2, x3, x4, ⟨y1, x5⟩, ⟨y2, x6⟩, x7, x8⟩ := HC0.out wx hM1
      clear hed H
      go_simp
      exact hk _ hM
     ·simp only [List.getElem?_toArray, List.getElem?_cons_zero, List.getElem?_cons_succ] at ho
      cases ho
      refine .inl ⟨by decide, fun M => stepA rfl (fun li ac wx H hn hed hM K hk => ?_)⟩
      have e0 : ac.tmps[0]?.getD undef = .pointer (some ⟨g, 0, none⟩) := slot_at ((H.frm.slot (by decide)).trans f0)
      clear hed H
      go_simp
      exact hk _ hM
     ·simp only [List.getElem?_toArray, List.getElem?_cons_zero, List.getElem?_cons_succ] at ho
      cases ho
      refine .inl ⟨by decide, fun M => stepA rfl (fun li ac wx H hn hed hM K hk => ?_)⟩
      have e0 : ac.tmps[0]?.getD undef = .pointer (some ⟨g, 0, none⟩) := slot_at ((H.frm.slot (by decide)).trans f0)
      clear hed H
      go_simp
      exact hk _ hM
     ·simp only [List.getElem?_toArray, List.getElem?_cons_zero, List.getElem?_cons_succ] at ho
      cases ho
      refine .inl ⟨by decide, fun M => stepA rfl (fun li ac wx H hn hed hM K hk => ?_)⟩
      have e59 : ac.tmps[59]?.getD undef = .pointer (some ⟨g, 0, none⟩) := slot_at (H.known 11 _ rfl (hed ⟨11, .data⟩ (by simp) rfl) 59 rfl)
      clear hed H
      go_simp
      exact hk _ hM
     ·simp only [List.getElem?_toArray, List.getElem?_cons_zero, List.getElem?_cons_succ] at ho
      cases ho
      refine .inl ⟨by decide, fun M => stepA rfl (fun li ac wx H hn hed hM K hk => ?_)⟩
      have e60 : ac.tmps[60]?.getD undef = .pointer (some ⟨g, 0, none⟩) := slot_at (H.known 12 _ rfl (hed ⟨12, .data⟩ (by simp) rfl) 60 rfl)
      clear hed H
      go_simp
      exact hk _ hM
     ·simp only [List.getElem?_toArray, List.getElem?_cons_zero, List.getElem?_cons_succ] at ho
      cases ho
      refine .inr (.inl ⟨by decide, by kernel_rfl, stepA rfl (fun li ac wx H hn hed hM K hk => ?_)⟩)
      have e61 : ac.tmps[61]?.getD undef = .pointer (some ⟨g, 0, none⟩) := slot_at (H.known 13 _ rfl (hed ⟨13, .data⟩ (by simp) rfl) 61 rfl)
      have hM1 : (TR w g gc g0 L q0 (frC zeroF) (frC zeroF)) wx := hM
      obtain ⟨x1, x2, x3, x4, ⟨y1, x5⟩, ⟨y2, x6⟩, x7, x8⟩ := HC0.out wx hM1
      clear hed H
      go_simp
      exact hk _ hM
     ·simp only [List.getElem?_toArray, List.getElem?_cons_zero, List.getElem?_cons_succ] at ho
      cases ho
      refine .inl ⟨by decide, fun M => stepA rfl (fun li ac wx H hn hed hM K hk => ?_)⟩
      have e0 : ac.tmps[0]?.getD undef = .pointer (some ⟨g, 0, none⟩) := slot_at ((H.frm.slot (by decide)).trans f0)
      clear hed H
      go_simp
      exact hk _ hM
     ·simp only [List.getElem?_toArray, List.getElem?_cons_zero, List.getElem?_cons_succ] at ho
      cases ho
      refine .inl ⟨by decide, fun M => stepA rfl (fun li ac wx H hn hed hM K hk => ?_)⟩
      have e0 : ac.tmps[0]?.getD undef = .pointer (some ⟨g, 0, none⟩) := slot_at ((H.frm.slot (by decide)).trans f0)
      clear hed H
      go_simp
      exact hk _ hM
     ·simp only [List.getElem?_toArray, List.getElem?_cons_zero, List.getElem?_cons_succ] at ho
      cases ho
      refine .inl ⟨by decide, fun M => stepA rfl (fun li ac wx H hn hed hM K hk => ?_)⟩
      have e64 : ac.tmps[64]?.getD undef = .pointer (some ⟨g, 0, none⟩) := slot_at (H.known 16 _ rfl (hed ⟨16, .data⟩ (by simp) rfl) 64 rfl)
      clear hed H
      go_simp
      exact hk _ hM
     ·simp only [List.getElem?_toArray, List.getElem?_cons_zero, List.getElem?_cons_succ] at ho
      cases ho
      refine .inl ⟨by decide, fun M => stepA rfl (fun li ac wx H hn hed hM K hk => ?_)⟩
      have e65 : ac.tmps[65]?.getD undef = .pointer (some ⟨g, 0, none⟩) := slot_at (H.known 17 _ rfl (hed ⟨17, .data⟩ (by simp) rfl) 65 rfl)
      clear hed H
      go_simp
      exact hk _ hM
     ·simp only [List.getElem?_toArray, List.getElem?_cons_zero, List.getElem?_cons_succ] at ho
      cases ho
      refine .inr (.inl ⟨by decide, by kernel_rfl, stepA rfl (fun li ac wx H hn hed hM K hk => ?_)⟩)
      have e66 : ac.tmps[66]?.getD undef = .pointer (some ⟨g, 20, none⟩) := slot_at (H.known 18 _ rfl (hed ⟨18, .data⟩ (by simp) rfl) 66 rfl)
      have hM1 : (TR w g gc g0 L q0 (frC zeroF) (frC zeroF)) wx := hM
      obtain ⟨x1, x2, x3, x4, ⟨y1, x5⟩, ⟨y2, x6⟩, x7, x8⟩ := HC0.out wx hM1
      clear hed H
      go_simp
      exact hk _ hM
     ·simp only [List.getElem?_toArray, List.getElem?_cons_zero, List.getElem?_cons_succ] at ho
      cases ho
      refine .inr (.inl ⟨by decide, by kernel_rfl, stepA rfl (fun li ac wx H hn hed hM K hk => ?_)⟩)
      have e63 : ac.tmps[63]?.getD undef = .pointer (some ⟨g, 0, none⟩) := slot_at (H.known 15 _ rfl (hed ⟨15, .data⟩ (by simp) rfl) 63 rfl)
      have e67 : ac.tmps[67]?.getD undef = .agg #[I fx, I fy] := slot_at (H.known 19 _ rfl (hed ⟨19, .data⟩ (by simp) rfl) 67 rfl)
      have hM1 : (TR w g gc g0 L q0 (frC zeroF) (frC zeroF)) wx := hM
      clear hed H
      go_simp
      refine (HFT.out wx hM1).mono ?_
      rintro e w9 ⟨rfl, hb9⟩
      exact hk _ (hM1.after hb9)
     ·simp only [List.getElem?_toArray, List.getElem?_cons_zero, List.getElem?_cons_succ] at ho
      cases ho
      refine .inl ⟨by decide, fun M => stepA rfl (fun li ac wx H hn hed hM K hk => ?_)⟩
      have e0 : ac.tmps[0]?.getD undef = .pointer (some ⟨g, 0, none⟩) := slot_at ((H.frm.slot (by decide)).trans f0)
      clear hed H
      go_simp
      exact hk _ hM
     ·simp only [List.getElem?_toArray, List.getElem?_cons_zero, List.getElem?_cons_succ] at ho
      cases ho
      refine .inl ⟨by decide, fun M => stepA rfl (fun li ac wx H hn hed hM K hk => ?_)⟩
      have e69 : ac.tmps[69]?.getD undef = .pointer (some ⟨g, 0, none⟩) := slot_at (H.known 21 _ rfl (hed ⟨21, .data⟩ (by simp) rfl) 69 rfl)
      clear hed H
      go_simp
      exact hk _ hM
     ·simp only [List.getElem?_toArray, List.getElem?_cons_zero, List.getElem?_cons_succ] at ho
      cases ho
      refine .inl ⟨by decide, fun M => stepA rfl (fun li ac wx H hn hed hM K hk => ?_)⟩
      have e70 : ac.tmps[70]?.getD undef = .pointer (some ⟨g, 0, none⟩) := slot_at (H.known 22 _ rfl (hed ⟨22, .data⟩ (by simp) rfl) 70 rfl)
      clear hed H
      go_simp
      exact hk _ hM
     ·simp only [List.getElem?_toArray, List.getElem?_cons_zero, List.getElem?_cons_succ] at ho
      cases ho
      refine .inr (.inl ⟨by decide, by kernel_rfl, stepA rfl (fun li ac wx H hn hed hM K hk => ?_)⟩)
      have e71 : ac.tmps[71]?.getD undef = .pointer (some ⟨g, 91, none⟩) := slot_at (H.known 23 _ rfl (hed ⟨23, .data⟩ (by simp) rfl) 71 rfl)
      have hM1 : (TR w g gc g0 L q0 (frC zeroF) (frC zeroF)) wx := hM
      obtain ⟨x1, x2, x3, x4, ⟨y1, x5⟩, ⟨y2, x6⟩, x7, x8⟩ := HC0.out wx hM1
      clear hed H
      go_simp
      exact hk _ hM
     ·simp only [List.getElem?_toArray, List.getElem?_cons_zero, List.getElem?_cons_succ] at ho
      cases ho
      refine .inl ⟨by decide, fun M => stepA rfl (fun li ac wx H hn hed hM K hk => ?_)⟩
      have e48 : ac.tmps[48]?.getD undef = .pointer (some ⟨g, 0, none⟩) := slot_at (H.known 0 _ rfl (hed ⟨0, .data⟩ (by simp) rfl) 48 rfl)
      clear hed H
      go_simp
      exact hk _ hM
     ·simp only [List.getElem?_toArray, List.getElem?_cons_zero, List.getElem?_cons_succ] at ho
      cases ho
      refine .inl ⟨by decide, fun M => stepA rfl (fun li ac wx H hn hed hM K hk => ?_)⟩
      have e73 : ac.tmps[73]?.getD undef = .pointer (some ⟨g, 0, none⟩) := slot_at (H.known 25 _ rfl (hed ⟨25, .data⟩ (by simp) rfl) 73 rfl)
      clear hed H
      go_simp
      exact hk _ hM
     ·simp only [List.getElem?_toArray, List.getElem?_cons_zero, List.getElem?_cons_succ] at ho
      cases ho
      refine .inl ⟨by decide, fun M => stepA rfl (fun li ac wx H hn hed hM K hk => ?_)⟩
      have e52 : ac.tmps[52]?.getD undef = I (id : Int) := slot_at (H.known 4 _ rfl (hed ⟨4, .data⟩ (by simp) rfl) 52 rfl)
      have e74 : ac.tmps[74]?.getD undef = .pointer (some ⟨g, 22, none⟩) := slot_at (H.known 26 _ rfl (hed ⟨26, .data⟩ (by simp) rfl) 74 rfl)
      have hk0 : (0 : Int) ≤ (id : Int) := by omega
      have hk1 : (id : Int) < 3 := by omega
      clear hed H
      go_simp
      exact hk _ hM
     ·simp only [List.getElem?_toArray, List.getElem?_cons_zero, List.getElem?_cons_succ] at ho
      cases ho
      refine .inr (.inr (.inl ⟨0, rfl, stepA rfl (fun li ac wx H hn hed hM K hk => ?_)⟩))
      have e68 : ac.tmps[68]?.getD undef = .agg #[I (f1 : Int), I (f2 : Int)] := slot_at (H.known 20 _ rfl (hed ⟨20, .data⟩ (by simp) rfl) 68 rfl)
      have e75 : ac.tmps[75]?.getD undef = .pointer (some ⟨g, 22 + id * 2, none⟩) := slot_at (H.known 27 _ rfl (hed ⟨27, .data⟩ (by simp) rfl) 75 rfl)
      have hM1 : (TR w g gc g0 L q0 (frC zeroF) (frC zeroF)) wx := hM
      obtain ⟨x1, x2, x3, x4, ⟨y1, x5⟩, ⟨y2, x6⟩, x7, x8⟩ := HC0.out wx hM1
      clear hed H
      go_simp
      exact hk _ (HS0.out wx hM1)
     ·simp only [List.getElem?_toArray, List.getElem?_cons_zero, List.getElem?_cons_succ] at ho
      cases ho
      refine .inl ⟨by decide, fun M => stepA rfl (fun li ac wx H hn hed hM K hk => ?_)⟩
      have e53 : ac.tmps[53]?.getD undef = .pointer (some ⟨g, 0, none⟩) := slot_at (H.known 5 _ rfl (hed ⟨5, .data⟩ (by simp) rfl) 53 rfl)
      clear hed H
      go_simp
      exact hk _ hM
     ·simp only [List.getElem?_toArray, List.getElem?_cons_zero, List.getElem?_cons_succ] at ho
      cases ho
      refine .inl ⟨by decide, fun M => stepA rfl (fun li ac wx H hn hed hM K hk => ?_)⟩
      have e76 : ac.tmps[76]?.getD undef = .pointer (some ⟨g, 0, none⟩) := slot_at (H.known 29 _ rfl (hed ⟨29, .data⟩ (by simp) rfl) 76 rfl)
      clear hed H
      go_simp
      exact hk _ hM
     ·simp only [List.getElem?_toArray, List.getElem?_cons_zero, List.getElem?_cons_succ] at ho
      cases ho
      refine .inl ⟨by decide, fun M => stepA rfl (fun li ac wx H hn hed hM K hk => ?_)⟩
      have e57 : ac.tmps[57]?.getD undef = I (id : Int) := slot_at (H.known 9 _ rfl (hed ⟨9, .data⟩ (by simp) rfl) 57 rfl)
      have e77 : ac.tmps[77]?.getD undef = .pointer (some ⟨g, 28, none⟩) := slot_at (H.known 30 _ rfl (hed ⟨30, .data⟩ (by simp) rfl) 77 rfl)
      have hk0 : (0 : Int) ≤ (id : Int) := by omega
      have hk1 : (id : Int) < 3 := by omega
      clear hed H
      go_simp
      exact hk _ hM
     ·simp only [List.getElem?_toArray, List.getElem?_cons_zero, List.getElem?_cons_succ] at ho
      cases ho
      refine .inr (.inr (.inl ⟨1, rfl, stepA rfl (fun li ac wx H hn hed hM K hk => ?_)⟩))
      have e78 : ac.tmps[78]?.getD undef = .pointer (some ⟨g, 28 + id, none⟩) := slot_at (H.known 31 _ rfl (hed ⟨31, .data⟩ (by simp) rfl) 78 rfl)
      have hM1 : (TR w g gc g0 L q1 (frC zeroF) (frC zeroF)) wx := hM
      obtain ⟨⟨y1, x1⟩, x2⟩ := HC1.out wx hM1
      clear hed H
      go_simp
      exact hk _ (HS1.out wx hM1)
     ·simp only [List.getElem?_toArray, List.getElem?_cons_zero, List.getElem?_cons_succ] at ho
      cases ho
      refine .inl ⟨by decide, fun M => stepA rfl (fun li ac wx H hn hed hM K hk => ?_)⟩
      have e58 : ac.tmps[58]?.getD undef = .pointer (some ⟨g, 0, none⟩) := slot_at (H.known 10 _ rfl (hed ⟨10, .data⟩ (by simp) rfl) 58 rfl)
      clear hed H
      go_simp
      exact hk _ hM
     ·simp only [List.getElem?_toArray, List.getElem?_cons_zero, List.getElem?_cons_succ] at ho
      cases ho
      refine .inl ⟨by decide, fun M => stepA rfl (fun li ac wx H hn hed hM K hk => ?_)⟩
      have e79 : ac.tmps[79]?.getD undef = .pointer (some ⟨g, 0, none⟩) := slot_at (H.known 33 _ rfl (hed ⟨33, .data⟩ (by simp) rfl) 79 rfl)
      clear hed H
      go_simp
      exact hk _ hM
     ·simp only [List.getElem?_toArray, List.getElem?_cons_zero, List.getElem?_cons_succ] at ho
      cases ho
      refine .inl ⟨by decide, fun M => stepA rfl (fun li ac wx H hn hed hM K hk => ?_)⟩
      have e62 : ac.tmps[62]?.getD undef = I (id : Int) := slot_at (H.known 14 _ rfl (hed ⟨14, .data⟩ (by simp) rfl) 62 rfl)
      have e80 : ac.tmps[80]?.getD undef = .pointer (some ⟨g, 31, none⟩) := slot_at (H.known 34 _ rfl (hed ⟨34, .data⟩ (by simp) rfl) 80 rfl)
      have hk0 : (0 : Int) ≤ (id : Int) := by omega
      have hk1 : (id : Int) < 3 := by omega
      clear hed H
      go_simp
      exact hk _ hM
     ·simp only [List.getElem?_toArray, List.getElem?_cons_zero, List.getElem?_cons_succ] at ho
      cases ho
      refine .inr (.inr (.inl ⟨2, rfl, stepA rfl (fun li ac wx H hn hed hM K hk => ?_)⟩))
      have e72 : ac.tmps[72]?.getD undef = I (tt : Int) := slot_at (H.known 24 _ rfl (hed ⟨24, .data⟩ (by simp) rfl) 72 rfl)
      have e81 : ac.tmps[81]?.getD undef = .pointer (some ⟨g, 31 + id, none⟩) := slot_at (H.known 35 _ rfl (hed ⟨35, .data⟩ (by simp) rfl) 81 rfl)
      have hM1 : (TR w g gc g0 L q2 (frC zeroF) (frC zeroF)) wx := hM
      obtain ⟨⟨y1, x1⟩, x2⟩ := HC2.out wx hM1
      clear hed H
      go_simp
      exact hk _ (HS2.out wx hM1)
    ·intro ac wx hF hK hM0
     have hM : (TR w g gc g0 L q3 (frC zeroF) (frC zeroF)) wx := hM0
     have hMet := hF.meet
     simp only [List.foldl_cons, List.foldl_nil, List.setIfInBounds_toArray, List.set_cons_succ, List.set_cons_zero] at hMet
     refine HK0.out _ _ (Met.intro (hJ0 _ _ ?_))
     (repeat apply Exists.intro)
     exact ⟨hM, hMet⟩
   case rest =>
    have HT7 := Lib.hid hcut
    clear hcut HC0 HS0 HC1 HS1 HC2 HS2 HFT HRR
    obtain ⟨Q1a, Q1b, Q1c, Q1d, Q1e, Q1f⟩ := Q1.out
    obtain ⟨cy, hcy⟩ : ∃ cy, r.cycle = cy := ⟨_, rfl⟩
    have c0 := HT7.out.1.cell 0 (by decide) (show reF q3 gc 0 = I (id : Int) by rw [reF_id, Q1a])
    have c2 := HT7.out.1.cell 2 (by decide) (show reF q3 gc 2 = I (cy : Int) by rw [reF_cycle, Q1b, hcy])
    have cs1 := HT7.out.1.cell (22 + id * 2) (by omega) (show reF q3 gc (22 + id * 2) = I (f1 : Int) by rw [reF_seen1 hid3', Q1c])
    have cs2 := HT7.out.1.cell (22 + id * 2 + 1) (by omega) (show reF q3 gc (22 + id * 2 + 1) = I (f2 : Int) by rw [reF_seen2 hid3', Q1c])
    have HCY := Lib.hid hcy
    have QA := Lib.hid Q1a
    have QB := Lib.hid Q1b
    have QC := Lib.hid Q1c
    have QD := Lib.hid Q1d
    have QE := Lib.hid Q1e
    have QF := Lib.hid Q1f
    obtain ⟨smp, hsmp⟩ : ∃ smp, frm 1 id cy ((f1 : Int), (f2 : Int), 0) = smp := ⟨_, rfl⟩
    have HSMP : Hid (frC smp = #[I 1, I (id : Int), I (cy : Int), I (f1 : Int), I (f2 : Int), I 0, I 0, I 0, I 0, I 0, I 0, I 0, I 0, I 0, I 0, I 0, I 0, I 0, I 0, I 0, I 0, I 0, I 0]) := Lib.hid (by rw [← hsmp]; rfl)
    have hs1 : (Tryz.prog.info? 110).map (·.size) = some (frC smp).size := by rw [HSMP.out]; exact infoFrame
    have hs2 : (frC zeroF).size = (frC smp).size := by rw [HSMP.out]; rfl
    have HSM := Lib.hid hsmp
    have HS1 := Lib.hid hs1
    have HS2 := Lib.hid hs2
    have hk0 : (0 : Int) ≤ (id : Int) := by omega
    have hk1 : (id : Int) < 3 := by omega
    have k0 := Lib.hid HT7.out.2.2.1.drew
    clear Q1 Q1a Q1b Q1c Q1d Q1e Q1f hcy hsmp hs1 hs2
    go_upto_region 8 with fail
    go_still_tail 18, (by kernel_rfl)
    change wpList _ _ _ _ _ wc.drew
    clear c0 c2 cs1 cs2
    go_upto_region 9 with (refine wpList_store_row rfl 110 (.tmp 2) (.tmp 99) rfl g0 (frC smp) rfl (congrArg Value.agg HSMP.out.symm) 110 _ k0.out HS1.out HS2.out (frC_one _) ?_)
    have HT8 : Hid (TR w g gc g0 L q3 (frC smp) (frC zeroF) (wc.drew.setRow g0 (frC smp))) := Lib.hid (TR.row1 (HT7.out.after ((Below.refl _ _).drew)) (Nat.le_of_eq HG.out) (frC smp))
    clear HT7 k0 HS2
    generalize wc.drew.setRow g0 (frC smp) = w8 at *
    obtain ⟨s0, hs0⟩ : ∃ s, q3.some.getD 0 false = s := ⟨_, rfl⟩
    obtain ⟨s1, hs1⟩ : ∃ s, q3.some.getD 1 false = s := ⟨_, rfl⟩
    obtain ⟨s2, hs2⟩ : ∃ s, q3.some.getD 2 false = s := ⟨_, rfl⟩
    have c28 := HT8.out.1.cell 28 (by decide) (show reF q3 gc 28 = .bool s0 by rw [← hs0]; exact reF_some (k := 0) (by decide))
    have c29 := HT8.out.1.cell 29 (by decide) (show reF q3 gc 29 = .bool s1 by rw [← hs1]; exact reF_some (k := 1) (by decide))
    have c30 := HT8.out.1.cell 30 (by decide) (show reF q3 gc 30 = .bool s2 by rw [← hs2]; exact reF_some (k := 2) (by decide))
    have HSS : Hid (∀ k : Nat, k < 3 → ∃ sk, q3.some[k]? = some sk ∧ ∀ wx, (Instr.index 102 (.agg #[.bool s0, .bool s1, .bool s2]) (I (k : Int))).run Tryz.prog wx = .ok (.bool sk) wx) := Lib.hid (fun k hk => by
     have hg : ∀ i, i < 3 → q3.some[i]? = some (q3.some.getD i false) := fun i hi => by rw [List.getD_eq_getElem?_getD, List.getElem?_eq_getElem (by rw [QF.out]; exact hi)]; rfl
     have : k = 0 ∨ k = 1 ∨ k = 2 := by omega
     rcases this with rfl | rfl | rfl
     ·exact ⟨s0, by rw [hg 0 (by decide), hs0], fun wx => ix0 _ _ _ _⟩
     ·exact ⟨s1, by rw [hg 1 (by decide), hs1], fun wx => ix1 _ _ _ _⟩
     ·exact ⟨s2, by rw [hg 2 (by decide), hs2], fun wx => ix2 _ _ _ _⟩)
    clear hs0 hs1 hs2
    go_wp2_with fail
    clear c28 c29 c30
    go_loop [6, 104] (fun c i => ∃ k : Nat, k ≤ 3 ∧ i = I k ∧ c = I (howManyTo q3.some k : Nat)) (fun _ i => 3 - (intOf i).toNat)
    case atStart => exact ⟨0, by omega, rfl, rfl⟩
    case round =>
     obtain ⟨k, hk, rfl, rfl⟩ := hrel
     by_cases hlt : k < 3
     ·have hki : (k : Int) < 3 := by omega
      obtain ⟨sk, hsk, hix⟩ := HSS.out k hlt
      have hixr := hix w8
      have HHM := Lib.hid (howMany_succ hsk)
      have hle := howMany_le q3.some k
      clear hsk hix
      cases sk with
      | false =>
       go_wp2_with fail
       go_round
       case rel => exact ⟨k + 1, by omega, by go_num, by rw [HHM.out]; rfl⟩
       case measure => simp [intOf]; omega
      | true =>
       go_wp2_with fail
       go_round
       case rel => exact ⟨k + 1, by omega, by go_num, by rw [HHM.out, if_pos rfl]; exact I_eq (by omega)⟩
       case measure => simp [intOf]; omega
     ·have hk3 : k = 3 := by omega
      subst hk3
      obtain ⟨m, hm⟩ : ∃ m, howManyTo q3.some 3 = m := ⟨_, rfl⟩
      rw [hm]
      have HM : Hid (howMany q3.some = m) := Lib.hid (by rw [← hm, howMany_all QF.out])
      clear hm hlt HSS
      have HRT : Hid (reTick L r = if m = 1 ∧ 3 ≤ tt then (q3, smp, asks q3, true) else if m = 1 ∨ m = 2 ∧ tt < 3 then (q3, smp, zeroF, false) else (q3, smp, frm 2 id cy (((fused q3).1 : Nat), ((fused q3).2 : Nat), ((step L ((fused q3).1 : Nat) ((fused q3).2 : Nat) q3.state).2 : Nat)), true)) := Lib.hid (by
       unfold reTick
       rw [HQ.out]
       simp only [QA.out, QB.out, HCY.out, QC.out, QD.out, HM.out, HSM.out])
      have c91 := HT8.out.1.cell 91 (by decide) (show reF q3 gc 91 = I (tt : Int) by rw [reF_ticks, QD.out])
      by_cases h1 : m = 1
      ·have t1 : ((m : Int) == 1) = true := by simp; omega
       by_cases h3 : 3 ≤ tt
       ·have t3 : decide ((3 : Int) ≤ (tt : Int)) = true := by rw [decide_eq_true_eq]; omega
        have HRE : Hid (reTick L r = (q3, smp, asks q3, true)) := Lib.hid (by rw [HRT.out, if_pos ⟨h1, h3⟩])
        clear HRT h1 h3
        go_upto_region 17 with fail
        clear t1 t3 c91
        obtain ⟨ak, hak⟩ : ∃ ak, asks q3 = ak := ⟨_, rfl⟩
        rw [hak] at HRE
        have hl23 : ak.length = 23 := by rw [← hak]; rfl
        have HAK := Lib.hid hak
        have HSA : Hid ((Tryz.prog.info? 110).map (·.size) = some (frC ak).size) := Lib.hid (by rw [frC_size _ hl23]; exact infoFrame)
        have HSB : Hid ((frC zeroF).size = (frC ak).size) := Lib.hid (by rw [frC_size _ hl23]; rfl)
        clear hak hl23
        go_cut [4] (fun s4 wx => s4 = .bool true ∧ (TR w g gc g0 L q3 (frC smp) (frC ak)) wx)
        case first =>
         rename_i J0 K0 hJ0 hK0
         have HK0 := Lib.hid hK0
         clear hK0
         refine region_all (by kernel_rfl) (fun b0 => b0.tmps.getD 0 undef = .pointer (some ⟨g, 0, none⟩) ∧ b0.tmps.getD 2 undef = .pointer (some ⟨g0, 0, none⟩) ∧ b0.tmps.getD 3 undef = .pointer (some ⟨g0 + 1, 0, none⟩)) ⟨rfl, rfl, rfl⟩ 167 rfl (fun i => ([.agg (frC smp), .pointer (some ⟨g, 0, none⟩), .agg (frC ak), undef, undef, .bool true] : List Value).getD i undef) [3, 4] (by kernel_rfl) (fun j => ([(TR w g gc g0 L q3 (frC smp) (frC zeroF)), (TR w g gc g0 L q3 (frC smp) (frC zeroF)), (TR w g gc g0 L q3 (frC smp) (frC ak))] : List (World → Prop)).getD j (fun _ => True)) [121, 122, 123, 4] (by kernel_rfl) (by kernel_rfl) (HT8.out.drew) ?_ ?_
         ·intro b0 hb0 i o ho
          have hi : i < 6 := (Array.getElem?_eq_some_iff.1 ho).1
          obtain ⟨f0, f2, f3⟩ := hb0
          have hcase : i = 0 ∨ i = 1 ∨ i = 2 ∨ i = 3 ∨ i = 4 ∨ i = 5 := by omega
          clear hi
          rcases hcase with rfl | rfl | rfl | rfl | rfl | rfl
          ·simp only [List.getElem?_toArray, List.getElem?_cons_zero] at ho
           cases ho
           refine .inr (.inl ⟨by decide, by kernel_rfl, stepA rfl (fun li ac wx H hn hed hM K hk => ?_)⟩)
           have e2 : ac.tmps[2]?.getD undef = .pointer (some ⟨g0, 0, none⟩) := slot_at ((H.frm.slot (by decide)).trans f2)
           have hM1 : (TR w g gc g0 L q3 (frC smp) (frC zeroF)) wx := hM
           clear hed H
           refine wp_load_row 110 (.tmp 2) rfl g0 (eval_at e2) 110 (frC smp) (0, 0) _ hM1.2.2.1 Tryz.underlying110 rfl HS1.out ?_
           exact hk _ hM
          ·simp only [List.getElem?_toArray, List.getElem?_cons_zero, List.getElem?_cons_succ] at ho
           cases ho
           refine .inl ⟨by decide, fun M => stepA rfl (fun li ac wx H hn hed hM K hk => ?_)⟩
           have e0 : ac.tmps[0]?.getD undef = .pointer (some ⟨g, 0, none⟩) := slot_at ((H.frm.slot (by decide)).trans f0)
           clear hed H
           go_simp
           exact hk _ hM
          ·simp only [List.getElem?_toArray, List.getElem?_cons_zero, List.getElem?_cons_succ] at ho
           cases ho
           refine .inr (.inl ⟨by decide, by kernel_rfl, stepA rfl (fun li ac wx H hn hed hM K hk => ?_)⟩)
           have e122 : ac.tmps[122]?.getD undef = .pointer (some ⟨g, 0, none⟩) := slot_at (H.known 1 _ rfl (hed ⟨1, .data⟩ (by simp) rfl) 122 rfl)
           have hM1 : (TR w g gc g0 L q3 (frC smp) (frC zeroF)) wx := hM
           clear hed H
           go_simp
           refine (re_asks hM1.1).mono ?_
           rintro e w9 ⟨rfl, hb9⟩
           rw [HAK.out]
           exact hk _ (hM1.after hb9)
          ·simp only [List.getElem?_toArray, List.getElem?_cons_zero, List.getElem?_cons_succ] at ho
           cases ho
           refine .inr (.inr (.inl ⟨0, rfl, stepA rfl (fun li ac wx H hn hed hM K hk => ?_)⟩))
           have e2 : ac.tmps[2]?.getD undef = .pointer (some ⟨g0, 0, none⟩) := slot_at ((H.frm.slot (by decide)).trans f2)
           have e121 : ac.tmps[121]?.getD undef = .agg (frC smp) := slot_at (H.known 0 _ rfl (hed ⟨0, .data⟩ (by simp) rfl) 121 rfl)
           have hM1 : (TR w g gc g0 L q3 (frC smp) (frC zeroF)) wx := hM
           clear hed H
           refine wp_store_row 110 (.tmp 2) (.tmp 121) rfl g0 (frC smp) (eval_at e2) (eval_at e121) 110 _ hM1.2.2.1 HS1.out rfl (frC_one _) ?_
           exact hk _ (hM1.row1 (Nat.le_of_eq HG.out) (frC smp))
          ·simp only [List.getElem?_toArray, List.getElem?_cons_zero, List.getElem?_cons_succ] at ho
           cases ho
           refine .inr (.inr (.inl ⟨1, rfl, stepA rfl (fun li ac wx H hn hed hM K hk => ?_)⟩))
           have e3 : ac.tmps[3]?.getD undef = .pointer (some ⟨g0 + 1, 0, none⟩) := slot_at ((H.frm.slot (by decide)).trans f3)
           have e123 : ac.tmps[123]?.getD undef = .agg (frC ak) := slot_at (H.known 2 _ rfl (hed ⟨2, .data⟩ (by simp) rfl) 123 rfl)
           have hM1 : (TR w g gc g0 L q3 (frC smp) (frC zeroF)) wx := hM
           clear hed H
           refine wp_store_row 110 (.tmp 3) (.tmp 123) rfl (g0 + 1) (frC ak) (eval_at e3) (eval_at e123) 110 _ hM1.2.2.2 HSA.out HSB.out (frC_one _) ?_
           exact hk _ (hM1.row2 (Nat.le_of_eq HG.out) (frC ak))
          ·simp only [List.getElem?_toArray, List.getElem?_cons_zero, List.getElem?_cons_succ] at ho
           cases ho
           refine .inl ⟨by decide, fun M => stepA rfl (fun li ac wx H hn hed hM K hk => ?_)⟩
           clear hed H
           go_simp
           exact hk _ hM
         ·intro ac wx hF hK hM0
          have hM : (TR w g gc g0 L q3 (frC smp) (frC ak)) wx := hM0
          have E4 := hK 5 _ rfl 4 rfl
          have hMet := hF.meet
          simp only [List.foldl_cons, List.foldl_nil, List.setIfInBounds_toArray, List.set_cons_succ, List.set_cons_zero, E4] at hMet
          refine HK0.out _ _ (Met.intro (hJ0 _ _ ?_))
          (repeat apply Exists.intro)
          exact ⟨⟨rfl, hM⟩, hMet⟩
        case rest =>
         obtain ⟨rfl, hT9⟩ := hcut
         have HT9 := Lib.hid hT9
         clear hT9
         go_wp2_with fail
         refine bodyPost_ret (results_cell2_tmp rfl _ _ g0 (g0 + 1) 110 (frC smp) (frC ak) _ rfl rfl HT9.out.2.2.1 HT9.out.2.2.2 Tryz.underlying110 rfl HS1.out HSA.out) rfl ?_
         unfold TickPost
         rw [HRE.out]
         exact ⟨rfl, HT9.out.1, HT9.out.2.1⟩
       ·have t3 : decide ((3 : Int) ≤ (tt : Int)) = false := by rw [decide_eq_false_iff_not]; omega
        have HRE : Hid (reTick L r = (q3, smp, zeroF, false)) := Lib.hid (by rw [HRT.out, if_neg (by omega), if_pos (by omega)])
        have HSZ : Hid ((Tryz.prog.info? 110).map (·.size) = some (frC zeroF).size) := Lib.hid infoFrame
        clear HRT h1 h3
        go_upto_region 19 with fail
        clear t1 t3 c91
        have HT9 : Hid (TR w g gc g0 L q3 (frC smp) (frC zeroF) (w8.setRow g0 (frC smp))) := Lib.hid (HT8.out.row1 (Nat.le_of_eq HG.out) (frC smp))
        go_wp2_with (first
         | (refine wpList_load_row rfl 110 (.tmp 2) rfl g0 rfl 110 (frC smp) (0, 0) _ HT8.out.2.2.1 Tryz.underlying110 rfl HS1.out ?_)
         | (refine wpList_store_row rfl 110 (.tmp 2) (.tmp 138) rfl g0 (frC smp) rfl rfl 110 _ HT8.out.2.2.1 HS1.out rfl (frC_one _) ?_; change wpList _ _ _ _ _ (w8.setRow g0 (frC smp)); generalize w8.setRow g0 (frC smp) = w9 at *; have HTA : Hid (TR w g gc g0 L q3 (frC smp) (frC zeroF) (w9.setRow (g0 + 1) (frC zeroF))) := Lib.hid (HT9.out.row2 (Nat.le_of_eq HG.out) (frC zeroF)))
         | (refine wpList_store_row rfl 110 (.tmp 3) (.tmp 139) rfl (g0 + 1) (frC zeroF) rfl rfl 110 _ HT9.out.2.2.2 HSZ.out rfl (frC_one _) ?_; change wpList _ _ _ _ _ (w9.setRow (g0 + 1) (frC zeroF)); generalize w9.setRow (g0 + 1) (frC zeroF) = wa at *))
        refine bodyPost_ret (results_cell2_tmp rfl _ _ g0 (g0 + 1) 110 (frC smp) (frC zeroF) _ rfl rfl HTA.out.2.2.1 HTA.out.2.2.2 Tryz.underlying110 rfl HS1.out HSZ.out) rfl ?_
        unfold TickPost
        rw [HRE.out]
        exact ⟨rfl, HTA.out.1, HTA.out.2.1⟩
      ·have t1 : ((m : Int) == 1) = false := by simp; omega
       by_cases h2 : m = 2 ∧ tt < 3
       ·have t3 : decide ((tt : Int) < 3) = true := by rw [decide_eq_true_eq]; omega
        have t2 : ((m : Int) == 2) = true := by simp; omega
        have h3 := h2.2
        have HRE : Hid (reTick L r = (q3, smp, zeroF, false)) := Lib.hid (by rw [HRT.out, if_neg (by omega), if_pos (by omega)])
        have HSZ : Hid ((Tryz.prog.info? 110).map (·.size) = some (frC zeroF).size) := Lib.hid infoFrame
        clear HRT h1 h3 h2
        go_upto_region 19 with fail
        clear t1 t3 c91 t2
        have HT9 : Hid (TR w g gc g0 L q3 (frC smp) (frC zeroF) (w8.setRow g0 (frC smp))) := Lib.hid (HT8.out.row1 (Nat.le_of_eq HG.out) (frC smp))
        go_wp2_with (first
         | (refine wpList_load_row rfl 110 (.tmp 2) rfl g0 rfl 110 (frC smp) (0, 0) _ HT8.out.2.2.1 Tryz.underlying110 rfl HS1.out ?_)
         | (refine wpList_store_row rfl 110 (.tmp 2) (.tmp 138) rfl g0 (frC smp) rfl rfl 110 _ HT8.out.2.2.1 HS1.out rfl (frC_one _) ?_; change wpList _ _ _ _ _ (w8.setRow g0 (frC smp)); generalize w8.setRow g0 (frC smp) = w9 at *; have HTA : Hid (TR w g gc g0 L q3 (frC smp) (frC zeroF) (w9.setRow (g0 + 1) (frC zeroF))) := Lib.hid (HT9.out.row2 (Nat.le_of_eq HG.out) (frC zeroF)))
         | (refine wpList_store_row rfl 110 (.tmp 3) (.tmp 139) rfl (g0 + 1) (frC zeroF) rfl rfl 110 _ HT9.out.2.2.2 HSZ.out rfl (frC_one _) ?_; change wpList _ _ _ _ _ (w9.setRow (g0 + 1) (frC zeroF)); generalize w9.setRow (g0 + 1) (frC zeroF) = wa at *))
        refine bodyPost_ret (results_cell2_tmp rfl _ _ g0 (g0 + 1) 110 (frC smp) (frC zeroF) _ rfl rfl HTA.out.2.2.1 HTA.out.2.2.2 Tryz.underlying110 rfl HS1.out HSZ.out) rfl ?_
        unfold TickPost
        rw [HRE.out]
        exact ⟨rfl, HTA.out.1, HTA.out.2.1⟩
       ·have HRE : Hid (reTick L r = (q3, smp, frm 2 id cy (((fused q3).1 : Nat), ((fused q3).2 : Nat), ((step L ((fused q3).1 : Nat) ((fused q3).2 : Nat) q3.state).2 : Nat)), true)) := Lib.hid (by rw [HRT.out, if_neg (by omega), if_neg (by omega)])
        clear HRT
        have hst := hf.out.state
        obtain ⟨st, hst2⟩ : ∃ st, r.state = st := ⟨_, rfl⟩
        rw [hst2] at hst
        have HSTF := Lib.hid hst
        have hl17 : (stL st).length = 17 := stL_length hst.used8 hst.idle8
        obtain ⟨i1, hi1⟩ : ∃ i1, (fused q3).1 = i1 := ⟨_, rfl⟩
        obtain ⟨i2, hi2⟩ : ∃ i2, (fused q3).2 = i2 := ⟨_, rfl⟩
        obtain ⟨st2, out, hsp⟩ : ∃ st2 out, step L (i1 : Int) (i2 : Int) st = (st2, out) := ⟨_, _, rfl⟩
        have hst2f : st2.Fits (2000 + T + 8) := by have := step_fits (c := (i1 : Int)) (d := (i2 : Int)) hL hst; rw [hsp] at this; exact this
        have hl17b : (stL st2).length = 17 := stL_length hst2f.used8 hst2f.idle8
        have HFC : Hid (Calls Tryz.prog 76 #[.pointer (some ⟨g, 0, none⟩)] w8 fun e w' => e = .returned (.agg #[I (i1 : Int), I (i2 : Int)]) ∧ Below w8.heap.size w8 w') := Lib.hid (by
         have h := re_fused HT8.out.1 QG
         rw [hi1, hi2] at h
         exact h)
        have HSTP : Hid (∀ wx, CoreAt wx gc L → Calls Tryz.prog 77 #[.pointer (some ⟨gc, 0, none⟩), .agg (stC st), .agg #[I (i1 : Int), I (i2 : Int)]] wx fun e w' => e = .returned (.tuple #[.agg (stC st2), I (out : Int)]) ∧ Below wx.heap.size wx w') := Lib.hid (fun wx hc => by
         have h := step_ok gc L st (2000 + T) (i1 : Int) (i2 : Int) wx hL (by omega) HSTF.out hc
         rw [hsp] at h
         exact h)
        rw [hi1, hi2, QE.out, hst2, hsp] at HRE
        have HQS : Hid (q3.state = st) := Lib.hid (by rw [QE.out, hst2])
        have HSR : Hid (∀ wx, RepAt wx g gc L q3 → wx.rangeAt g 3 (stL st)) := Lib.hid (fun wx hx => by have h := state_range hx (by rw [HQS.out]; exact hl17); rw [HQS.out] at h; exact h)
        have HI1 : Hid ((Tryz.prog.info? 100).map (·.size) = some (stL st).length) := Lib.hid (by rw [hl17]; exact infoState)
        have HI2 : Hid ((Tryz.prog.info? 100).map (·.size) = some (stC st2).size) := Lib.hid (by unfold stC; rw [List.size_toArray, hl17b]; exact infoState)
        have HI3 : Hid ((#[I 0, I 0, I 0, I 0, I 0, I 0, I 0, I 0, I 0, I 0, I 0, I 0, I 0, I 0, I 0, I 0, I 0] : Array Value).size = (stC st2).size) := Lib.hid (by unfold stC; rw [List.size_toArray, List.size_toArray, hl17b]; rfl)
        have HI4 : Hid ((stC st2).all (·.oneCell') = true) := Lib.hid (by
         unfold stC stL
         exact all_oneCell_toArray fun v hv => by
          simp only [List.mem_cons, List.mem_append, ints, List.mem_map] at hv
          rcases hv with rfl | ⟨x, _, rfl⟩ | ⟨x, _, rfl⟩ <;> rfl)
        have HCI : Hid (∀ wx, RepAt wx g gc L q3 → wx.cell? ⟨g, 0, none⟩ = some (I (id : Int)) ∧ wx.cell? ⟨g, 1, none⟩ = some (.pointer (some ⟨gc, 0, none⟩)) ∧ wx.cell? ⟨g, 2, none⟩ = some (I (cy : Int))) := Lib.hid (fun wx hx => ⟨hx.cell 0 (by decide) (by rw [reF_id, QA.out]), hx.cell 1 (by decide) reF_core, hx.cell 2 (by decide) (by rw [reF_cycle, QB.out, HCY.out])⟩)
        clear hst hst2 hl17 hi1 hi2 hsp hst2f hl17b
        have hcs : (((m : Int) == 2) = true ∧ decide ((tt : Int) < 3) = false) ∨ ((m : Int) == 2) = false := by
         by_cases h : m = 2
         ·exact .inl ⟨by simp; omega, by rw [decide_eq_false_iff_not]; omega⟩
         ·exact .inr (by simp; omega)
        clear h1 h2
        rcases hcs with ⟨t2, t3⟩ | t2
        ·go_upto_region 20 with fail
         clear t1 t2 t3 c91
         go_upto_region 21 with (go_at_call 76; refine HFC.out.mono ?_; rintro e w9 ⟨rfl, hb9⟩)
         have k9 := Has.new w9 26 #[I (i1 : Int), I (i2 : Int)]
         have hba : Below w9.heap.size w9 (w9.alloc (.cells #[I (i1 : Int), I (i2 : Int)] 26)) := (Below.refl _ _).alloc (Nat.le_refl _) _
         have HTA : Hid (TR w g gc g0 L q3 (frC smp) (frC zeroF) (w9.alloc (.cells #[I (i1 : Int), I (i2 : Int)] 26))) := Lib.hid ((HT8.out.after hb9).after hba)
         have K9 := Lib.hid k9
         clear hb9 hba k9 HFC
         generalize w9.alloc (.cells #[I (i1 : Int), I (i2 : Int)] 26) = wa at *
         generalize w9.heap.size = g9 at *
         go_cut [11] (fun s11 wx => s11 = I (out : Int) ∧ Hid (∃ γ, (fun _ => (fun wx => TR w g gc g0 L q3 (frC smp) (frC zeroF) wx ∧ Has wx g9 26 #[I (i1 : Int), I (i2 : Int)])) γ wx))
         case first =>
          rename_i J0 K0 hJ0 hK0
          have HK0 := Lib.hid hK0
          clear hK0
          refine region_alloc g0 (by kernel_rfl) (fun b0 => b0.tmps.getD 0 undef = .pointer (some ⟨g, 0, none⟩) ∧ b0.tmps.getD 9 undef = .pointer (some ⟨g9, 0, none⟩)) ⟨rfl, rfl⟩ 167 rfl (fun γ i => ([.pointer (some ⟨g, 0, none⟩), .pointer (some ⟨g, 0, none⟩), .pointer (some ⟨g, 1, none⟩), .pointer (some ⟨gc, 0, none⟩), .pointer (some ⟨g, 0, none⟩), .pointer (some ⟨g, 0, none⟩), .pointer (some ⟨g, 3, none⟩), .agg (stC st), .agg #[I (i1 : Int), I (i2 : Int)], .tuple #[.agg (stC st2), I (out : Int)], .tuple #[.agg (stC st2), I (out : Int)], .agg (stC st2), I (out : Int), .pointer (some ⟨γ, 0, none⟩), undef, I (out : Int)] : List Value).getD i undef) 13 100 #[I 0, I 0, I 0, I 0, I 0, I 0, I 0, I 0, I 0, I 0, I 0, I 0, I 0, I 0, I 0, I 0, I 0] [14] (by kernel_rfl) (by decide) (by kernel_rfl) ?_ (fun wx => TR w g gc g0 L q3 (frC smp) (frC zeroF) wx ∧ Has wx g9 26 #[I (i1 : Int), I (i2 : Int)]) (fun j γ => ([fun _ => True, (fun _ => (fun wx => TR w g gc g0 L q3 (frC smp) (frC zeroF) wx ∧ Has wx g9 26 #[I (i1 : Int), I (i2 : Int)])) γ] : List (World → Prop)).getD j (fun _ => True)) [143, 144, 145, 146, 147, 148, 149, 150, 151, 152, 142, 153, 154, 10, 11] (by kernel_rfl) (by kernel_rfl) ⟨HTA.out.drew, K9.out.drew⟩ ?_ ?_
          ·intro γ γ' j hj
           by_cases hjm : j < 16
           ·have hcase : j = 0 ∨ j = 1 ∨ j = 2 ∨ j = 3 ∨ j = 4 ∨ j = 5 ∨ j = 6 ∨ j = 7 ∨ j = 8 ∨ j = 9 ∨ j = 10 ∨ j = 11 ∨ j = 12 ∨ j = 13 ∨ j = 14 ∨ j = 15 := by omega
            rcases hcase with rfl | rfl | rfl | rfl | rfl | rfl | rfl | rfl | rfl | rfl | rfl | rfl | rfl | rfl | rfl | rfl <;> first | rfl | exact absurd rfl hj
           ·rw [List.getD_eq_getElem?_getD, List.getD_eq_getElem?_getD, List.getElem?_eq_none (by simp; omega), List.getElem?_eq_none (by simp; omega)]
          ·intro b0 hb0 i o ho
           have hi : i < 16 := (Array.getElem?_eq_some_iff.1 ho).1
           obtain ⟨f0, f9⟩ := hb0
           have hcase : i = 0 ∨ i = 1 ∨ i = 2 ∨ i = 3 ∨ i = 4 ∨ i = 5 ∨ i = 6 ∨ i = 7 ∨ i = 8 ∨ i = 9 ∨ i = 10 ∨ i = 11 ∨ i = 12 ∨ i = 13 ∨ i = 14 ∨ i = 15 := by omega
           clear hi
           rcases hcase with rfl | rfl | rfl | rfl | rfl | rfl | rfl | rfl | rfl | rfl | rfl | rfl | rfl | rfl | rfl | rfl
           ·simp only [List.getElem?_toArray, List.getElem?_cons_zero] at ho
            cases ho
            refine .inl ⟨by decide, by decide, fun γ M => stepA rfl (fun li ac wx H hn hed hM K hk => ?_)⟩
            have e0 : ac.tmps[0]?.getD undef = .pointer (some ⟨g, 0, none⟩) := slot_at ((H.frm.slot (by decide)).trans f0)
            clear hed H
            go_simp
            exact hk _ hM
           ·simp only [List.getElem?_toArray, List.getElem?_cons_zero, List.getElem?_cons_succ] at ho
            cases ho
            refine .inl ⟨by decide, by decide, fun γ M => stepA rfl (fun li ac wx H hn hed hM K hk => ?_)⟩
            have e143 : ac.tmps[143]?.getD undef = .pointer (some ⟨g, 0, none⟩) := slot_at (H.known 0 _ rfl (hed ⟨0, .data⟩ (by simp) rfl) 143 rfl)
            clear hed H
            go_simp
            exact hk _ hM
           ·simp only [List.getElem?_toArray, List.getElem?_cons_zero, List.getElem?_cons_succ] at ho
            cases ho
            refine .inl ⟨by decide, by decide, fun γ M => stepA rfl (fun li ac wx H hn hed hM K hk => ?_)⟩
            have e144 : ac.tmps[144]?.getD undef = .pointer (some ⟨g, 0, none⟩) := slot_at (H.known 1 _ rfl (hed ⟨1, .data⟩ (by simp) rfl) 144 rfl)
            clear hed H
            go_simp
            exact hk _ hM
           ·simp only [List.getElem?_toArray, List.getElem?_cons_zero, List.getElem?_cons_succ] at ho
            cases ho
            refine .inr (.inl ⟨by decide, by decide, by kernel_rfl, fun γ w0 => stepA rfl (fun li ac wx H hn hed hM K hk => ?_)⟩)
            have e145 : ac.tmps[145]?.getD undef = .pointer (some ⟨g, 1, none⟩) := slot_at (H.known 2 _ rfl (hed ⟨2, .data⟩ (by simp) rfl) 145 rfl)
            obtain ⟨hM1, rfl⟩ := hM
            have hM1 : (fun wx => TR w g gc g0 L q3 (frC smp) (frC zeroF) wx ∧ Has wx g9 26 #[I (i1 : Int), I (i2 : Int)]) w0 := hM1
            obtain ⟨x1, x2, x3⟩ := HCI.out w0 hM1.1.1
            clear hed H
            go_simp
            exact hk _ ⟨hM1, Below.refl _ _⟩
           ·simp only [List.getElem?_toArray, List.getElem?_cons_zero, List.getElem?_cons_succ] at ho
            cases ho
            refine .inl ⟨by decide, by decide, fun γ M => stepA rfl (fun li ac wx H hn hed hM K hk => ?_)⟩
            have e0 : ac.tmps[0]?.getD undef = .pointer (some ⟨g, 0, none⟩) := slot_at ((H.frm.slot (by decide)).trans f0)
            clear hed H
            go_simp
            exact hk _ hM
           ·simp only [List.getElem?_toArray, List.getElem?_cons_zero, List.getElem?_cons_succ] at ho
            cases ho
            refine .inl ⟨by decide, by decide, fun γ M => stepA rfl (fun li ac wx H hn hed hM K hk => ?_)⟩
            have e147 : ac.tmps[147]?.getD undef = .pointer (some ⟨g, 0, none⟩) := slot_at (H.known 4 _ rfl (hed ⟨4, .data⟩ (by simp) rfl) 147 rfl)
            clear hed H
            go_simp
            exact hk _ hM
           ·simp only [List.getElem?_toArray, List.getElem?_cons_zero, List.getElem?_cons_succ] at ho
            cases ho
            refine .inl ⟨by decide, by decide, fun γ M => stepA rfl (fun li ac wx H hn hed hM K hk => ?_)⟩
            have e148 : ac.tmps[148]?.getD undef = .pointer (some ⟨g, 0, none⟩) := slot_at (H.known 5 _ rfl (hed ⟨5, .data⟩ (by simp) rfl) 148 rfl)
            clear hed H
            go_simp
            exact hk _ hM
           ·simp only [List.getElem?_toArray, List.getElem?_cons_zero, List.getElem?_cons_succ] at ho
            cases ho
            refine .inr (.inl ⟨by decide, by decide, by kernel_rfl, fun γ w0 => stepA rfl (fun li ac wx H hn hed hM K hk => ?_)⟩)
            have e149 : ac.tmps[149]?.getD undef = .pointer (some ⟨g, 3, none⟩) := slot_at (H.known 6 _ rfl (hed ⟨6, .data⟩ (by simp) rfl) 149 rfl)
            obtain ⟨hM1, rfl⟩ := hM
            have hM1 : (fun wx => TR w g gc g0 L q3 (frC smp) (frC zeroF) wx ∧ Has wx g9 26 #[I (i1 : Int), I (i2 : Int)]) w0 := hM1
            clear hed H
            refine wp_load_mid 100 (.tmp 149) rfl g 3 (eval_at e149) (stL st) _ (HSR.out _ hM1.1.1) Tryz.underlying100 rfl HI1.out ?_
            exact hk _ ⟨hM1, Below.refl _ _⟩
           ·simp only [List.getElem?_toArray, List.getElem?_cons_zero, List.getElem?_cons_succ] at ho
            cases ho
            refine .inr (.inl ⟨by decide, by decide, by kernel_rfl, fun γ w0 => stepA rfl (fun li ac wx H hn hed hM K hk => ?_)⟩)
            have e9 : ac.tmps[9]?.getD undef = .pointer (some ⟨g9, 0, none⟩) := slot_at ((H.frm.slot (by decide)).trans f9)
            obtain ⟨hM1, rfl⟩ := hM
            have hM1 : (fun wx => TR w g gc g0 L q3 (frC smp) (frC zeroF) wx ∧ Has wx g9 26 #[I (i1 : Int), I (i2 : Int)]) w0 := hM1
            have x1 := hM1.2.cellv 0 _ rfl
            have x2 := hM1.2.cellv 1 _ rfl
            clear hed H
            go_simp
            exact hk _ ⟨hM1, Below.refl _ _⟩
           ·simp only [List.getElem?_toArray, List.getElem?_cons_zero, List.getElem?_cons_succ] at ho
            cases ho
            refine .inr (.inl ⟨by decide, by decide, by kernel_rfl, fun γ w0 => stepA rfl (fun li ac wx H hn hed hM K hk => ?_)⟩)
            have e146 : ac.tmps[146]?.getD undef = .pointer (some ⟨gc, 0, none⟩) := slot_at (H.known 3 _ rfl (hed ⟨3, .data⟩ (by simp) rfl) 146 rfl)
            have e150 : ac.tmps[150]?.getD undef = .agg (stC st) := slot_at (H.known 7 _ rfl (hed ⟨7, .data⟩ (by simp) rfl) 150 rfl)
            have e151 : ac.tmps[151]?.getD undef = .agg #[I (i1 : Int), I (i2 : Int)] := slot_at (H.known 8 _ rfl (hed ⟨8, .data⟩ (by simp) rfl) 151 rfl)
            obtain ⟨hM1, rfl⟩ := hM
            have hM1 : (fun wx => TR w g gc g0 L q3 (frC smp) (frC zeroF) wx ∧ Has wx g9 26 #[I (i1 : Int), I (i2 : Int)]) w0 := hM1
            clear hed H
            go_simp
            refine (HSTP.out _ hM1.1.1.core).mono ?_
            rintro e w' ⟨rfl, hb⟩
            exact hk _ ⟨⟨hM1.1.after hb, hM1.2.after hb⟩, hb⟩
           ·simp only [List.getElem?_toArray, List.getElem?_cons_zero, List.getElem?_cons_succ] at ho
            cases ho
            refine .inl ⟨by decide, by decide, fun γ M => stepA rfl (fun li ac wx H hn hed hM K hk => ?_)⟩
            have e152 : ac.tmps[152]?.getD undef = .tuple #[.agg (stC st2), I (out : Int)] := slot_at (H.known 9 _ rfl (hed ⟨9, .data⟩ (by simp) rfl) 152 rfl)
            clear hed H
            go_simp
            exact hk _ hM
           ·simp only [List.getElem?_toArray, List.getElem?_cons_zero, List.getElem?_cons_succ] at ho
            cases ho
            refine .inl ⟨by decide, by decide, fun γ M => stepA rfl (fun li ac wx H hn hed hM K hk => ?_)⟩
            have e142 : ac.tmps[142]?.getD undef = .tuple #[.agg (stC st2), I (out : Int)] := slot_at (H.known 10 _ rfl (hed ⟨10, .data⟩ (by simp) rfl) 142 rfl)
            clear hed H
            go_simp
            exact hk _ hM
           ·simp only [List.getElem?_toArray, List.getElem?_cons_zero, List.getElem?_cons_succ] at ho
            cases ho
            refine .inl ⟨by decide, by decide, fun γ M => stepA rfl (fun li ac wx H hn hed hM K hk => ?_)⟩
            have e142 : ac.tmps[142]?.getD undef = .tuple #[.agg (stC st2), I (out : Int)] := slot_at (H.known 10 _ rfl (hed ⟨10, .data⟩ (by simp) rfl) 142 rfl)
            clear hed H
            go_simp
            exact hk _ hM
           ·simp only [List.getElem?_toArray, List.getElem?_cons_zero, List.getElem?_cons_succ] at ho
            cases ho
            refine .inr (.inr (.inl ⟨by decide, rfl, rfl, fun _ => rfl, fun wx hM1 => ?_, fun ac wx K hk => ?_⟩))
            ·exact ⟨⟨TR.after hM1.1 ((Below.refl _ _).alloc (Nat.le_refl _) _), hM1.2.alloc _⟩, Nat.le_of_lt hM1.1.2.2.1.lt⟩
            ·go_simp
             exact hk
           ·simp only [List.getElem?_toArray, List.getElem?_cons_zero, List.getElem?_cons_succ] at ho
            cases ho
            refine .inr (.inr (.inr ⟨0, rfl, by decide, fun γ => stepA rfl (fun li ac wx H hn hed hM K hk => ?_)⟩))
            have e10 : ac.tmps[10]?.getD undef = .pointer (some ⟨γ, 0, none⟩) := slot_at (H.known 13 _ rfl (hed ⟨13, .data⟩ (by simp) rfl) 10 rfl)
            have e153 : ac.tmps[153]?.getD undef = .agg (stC st2) := slot_at (H.known 11 _ rfl (hed ⟨11, .data⟩ (by simp) rfl) 153 rfl)
            have hM1 : (fun wx => TR w g gc g0 L q3 (frC smp) (frC zeroF) wx ∧ Has wx g9 26 #[I (i1 : Int), I (i2 : Int)]) wx ∧ Has wx γ 100 #[I 0, I 0, I 0, I 0, I 0, I 0, I 0, I 0, I 0, I 0, I 0, I 0, I 0, I 0, I 0, I 0, I 0] ∧ g0 ≤ γ := hM
            clear hed H
            refine wp_store_row 100 (.tmp 10) (.tmp 153) rfl γ (stC st2) (eval_at e10) (eval_at e153) 100 _ hM1.2.1 HI2.out HI3.out HI4.out ?_
            exact hk _ ⟨hM1.1.1.far hM1.2.1 (by rw [HG.out]; exact hM1.2.2) (by decide) (by decide) (by decide) (by decide) _, hM1.1.2.farRow (hM1.1.2.ne hM1.2.1 (by decide)) _⟩
           ·simp only [List.getElem?_toArray, List.getElem?_cons_zero, List.getElem?_cons_succ] at ho
            cases ho
            refine .inl ⟨by decide, by decide, fun γ M => stepA rfl (fun li ac wx H hn hed hM K hk => ?_)⟩
            have e154 : ac.tmps[154]?.getD undef = I (out : Int) := slot_at (H.known 12 _ rfl (hed ⟨12, .data⟩ (by simp) rfl) 154 rfl)
            clear hed H
            go_simp
            exact hk _ hM
          ·intro γ ac wx hF hK hM0
           have hM : (fun _ => (fun wx => TR w g gc g0 L q3 (frC smp) (frC zeroF) wx ∧ Has wx g9 26 #[I (i1 : Int), I (i2 : Int)])) γ wx := hM0
           have E11 := hK 15 _ rfl 11 rfl
           have hMet := hF.meet
           simp only [List.foldl_cons, List.foldl_nil, List.setIfInBounds_toArray, List.set_cons_succ, List.set_cons_zero, E11] at hMet
           refine HK0.out _ _ (Met.intro (hJ0 _ _ ?_))
           (repeat apply Exists.intro)
           exact ⟨⟨rfl, Lib.hid ⟨γ, hM⟩⟩, hMet⟩
         case rest =>
          obtain ⟨rfl, HQ21⟩ := hcut
          have HTB : Hid ((fun wx => TR w g gc g0 L q3 (frC smp) (frC zeroF) wx ∧ Has wx g9 26 #[I (i1 : Int), I (i2 : Int)]) wc) := Lib.hid (by obtain ⟨γ, h⟩ := HQ21.out; exact h)
          have HS5 : Hid ((Tryz.prog.info? 110).map (·.size) = some (frC (frm 2 (id : Int) (cy : Int) ((i1 : Int), (i2 : Int), (out : Int)))).size) := Lib.hid infoFrame
          clear HQ21 HTA K9
          go_upto_region 22 with fail
          go_cut [4] (fun s4 wx => s4 = .bool true ∧ (fun wx => TR w g gc g0 L q3 (frC smp) (frC (frm 2 (id : Int) (cy : Int) ((i1 : Int), (i2 : Int), (out : Int)))) wx ∧ Has wx g9 26 #[I (i1 : Int), I (i2 : Int)]) wx)
          case first =>
           rename_i J0 K0 hJ0 hK0
           have HK0 := Lib.hid hK0
           clear hK0
           refine region_all (by kernel_rfl) (fun b0 => b0.tmps.getD 0 undef = .pointer (some ⟨g, 0, none⟩) ∧ b0.tmps.getD 2 undef = .pointer (some ⟨g0, 0, none⟩) ∧ b0.tmps.getD 3 undef = .pointer (some ⟨g0 + 1, 0, none⟩) ∧ b0.tmps.getD 9 undef = .pointer (some ⟨g9, 0, none⟩) ∧ b0.tmps.getD 11 undef = I (out : Int)) ⟨rfl, rfl, rfl, rfl, rfl⟩ 167 rfl (fun i => ([.agg (frC smp), .pointer (some ⟨g, 0, none⟩), .pointer (some ⟨g, 0, none⟩), .pointer (some ⟨g, 0, none⟩), I (id : Int), .pointer (some ⟨g, 0, none⟩), .pointer (some ⟨g, 0, none⟩), .pointer (some ⟨g, 2, none⟩), I (cy : Int), .agg #[I (i1 : Int), I (i2 : Int)], I (out : Int), .agg (frC (frm 2 (id : Int) (cy : Int) ((i1 : Int), (i2 : Int), (out : Int)))), undef, undef, .bool true] : List Value).getD i undef) [12, 13] (by kernel_rfl) (fun j => ([(fun wx => TR w g gc g0 L q3 (frC smp) (frC zeroF) wx ∧ Has wx g9 26 #[I (i1 : Int), I (i2 : Int)]), (fun wx => TR w g gc g0 L q3 (frC smp) (frC zeroF) wx ∧ Has wx g9 26 #[I (i1 : Int), I (i2 : Int)]), (fun wx => TR w g gc g0 L q3 (frC smp) (frC (frm 2 (id : Int) (cy : Int) ((i1 : Int), (i2 : Int), (out : Int)))) wx ∧ Has wx g9 26 #[I (i1 : Int), I (i2 : Int)])] : List (World → Prop)).getD j (fun _ => True)) [155, 156, 157, 158, 159, 160, 161, 162, 163, 164, 165, 166, 4] (by kernel_rfl) (by kernel_rfl) ⟨HTB.out.1.drew, HTB.out.2.drew⟩ ?_ ?_
           ·intro b0 hb0 i o ho
            have hi : i < 15 := (Array.getElem?_eq_some_iff.1 ho).1
            obtain ⟨f0, f2, f3, f9, f11⟩ := hb0
            have hcase : i = 0 ∨ i = 1 ∨ i = 2 ∨ i = 3 ∨ i = 4 ∨ i = 5 ∨ i = 6 ∨ i = 7 ∨ i = 8 ∨ i = 9 ∨ i = 10 ∨ i = 11 ∨ i = 12 ∨ i = 13 ∨ i = 14 := by omega
            clear hi
            rcases hcase with rfl | rfl | rfl | rfl | rfl | rfl | rfl | rfl | rfl | rfl | rfl | rfl | rfl | rfl | rfl
            ·simp only [List.getElem?_toArray, List.getElem?_cons_zero] at ho
             cases ho
             refine .inr (.inl ⟨by decide, by kernel_rfl, stepA rfl (fun li ac wx H hn hed hM K hk => ?_)⟩)
             have e2 : ac.tmps[2]?.getD undef = .pointer (some ⟨g0, 0, none⟩) := slot_at ((H.frm.slot (by decide)).trans f2)
             have hM1 : (fun wx => TR w g gc g0 L q3 (frC smp) (frC zeroF) wx ∧ Has wx g9 26 #[I (i1 : Int), I (i2 : Int)]) wx := hM
             clear hed H
             refine wp_load_row 110 (.tmp 2) rfl g0 (eval_at e2) 110 (frC smp) (0, 0) _ hM1.1.2.2.1 Tryz.underlying110 rfl HS1.out ?_
             exact hk _ hM
            ·simp only [List.getElem?_toArray, List.getElem?_cons_zero, List.getElem?_cons_succ] at ho
             cases ho
             refine .inl ⟨by decide, fun M => stepA rfl (fun li ac wx H hn hed hM K hk => ?_)⟩
             have e0 : ac.tmps[0]?.getD undef = .pointer (some ⟨g, 0, none⟩) := slot_at ((H.frm.slot (by decide)).trans f0)
             clear hed H
             go_simp
             exact hk _ hM
            ·simp only [List.getElem?_toArray, List.getElem?_cons_zero, List.getElem?_cons_succ] at ho
             cases ho
             refine .inl ⟨by decide, fun M => stepA rfl (fun li ac wx H hn hed hM K hk => ?_)⟩
             have e156 : ac.tmps[156]?.getD undef = .pointer (some ⟨g, 0, none⟩) := slot_at (H.known 1 _ rfl (hed ⟨1, .data⟩ (by simp) rfl) 156 rfl)
             clear hed H
             go_simp
             exact hk _ hM
            ·simp only [List.getElem?_toArray, List.getElem?_cons_zero, List.getElem?_cons_succ] at ho
             cases ho
             refine .inl ⟨by decide, fun M => stepA rfl (fun li ac wx H hn hed hM K hk => ?_)⟩
             have e157 : ac.tmps[157]?.getD undef = .pointer (some ⟨g, 0, none⟩) := slot_at (H.known 2 _ rfl (hed ⟨2, .data⟩ (by simp) rfl) 157 rfl)
             clear hed H
             go_simp
             exact hk _ hM
            ·simp only [List.getElem?_toArray, List.getElem?_cons_zero, List.getElem?_cons_succ] at ho
             cases ho
             refine .inr (.inr (.inr ⟨by decide, 1, 13, rfl, by kernel_rfl, fun j hj => ?_⟩))
             have hj2 : j = 0 ∨ j = 1 := by omega
             clear hj
             rcases hj2 with rfl | rfl
             ·refine stepA rfl (fun li ac wx H hn hed hM K hk => ?_)
              have e158 : ac.tmps[158]?.getD undef = .pointer (some ⟨g, 0, none⟩) := slot_at (H.known 3 _ rfl (hed ⟨3, .data⟩ (by simp) rfl) 158 rfl)
              have hM1 : (fun wx => TR w g gc g0 L q3 (frC smp) (frC zeroF) wx ∧ Has wx g9 26 #[I (i1 : Int), I (i2 : Int)]) wx := hM
              obtain ⟨x1, x2, x3⟩ := HCI.out wx hM1.1.1
              clear hed H
              go_simp
              exact hk _ hM
             ·refine stepA rfl (fun li ac wx H hn hed hM K hk => ?_)
              have e158 : ac.tmps[158]?.getD undef = .pointer (some ⟨g, 0, none⟩) := slot_at (H.known 3 _ rfl (hed ⟨3, .data⟩ (by simp) rfl) 158 rfl)
              have hM1 : (fun wx => TR w g gc g0 L q3 (frC smp) (frC zeroF) wx ∧ Has wx g9 26 #[I (i1 : Int), I (i2 : Int)]) wx := hM
              obtain ⟨x1, x2, x3⟩ := HCI.out wx hM1.1.1
              clear hed H
              go_simp
              exact hk _ hM
            ·simp only [List.getElem?_toArray, List.getElem?_cons_zero, List.getElem?_cons_succ] at ho
             cases ho
             refine .inl ⟨by decide, fun M => stepA rfl (fun li ac wx H hn hed hM K hk => ?_)⟩
             have e0 : ac.tmps[0]?.getD undef = .pointer (some ⟨g, 0, none⟩) := slot_at ((H.frm.slot (by decide)).trans f0)
             clear hed H
             go_simp
             exact hk _ hM
            ·simp only [List.getElem?_toArray, List.getElem?_cons_zero, List.getElem?_cons_succ] at ho
             cases ho
             refine .inl ⟨by decide, fun M => stepA rfl (fun li ac wx H hn hed hM K hk => ?_)⟩
             have e160 : ac.tmps[160]?.getD undef = .pointer (some ⟨g, 0, none⟩) := slot_at (H.known 5 _ rfl (hed ⟨5, .data⟩ (by simp) rfl) 160 rfl)
             clear hed H
             go_simp
             exact hk _ hM
            ·simp only [List.getElem?_toArray, List.getElem?_cons_zero, List.getElem?_cons_succ] at ho
             cases ho
             refine .inl ⟨by decide, fun M => stepA rfl (fun li ac wx H hn hed hM K hk => ?_)⟩
             have e161 : ac.tmps[161]?.getD undef = .pointer (some ⟨g, 0, none⟩) := slot_at (H.known 6 _ rfl (hed ⟨6, .data⟩ (by simp) rfl) 161 rfl)
             clear hed H
             go_simp
             exact hk _ hM
            ·simp only [List.getElem?_toArray, List.getElem?_cons_zero, List.getElem?_cons_succ] at ho
             cases ho
             refine .inr (.inr (.inr ⟨by decide, 1, 13, rfl, by kernel_rfl, fun j hj => ?_⟩))
             have hj2 : j = 0 ∨ j = 1 := by omega
             clear hj
             rcases hj2 with rfl | rfl
             ·refine stepA rfl (fun li ac wx H hn hed hM K hk => ?_)
              have e162 : ac.tmps[162]?.getD undef = .pointer (some ⟨g, 2, none⟩) := slot_at (H.known 7 _ rfl (hed ⟨7, .data⟩ (by simp) rfl) 162 rfl)
              have hM1 : (fun wx => TR w g gc g0 L q3 (frC smp) (frC zeroF) wx ∧ Has wx g9 26 #[I (i1 : Int), I (i2 : Int)]) wx := hM
              obtain ⟨x1, x2, x3⟩ := HCI.out wx hM1.1.1
              clear hed H
              go_simp
              exact hk _ hM
             ·refine stepA rfl (fun li ac wx H hn hed hM K hk => ?_)
              have e162 : ac.tmps[162]?.getD undef = .pointer (some ⟨g, 2, none⟩) := slot_at (H.known 7 _ rfl (hed ⟨7, .data⟩ (by simp) rfl) 162 rfl)
              have hM1 : (fun wx => TR w g gc g0 L q3 (frC smp) (frC zeroF) wx ∧ Has wx g9 26 #[I (i1 : Int), I (i2 : Int)]) wx := hM
              obtain ⟨x1, x2, x3⟩ := HCI.out wx hM1.1.1
              clear hed H
              go_simp
              exact hk _ hM
            ·simp only [List.getElem?_toArray, List.getElem?_cons_zero, List.getElem?_cons_succ] at ho
             cases ho
             refine .inr (.inr (.inr ⟨by decide, 1, 13, rfl, by kernel_rfl, fun j hj => ?_⟩))
             have hj2 : j = 0 ∨ j = 1 := by omega
             clear hj
             rcases hj2 with rfl | rfl
             ·refine stepA rfl (fun li ac wx H hn hed hM K hk => ?_)
              have e9 : ac.tmps[9]?.getD undef = .pointer (some ⟨g9, 0, none⟩) := slot_at ((H.frm.slot (by decide)).trans f9)
              have hM1 : (fun wx => TR w g gc g0 L q3 (frC smp) (frC zeroF) wx ∧ Has wx g9 26 #[I (i1 : Int), I (i2 : Int)]) wx := hM
              have x1 := hM1.2.cellv 0 _ rfl
              have x2 := hM1.2.cellv 1 _ rfl
              clear hed H
              go_simp
              exact hk _ hM
             ·refine stepA rfl (fun li ac wx H hn hed hM K hk => ?_)
              have e9 : ac.tmps[9]?.getD undef = .pointer (some ⟨g9, 0, none⟩) := slot_at ((H.frm.slot (by decide)).trans f9)
              have hM1 : (fun wx => TR w g gc g0 L q3 (frC smp) (frC zeroF) wx ∧ Has wx g9 26 #[I (i1 : Int), I (i2 : Int)]) wx := hM
              have x1 := hM1.2.cellv 0 _ rfl
              have x2 := hM1.2.cellv 1 _ rfl
              clear hed H
              go_simp
              exact hk _ hM
            ·simp only [List.getElem?_toArray, List.getElem?_cons_zero, List.getElem?_cons_succ] at ho
             cases ho
             refine .inl ⟨by decide, fun M => stepA rfl (fun li ac wx H hn hed hM K hk => ?_)⟩
             have e11 : ac.tmps[11]?.getD undef = I (out : Int) := slot_at ((H.frm.slot (by decide)).trans f11)
             clear hed H
             go_simp
             exact hk _ hM
            ·simp only [List.getElem?_toArray, List.getElem?_cons_zero, List.getElem?_cons_succ] at ho
             cases ho
             refine .inl ⟨by decide, fun M => stepA rfl (fun li ac wx H hn hed hM K hk => ?_)⟩
             have e159 : ac.tmps[159]?.getD undef = I (id : Int) := slot_at (H.known 4 _ rfl (hed ⟨4, .data⟩ (by simp) rfl) 159 rfl)
             have e163 : ac.tmps[163]?.getD undef = I (cy : Int) := slot_at (H.known 8 _ rfl (hed ⟨8, .data⟩ (by simp) rfl) 163 rfl)
             have e164 : ac.tmps[164]?.getD undef = .agg #[I (i1 : Int), I (i2 : Int)] := slot_at (H.known 9 _ rfl (hed ⟨9, .data⟩ (by simp) rfl) 164 rfl)
             have e165 : ac.tmps[165]?.getD undef = I (out : Int) := slot_at (H.known 10 _ rfl (hed ⟨10, .data⟩ (by simp) rfl) 165 rfl)
             clear hed H
             go_simp
             exact hk _ hM
            ·simp only [List.getElem?_toArray, List.getElem?_cons_zero, List.getElem?_cons_succ] at ho
             cases ho
             refine .inr (.inr (.inl ⟨0, rfl, stepA rfl (fun li ac wx H hn hed hM K hk => ?_)⟩))
             have e2 : ac.tmps[2]?.getD undef = .pointer (some ⟨g0, 0, none⟩) := slot_at ((H.frm.slot (by decide)).trans f2)
             have e155 : ac.tmps[155]?.getD undef = .agg (frC smp) := slot_at (H.known 0 _ rfl (hed ⟨0, .data⟩ (by simp) rfl) 155 rfl)
             have hM1 : (fun wx => TR w g gc g0 L q3 (frC smp) (frC zeroF) wx ∧ Has wx g9 26 #[I (i1 : Int), I (i2 : Int)]) wx := hM
             clear hed H
             refine wp_store_row 110 (.tmp 2) (.tmp 155) rfl g0 (frC smp) (eval_at e2) (eval_at e155) 110 _ hM1.1.2.2.1 HS1.out rfl (frC_one _) ?_
             exact hk _ ⟨hM1.1.row1 (Nat.le_of_eq HG.out) (frC smp), hM1.2.farRow (hM1.2.ne hM1.1.2.2.1 (by decide)) _⟩
            ·simp only [List.getElem?_toArray, List.getElem?_cons_zero, List.getElem?_cons_succ] at ho
             cases ho
             refine .inr (.inr (.inl ⟨1, rfl, stepA rfl (fun li ac wx H hn hed hM K hk => ?_)⟩))
             have e3 : ac.tmps[3]?.getD undef = .pointer (some ⟨g0 + 1, 0, none⟩) := slot_at ((H.frm.slot (by decide)).trans f3)
             have e166 : ac.tmps[166]?.getD undef = .agg (frC (frm 2 (id : Int) (cy : Int) ((i1 : Int), (i2 : Int), (out : Int)))) := slot_at (H.known 11 _ rfl (hed ⟨11, .data⟩ (by simp) rfl) 166 rfl)
             have hM1 : (fun wx => TR w g gc g0 L q3 (frC smp) (frC zeroF) wx ∧ Has wx g9 26 #[I (i1 : Int), I (i2 : Int)]) wx := hM
             clear hed H
             refine wp_store_row 110 (.tmp 3) (.tmp 166) rfl (g0 + 1) (frC (frm 2 (id : Int) (cy : Int) ((i1 : Int), (i2 : Int), (out : Int)))) (eval_at e3) (eval_at e166) 110 _ hM1.1.2.2.2 HS5.out rfl (frC_one _) ?_
             exact hk _ ⟨hM1.1.row2 (Nat.le_of_eq HG.out) _, hM1.2.farRow (hM1.2.ne hM1.1.2.2.2 (by decide)) _⟩
            ·simp only [List.getElem?_toArray, List.getElem?_cons_zero, List.getElem?_cons_succ] at ho
             cases ho
             refine .inl ⟨by decide, fun M => stepA rfl (fun li ac wx H hn hed hM K hk => ?_)⟩
             clear hed H
             go_simp
             exact hk _ hM
           ·intro ac wx hF hK hM0
            have hM : (fun wx => TR w g gc g0 L q3 (frC smp) (frC (frm 2 (id : Int) (cy : Int) ((i1 : Int), (i2 : Int), (out : Int)))) wx ∧ Has wx g9 26 #[I (i1 : Int), I (i2 : Int)]) wx := hM0
            have E4 := hK 14 _ rfl 4 rfl
            have hMet := hF.meet
            simp only [List.foldl_cons, List.foldl_nil, List.setIfInBounds_toArray, List.set_cons_succ, List.set_cons_zero, E4] at hMet
            refine HK0.out _ _ (Met.intro (hJ0 _ _ ?_))
            (repeat apply Exists.intro)
            exact ⟨⟨rfl, hM⟩, hMet⟩
          case rest =>
           obtain ⟨rfl, hT9⟩ := hcut
           have HT9 := Lib.hid hT9
           clear hT9
           go_wp2_with fail
           refine bodyPost_ret (results_cell2_tmp rfl _ _ g0 (g0 + 1) 110 (frC smp) (frC (frm 2 (id : Int) (cy : Int) ((i1 : Int), (i2 : Int), (out : Int)))) _ rfl rfl HT9.out.1.2.2.1 HT9.out.1.2.2.2 Tryz.underlying110 rfl HS1.out HS5.out) rfl ?_
           unfold TickPost
           rw [HRE.out]
           exact ⟨rfl, HT9.out.1.1, HT9.out.1.2.1⟩
        ·go_upto_region 20 with fail
         clear t1 t2 c91
         go_upto_region 21 with (go_at_call 76; refine HFC.out.mono ?_; rintro e w9 ⟨rfl, hb9⟩)
         have k9 := Has.new w9 26 #[I (i1 : Int), I (i2 : Int)]
         have hba : Below w9.heap.size w9 (w9.alloc (.cells #[I (i1 : Int), I (i2 : Int)] 26)) := (Below.refl _ _).alloc (Nat.le_refl _) _
         have HTA : Hid (TR w g gc g0 L q3 (frC smp) (frC zeroF) (w9.alloc (.cells #[I (i1 : Int), I (i2 : Int)] 26))) := Lib.hid ((HT8.out.after hb9).after hba)
         have K9 := Lib.hid k9
         clear hb9 hba k9 HFC
         generalize w9.alloc (.cells #[I (i1 : Int), I (i2 : Int)] 26) = wa at *
         generalize w9.heap.size = g9 at *
         go_cut [11] (fun s11 wx => s11 = I (out : Int) ∧ Hid (∃ γ, (fun _ => (fun wx => TR w g gc g0 L q3 (frC smp) (frC zeroF) wx ∧ Has wx g9 26 #[I (i1 : Int), I (i2 : Int)])) γ wx))
         case first =>
          rename_i J0 K0 hJ0 hK0
          have HK0 := Lib.hid hK0
          clear hK0
          refine region_alloc g0 (by kernel_rfl) (fun b0 => b0.tmps.getD 0 undef = .pointer (some ⟨g, 0, none⟩) ∧ b0.tmps.getD 9 undef = .pointer (some ⟨g9, 0, none⟩)) ⟨rfl, rfl⟩ 167 rfl (fun γ i => ([.pointer (some ⟨g, 0, none⟩), .pointer (some ⟨g, 0, none⟩), .pointer (some ⟨g, 1, none⟩), .pointer (some ⟨gc, 0, none⟩), .pointer (some ⟨g, 0, none⟩), .pointer (some ⟨g, 0, none⟩), .pointer (some ⟨g, 3, none⟩), .agg (stC st), .agg #[I (i1 : Int), I (i2 : Int)], .tuple #[.agg (stC st2), I (out : Int)], .tuple #[.agg (stC st2), I (out : Int)], .agg (stC st2), I (out : Int), .pointer (some ⟨γ, 0, none⟩), undef, I (out : Int)] : List Value).getD i undef) 13 100 #[I 0, I 0, I 0, I 0, I 0, I 0, I 0, I 0, I 0, I 0, I 0, I 0, I 0, I 0, I 0, I 0, I 0] [14] (by kernel_rfl) (by decide) (by kernel_rfl) ?_ (fun wx => TR w g gc g0 L q3 (frC smp) (frC zeroF) wx ∧ Has wx g9 26 #[I (i1 : Int), I (i2 : Int)]) (fun j γ => ([fun _ => True, (fun _ => (fun wx => TR w g gc g0 L q3 (frC smp) (frC zeroF) wx ∧ Has wx g9 26 #[I (i1 : Int), I (i2 : Int)])) γ] : List (World → Prop)).getD j (fun _ => True)) [143, 144, 145, 146, 147, 148, 149, 150, 151, 152, 142, 153, 154, 10, 11] (by kernel_rfl) (by kernel_rfl) ⟨HTA.out.drew, K9.out.drew⟩ ?_ ?_
          ·intro γ γ' j hj
           by_cases hjm : j < 16
           ·have hcase : j = 0 ∨ j = 1 ∨ j = 2 ∨ j = 3 ∨ j = 4 ∨ j = 5 ∨ j = 6 ∨ j = 7 ∨ j = 8 ∨ j = 9 ∨ j = 10 ∨ j = 11 ∨ j = 12 ∨ j = 13 ∨ j = 14 ∨ j = 15 := by omega
            rcases hcase with rfl | rfl | rfl | rfl | rfl | rfl | rfl | rfl | rfl | rfl | rfl | rfl | rfl | rfl | rfl | rfl <;> first | rfl | exact absurd rfl hj
           ·rw [List.getD_eq_getElem?_getD, List.getD_eq_getElem?_getD, List.getElem?_eq_none (by simp; omega), List.getElem?_eq_none (by simp; omega)]
          ·intro b0 hb0 i o ho
           have hi : i < 16 := (Array.getElem?_eq_some_iff.1 ho).1
           obtain ⟨f0, f9⟩ := hb0
           have hcase : i = 0 ∨ i = 1 ∨ i = 2 ∨ i = 3 ∨ i = 4 ∨ i = 5 ∨ i = 6 ∨ i = 7 ∨ i = 8 ∨ i = 9 ∨ i = 10 ∨ i = 11 ∨ i = 12 ∨ i = 13 ∨ i = 14 ∨ i = 15 := by omega
           clear hi
           rcases hcase with rfl | rfl | rfl | rfl | rfl | rfl | rfl | rfl | rfl | rfl | rfl | rfl | rfl | rfl | rfl | rfl
           ·simp only [List.getElem?_toArray, List.getElem?_cons_zero] at ho
            cases ho
            refine .inl ⟨by decide, by decide, fun γ M => stepA rfl (fun li ac wx H hn hed hM K hk => ?_)⟩
            have e0 : ac.tmps[0]?.getD undef = .pointer (some ⟨g, 0, none⟩) := slot_at ((H.frm.slot (by decide)).trans f0)
            clear hed H
            go_simp
            exact hk _ hM
           ·simp only [List.getElem?_toArray, List.getElem?_cons_zero, List.getElem?_cons_succ] at ho
            cases ho
            refine .inl ⟨by decide, by decide, fun γ M => stepA rfl (fun li ac wx H hn hed hM K hk => ?_)⟩
            have e143 : ac.tmps[143]?.getD undef = .pointer (some ⟨g, 0, none⟩) := slot_at (H.known 0 _ rfl (hed ⟨0, .data⟩ (by simp) rfl) 143 rfl)
            clear hed H
            go_simp
            exact hk _ hM
           ·simp only [List.getElem?_toArray, List.getElem?_cons_zero, List.getElem?_cons_succ] at ho
            cases ho
            refine .inl ⟨by decide, by decide, fun γ M => stepA rfl (fun li ac wx H hn hed hM K hk => ?_)⟩
            have e144 : ac.tmps[144]?.getD undef = .pointer (some ⟨g, 0, none⟩) := slot_at (H.known 1 _ rfl (hed ⟨1, .data⟩ (by simp) rfl) 144 rfl)
            clear hed H
            go_simp
            exact hk _ hM
           ·simp only [List.getElem?_toArray, List.getElem?_cons_zero, List.getElem?_cons_succ] at ho
            cases ho
            refine .inr (.inl ⟨by decide, by decide, by kernel_rfl, fun γ w0 => stepA rfl (fun li ac wx H hn hed hM K hk => ?_)⟩)
            have e145 : ac.tmps[145]?.getD undef = .pointer (some ⟨g, 1, none⟩) := slot_at (H.known 2 _ rfl (hed ⟨2, .data⟩ (by simp) rfl) 145 rfl)
            obtain ⟨hM1, rfl⟩ := hM
            have hM1 : (fun wx => TR w g gc g0 L q3 (frC smp) (frC zeroF) wx ∧ Has wx g9 26 #[I (i1 : Int), I (i2 : Int)]) w0 := hM1
            obtain ⟨x1, x2, x3⟩ := HCI.out w0 hM1.1.1
            clear hed H
            go_simp
            exact hk _ ⟨hM1, Below.refl _ _⟩
           ·simp only [List.getElem?_toArray, List.getElem?_cons_zero, List.getElem?_cons_succ] at ho
            cases ho
            refine .inl ⟨by decide, by decide, fun γ M => stepA rfl (fun li ac wx H hn hed hM K hk => ?_)⟩
            have e0 : ac.tmps[0]?.getD undef = .pointer (some ⟨g, 0, none⟩) := slot_at ((H.frm.slot (by decide)).trans f0)
            clear hed H
            go_simp
            exact hk _ hM
           ·simp only [List.getElem?_toArray, List.getElem?_cons_zero, List.getElem?_cons_succ] at ho
            cases ho
            refine .inl ⟨by decide, by decide, fun γ M => stepA rfl (fun li ac wx H hn hed hM K hk => ?_)⟩
            have e147 : ac.tmps[147]?.getD undef = .pointer (some ⟨g, 0, none⟩) := slot_at (H.known 4 _ rfl (hed ⟨4, .data⟩ (by simp) rfl) 147 rfl)
            clear hed H
            go_simp
            exact hk _ hM
           ·simp only [List.getElem?_toArray, List.getElem?_cons_zero, List.getElem?_cons_succ] at ho
            cases ho
            refine .inl ⟨by decide, by decide, fun γ M => stepA rfl (fun li ac wx H hn hed hM K hk => ?_)⟩
            have e148 : ac.tmps[148]?.getD undef = .pointer (some ⟨g, 0, none⟩) := slot_at (H.known 5 _ rfl (hed ⟨5, .data⟩ (by simp) rfl) 148 rfl)
            clear hed H
            go_simp
            exact hk _ hM
           ·simp only [List.getElem?_toArray, List.getElem?_cons_zero, List.getElem?_cons_succ] at ho
            cases ho
            refine .inr (.inl ⟨by decide, by decide, by kernel_rfl, fun γ w0 => stepA rfl (fun li ac wx H hn hed hM K hk => ?_)⟩)
            have e149 : ac.tmps[149]?.getD undef = .pointer (some ⟨g, 3, none⟩) := slot_at (H.known 6 _ rfl (hed ⟨6, .data⟩ (by simp) rfl) 149 rfl)
            obtain ⟨hM1, rfl⟩ := hM
            have hM1 : (fun wx => TR w g gc g0 L q3 (frC smp) (frC zeroF) wx ∧ Has wx g9 26 #[I (i1 : Int), I (i2 : Int)]) w0 := hM1
            clear hed H
            refine wp_load_mid 100 (.tmp 149) rfl g 3 (eval_at e149) (stL st) _ (HSR.out _ hM1.1.1) Tryz.underlying100 rfl HI1.out ?_
            exact hk _ ⟨hM1, Below.refl _ _⟩
           ·simp only [List.getElem?_toArray, List.getElem?_cons_zero, List.getElem?_cons_succ] at ho
            cases ho
            refine .inr (.inl ⟨by decide, by decide, by kernel_rfl, fun γ w0 => stepA rfl (fun li ac wx H hn hed hM K hk => ?_)⟩)
            have e9 : ac.tmps[9]?.getD undef = .pointer (some ⟨g9, 0, none⟩) := slot_at ((H.frm.slot (by decide)).trans f9)
            obtain ⟨hM1, rfl⟩ := hM
            have hM1 : (fun wx => TR w g gc g0 L q3 (frC smp) (frC zeroF) wx ∧ Has wx g9 26 #[I (i1 : Int), I (i2 : Int)]) w0 := hM1
            have x1 := hM1.2.cellv 0 _ rfl
            have x2 := hM1.2.cellv 1 _ rfl
            clear hed H
            go_simp
            exact hk _ ⟨hM1, Below.refl _ _⟩
           ·simp only [List.getElem?_toArray, List.getElem?_cons_zero, List.getElem?_cons_succ] at ho
            cases ho
            refine .inr (.inl ⟨by decide, by decide, by kernel_rfl, fun γ w0 => stepA rfl (fun li ac wx H hn hed hM K hk => ?_)⟩)
            have e146 : ac.tmps[146]?.getD undef = .pointer (some ⟨gc, 0, none⟩) := slot_at (H.known 3 _ rfl (hed ⟨3, .data⟩ (by simp) rfl) 146 rfl)
            have e150 : ac.tmps[150]?.getD undef = .agg (stC st) := slot_at (H.known 7 _ rfl (hed ⟨7, .data⟩ (by simp) rfl) 150 rfl)
            have e151 : ac.tmps[151]?.getD undef = .agg #[I (i1 : Int), I (i2 : Int)] := slot_at (H.known 8 _ rfl (hed ⟨8, .data⟩ (by simp) rfl) 151 rfl)
            obtain ⟨hM1, rfl⟩ := hM
            have hM1 : (fun wx => TR w g gc g0 L q3 (frC smp) (frC zeroF) wx ∧ Has wx g9 26 #[I (i1 : Int), I (i2 : Int)]) w0 := hM1
            clear hed H
            go_simp
            refine (HSTP.out _ hM1.1.1.core).mono ?_
            rintro e w' ⟨rfl, hb⟩
            exact hk _ ⟨⟨hM1.1.after hb, hM1.2.after hb⟩, hb⟩
           ·simp only [List.getElem?_toArray, List.getElem?_cons_zero, List.getElem?_cons_succ] at ho
            cases ho
            refine .inl ⟨by decide, by decide, fun γ M => stepA rfl (fun li ac wx H hn hed hM K hk => ?_)⟩
            have e152 : ac.tmps[152]?.getD undef = .tuple #[.agg (stC st2), I (out : Int)] := slot_at (H.known 9 _ rfl (hed ⟨9, .data⟩ (by simp) rfl) 152 rfl)
            clear hed H
            go_simp
            exact hk _ hM
           ·simp only [List.getElem?_toArray, List.getElem?_cons_zero, List.getElem?_cons_succ] at ho
            cases ho
            refine .inl ⟨by decide, by decide, fun γ M => stepA rfl (fun li ac wx H hn hed hM K hk => ?_)⟩
            have e142 : ac.tmps[142]?.getD undef = .tuple #[.agg (stC st2), I (out : Int)] := slot_at (H.known 10 _ rfl (hed ⟨10, .data⟩ (by simp) rfl) 142 rfl)
            clear hed H
            go_simp
            exact hk _ hM
           ·simp only [List.getElem?_toArray, List.getElem?_cons_zero, List.getElem?_cons_succ] at ho
            cases ho
            refine .inl ⟨by decide, by decide, fun γ M => stepA rfl (fun li ac wx H hn hed hM K hk => ?_)⟩
            have e142 : ac.tmps[142]?.getD undef = .tuple #[.agg (stC st2), I (out : Int)] := slot_at (H.known 10 _ rfl (hed ⟨10, .data⟩ (by simp) rfl) 142 rfl)
            clear hed H
            go_simp
            exact hk _ hM
           ·simp only [List.getElem?_toArray, List.getElem?_cons_zero, List.getElem?_cons_succ] at ho
            cases ho
            refine .inr (.inr (.inl ⟨by decide, rfl, rfl, fun _ => rfl, fun wx hM1 => ?_, fun ac wx K hk => ?_⟩))
            ·exact ⟨⟨TR.after hM1.1 ((Below.refl _ _).alloc (Nat.le_refl _) _), hM1.2.alloc _⟩, Nat.le_of_lt hM1.1.2.2.1.lt⟩
            ·go_simp
             exact hk
           ·simp only [List.getElem?_toArray, List.getElem?_cons_zero, List.getElem?_cons_succ] at ho
            cases ho
            refine .inr (.inr (.inr ⟨0, rfl, by decide, fun γ => stepA rfl (fun li ac wx H hn hed hM K hk => ?_)⟩))
            have e10 : ac.tmps[10]?.getD undef = .pointer (some ⟨γ, 0, none⟩) := slot_at (H.known 13 _ rfl (hed ⟨13, .data⟩ (by simp) rfl) 10 rfl)
            have e153 : ac.tmps[153]?.getD undef = .agg (stC st2) := slot_at (H.known 11 _ rfl (hed ⟨11, .data⟩ (by simp) rfl) 153 rfl)
            have hM1 : (fun wx => TR w g gc g0 L q3 (frC smp) (frC zeroF) wx ∧ Has wx g9 26 #[I (i1 : Int), I (i2 : Int)]) wx ∧ Has wx γ 100 #[I 0, I 0, I 0, I 0, I 0, I 0, I 0, I 0, I 0, I 0, I 0, I 0, I 0, I 0, I 0, I 0, I 0] ∧ g0 ≤ γ := hM
            clear hed H
            refine wp_store_row 100 (.tmp 10) (.tmp 153) rfl γ (stC st2) (eval_at e10) (eval_at e153) 100 _ hM1.2.1 HI2.out HI3.out HI4.out ?_
            exact hk _ ⟨hM1.1.1.far hM1.2.1 (by rw [HG.out]; exact hM1.2.2) (by decide) (by decide) (by decide) (by decide) _, hM1.1.2.farRow (hM1.1.2.ne hM1.2.1 (by decide)) _⟩
           ·simp only [List.getElem?_toArray, List.getElem?_cons_zero, List.getElem?_cons_succ] at ho
            cases ho
            refine .inl ⟨by decide, by decide, fun γ M => stepA rfl (fun li ac wx H hn hed hM K hk => ?_)⟩
            have e154 : ac.tmps[154]?.getD undef = I (out : Int) := slot_at (H.known 12 _ rfl (hed ⟨12, .data⟩ (by simp) rfl) 154 rfl)
            clear hed H
            go_simp
            exact hk _ hM
          ·intro γ ac wx hF hK hM0
           have hM : (fun _ => (fun wx => TR w g gc g0 L q3 (frC smp) (frC zeroF) wx ∧ Has wx g9 26 #[I (i1 : Int), I (i2 : Int)])) γ wx := hM0
           have E11 := hK 15 _ rfl 11 rfl
           have hMet := hF.meet
           simp only [List.foldl_cons, List.foldl_nil, List.setIfInBounds_toArray, List.set_cons_succ, List.set_cons_zero, E11] at hMet
           refine HK0.out _ _ (Met.intro (hJ0 _ _ ?_))
           (repeat apply Exists.intro)
           exact ⟨⟨rfl, Lib.hid ⟨γ, hM⟩⟩, hMet⟩
         case rest =>
          obtain ⟨rfl, HQ21⟩ := hcut
          have HTB : Hid ((fun wx => TR w g gc g0 L q3 (frC smp) (frC zeroF) wx ∧ Has wx g9 26 #[I (i1 : Int), I (i2 : Int)]) wc) := Lib.hid (by obtain ⟨γ, h⟩ := HQ21.out; exact h)
          have HS5 : Hid ((Tryz.prog.info? 110).map (·.size) = some (frC (frm 2 (id : Int) (cy : Int) ((i1 : Int), (i2 : Int), (out : Int)))).size) := Lib.hid infoFrame
          clear HQ21 HTA K9
          go_upto_region 22 with fail
          go_cut [4] (fun s4 wx => s4 = .bool true ∧ (fun wx => TR w g gc g0 L q3 (frC smp) (frC (frm 2 (id : Int) (cy : Int) ((i1 : Int), (i2 : Int), (out : Int)))) wx ∧ Has wx g9 26 #[I (i1 : Int), I (i2 : Int)]) wx)
          case first =>
           rename_i J0 K0 hJ0 hK0
           have HK0 := Lib.hid hK0
           clear hK0
           refine region_all (by kernel_rfl) (fun b0 => b0.tmps.getD 0 undef = .pointer (some ⟨g, 0, none⟩) ∧ b0.tmps.getD 2 undef = .pointer (some ⟨g0, 0, none⟩) ∧ b0.tmps.getD 3 undef = .pointer (some ⟨g0 + 1, 0, none⟩) ∧ b0.tmps.getD 9 undef = .pointer (some ⟨g9, 0, none⟩) ∧ b0.tmps.getD 11 undef = I (out : Int)) ⟨rfl, rfl, rfl, rfl, rfl⟩ 167 rfl (fun i => ([.agg (frC smp), .pointer (some ⟨g, 0, none⟩), .pointer (some ⟨g, 0, none⟩), .pointer (some ⟨g, 0, none⟩), I (id : Int), .pointer (some ⟨g, 0, none⟩), .pointer (some ⟨g, 0, none⟩), .pointer (some ⟨g, 2, none⟩), I (cy : Int), .agg #[I (i1 : Int), I (i2 : Int)], I (out : Int), .agg (frC (frm 2 (id : Int) (cy : Int) ((i1 : Int), (i2 : Int), (out : Int)))), undef, undef, .bool true] : List Value).getD i undef) [12, 13] (by kernel_rfl) (fun j => ([(fun wx => TR w g gc g0 L q3 (frC smp) (frC zeroF) wx ∧ Has wx g9 26 #[I (i1 : Int), I (i2 : Int)]), (fun wx => TR w g gc g0 L q3 (frC smp) (frC zeroF) wx ∧ Has wx g9 26 #[I (i1 : Int), I (i2 : Int)]), (fun wx => TR w g gc g0 L q3 (frC smp) (frC (frm 2 (id : Int) (cy : Int) ((i1 : Int), (i2 : Int), (out : Int)))) wx ∧ Has wx g9 26 #[I (i1 : Int), I (i2 : Int)])] : List (World → Prop)).getD j (fun _ => True)) [155, 156, 157, 158, 159, 160, 161, 162, 163, 164, 165, 166, 4] (by kernel_rfl) (by kernel_rfl) ⟨HTB.out.1.drew, HTB.out.2.drew⟩ ?_ ?_
           ·intro b0 hb0 i o ho
            have hi : i < 15 := (Array.getElem?_eq_some_iff.1 ho).1
            obtain ⟨f0, f2, f3, f9, f11⟩ := hb0
            have hcase : i = 0 ∨ i = 1 ∨ i = 2 ∨ i = 3 ∨ i = 4 ∨ i = 5 ∨ i = 6 ∨ i = 7 ∨ i = 8 ∨ i = 9 ∨ i = 10 ∨ i = 11 ∨ i = 12 ∨ i = 13 ∨ i = 14 := by omega
            clear hi
            rcases hcase with rfl | rfl | rfl | rfl | rfl | rfl | rfl | rfl | rfl | rfl | rfl | rfl | rfl | rfl | rfl
            ·simp only [List.getElem?_toArray, List.getElem?_cons_zero] at ho
             cases ho
             refine .inr (.inl ⟨by decide, by kernel_rfl, stepA rfl (fun li ac wx H hn hed hM K hk => ?_)⟩)
             have e2 : ac.tmps[2]?.getD undef = .pointer (some ⟨g0, 0, none⟩) := slot_at ((H.frm.slot (by decide)).trans f2)
             have hM1 : (fun wx => TR w g gc g0 L q3 (frC smp) (frC zeroF) wx ∧ Has wx g9 26 #[I (i1 : Int), I (i2 : Int)]) wx := hM
             clear hed H
             refine wp_load_row 110 (.tmp 2) rfl g0 (eval_at e2) 110 (frC smp) (0, 0) _ hM1.1.2.2.1 Tryz.underlying110 rfl HS1.out ?_
             exact hk _ hM
            ·simp only [List.getElem?_toArray, List.getElem?_cons_zero, List.getElem?_cons_succ] at ho
             cases ho
             refine .inl ⟨by decide, fun M => stepA rfl (fun li ac wx H hn hed hM K hk => ?_)⟩
             have e0 : ac.tmps[0]?.getD undef = .pointer (some ⟨g, 0, none⟩) := slot_at ((H.frm.slot (by decide)).trans f0)
             clear hed H
             go_simp
             exact hk _ hM
            ·simp only [List.getElem?_toArray, List.getElem?_cons_zero, List.getElem?_cons_succ] at ho
             cases ho
             refine .inl ⟨by decide, fun M => stepA rfl (fun li ac wx H hn hed hM K hk => ?_)⟩
             have e156 : ac.tmps[156]?.getD undef = .pointer (some ⟨g, 0, none⟩) := slot_at (H.known 1 _ rfl (hed ⟨1, .data⟩ (by simp) rfl) 156 rfl)
             clear hed H
             go_simp
             exact hk _ hM
            ·simp only [List.getElem?_toArray, List.getElem?_cons_zero, List.getElem?_cons_succ] at ho
             cases ho
             refine .inl ⟨by decide, fun M => stepA rfl (fun li ac wx H hn hed hM K hk => ?_)⟩
             have e157 : ac.tmps[157]?.getD undef = .pointer (some ⟨g, 0, none⟩) := slot_at (H.known 2 _ rfl (hed ⟨2, .data⟩ (by simp) rfl) 157 rfl)
             clear hed H
             go_simp
             exact hk _ hM
            ·simp only [List.getElem?_toArray, List.getElem?_cons_zero, List.getElem?_cons_succ] at ho
             cases ho
             refine .inr (.inr (.inr ⟨by decide, 1, 13, rfl, by kernel_rfl, fun j hj => ?_⟩))
             have hj2 : j = 0 ∨ j = 1 := by omega
             clear hj
             rcases hj2 with rfl | rfl
             ·refine stepA rfl (fun li ac wx H hn hed hM K hk => ?_)
              have e158 : ac.tmps[158]?.getD undef = .pointer (some ⟨g, 0, none⟩) := slot_at (H.known 3 _ rfl (hed ⟨3, .data⟩ (by simp) rfl) 158 rfl)
              have hM1 : (fun wx => TR w g gc g0 L q3 (frC smp) (frC zeroF) wx ∧ Has wx g9 26 #[I (i1 : Int), I (i2 : Int)]) wx := hM
              obtain ⟨x1, x2, x3⟩ := HCI.out wx hM1.1.1
              clear hed H
              go_simp
              exact hk _ hM
             ·refine stepA rfl (fun li ac wx H hn hed hM K hk => ?_)
              have e158 : ac.tmps[158]?.getD undef = .pointer (some ⟨g, 0, none⟩) := slot_at (H.known 3 _ rfl (hed ⟨3, .data⟩ (by simp) rfl) 158 rfl)
              have hM1 : (fun wx => TR w g gc g0 L q3 (frC smp) (frC zeroF) wx ∧ Has wx g9 26 #[I (i1 : Int), I (i2 : Int)]) wx := hM
              obtain ⟨x1, x2, x3⟩ := HCI.out wx hM1.1.1
              clear hed H
              go_simp
              exact hk _ hM
            ·simp only [List.getElem?_toArray, List.getElem?_cons_zero, List.getElem?_cons_succ] at ho
             cases ho
             refine .inl ⟨by decide, fun M => stepA rfl (fun li ac wx H hn hed hM K hk => ?_)⟩
             have e0 : ac.tmps[0]?.getD undef = .pointer (some ⟨g, 0, none⟩) := slot_at ((H.frm.slot (by decide)).trans f0)
             clear hed H
             go_simp
             exact hk _ hM
            ·simp only [List.getElem?_toArray, List.getElem?_cons_zero, List.getElem?_cons_succ] at ho
             cases ho
             refine .inl ⟨by decide, fun M => stepA rfl (fun li ac wx H hn hed hM K hk => ?_)⟩
             have e160 : ac.tmps[160]?.getD undef = .pointer (some ⟨g, 0, none⟩) := slot_at (H.known 5 _ rfl (hed ⟨5, .data⟩ (by simp) rfl) 160 rfl)
             clear hed H
             go_simp
             exact hk _ hM
            ·simp only [List.getElem?_toArray, List.getElem?_cons_zero, List.getElem?_cons_succ] at ho
             cases ho
             refine .inl ⟨by decide, fun M => stepA rfl (fun li ac wx H hn hed hM K hk => ?_)⟩
             have e161 : ac.tmps[161]?.getD undef = .pointer (some ⟨g, 0, none⟩) := slot_at (H.known 6 _ rfl (hed ⟨6, .data⟩ (by simp) rfl) 161 rfl)
             clear hed H
             go_simp
             exact hk _ hM
            ·simp only [List.getElem?_toArray, List.getElem?_cons_zero, List.getElem?_cons_succ] at ho
             cases ho
             refine .inr (.inr (.inr ⟨by decide, 1, 13, rfl, by kernel_rfl, fun j hj => ?_⟩))
             have hj2 : j = 0 ∨ j = 1 := by omega
             clear hj
             rcases hj2 with rfl | rfl
             ·refine stepA rfl (fun li ac wx H hn hed hM K hk => ?_)
              have e162 : ac.tmps[162]?.getD undef = .pointer (some ⟨g, 2, none⟩) := slot_at (H.known 7 _ rfl (hed ⟨7, .data⟩ (by simp) rfl) 162 rfl)
              have hM1 : (fun wx => TR w g gc g0 L q3 (frC smp) (frC zeroF) wx ∧ Has wx g9 26 #[I (i1 : Int), I (i2 : Int)]) wx := hM
              obtain ⟨x1, x2, x3⟩ := HCI.out wx hM1.1.1
              clear hed H
              go_simp
              exact hk _ hM
             ·refine stepA rfl (fun li ac wx H hn hed hM K hk => ?_)
              have e162 : ac.tmps[162]?.getD undef = .pointer (some ⟨g, 2, none⟩) := slot_at (H.known 7 _ rfl (hed ⟨7, .data⟩ (by simp) rfl) 162 rfl)
              have hM1 : (fun wx => TR w g gc g0 L q3 (frC smp) (frC zeroF) wx ∧ Has wx g9 26 #[I (i1 : Int), I (i2 : Int)]) wx := hM
              obtain ⟨x1, x2, x3⟩ := HCI.out wx hM1.1.1
              clear hed H
              go_simp
              exact hk _ hM
            ·simp only [List.getElem?_toArray, List.getElem?_cons_zero, List.getElem?_cons_succ] at ho
             cases ho
             refine .inr (.inr (.inr ⟨by decide, 1, 13, rfl, by kernel_rfl, fun j hj => ?_⟩))
             have hj2 : j = 0 ∨ j = 1 := by omega
             clear hj
             rcases hj2 with rfl | rfl
             ·refine stepA rfl (fun li ac wx H hn hed hM K hk => ?_)
              have e9 : ac.tmps[9]?.getD undef = .pointer (some ⟨g9, 0, none⟩) := slot_at ((H.frm.slot (by decide)).trans f9)
              have hM1 : (fun wx => TR w g gc g0 L q3 (frC smp) (frC zeroF) wx ∧ Has wx g9 26 #[I (i1 : Int), I (i2 : Int)]) wx := hM
              have x1 := hM1.2.cellv 0 _ rfl
              have x2 := hM1.2.cellv 1 _ rfl
              clear hed H
              go_simp
              exact hk _ hM
             ·refine stepA rfl (fun li ac wx H hn hed hM K hk => ?_)
              have e9 : ac.tmps[9]?.getD undef = .pointer (some ⟨g9, 0, none⟩) := slot_at ((H.frm.slot (by decide)).trans f9)
              have hM1 : (fun wx => TR w g gc g0 L q3 (frC smp) (frC zeroF) wx ∧ Has wx g9 26 #[I (i1 : Int), I (i2 : Int)]) wx := hM
              have x1 := hM1.2.cellv 0 _ rfl
              have x2 := hM1.2.cellv 1 _ rfl
              clear hed H
              go_simp
              exact hk _ hM
            ·simp only [List.getElem?_toArray, List.getElem?_cons_zero, List.getElem?_cons_succ] at ho
             cases ho
             refine .inl ⟨by decide, fun M => stepA rfl (fun li ac wx H hn hed hM K hk => ?_)⟩
             have e11 : ac.tmps[11]?.getD undef = I (out : Int) := slot_at ((H.frm.slot (by decide)).trans f11)
             clear hed H
             go_simp
             exact hk _ hM
            ·simp only [List.getElem?_toArray, List.getElem?_cons_zero, List.getElem?_cons_succ] at ho
             cases ho
             refine .inl ⟨by decide, fun M => stepA rfl (fun li ac wx H hn hed hM K hk => ?_)⟩
             have e159 : ac.tmps[159]?.getD undef = I (id : Int) := slot_at (H.known 4 _ rfl (hed ⟨4, .data⟩ (by simp) rfl) 159 rfl)
             have e163 : ac.tmps[163]?.getD undef = I (cy : Int) := slot_at (H.known 8 _ rfl (hed ⟨8, .data⟩ (by simp) rfl) 163 rfl)
             have e164 : ac.tmps[164]?.getD undef = .agg #[I (i1 : Int), I (i2 : Int)] := slot_at (H.known 9 _ rfl (hed ⟨9, .data⟩ (by simp) rfl) 164 rfl)
             have e165 : ac.tmps[165]?.getD undef = I (out : Int) := slot_at (H.known 10 _ rfl (hed ⟨10, .data⟩ (by simp) rfl) 165 rfl)
             clear hed H
             go_simp
             exact hk _ hM
            ·simp only [List.getElem?_toArray, List.getElem?_cons_zero, List.getElem?_cons_succ] at ho
             cases ho
             refine .inr (.inr (.inl ⟨0, rfl, stepA rfl (fun li ac wx H hn hed hM K hk => ?_)⟩))
             have e2 : ac.tmps[2]?.getD undef = .pointer (some ⟨g0, 0, none⟩) := slot_at ((H.frm.slot (by decide)).trans f2)
             have e155 : ac.tmps[155]?.getD undef = .agg (frC smp) := slot_at (H.known 0 _ rfl (hed ⟨0, .data⟩ (by simp) rfl) 155 rfl)
             have hM1 : (fun wx => TR w g gc g0 L q3 (frC smp) (frC zeroF) wx ∧ Has wx g9 26 #[I (i1 : Int), I (i2 : Int)]) wx := hM
             clear hed H
             refine wp_store_row 110 (.tmp 2) (.tmp 155) rfl g0 (frC smp) (eval_at e2) (eval_at e155) 110 _ hM1.1.2.2.1 HS1.out rfl (frC_one _) ?_
             exact hk _ ⟨hM1.1.row1 (Nat.le_of_eq HG.out) (frC smp), hM1.2.farRow (hM1.2.ne hM1.1.2.2.1 (by decide)) _⟩
            ·simp only [List.getElem?_toArray, List.getElem?_cons_zero, List.getElem?_cons_succ] at ho
             cases ho
             refine .inr (.inr (.inl ⟨1, rfl, stepA rfl (fun li ac wx H hn hed hM K hk => ?_)⟩))
             have e3 : ac.tmps[3]?.getD undef = .pointer (some ⟨g0 + 1, 0, none⟩) := slot_at ((H.frm.slot (by decide)).trans f3)
             have e166 : ac.tmps[166]?.getD undef = .agg (frC (frm 2 (id : Int) (cy : Int) ((i1 : Int), (i2 : Int), (out : Int)))) := slot_at (H.known 11 _ rfl (hed ⟨11, .data⟩ (by simp) rfl) 166 rfl)
             have hM1 : (fun wx => TR w g gc g0 L q3 (frC smp) (frC zeroF) wx ∧ Has wx g9 26 #[I (i1 : Int), I (i2 : Int)]) wx := hM
             clear hed H
             refine wp_store_row 110 (.tmp 3) (.tmp 166) rfl (g0 + 1) (frC (frm 2 (id : Int) (cy : Int) ((i1 : Int), (i2 : Int), (out : Int)))) (eval_at e3) (eval_at e166) 110 _ hM1.1.2.2.2 HS5.out rfl (frC_one _) ?_
             exact hk _ ⟨hM1.1.row2 (Nat.le_of_eq HG.out) _, hM1.2.farRow (hM1.2.ne hM1.1.2.2.2 (by decide)) _⟩
            ·simp only [List.getElem?_toArray, List.getElem?_cons_zero, List.getElem?_cons_succ] at ho
             cases ho
             refine .inl ⟨by decide, fun M => stepA rfl (fun li ac wx H hn hed hM K hk => ?_)⟩
             clear hed H
             go_simp
             exact hk _ hM
           ·intro ac wx hF hK hM0
            have hM : (fun wx => TR w g gc g0 L q3 (frC smp) (frC (frm 2 (id : Int) (cy : Int) ((i1 : Int), (i2 : Int), (out : Int)))) wx ∧ Has wx g9 26 #[I (i1 : Int), I (i2 : Int)]) wx := hM0
            have E4 := hK 14 _ rfl 4 rfl
            have hMet := hF.meet
            simp only [List.foldl_cons, List.foldl_nil, List.setIfInBounds_toArray, List.set_cons_succ, List.set_cons_zero, E4] at hMet
            refine HK0.out _ _ (Met.intro (hJ0 _ _ ?_))
            (repeat apply Exists.intro)
            exact ⟨⟨rfl, hM⟩, hMet⟩
          case rest =>
           obtain ⟨rfl, hT9⟩ := hcut
           have HT9 := Lib.hid hT9
           clear hT9
           go_wp2_with fail
           refine bodyPost_ret (results_cell2_tmp rfl _ _ g0 (g0 + 1) 110 (frC smp) (frC (frm 2 (id : Int) (cy : Int) ((i1 : Int), (i2 : Int), (out : Int)))) _ rfl rfl HT9.out.1.2.2.1 HT9.out.1.2.2.2 Tryz.underlying110 rfl HS1.out HS5.out) rfl ?_
           unfold TickPost
           rw [HRE.out]
           exact ⟨rfl, HT9.out.1.1, HT9.out.1.2.1⟩
end
end Go.Proofs.YtdhekhlmdefcnabGreatDoor
