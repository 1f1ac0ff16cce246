/- Part 29 of the proof: SyWay, ReNew, SyWay2. -/
import Derived.Test.YtdhekhlmdefcnabGreatDoorPart28
import Derived.Test.YtdhekhlmdefcnabGreatDoorPart20
namespace Go.Proofs.YtdhekhlmdefcnabGreatDoor
open Go.RowKit
section
variable {w0 w w1 : World} {B : Nat} {x : SyX} {L : Lay} {s : Sys} {T : Nat}
theorem wayL_one : ∀ (l : List Gram) (vs : List Value), (∀ v ∈ vs, v.oneCell' = true) → ∀ u ∈ wayL l vs, u.oneCell' = true
 | [], _, _, u, hu => by simp [wayL] at hu
 | _ :: _, [], _, u, hu => by simp [wayL] at hu
 | g :: l, v :: vs, h, u, hu => by
  rcases List.mem_cons.1 hu with rfl | hu
  ·rfl
  rcases List.mem_cons.1 hu with rfl | hu
  ·rfl
  rcases List.mem_cons.1 hu with rfl | hu
  ·exact h _ (List.mem_cons_self ..)
  ·exact wayL_one l vs (fun v hv => h v (List.mem_cons_of_mem _ hv)) u hu
theorem SyAt.ones (h : SyAt w B x L s) : ∀ u ∈ wayL s.way x.vs, u.oneCell' = true := wayL_one _ _ fun v hv => by
 obtain ⟨i, hi, e⟩ := List.getElem_of_mem hv
 have hi2 : i < s.way.length := by rw [← h.len]; exact hi
 obtain ⟨A, c, hvv, _⟩ := h.bytes i s.way[i] v (List.getElem?_eq_getElem hi2) (by rw [List.getElem?_eq_getElem hi, e])
 rw [hvv]; rfl
theorem wayL_erase (l : List Gram) (vs : List Value) (i : Nat) (h : vs.length = l.length) : (wayL l vs).take (i * 3) ++ (wayL l vs).drop ((i + 1) * 3) = wayL (l.eraseIdx i) (vs.eraseIdx i) := by
 rw [wayL_take _ _ _ h, wayL_drop _ _ _ h, ← wayL_two _ _ _ _ (by rw [List.length_take, List.length_take, h]), List.eraseIdx_eq_take_drop_succ, List.eraseIdx_eq_take_drop_succ]
theorem SyAt.erase (h : SyAt w B x L s) {i : Nat} (hi : i < s.way.length) {v' : Value} (hb : v'.ownBlock = x.vw.ownBlock)
  (ho : w1.ownsRow B 132 3 v' (s.way.length - 1) ((wayL s.way x.vs).take (i * 3) ++ (wayL s.way x.vs).drop ((i + 1) * 3))) (ht : Turned (fun b => x.vw.ownBlock = some b) w w1) :
  SyAt (w1.setCell ⟨x.g, 7, none⟩ v') B { x with vw := v', vs := x.vs.eraseIdx i } L { s with way := s.way.eraseIdx i } ∧ Moved w (w1.setCell ⟨x.g, 7, none⟩ v') x { x with vw := v', vs := x.vs.eraseIdx i } := by
 have hx1 : Has w1 x.g 68 (syC x L s) := h.has.turned ht (fun e => own_has_ne h.way h.has (by decide) e)
 have htt : Turned (fun b => b = x.g ∨ x.vw.ownBlock = some b) w (w1.setCell ⟨x.g, 7, none⟩ v') := (ht.mono fun b _ e => .inr e).setCell _ _ (.inl (.inl rfl))
 have hF : ∀ b, (b = x.g ∨ x.vw.ownBlock = some b) → Mut w b := fun b e => h.mut (e.elim .inl fun e => .inr (.inr (.inr e)))
 have hi' : i < x.vs.length := by rw [h.len]; exact hi
 refine h.setWay (vw' := v') (vs' := x.vs.eraseIdx i) (way' := s.way.eraseIdx i) (lost' := s.lost) htt (hx1.set 7 v') ?_ ?_ (fun b hb' => .inl (by rw [← hb]; exact hb')) (fun j gm v e1 e2 => ?_)
 ·have := own_far ho hx1 (by decide) 7 v'
  rw [wayL_erase _ _ _ h.len] at this
  rw [List.length_eraseIdx_of_lt hi]
  exact this
 ·rw [List.length_eraseIdx_of_lt hi, List.length_eraseIdx_of_lt hi', h.len]
 ·rw [List.getElem?_eraseIdx] at e1 e2
  split at e1
  ·rename_i hlt
   rw [if_pos hlt] at e2
   exact (h.bytes _ _ _ e1 e2).keepT htt hF
  ·rename_i hlt
   rw [if_neg hlt] at e2
   exact (h.bytes _ _ _ e1 e2).keepT htt hF
set_option maxHeartbeats 1000000 in
theorem sy_lose (h : SyAt w B x L s) (i : Nat) (hi : i < s.way.length ∨ s.way.length = 0) (h120 : s.way.length ≤ 120) : Calls Tryz.prog 92 #[.pointer (some ⟨x.g, 0, none⟩), I i] w (SysDoneN (i < s.way.length) w B x L (sysLose s i)) := by
 obtain ⟨A, c, hv, c7⟩ := h.wcell
 have hg := h.has.lt
 have HH := Lib.hid h
 have HV := Lib.hid hv
 rcases hi with hi | h0
 ·have hii : ¬ s.way.length ≤ i := by omega
  have ho := h.way
  rw [hv] at ho
  have HC := Lib.hid (del_gram ho h.ones i hi)
  have f7 := h.has.free 7
  have HI := Lib.hid hi
  clear h hv ho hi
  go_enter Tryz.func92, Tryz.ntmps92
  go_wp2_with (go_at_call 70; refine HC.out.mono ?_; rintro e w1 ⟨⟨v', rfl, hb, ho⟩, ht⟩; obtain ⟨A', c', rfl, -, -, -, -⟩ := own_read ho; rw [← HV.out] at hb ht; have HE := Lib.hid (HH.out.erase HI.out hb ho ht); have hx1 : Has w1 x.g 68 (syC x L s) := HH.out.has.turned ht (fun e => own_has_ne HH.out.way HH.out.has (by decide) e); have d7 := hx1.cellv 7 _ rfl; have g7 := hx1.free 7; clear hb ho ht hx1)
  go_ret
  exact ⟨⟨_, rfl, fun _ => rfl⟩, _, HE.out⟩
 ·have hii : s.way.length ≤ i := by omega
  have HE : Hid (sysLose s i = s) := Lib.hid (by
   unfold sysLose
   rw [List.eraseIdx_of_length_le hii])
  clear h hv
  go_enter Tryz.func92, Tryz.ntmps92
  go_wp2
  go_ret
  exact ⟨⟨_, rfl, fun h => absurd h (Nat.not_lt.2 hii)⟩, x, by rw [HE.out]; exact HH.out, Moved.refl w x⟩
theorem in_lose (h : SyIn w0 B x L s w) (hf : Fine T s) (i : Nat) (hi : i < s.way.length ∨ s.way.length = 0) : Calls Tryz.prog 92 #[.pointer (some ⟨x.g, 0, none⟩), I i] w (InPost w0 B x L w (fun v => i < s.way.length → v = .nilIface) (sysLose s i)) := by
 obtain ⟨x1, h1, hm, hB⟩ := h
 have hc := sy_lose h1 i hi hf.way
 rw [hm.same] at hc
 refine hc.mono ?_
 rintro e w' ⟨⟨v, he, hn⟩, x2, h2, hm2⟩
 exact ⟨⟨_, he, hn⟩, SyIn.next h1 hm hB h2 hm2⟩
end
end Go.Proofs.YtdhekhlmdefcnabGreatDoor
namespace Go.Proofs.YtdhekhlmdefcnabGreatDoor
open Go.RowKit
theorem newCells (k gc : Nat) : (#[I (k : Int), .pointer (some ⟨gc, 0, none⟩), I 0, I 0, I 0, I 0, I 0, I 0, I 0, I 0, I 0, I 0, I 0, I 0, I 0, I 0, I 0, I 0, I 0, I 0, I 0, I 0, I 0, I 0, I 0, I 0, I 0, I 0, .bool false, .bool false, .bool false, I 0, I 0, I 0, I 0, I 0, I 0, I 0, I 0, I 0, I 0, I 0, I 0, I 0, I 0, I 0, I 0, I 0, I 0, I 0, I 0, I 0, .bool false, I 0, I 0, I 0, I 0, I 0, I 0, I 0, I 0, I 0, I 0, I 0, I 0, I 0, I 0, I 0, I 0, I 0, I 0, .bool false, I 0, I 0, I 0, I 0, I 0, I 0, I 0, I 0, I 0, I 0, I 0, I 0, I 0, I 0, I 0, I 0, I 0, I 0, .bool false, I 0, I 0] : Array Value) = cellsOf 93 (reF (Re.new k) gc) := by
 unfold cellsOf
 congr 1
def MadeRep (w : World) (L : Lay) (r : Re) (e : Ending) (w' : World) : Prop :=
 (∃ g gc, w.heap.size ≤ g ∧ e = .returned (.tuple #[.pointer (some ⟨g, 0, none⟩), .nilIface]) ∧ RepAt w' g gc L r) ∧ Below w.heap.size w w'
set_option maxHeartbeats 4000000 in
set_option maxRecDepth 100000 in
theorem re_new (k : Nat) (hk : k < 3) (A : Option Addr) (n c : Nat) (L : Lay) (w : World) (hL : L.Ok) (hxn : Hid (L.routes.length = n)) (hc : n ≤ c) (hr : Reads w w.heap.size A (ints (zs L.routes))) :
  Calls Tryz.prog 21 #[I (k : Int), .agg #[I L.secs, .slice A n c, I L.delay]] w (MadeRep w L (Re.new k)) := by
 have hb1 : Below w.heap.size w (w.alloc (.cells #[I L.secs, .slice A n c, I L.delay] 29)) := (Below.refl _ _).alloc (Nat.le_refl _) _
 have k0 := Has.new w 29 #[I L.secs, .slice A n c, I L.delay]
 have hr1 := hr.below hb1
 clear hr
 go_enter Tryz.func21, Tryz.ntmps21
 go_upto_region 1 with fail
 generalize w.alloc (.cells #[I L.secs, .slice A n c, I L.delay] 29) = w1 at *
 have hl := k0.lt
 generalize hG : w.heap.size = g0 at *
 have HG := Lib.hid hG
 clear hG
 have c0 := k0.cellv 0 _ rfl
 have c1 := k0.cellv 1 _ rfl
 have c2 := k0.cellv 2 _ rfl
 have HC : Hid (Calls Tryz.prog 38 #[.agg #[I L.secs, .slice A n c, I L.delay]] w1 fun e w' => (∃ g, w1.heap.size ≤ g ∧ e = .returned (.tuple #[.pointer (some ⟨g, 0, none⟩), .nilIface]) ∧ CoreAt w' g L) ∧ Below w1.heap.size w1 w') := Lib.hid (new_ok A n c L w1 hL hxn hc (hr1.more (Nat.le_of_lt hl)))
 go_upto_region 6 with (go_at_call 38; refine HC.out.mono ?_; rintro e w2 ⟨⟨gc, hgc, rfl, hca⟩, hb2⟩)
 clear c0 c1 c2 HC
 have hb3 : Below g0 w w2 := hb1.trans (hb2.mono (by omega))
 have hg2 := hb2.size
 have HX := Lib.hid (newCells k gc)
 have HN := Has.new w2 108 #[I (k : Int), .pointer (some ⟨gc, 0, none⟩), I 0, I 0, I 0, I 0, I 0, I 0, I 0, I 0, I 0, I 0, I 0, I 0, I 0, I 0, I 0, I 0, I 0, I 0, I 0, I 0, I 0, I 0, I 0, I 0, I 0, I 0, .bool false, .bool false, .bool false, I 0, I 0, I 0, I 0, I 0, I 0, I 0, I 0, I 0, I 0, I 0, I 0, I 0, I 0, I 0, I 0, I 0, I 0, I 0, I 0, I 0, .bool false, I 0, I 0, I 0, I 0, I 0, I 0, I 0, I 0, I 0, I 0, I 0, I 0, I 0, I 0, I 0, I 0, I 0, I 0, .bool false, I 0, I 0, I 0, I 0, I 0, I 0, I 0, I 0, I 0, I 0, I 0, I 0, I 0, I 0, I 0, I 0, I 0, I 0, .bool false, I 0, I 0]
 rw [HX.out] at HN
 have hb4 : Below w2.heap.size w2 (w2.alloc (.cells #[I (k : Int), .pointer (some ⟨gc, 0, none⟩), I 0, I 0, I 0, I 0, I 0, I 0, I 0, I 0, I 0, I 0, I 0, I 0, I 0, I 0, I 0, I 0, I 0, I 0, I 0, I 0, I 0, I 0, I 0, I 0, I 0, I 0, .bool false, .bool false, .bool false, I 0, I 0, I 0, I 0, I 0, I 0, I 0, I 0, I 0, I 0, I 0, I 0, I 0, I 0, I 0, I 0, I 0, I 0, I 0, I 0, I 0, .bool false, I 0, I 0, I 0, I 0, I 0, I 0, I 0, I 0, I 0, I 0, I 0, I 0, I 0, I 0, I 0, I 0, I 0, I 0, .bool false, I 0, I 0, I 0, I 0, I 0, I 0, I 0, I 0, I 0, I 0, I 0, I 0, I 0, I 0, I 0, I 0, I 0, I 0, .bool false, I 0, I 0] 108)) := (Below.refl _ _).alloc (Nat.le_refl _) _
 have HN' := Lib.hid HN
 have hb5 := hb3.trans (hb4.mono (by omega))
 have HB5 := Lib.hid hb5
 have HCA := Lib.hid (hca.after hb4)
 clear HN hb4 hca hb5
 go_wp2_with fail
 go_ret2
 exact ⟨⟨_, gc, by rw [HG.out]; omega, rfl, HN'.out, HCA.out⟩, HG.out ▸ HB5.out⟩
end Go.Proofs.YtdhekhlmdefcnabGreatDoor
namespace Go.Proofs.YtdhekhlmdefcnabGreatDoor
open Go.RowKit
section
variable {w0 w w1 : World} {B : Nat} {x : SyX} {L : Lay} {s : Sys} {T : Nat}
structure GramAt (w : World) (x : SyX) (s : Sys) (i : Nat) (g : Gram) (gw c : Nat) (v : Value) : Prop where
 get : s.way[i]? = some g
 vw : x.vw = .slice (some ⟨gw, 0, none⟩) s.way.length c
 le : s.way.length ≤ c
 c0 : w.cell? ⟨gw, i * 3, none⟩ = some (I g.src)
 c1 : w.cell? ⟨gw, i * 3 + 1, none⟩ = some (I g.dst)
 c2 : w.cell? ⟨gw, i * 3 + 2, none⟩ = some v
 bytes : BAt w v g.bytes
theorem SyAt.gram (h : SyAt w B x L s) {i : Nat} (hi : i < s.way.length) : ∃ g gw c v, GramAt w x s i g gw c v := by
 have hi' : i < x.vs.length := by rw [h.len]; exact hi
 have e1 : s.way[i]? = some s.way[i] := List.getElem?_eq_getElem hi
 have e2 : x.vs[i]? = some x.vs[i] := List.getElem?_eq_getElem hi'
 obtain ⟨a0, a1, a2⟩ := wayL_get _ _ _ _ _ e1 e2
 have ho := h.way
 rcases ho.2 with ⟨_, hn⟩ | ⟨g, cap, cur, hv, _, hh, hc, _, _, ht⟩
 ·omega
 ·have kg : Has w g 132 cur := hh
  have get : ∀ j u, j < s.way.length * 3 → (wayL s.way x.vs)[j]? = some u → w.cell? ⟨g, j, none⟩ = some u := fun j u hj hu => by
   rw [← ht, List.getElem?_take, if_pos hj] at hu
   rw [kg.cell]
   simpa using hu
  exact ⟨_, g, cap, _, e1, hv, hc, get _ _ (by omega) a0, get _ _ (by omega) a1, get _ _ (by omega) a2, h.bytes _ _ _ e1 e2⟩
set_option maxHeartbeats 2000000 in
theorem sy_twice (h : SyAt w B x L s) (hB : B ≤ w.heap.size) (hf : Fine T s) (hT : T ≤ 9999999990) (i : Nat) (hi : i < s.way.length ∨ s.way.length = 0) : Calls Tryz.prog 102 #[.pointer (some ⟨x.g, 0, none⟩), I i] w (SysDoneN (i < s.way.length) w B x L (sysTwice s i)) := by
  obtain ⟨A, c, hv, c7⟩ := h.wcell
  have hg := h.has.lt
  have HH := Lib.hid h
  have HF := Lib.hid hf
  rcases hi with hi | h0
  · have hii : ¬ s.way.length ≤ i := by omega
    obtain ⟨gm, gw, c', v, hgm⟩ := h.gram hi
    have hAB : A = some ⟨gw, 0, none⟩ ∧ c = c' := by
      have := hv.symm.trans hgm.vw
      injection this with h1 h2 h3
      exact ⟨h1, h3⟩
    obtain ⟨rfl, rfl⟩ := hAB
    have HE : Hid (sysTwice s i = sysPut s gm) := Lib.hid (by unfold sysTwice; rw [hgm.get])
    have HG80 := Lib.hid (HF.out.gram gm (List.mem_of_getElem? hgm.get)).2.2
    have g0 := hgm.c0
    have g1 := hgm.c1
    have g2 := hgm.c2
    have hvo : v.oneCell' = true := by obtain ⟨A2, c2, rfl, _⟩ := hgm.bytes; rfl
    obtain ⟨A2, c2, hv2, hc2, hrd⟩ := hgm.bytes.reads
    subst hv2
    have HB2 := Lib.hid hgm.bytes
    have HRD := Lib.hid hrd
    have hgw := HH.out.has
    have hib : i + 1 ≤ s.way.length := hi
    clear h hf hv hgm hrd hgw hi
    go_enter Tryz.func102, Tryz.ntmps102
    go_upto_region 4 with (fail)
    have kb := Has.new w 132 #[I gm.src, I gm.dst, .slice A2 gm.bytes.length c2]
    have hbA : Below w.heap.size w (w.alloc (.cells #[I gm.src, I gm.dst, .slice A2 gm.bytes.length c2] 132)) := (Below.refl _ _).alloc (Nat.le_refl _) _
    have hszA : (w.alloc (.cells #[I gm.src, I gm.dst, .slice A2 gm.bytes.length c2] 132)).heap.size = w.heap.size + 1 := by simp
    generalize w.alloc (.cells #[I gm.src, I gm.dst, .slice A2 gm.bytes.length c2] 132) = wA at *
    generalize hG : w.heap.size = gb at *
    have HG := Lib.hid hG
    have HCL := Lib.hid (clone_u8 (w := wA) A2 gm.bytes.length c2 gm.bytes rfl (by have := HG80.out; omega) (HRD.out.below hbA |>.more (by omega)))
    have HBA := Lib.hid hbA
    have hb2 := kb.cellv 2 _ rfl
    have hgl := kb.lt
    clear g0 g1 g2 c7 hbA hG HRD hg
    go_wp2_with (first
      | (go_at_call 141; refine HCL.out.mono ?_; rintro e wB ⟨⟨v', rfl, ho⟩, hbB⟩; have kB := kb.after hbB; have d0 := kB.cellv 0 _ rfl; have d1 := kB.cellv 1 _ rfl; have d2 := kB.cellv 2 _ rfl; have f2 := kB.free 2; have HO := Lib.hid (BAt.of_own ho); obtain ⟨A', c', rfl, -, -, -, -⟩ := own_read ho; have hglB := kB.lt; have KB := Lib.hid kB; have HBB := Lib.hid hbB; clear ho hbB kB kb hb2)
      | (go_at_call 81
         have hbC := HBA.out.trans (HBB.out.mono (by omega : gb ≤ wA.heap.size))
         have hbD : Below gb w (wB.setCell ⟨gb, 2, none⟩ (.slice A' gm.bytes.length c')) := hbC.setCell (Nat.le_refl _) _
         have HBD := Lib.hid hbD
         have HY : SyAt (wB.setCell ⟨gb, 2, none⟩ (.slice A' gm.bytes.length c')) B x L s := HH.out.after (by rw [HG.out]; exact hbD)
         have HV : BAt (wB.setCell ⟨gb, 2, none⟩ (.slice A' gm.bytes.length c')) (.slice A' gm.bytes.length c') gm.bytes := HO.out.keep fun g cs hh => hh.far (hh.ne KB.out (by decide)) _
         refine (sy_put HY (by have := hbD.size; rw [HG.out] at this; omega) HF.out.way (Nat.le_trans HF.out.lost (by omega)) gm _ HV).mono ?_
         rintro e wE ⟨rfl, x2, hy2, hm2⟩
         have HP := Lib.hid (And.intro hy2 hm2)
         clear hy2 hm2 HY HV hbC hbD))
    go_ret
    refine ⟨⟨_, rfl, fun _ => rfl⟩, x2, by rw [HE.out]; exact HP.out.1, (Moved.of_below (by rw [HG.out]; exact HBD.out)).trans HP.out.2⟩
  · have hii : s.way.length ≤ i := by omega
    have HE : Hid (sysTwice s i = s) := Lib.hid (by
      unfold sysTwice
      rw [List.getElem?_eq_none hii])
    clear h hv hf
    go_enter Tryz.func102, Tryz.ntmps102
    go_wp2
    go_ret
    exact ⟨⟨_, rfl, fun h => absurd h (Nat.not_lt.2 hii)⟩, x, by rw [HE.out]; exact HH.out, Moved.refl w x⟩
def upd (f : Nat → Nat) (k v : Nat) (j : Nat) : Nat := if j = k then v else f j
theorem SyAt.crash (h : SyAt w B x L s) (hB : B ≤ w.heap.size) {k : Nat} (hk : k < 3) (hb : Below w.heap.size w w1) {gr gc : Nat} (hgr : w.heap.size ≤ gr) {r : Re} (hr : RepAt w1 gr gc L r) :
  SyAt (w1.setCell ⟨x.g, 3 + k, none⟩ (.pointer (some ⟨gr, 0, none⟩))) B { x with rb := upd x.rb k gr, cb := upd x.cb k gc } L { s with rs := s.rs.set k r } ∧
  Moved w (w1.setCell ⟨x.g, 3 + k, none⟩ (.pointer (some ⟨gr, 0, none⟩))) x { x with rb := upd x.rb k gr, cb := upd x.cb k gc } := by
 have h1 := h.after hb
 have ht : Turned (fun b => b = x.g) w1 (w1.setCell ⟨x.g, 3 + k, none⟩ (.pointer (some ⟨gr, 0, none⟩))) := (Turned.refl _ _).setCell _ _ (.inl rfl)
 have hF : ∀ b, b = x.g → Mut w1 b := fun b e => h1.mut (.inl e)
 have hset := h1.has.set (3 + k) (.pointer (some ⟨gr, 0, none⟩))
 have hcells : (syC x L s).setIfInBounds (3 + k) (.pointer (some ⟨gr, 0, none⟩)) = syC { x with rb := upd x.rb k gr, cb := upd x.cb k gc } L { s with rs := s.rs.set k r } := by
  have : k = 0 ∨ k = 1 ∨ k = 2 := by omega
  rcases this with rfl | rfl | rfl <;> rfl
 rw [hcells] at hset
 have hlt : ∀ j, j < 3 → x.rb j < w.heap.size := fun j hj => (h.rep j hj).has.lt
 refine ⟨⟨hset, own_keepT h1.routes ht hF (by decide), by simp [h1.n3], fun j hj => ?_, fun i j hi hj e => ?_, h1.vo.turned ht ?_, own_turned h1.way ht (fun q hq e => own_has_ne h1.way h1.has (by decide) (by rw [hq, e])), h1.len, fun i gm v e1 e2 => (h1.bytes i gm v e1 e2).keepT ht hF, h1.low, fun j hj => ?_⟩, ⟨(Turned.of_below hb _).trans ht fun b _ e => .inl e, fun b hf => ?_, rfl⟩⟩
 ·rw [sy_re_set h1.n3 hk]
  show RepAt _ (upd x.rb k gr j) (upd x.cb k gc j) L _
  unfold upd
  by_cases e : j = k
  ·subst e
   rw [if_pos rfl, if_pos rfl, if_pos rfl]
   exact hr.keepT ht hF fun e => hr.has.ne h1.has (by decide) e
  ·rw [if_neg e, if_neg e, if_neg e]
   exact (h1.rep j hj).keepT ht hF fun e2 => (h1.rep j hj).has.ne h1.has (by decide) e2
 ·change upd x.rb k gr i = upd x.rb k gr j at e
  unfold upd at e
  have hi' := hlt i hi
  have hj' := hlt j hj
  split at e
  ·split at e
   ·omega
   ·omega
  ·split at e
   ·omega
   ·exact h1.apart i j hi hj e
 ·rintro b (rfl | hb') e
  ·exact h1.vo.has.ne h1.has (by decide) e
  ·exact own_has_ne h1.vo.own h1.has (by decide) (by rw [hb', e])
 ·show B ≤ upd x.rb k gr j
  unfold upd
  split
  ·omega
  ·exact h1.lows j hj
 ·rcases hf with e | ⟨j, hj, e⟩ | e | e
  ·exact .inl (.inl e)
  ·change b = upd x.rb k gr j at e
   unfold upd at e
   split at e
   ·exact .inr (by omega)
   ·exact .inl (.inr (.inl ⟨j, hj, e⟩))
  ·exact .inl (.inr (.inr (.inl e)))
  ·exact .inl (.inr (.inr (.inr e)))
set_option maxHeartbeats 2000000 in
theorem sy_crash (h : SyAt w B x L s) (hB : B ≤ w.heap.size) (hL : L.Ok) (k : Nat) (hk : k < 3) : Calls Tryz.prog 90 #[.pointer (some ⟨x.g, 0, none⟩), I k] w (SysDoneN True w B x L (sysCrash s k)) := by
 have hg := h.has.lt
 have HH := Lib.hid h
 have HK := Lib.hid hk
 have HBS := Lib.hid hB
 have hki : (k : Int) < 3 := by omega
 have hk1 : k ≤ 1000 := by omega
 have HD := Lib.hid (show decide (k < 3) = true by simpa using hk)
 obtain ⟨A, c, hvr, hc, hl, hrd⟩ := own_reads h.routes
 have c0 := h.cell 0 (I L.secs) rfl
 have c1 : w.cell? ⟨x.g, 1, none⟩ = some (.slice A L.routes.length c) := by rw [← hvr]; exact h.cell 1 x.vr rfl
 have c2 := h.cell 2 (I L.delay) rfl
 have HDR := Lib.hid (h.after ((Below.refl _ _).drew))
 have HCL := Lib.hid (re_new k hk A L.routes.length c L w.drew hL (Lib.hid rfl) hc hrd)
 clear h hvr hl hrd hk hB
 go_enter Tryz.func90, Tryz.ntmps90
 go_upto_region 3 with (go_at_call 22; refine (right_nat k hk1).mono ?_; rintro e w' ⟨rfl, rfl⟩; rw [HD.out])
 go_cut [] (fun wx => Hid (∃ x2, SyAt wx B x2 L (sysCrash s k) ∧ Moved w wx x x2))
 case first =>
  go_region_with (go_at_call 21; refine HCL.out.mono ?_; rintro e wn ⟨⟨gr, gc, hgr, rfl, hr⟩, hb⟩; have dk := (HDR.out.after hb).rcell HK.out; have fk := (HDR.out.after hb).has.free (3 + k); have HEE := Lib.hid (HDR.out.crash HBS.out HK.out hb hgr hr); clear hgr hr hb)
  all_goals
   go_wp2_with fail
   go_meet
   case rel => exact Lib.hid ⟨_, HEE.out.1, (Moved.of_below ((Below.refl _ _).drew)).trans HEE.out.2⟩
 case rest =>
  go_wp2
  go_ret
  obtain ⟨x2, h2, h3⟩ := hcut.out
  exact ⟨⟨_, rfl, fun _ => rfl⟩, x2, h2, h3⟩
end
end Go.Proofs.YtdhekhlmdefcnabGreatDoor
