/- Part 28 of the proof: SyIn, SyTick, SyWay, ReNew, SyWay2, SySays. -/
import Derived.Test.YtdhekhlmdefcnabPart27
import Derived.Test.YtdhekhlmdefcnabPart19
namespace Go.Proofs.Ytdhekhlmdefcnab
open Go.RowKit
def Stay (w w' : World) : Prop := ∀ g t cs, Has w g t cs → mutT t = false → Has w' g t cs
theorem Stay.refl (w : World) : Stay w w := fun _ _ _ h _ => h
theorem Stay.trans {a b c : World} (h : Stay a b) (h' : Stay b c) : Stay a c := fun g t cs k hn => h' g t cs (h g t cs k hn) hn
theorem Stay.below {w w' : World} (h : Below w.heap.size w w') : Stay w w' := fun _ _ _ k _ => k.after h
def SyIn (w0 : World) (B : Nat) (x : SyX) (L : Lay) (s : Sys) (w : World) : Prop := ∃ x', SyAt w B x' L s ∧ Moved w0 w x x' ∧ B ≤ w.heap.size
section
variable {w0 w w' : World} {B : Nat} {x : SyX} {L : Lay} {s s' : Sys}
theorem SyIn.start (h : SyAt w B x L s) (hB : B ≤ w.heap.size) : SyIn w B x L s w := ⟨x, h, Moved.refl w x, hB⟩
theorem SyIn.after (h : SyIn w0 B x L s w) (hb : Below w.heap.size w w') : SyIn w0 B x L s w' := by
 obtain ⟨x', h1, h2, h3⟩ := h
 exact ⟨x', h1.after hb, h2.trans (Moved.of_below hb), Nat.le_trans h3 hb.size⟩
theorem SyAt.stay {x' : SyX} (h : SyAt w B x L s) (hm : Moved w w' x x') : Stay w w' := fun _g _t _cs k hn => k.keepT hm.turned (fun _ hb => h.mut hb) hn
theorem Moved.size {x' : SyX} (h : Moved w w' x x') : w.heap.size ≤ w'.heap.size := h.turned.size
def InPost (w0 : World) (B : Nat) (x : SyX) (L : Lay) (w : World) (V : Value → Prop) (s' : Sys) (e : Ending) (w' : World) : Prop := (∃ v, e = .returned v ∧ V v) ∧ SyIn w0 B x L s' w' ∧ Stay w w'
theorem SyIn.next {x1 x2 : SyX} (h1 : SyAt w B x1 L s) (hm : Moved w0 w x x1) (hB : B ≤ w.heap.size) (h2 : SyAt w' B x2 L s') (hm2 : Moved w w' x1 x2) : SyIn w0 B x L s' w' ∧ Stay w w' :=
 ⟨⟨x2, h2, hm.trans hm2, Nat.le_trans hB hm2.size⟩, h1.stay hm2⟩
theorem in_send {T : Nat} (h : SyIn w0 B x L s w) (hf : Fine T s) (hT : T ≤ 10000000000) (a b : Nat) (f : List Int) (hw : Wf f) :
  Calls Try.prog 57 #[.pointer (some ⟨x.g, 0, none⟩), I a, I b, .agg (frC f)] w (InPost w0 B x L w (· = .tuple #[]) (sysSend s a b f)) := by
 obtain ⟨x1, h1, hm, hB⟩ := h
 have hc := sy_send h1 hB hf.way (Nat.le_trans hf.lost hT) a b f hw
 rw [hm.same] at hc
 refine hc.mono ?_
 rintro e w' ⟨he, x2, h2, hm2⟩
 exact ⟨⟨_, he, rfl⟩, SyIn.next h1 hm hB h2 hm2⟩
theorem in_put {T : Nat} (h : SyIn w0 B x L s w) (hf : Fine T s) (hT : T ≤ 10000000000) (g : Gram) (v : Value) (hv : BAt w v g.bytes) :
  Calls Try.prog 64 #[.pointer (some ⟨x.g, 0, none⟩), .agg #[I g.src, I g.dst, v]] w (InPost w0 B x L w (· = .tuple #[]) (sysPut s g)) := by
 obtain ⟨x1, h1, hm, hB⟩ := h
 have hc := sy_put h1 hB hf.way (Nat.le_trans hf.lost hT) g v hv
 rw [hm.same] at hc
 refine hc.mono ?_
 rintro e w' ⟨he, x2, h2, hm2⟩
 exact ⟨⟨_, he, rfl⟩, SyIn.next h1 hm hB h2 hm2⟩
theorem in_see (h : SyIn w0 B x L s w) (k : Nat) (hk : k < 3) (a b : Int) :
  Calls Try.prog 21 #[.pointer (some ⟨x.g, 0, none⟩), I k, .agg #[I a, I b]] w (InPost w0 B x L w (· = .nilIface) (sysSee s k (a, b))) := by
 obtain ⟨x1, h1, hm, hB⟩ := h
 have hc := sy_see h1 k hk a b
 rw [hm.same] at hc
 refine hc.mono ?_
 rintro e w' ⟨he, x2, h2, hm2⟩
 exact ⟨⟨_, he, rfl⟩, SyIn.next h1 hm hB h2 hm2⟩
theorem in_latch (h : SyIn w0 B x L s w) : Calls Try.prog 38 #[.pointer (some ⟨x.g, 0, none⟩)] w (InPost w0 B x L w (fun _ => True) (sysLatch s)) := by
 obtain ⟨x1, h1, hm, hB⟩ := h
 have hc := sy_latch h1
 rw [hm.same] at hc
 refine hc.mono ?_
 rintro e w' ⟨he, x2, h2, hm2⟩
 exact ⟨⟨_, he, trivial⟩, SyIn.next h1 hm hB h2 hm2⟩
theorem in_tick3 (h : SyIn w0 B x L s w) (hf : s.v.Wf) : Calls Try.prog 29 #[.pointer (some ⟨x.g, 0, none⟩), I 3] w (InPost w0 B x L w (fun _ => True) { s with v := voTick s.v }) := by
 obtain ⟨x1, h1, hm, hB⟩ := h
 have hc := sy_tick3 h1 hf
 rw [hm.same] at hc
 refine hc.mono ?_
 rintro e w' ⟨⟨v, he⟩, x2, h2, hm2⟩
 exact ⟨⟨_, he, trivial⟩, SyIn.next h1 hm hB h2 hm2⟩
theorem in_many (h : SyIn w0 B x L s w) : Calls Try.prog 27 #[.pointer (some ⟨x.g, 0, none⟩)] w fun e w' => e = .returned (I (s.way.length : Int)) ∧ w = w' := by
 obtain ⟨x1, h1, hm, hB⟩ := h
 have hc := sy_many h1
 rw [hm.same] at hc
 exact hc
theorem in_latched (h : SyIn w0 B x L s w) : Calls Try.prog 13 #[.pointer (some ⟨x.g, 0, none⟩)] w fun e w' => e = .returned (.bool s.v.latched) ∧ w = w' := by
 obtain ⟨x1, h1, hm, hB⟩ := h
 have hc := sy_latched h1
 rw [hm.same] at hc
 exact hc
theorem in_out (h : SyIn w0 B x L s w) : Calls Try.prog 16 #[.pointer (some ⟨x.g, 0, none⟩)] w fun e w' => e = .returned (I (s.v.out : Int)) ∧ w = w' := by
 obtain ⟨x1, h1, hm, hB⟩ := h
 have hc := sy_out h1
 rw [hm.same] at hc
 exact hc
theorem in_shown (h : SyIn w0 B x L s w) (hw : s.v.trace.length ≤ 1000) : Calls Try.prog 14 #[.pointer (some ⟨x.g, 0, none⟩)] w fun e w' => e = .returned (I (voShown s.v)) ∧ ∃ q, w.drewN q = w' := by
 obtain ⟨x1, h1, hm, hB⟩ := h
 have hc := sy_shown h1 hw
 rw [hm.same] at hc
 exact hc
theorem in_trace (h : SyIn w0 B x L s w) (hw : s.v.trace.length ≤ 1000) : Calls Try.prog 12 #[.pointer (some ⟨x.g, 0, none⟩)] w fun e w' => (∃ vr, e = .returned vr ∧ w'.ownsRow w.heap.size 50 3 vr s.v.trace.length (cmsC s.v.trace)) ∧ Below w.heap.size w w' := by
 obtain ⟨x1, h1, hm, hB⟩ := h
 have hc := sy_trace h1 hw
 rw [hm.same] at hc
 exact hc
theorem SyIn.rep (h : SyIn w0 B x L s w) {k : Nat} (hk : k < 3) : ∃ gr gc, w.cell? ⟨x.g, 3 + k, none⟩ = some (.pointer (some ⟨gr, 0, none⟩)) ∧ RepAt w gr gc L (re s k) ∧
  ∀ (w' : World) (r : Re), Turned (fun b => b = gr) w w' → RepAt w' gr gc L r → SyIn w0 B x L { s with rs := s.rs.set k r } w' ∧ Stay w w' := by
 obtain ⟨x1, h1, hm, hB⟩ := h
 refine ⟨x1.rb k, x1.cb k, by rw [← hm.same]; exact h1.rcell hk, h1.rep k hk, fun w' r ht hr => ?_⟩
 obtain ⟨h2, hm2⟩ := h1.setRep hk ht hr
 exact SyIn.next h1 hm hB h2 hm2
theorem SyIn.lt (h : SyIn w0 B x L s w) : x.g < w.heap.size := by
 obtain ⟨x1, h1, hm, hB⟩ := h
 rw [← hm.same]
 exact h1.has.lt
theorem two_others {k : Nat} (hk : k < 3) : ∃ o0 o1, others k = [o0, o1] ∧ othC k = #[I (o0 : Nat), I (o1 : Nat), I 0] ∧ o0 ≤ 3 ∧ o1 ≤ 3 := by
 have : k = 0 ∨ k = 1 ∨ k = 2 := by omega
 rcases this with rfl | rfl | rfl
 ·exact ⟨1, 2, by decide, rfl, by decide, by decide⟩
 ·exact ⟨0, 2, by decide, rfl, by decide, by decide⟩
 ·exact ⟨0, 1, by decide, rfl, by decide, by decide⟩
end
end Go.Proofs.Ytdhekhlmdefcnab
namespace Go.Proofs.Ytdhekhlmdefcnab
open Go.RowKit
section
variable {w0 w : World} {B : Nat} {x : SyX} {L : Lay} {s : Sys} {T : Nat}
theorem sendAll_re (s : Sys) (a : Nat) (l : List Nat) (f : List Int) (k : Nat) : re (sendAll s a l f) k = re s k := re_rs (sendAll_rest a f l s).1 k
theorem sendAll_snoc (s : Sys) (a b : Nat) (l : List Nat) (f : List Int) : sendAll s a (l ++ [b]) f = sysSend (sendAll s a l f) a b f := by
 unfold sendAll
 rw [List.foldl_append]
 rfl
set_option maxHeartbeats 4000000 in
set_option maxRecDepth 100000 in
theorem in_asks (h : SyIn w0 B x L s w) (hf : Fine T s) (hT : T ≤ 9999999990) (k : Nat) (hk : k < 3) : Calls Try.prog 30 #[.pointer (some ⟨x.g, 0, none⟩), I k] w (InPost w0 B x L w (fun _ => True) (sysAsks s k)) := by
 have hg := h.lt
 have HH := Lib.hid h
 have HF := Lib.hid hf
 have HK := Lib.hid hk
 have hki : (k : Int) < 3 := by omega
 have HD := Lib.hid (show decide (k < 3) = true by simpa using hk)
 obtain ⟨o0, o1, ho, hc, hl0, hl1⟩ := two_others hk
 have HO := Lib.hid ho
 have HC := Lib.hid hc
 clear h hf ho hc
 go_enter Try.func30, Try.ntmps30
 go_wp2_with (first
  | (go_at_call 43; refine (right_nat k (by omega)).mono ?_; rintro e w' ⟨rfl, rfl⟩; rw [HD.out])
  | (go_at_call 56; refine (others_ok k HK.out).mono ?_; rintro e wo ⟨⟨gO, rfl, hO⟩, hbo⟩; rw [HC.out] at hO; have H1 := Lib.hid (HH.out.after hbo); have S1 := Lib.hid (Stay.below hbo)))
 clear HH hbo
 go_loopw [14] (fun i wr => ∃ j : Nat, j ≤ 2 ∧ i = I j ∧ Hid (SyIn w0 B x L (sendAll s k ([o0, o1].take j) (asks (re s k))) wr) ∧ Has wr gO 3 #[I (o0 : Nat), I (o1 : Nat), I 0] ∧ Hid (Stay w wr)) (fun i _ => 2 - (intOf i).toNat)
 case atStart => exact ⟨0, by omega, rfl, H1, hO, S1⟩
 case round =>
  clear H1 hO S1
  obtain ⟨j, hj, rfl, HI, hO, HS⟩ := hrel
  have hjc : j = 0 ∨ j = 1 ∨ j = 2 := by omega
  clear hj
  rcases hjc with rfl | rfl | rfl
  ·have c0 := hO.cellv 0 (I (o0 : Nat)) rfl
   have hO' := Lib.hid hO
   have hgx := HI.out.lt
   obtain ⟨gr, gc, c3, hr, _⟩ := HI.out.rep HK.out
   rw [sendAll_re] at hr
   have HR := Lib.hid hr
   have HFI : Hid (Fine T (sendAll s k ([o0, o1].take 0) (asks (re s k)))) := HF
   clear hr hO
   go_wp2_with (first
    | (go_at_call 58; refine (re_asks HR.out).mono ?_; rintro e wa ⟨rfl, hba⟩; have HI2 := Lib.hid (HI.out.after hba); have HO2 := Lib.hid (hO'.out.after hba); have HS2 := Lib.hid (HS.out.trans (Stay.below hba)))
    | (go_at_call 57; refine (in_send HI2.out HFI.out (by omega) k o0 (asks (re s k)) (asks_wf (HF.out.fits k HK.out))).mono ?_; rintro e wb ⟨⟨v, rfl, rfl⟩, hin2, hst2⟩; have HI3 := Lib.hid hin2; have HO3 := Lib.hid (hst2 _ _ _ HO2.out (by decide)); have HS3 := Lib.hid (HS2.out.trans hst2)))
   go_roundw
   case rel => exact ⟨1, by omega, by rfl, HI3, HO3.out, HS3⟩
   case measure => simp [intOf]
  ·have c0 := hO.cellv 1 (I (o1 : Nat)) rfl
   have hO' := Lib.hid hO
   have hgx := HI.out.lt
   obtain ⟨gr, gc, c3, hr, _⟩ := HI.out.rep HK.out
   rw [sendAll_re] at hr
   have HR := Lib.hid hr
   have HFI : Hid (Fine (T + 1) (sendAll s k ([o0, o1].take 1) (asks (re s k)))) := Lib.hid (HF.out.send _ (by omega) hl0)
   clear hr hO
   go_wp2_with (first
    | (go_at_call 58; refine (re_asks HR.out).mono ?_; rintro e wa ⟨rfl, hba⟩; have HI2 := Lib.hid (HI.out.after hba); have HO2 := Lib.hid (hO'.out.after hba); have HS2 := Lib.hid (HS.out.trans (Stay.below hba)))
    | (go_at_call 57; refine (in_send HI2.out HFI.out (by omega) k o1 (asks (re s k)) (asks_wf (HF.out.fits k HK.out))).mono ?_; rintro e wb ⟨⟨v, rfl, rfl⟩, hin2, hst2⟩; have HI3 := Lib.hid hin2; have HO3 := Lib.hid (hst2 _ _ _ HO2.out (by decide)); have HS3 := Lib.hid (HS2.out.trans hst2)))
   go_roundw
   case rel => exact ⟨2, by omega, by rfl, HI3, HO3.out, HS3⟩
   case measure => simp [intOf]
  ·go_wp2
   go_ret
   refine ⟨⟨_, rfl, trivial⟩, ?_, HS.out⟩
   unfold sysAsks
   rw [HO.out]
   exact HI.out
def twoF (w : World) (a b : List Int) : World := (((w.alloc (.cells (frC zeroF) 35)).alloc (.cells (frC zeroF) 35)).setRow w.heap.size (frC a)).setRow (w.heap.size + 1) (frC b)
theorem twoF_has (w : World) (a b : List Int) : Has (twoF w a b) w.heap.size 35 (frC a) ∧ Has (twoF w a b) (w.heap.size + 1) 35 (frC b) ∧ Below w.heap.size w (twoF w a b) := by
 have k0 := (Has.new w 35 (frC zeroF)).alloc (.cells (frC zeroF) 35)
 have k1 := Has.new' (w.alloc (.cells (frC zeroF) 35)) 35 (frC zeroF) (w.heap.size + 1) (by simp)
 have hb : Below w.heap.size w ((w.alloc (.cells (frC zeroF) 35)).alloc (.cells (frC zeroF) 35)) := ((Below.refl _ _).alloc (Nat.le_refl _) _).alloc (by simp) _
 refine ⟨?_, (k1.farRow (by omega) _).setRow _, below_setRow (below_setRow hb (Nat.le_refl _) _) (by omega) _⟩
 exact (k0.setRow _).farRow (by omega) _
set_option maxHeartbeats 4000000 in
set_option maxRecDepth 100000 in
theorem in_tick (h : SyIn w0 B x L s w) (hf : Fine T s) (hL : L.Ok) (hT : T ≤ 9999999990) (k : Nat) (hk : k < 3) : Calls Try.prog 29 #[.pointer (some ⟨x.g, 0, none⟩), I k] w (InPost w0 B x L w (fun _ => True) (tickR L s k)) := by
 have hg := h.lt
 have HH := Lib.hid h
 have HF := Lib.hid hf
 have HK := Lib.hid hk
 have hki : (k : Int) < 3 := by omega
 have hk3 : ((k : Int) == 3) = false := by simpa using (by omega : ¬ (k : Int) = 3)
 have HD := Lib.hid (show decide (k < 3) = true by simpa using hk)
 obtain ⟨o0, o1, ho, hc, hl0, hl1⟩ := two_others hk
 have HC := Lib.hid hc
 obtain ⟨gr, gc, c3, hr, hup⟩ := h.rep hk
 have hwf := tick_wf hL (hf.fits k hk)
 have hfit := tick_fits hL (hf.fits k hk)
 have hcall := re_tick hr hL T (by omega) (Lib.hid (hf.fits k hk))
 unfold TickPost at hcall
 have hE : tickR L s k = (if (reTick L (re s k)).2.2.2 then sysSend (sendAll { s with rs := s.rs.set k (reTick L (re s k)).1 } k (others k) (reTick L (re s k)).2.1) k 3 (reTick L (re s k)).2.2.1 else sendAll { s with rs := s.rs.set k (reTick L (re s k)).1 } k (others k) (reTick L (re s k)).2.1) := rfl
 rw [ho] at hE
 generalize reTick L (re s k) = R at *
 obtain ⟨q, fa, fb, ok⟩ := R
 dsimp only at hwf hfit hcall hE
 have HE := Lib.hid hE
 have HCL := Lib.hid hcall
 have HW := Lib.hid hwf
 have HF1 := Lib.hid (hf.setRe hk hfit (by omega))
 have HU := Lib.hid hup
 have hsa : Hid ((Try.prog.info? 35).map (·.size) = some (frC fa).size) := Lib.hid (by rw [frC_size _ hwf.1.1]; exact infoFrame)
 have hsb : Hid ((Try.prog.info? 35).map (·.size) = some (frC fb).size) := Lib.hid (by rw [frC_size _ hwf.2.1]; exact infoFrame)
 have hza : Hid ((frC zeroF).size = (frC fa).size) := Lib.hid (by rw [frC_size _ hwf.1.1]; rfl)
 have hzb : Hid ((frC zeroF).size = (frC fb).size) := Lib.hid (by rw [frC_size _ hwf.2.1]; rfl)
 clear h hf ho hc hwf hfit hcall hE hup hr
 go_enter Try.func29, Try.ntmps29
 go_upto_region 6 with (first
  | (go_at_call 43; refine (right_nat k (by omega)).mono ?_; rintro e w' ⟨rfl, rfl⟩; rw [HD.out])
  | (go_at_call 55; refine HCL.out.mono ?_; rintro e wt ⟨rfl, hrt, htt⟩; have H1 := Lib.hid (HU.out wt q htt hrt); clear hrt htt)
  | (rw [← zeroFrame]; refine wpList_store_row rfl 35 (.tmp 5) (.tmp 30) rfl wt.heap.size (frC fa) rfl rfl 35 (frC zeroF) ((Has.new wt 35 (frC zeroF)).alloc _) hsa.out hza.out (frC_one _) ?_)
  | (refine wpList_store_row rfl 35 (.tmp 6) (.tmp 31) rfl (wt.heap.size + 1) (frC fb) rfl rfl 35 (frC zeroF) ((Has.new' (wt.alloc (.cells (frC zeroF) 35)) 35 (frC zeroF) (wt.heap.size + 1) (by simp)).farRow (by omega) _) hsb.out hzb.out (frC_one _) ?_))
 have h5 := twoF_has wt fa fb
 change Code.wp _ _ _ _ (twoF wt fa fb)
 generalize twoF wt fa fb = w5 at *
 obtain ⟨k5, k6, hb5⟩ := h5
 have H2 : Hid (SyIn w0 B x L { s with rs := s.rs.set k q } w5) := Lib.hid (H1.out.1.after hb5)
 have S2 := Lib.hid (H1.out.2.trans (Stay.below hb5))
 generalize hG : wt.heap.size = g5 at *
 clear hG hb5 H1 HU c3 HCL
 go_wp2_with (go_at_call 56; refine (others_ok k HK.out).mono ?_; rintro e wo ⟨⟨gO, rfl, hO⟩, hbo⟩; rw [HC.out] at hO; have H3 := Lib.hid (H2.out.after hbo); have S3 := Lib.hid (S2.out.trans (Stay.below hbo)); have K5 := Lib.hid (k5.after hbo); have K6 := Lib.hid (k6.after hbo))
 clear H2 S2 hbo k5 k6
 go_loopw [36] (fun i wr => ∃ j : Nat, j ≤ 2 ∧ i = I j ∧ Hid (SyIn w0 B x L (sendAll { s with rs := s.rs.set k q } k ([o0, o1].take j) fa) wr) ∧ Has wr gO 3 #[I (o0 : Nat), I (o1 : Nat), I 0] ∧ Has wr g5 35 (frC fa) ∧ Has wr (g5 + 1) 35 (frC fb) ∧ Hid (Stay w wr)) (fun i _ => 2 - (intOf i).toNat)
 case atStart => exact ⟨0, by omega, rfl, H3, hO, K5.out, K6.out, S3⟩
 case round =>
  clear H3 hO S3 K5 K6
  obtain ⟨j, hj, rfl, HI, hO, k5, k6, HS⟩ := hrel
  have hjc : j = 0 ∨ j = 1 ∨ j = 2 := by omega
  clear hj
  rcases hjc with rfl | rfl | rfl
  ·have c0 := hO.cellv 0 (I (o0 : Nat)) rfl
   have hO' := Lib.hid hO
   have hgx := HI.out.lt
   have k5' := Lib.hid k5
   have k6' := Lib.hid k6
   have HFI : Hid (Fine (T + 1) (sendAll { s with rs := s.rs.set k q } k ([o0, o1].take 0) fa)) := HF1
   clear hO k6
   go_wp2_with (first
    | (refine wpList_load_row rfl 35 (.tmp 5) rfl g5 rfl 35 (frC fa) (0, 0) _ k5 Try.underlying35 rfl hsa.out ?_)
    | (go_at_call 57; refine (in_send HI.out HFI.out (by omega) k o0 fa HW.out.1).mono ?_; rintro e wb ⟨⟨v, rfl, rfl⟩, hin2, hst2⟩; have HI3 := Lib.hid hin2; have HO3 := Lib.hid (hst2 _ _ _ hO'.out (by decide)); have H53 := Lib.hid (hst2 _ _ _ k5'.out (by decide)); have H63 := Lib.hid (hst2 _ _ _ k6'.out (by decide)); have HS3 := Lib.hid (HS.out.trans hst2)))
   go_roundw
   case rel => exact ⟨1, by omega, by rfl, HI3, HO3.out, H53.out, H63.out, HS3⟩
   case measure => simp [intOf]
  ·have c0 := hO.cellv 1 (I (o1 : Nat)) rfl
   have hO' := Lib.hid hO
   have hgx := HI.out.lt
   have k5' := Lib.hid k5
   have k6' := Lib.hid k6
   have HFI : Hid (Fine (T + 2) (sendAll { s with rs := s.rs.set k q } k ([o0, o1].take 1) fa)) := Lib.hid (HF1.out.send fa (by omega) hl0)
   clear hO k6
   go_wp2_with (first
    | (refine wpList_load_row rfl 35 (.tmp 5) rfl g5 rfl 35 (frC fa) (0, 0) _ k5 Try.underlying35 rfl hsa.out ?_)
    | (go_at_call 57; refine (in_send HI.out HFI.out (by omega) k o1 fa HW.out.1).mono ?_; rintro e wb ⟨⟨v, rfl, rfl⟩, hin2, hst2⟩; have HI3 := Lib.hid hin2; have HO3 := Lib.hid (hst2 _ _ _ hO'.out (by decide)); have H53 := Lib.hid (hst2 _ _ _ k5'.out (by decide)); have H63 := Lib.hid (hst2 _ _ _ k6'.out (by decide)); have HS3 := Lib.hid (HS.out.trans hst2)))
   go_roundw
   case rel => exact ⟨2, by omega, by rfl, HI3, HO3.out, H53.out, H63.out, HS3⟩
   case measure => simp [intOf]
  ·have HFI : Hid (Fine (T + 3) (sendAll { s with rs := s.rs.set k q } k [o0, o1] fa)) := Lib.hid ((HF1.out.send fa (by omega) hl0).send fa (by omega) hl1)
   have k6' := Lib.hid k6
   have HI2 : Hid (SyIn w0 B x L (sendAll { s with rs := s.rs.set k q } k [o0, o1] fa) wr) := HI
   clear hO k5 HI
   cases ok with
   | false =>
    go_wp2
    go_ret
    refine ⟨⟨_, rfl, trivial⟩, ?_, HS.out⟩
    rw [HE.out]
    exact HI2.out
   | true =>
    go_wp2_with (first
     | (refine wpList_load_row rfl 35 (.tmp 6) rfl (g5 + 1) rfl 35 (frC fb) (0, 0) _ k6 Try.underlying35 rfl hsb.out ?_)
     | (go_at_call 57; refine (in_send HI2.out HFI.out (by omega) k 3 fb HW.out.2).mono ?_; rintro e wb ⟨⟨v, rfl, rfl⟩, hin2, hst2⟩; have HI3 := Lib.hid hin2; have HS3 := Lib.hid (HS.out.trans hst2)))
    go_ret
    refine ⟨⟨_, rfl, trivial⟩, ?_, HS3.out⟩
    rw [HE.out]
    exact HI3.out
end
end Go.Proofs.Ytdhekhlmdefcnab
namespace Go.Proofs.Ytdhekhlmdefcnab
open Go.RowKit
section
variable {w0 w w1 : World} {B : Nat} {x : SyX} {L : Lay} {s : Sys} {T : Nat}
theorem wayL_one : ∀ (l : List Gram) (vs : List Value), (∀ v ∈ vs, v.oneCell' = true) → ∀ u ∈ wayL l vs, u.oneCell' = true
 | [], _, _, u, hu => by simp [wayL] at hu
 | _ :: _, [], _, u, hu => by simp [wayL] at hu
 | g :: l, v :: vs, h, u, hu => by
  rcases List.mem_cons.1 hu with rfl | hu
  ·rfl
  rcases List.mem_cons.1 hu with rfl | hu
  ·rfl
  rcases List.mem_cons.1 hu with rfl | hu
  ·exact h _ (List.mem_cons_self ..)
  ·exact wayL_one l vs (fun v hv => h v (List.mem_cons_of_mem _ hv)) u hu
theorem SyAt.ones (h : SyAt w B x L s) : ∀ u ∈ wayL s.way x.vs, u.oneCell' = true := wayL_one _ _ fun v hv => by
 obtain ⟨i, hi, e⟩ := List.getElem_of_mem hv
 have hi2 : i < s.way.length := by rw [← h.len]; exact hi
 obtain ⟨A, c, hvv, _⟩ := h.bytes i s.way[i] v (List.getElem?_eq_getElem hi2) (by rw [List.getElem?_eq_getElem hi, e])
 rw [hvv]; rfl
theorem wayL_erase (l : List Gram) (vs : List Value) (i : Nat) (h : vs.length = l.length) : (wayL l vs).take (i * 3) ++ (wayL l vs).drop ((i + 1) * 3) = wayL (l.eraseIdx i) (vs.eraseIdx i) := by
 rw [wayL_take _ _ _ h, wayL_drop _ _ _ h, ← wayL_two _ _ _ _ (by rw [List.length_take, List.length_take, h]), List.eraseIdx_eq_take_drop_succ, List.eraseIdx_eq_take_drop_succ]
theorem SyAt.erase (h : SyAt w B x L s) {i : Nat} (hi : i < s.way.length) {v' : Value} (hb : v'.ownBlock = x.vw.ownBlock)
  (ho : w1.ownsRow B 109 3 v' (s.way.length - 1) ((wayL s.way x.vs).take (i * 3) ++ (wayL s.way x.vs).drop ((i + 1) * 3))) (ht : Turned (fun b => x.vw.ownBlock = some b) w w1) :
  SyAt (w1.setCell ⟨x.g, 7, none⟩ v') B { x with vw := v', vs := x.vs.eraseIdx i } L { s with way := s.way.eraseIdx i } ∧ Moved w (w1.setCell ⟨x.g, 7, none⟩ v') x { x with vw := v', vs := x.vs.eraseIdx i } := by
 have hx1 : Has w1 x.g 86 (syC x L s) := h.has.turned ht (fun e => own_has_ne h.way h.has (by decide) e)
 have htt : Turned (fun b => b = x.g ∨ x.vw.ownBlock = some b) w (w1.setCell ⟨x.g, 7, none⟩ v') := (ht.mono fun b _ e => .inr e).setCell _ _ (.inl (.inl rfl))
 have hF : ∀ b, (b = x.g ∨ x.vw.ownBlock = some b) → Mut w b := fun b e => h.mut (e.elim .inl fun e => .inr (.inr (.inr e)))
 have hi' : i < x.vs.length := by rw [h.len]; exact hi
 refine h.setWay (vw' := v') (vs' := x.vs.eraseIdx i) (way' := s.way.eraseIdx i) (lost' := s.lost) htt (hx1.set 7 v') ?_ ?_ (fun b hb' => .inl (by rw [← hb]; exact hb')) (fun j gm v e1 e2 => ?_)
 ·have := own_far ho hx1 (by decide) 7 v'
  rw [wayL_erase _ _ _ h.len] at this
  rw [List.length_eraseIdx_of_lt hi]
  exact this
 ·rw [List.length_eraseIdx_of_lt hi, List.length_eraseIdx_of_lt hi', h.len]
 ·rw [List.getElem?_eraseIdx] at e1 e2
  split at e1
  ·rename_i hlt
   rw [if_pos hlt] at e2
   exact (h.bytes _ _ _ e1 e2).keepT htt hF
  ·rename_i hlt
   rw [if_neg hlt] at e2
   exact (h.bytes _ _ _ e1 e2).keepT htt hF
set_option maxHeartbeats 1000000 in
theorem sy_lose (h : SyAt w B x L s) (i : Nat) (hi : i < s.way.length ∨ s.way.length = 0) (h120 : s.way.length ≤ 120) : Calls Try.prog 32 #[.pointer (some ⟨x.g, 0, none⟩), I i] w (SysDone w B x L (sysLose s i)) := by
 obtain ⟨A, c, hv, c7⟩ := h.wcell
 have hg := h.has.lt
 have HH := Lib.hid h
 have HV := Lib.hid hv
 rcases hi with hi | h0
 ·have hii : ¬ s.way.length ≤ i := by omega
  have ho := h.way
  rw [hv] at ho
  have HC := Lib.hid (del_gram ho h.ones i hi)
  have f7 := h.has.free 7
  have HI := Lib.hid hi
  clear h hv ho hi
  go_enter Try.func32, Try.ntmps32
  go_wp2_with (go_at_call 59; refine HC.out.mono ?_; rintro e w1 ⟨⟨v', rfl, hb, ho⟩, ht⟩; obtain ⟨A', c', rfl, -, -, -, -⟩ := own_read ho; rw [← HV.out] at hb ht; have HE := Lib.hid (HH.out.erase HI.out hb ho ht); have hx1 : Has w1 x.g 86 (syC x L s) := HH.out.has.turned ht (fun e => own_has_ne HH.out.way HH.out.has (by decide) e); have d7 := hx1.cellv 7 _ rfl; have g7 := hx1.free 7; clear hb ho ht hx1)
  go_ret
  exact ⟨⟨_, rfl⟩, _, HE.out⟩
 ·have hii : s.way.length ≤ i := by omega
  have HE : Hid (sysLose s i = s) := Lib.hid (by
   unfold sysLose
   rw [List.eraseIdx_of_length_le hii])
  clear h hv
  go_enter Try.func32, Try.ntmps32
  go_wp2
  go_ret
  exact ⟨⟨_, rfl⟩, x, by rw [HE.out]; exact HH.out, Moved.refl w x⟩
theorem in_lose (h : SyIn w0 B x L s w) (hf : Fine T s) (i : Nat) (hi : i < s.way.length ∨ s.way.length = 0) : Calls Try.prog 32 #[.pointer (some ⟨x.g, 0, none⟩), I i] w (InPost w0 B x L w (fun _ => True) (sysLose s i)) := by
 obtain ⟨x1, h1, hm, hB⟩ := h
 have hc := sy_lose h1 i hi hf.way
 rw [hm.same] at hc
 refine hc.mono ?_
 rintro e w' ⟨⟨v, he⟩, x2, h2, hm2⟩
 exact ⟨⟨_, he, trivial⟩, SyIn.next h1 hm hB h2 hm2⟩
end
end Go.Proofs.Ytdhekhlmdefcnab
namespace Go.Proofs.Ytdhekhlmdefcnab
open Go.RowKit
theorem newCells (k gc : Nat) : (#[I (k : Int), .pointer (some ⟨gc, 0, none⟩), I 0, I 0, I 0, I 0, I 0, I 0, I 0, I 0, I 0, I 0, I 0, I 0, I 0, I 0, I 0, I 0, I 0, I 0, I 0, I 0, I 0, I 0, I 0, I 0, I 0, I 0, .bool false, .bool false, .bool false, I 0, I 0, I 0, I 0, I 0, I 0, I 0, I 0, I 0, I 0, I 0, I 0, I 0, I 0, I 0, I 0, I 0, I 0, I 0, I 0, I 0, .bool false, I 0, I 0, I 0, I 0, I 0, I 0, I 0, I 0, I 0, I 0, I 0, I 0, I 0, I 0, I 0, I 0, I 0, I 0, .bool false, I 0, I 0, I 0, I 0, I 0, I 0, I 0, I 0, I 0, I 0, I 0, I 0, I 0, I 0, I 0, I 0, I 0, I 0, .bool false, I 0, I 0] : Array Value) = cellsOf 93 (reF (Re.new k) gc) := by
 unfold cellsOf
 congr 1
def MadeRep (w : World) (L : Lay) (r : Re) (e : Ending) (w' : World) : Prop :=
 (∃ g gc, w.heap.size ≤ g ∧ e = .returned (.tuple #[.pointer (some ⟨g, 0, none⟩), .nilIface]) ∧ RepAt w' g gc L r) ∧ Below w.heap.size w w'
set_option maxHeartbeats 4000000 in
set_option maxRecDepth 100000 in
theorem re_new (k : Nat) (hk : k < 3) (A : Option Addr) (n c : Nat) (L : Lay) (w : World) (hL : L.Ok) (hxn : Hid (L.routes.length = n)) (hc : n ≤ c) (hr : Reads w w.heap.size A (ints (zs L.routes))) :
  Calls Try.prog 53 #[I (k : Int), .agg #[I L.secs, .slice A n c, I L.delay]] w (MadeRep w L (Re.new k)) := by
 have hb1 : Below w.heap.size w (w.alloc (.cells #[I L.secs, .slice A n c, I L.delay] 43)) := (Below.refl _ _).alloc (Nat.le_refl _) _
 have k0 := Has.new w 43 #[I L.secs, .slice A n c, I L.delay]
 have hr1 := hr.below hb1
 clear hr
 go_enter Try.func53, Try.ntmps53
 go_upto_region 1 with fail
 generalize w.alloc (.cells #[I L.secs, .slice A n c, I L.delay] 43) = w1 at *
 have hl := k0.lt
 generalize hG : w.heap.size = g0 at *
 have HG := Lib.hid hG
 clear hG
 have c0 := k0.cellv 0 _ rfl
 have c1 := k0.cellv 1 _ rfl
 have c2 := k0.cellv 2 _ rfl
 have HC : Hid (Calls Try.prog 18 #[.agg #[I L.secs, .slice A n c, I L.delay]] w1 fun e w' => (∃ g, w1.heap.size ≤ g ∧ e = .returned (.tuple #[.pointer (some ⟨g, 0, none⟩), .nilIface]) ∧ CoreAt w' g L) ∧ Below w1.heap.size w1 w') := Lib.hid (new_ok A n c L w1 hL hxn hc (hr1.more (Nat.le_of_lt hl)))
 go_upto_region 6 with (go_at_call 18; refine HC.out.mono ?_; rintro e w2 ⟨⟨gc, hgc, rfl, hca⟩, hb2⟩)
 clear c0 c1 c2 HC
 have hb3 : Below g0 w w2 := hb1.trans (hb2.mono (by omega))
 have hg2 := hb2.size
 have HX := Lib.hid (newCells k gc)
 have HN := Has.new w2 136 #[I (k : Int), .pointer (some ⟨gc, 0, none⟩), I 0, I 0, I 0, I 0, I 0, I 0, I 0, I 0, I 0, I 0, I 0, I 0, I 0, I 0, I 0, I 0, I 0, I 0, I 0, I 0, I 0, I 0, I 0, I 0, I 0, I 0, .bool false, .bool false, .bool false, I 0, I 0, I 0, I 0, I 0, I 0, I 0, I 0, I 0, I 0, I 0, I 0, I 0, I 0, I 0, I 0, I 0, I 0, I 0, I 0, I 0, .bool false, I 0, I 0, I 0, I 0, I 0, I 0, I 0, I 0, I 0, I 0, I 0, I 0, I 0, I 0, I 0, I 0, I 0, I 0, .bool false, I 0, I 0, I 0, I 0, I 0, I 0, I 0, I 0, I 0, I 0, I 0, I 0, I 0, I 0, I 0, I 0, I 0, I 0, .bool false, I 0, I 0]
 rw [HX.out] at HN
 have hb4 : Below w2.heap.size w2 (w2.alloc (.cells #[I (k : Int), .pointer (some ⟨gc, 0, none⟩), I 0, I 0, I 0, I 0, I 0, I 0, I 0, I 0, I 0, I 0, I 0, I 0, I 0, I 0, I 0, I 0, I 0, I 0, I 0, I 0, I 0, I 0, I 0, I 0, I 0, I 0, .bool false, .bool false, .bool false, I 0, I 0, I 0, I 0, I 0, I 0, I 0, I 0, I 0, I 0, I 0, I 0, I 0, I 0, I 0, I 0, I 0, I 0, I 0, I 0, I 0, .bool false, I 0, I 0, I 0, I 0, I 0, I 0, I 0, I 0, I 0, I 0, I 0, I 0, I 0, I 0, I 0, I 0, I 0, I 0, .bool false, I 0, I 0, I 0, I 0, I 0, I 0, I 0, I 0, I 0, I 0, I 0, I 0, I 0, I 0, I 0, I 0, I 0, I 0, .bool false, I 0, I 0] 136)) := (Below.refl _ _).alloc (Nat.le_refl _) _
 have HN' := Lib.hid HN
 have hb5 := hb3.trans (hb4.mono (by omega))
 have HB5 := Lib.hid hb5
 have HCA := Lib.hid (hca.after hb4)
 clear HN hb4 hca hb5
 go_wp2_with fail
 go_ret2
 exact ⟨⟨_, gc, by rw [HG.out]; omega, rfl, HN'.out, HCA.out⟩, HG.out ▸ HB5.out⟩
end Go.Proofs.Ytdhekhlmdefcnab
namespace Go.Proofs.Ytdhekhlmdefcnab
open Go.RowKit
section
variable {w0 w w1 : World} {B : Nat} {x : SyX} {L : Lay} {s : Sys} {T : Nat}
structure GramAt (w : World) (x : SyX) (s : Sys) (i : Nat) (g : Gram) (gw c : Nat) (v : Value) : Prop where
 get : s.way[i]? = some g
 vw : x.vw = .slice (some ⟨gw, 0, none⟩) s.way.length c
 le : s.way.length ≤ c
 c0 : w.cell? ⟨gw, i * 3, none⟩ = some (I g.src)
 c1 : w.cell? ⟨gw, i * 3 + 1, none⟩ = some (I g.dst)
 c2 : w.cell? ⟨gw, i * 3 + 2, none⟩ = some v
 bytes : BAt w v g.bytes
theorem SyAt.gram (h : SyAt w B x L s) {i : Nat} (hi : i < s.way.length) : ∃ g gw c v, GramAt w x s i g gw c v := by
 have hi' : i < x.vs.length := by rw [h.len]; exact hi
 have e1 : s.way[i]? = some s.way[i] := List.getElem?_eq_getElem hi
 have e2 : x.vs[i]? = some x.vs[i] := List.getElem?_eq_getElem hi'
 obtain ⟨a0, a1, a2⟩ := wayL_get _ _ _ _ _ e1 e2
 have ho := h.way
 rcases ho.2 with ⟨_, hn⟩ | ⟨g, cap, cur, hv, _, hh, hc, _, _, ht⟩
 ·omega
 ·have kg : Has w g 109 cur := hh
  have get : ∀ j u, j < s.way.length * 3 → (wayL s.way x.vs)[j]? = some u → w.cell? ⟨g, j, none⟩ = some u := fun j u hj hu => by
   rw [← ht, List.getElem?_take, if_pos hj] at hu
   rw [kg.cell]
   simpa using hu
  exact ⟨_, g, cap, _, e1, hv, hc, get _ _ (by omega) a0, get _ _ (by omega) a1, get _ _ (by omega) a2, h.bytes _ _ _ e1 e2⟩
set_option maxHeartbeats 2000000 in
theorem sy_twice (h : SyAt w B x L s) (hB : B ≤ w.heap.size) (hf : Fine T s) (hT : T ≤ 9999999990) (i : Nat) (hi : i < s.way.length ∨ s.way.length = 0) : Calls Try.prog 33 #[.pointer (some ⟨x.g, 0, none⟩), I i] w (SysDone w B x L (sysTwice s i)) := by
  obtain ⟨A, c, hv, c7⟩ := h.wcell
  have hg := h.has.lt
  have HH := Lib.hid h
  have HF := Lib.hid hf
  rcases hi with hi | h0
  · have hii : ¬ s.way.length ≤ i := by omega
    obtain ⟨gm, gw, c', v, hgm⟩ := h.gram hi
    have hAB : A = some ⟨gw, 0, none⟩ ∧ c = c' := by
      have := hv.symm.trans hgm.vw
      injection this with h1 h2 h3
      exact ⟨h1, h3⟩
    obtain ⟨rfl, rfl⟩ := hAB
    have HE : Hid (sysTwice s i = sysPut s gm) := Lib.hid (by unfold sysTwice; rw [hgm.get])
    have HG80 := Lib.hid (HF.out.gram gm (List.mem_of_getElem? hgm.get)).2.2
    have g0 := hgm.c0
    have g1 := hgm.c1
    have g2 := hgm.c2
    have hvo : v.oneCell' = true := by obtain ⟨A2, c2, rfl, _⟩ := hgm.bytes; rfl
    obtain ⟨A2, c2, hv2, hc2, hrd⟩ := hgm.bytes.reads
    subst hv2
    have HB2 := Lib.hid hgm.bytes
    have HRD := Lib.hid hrd
    have hgw := HH.out.has
    have hib : i + 1 ≤ s.way.length := hi
    clear h hf hv hgm hrd hgw hi
    go_enter Try.func33, Try.ntmps33
    go_upto_region 4 with (fail)
    have kb := Has.new w 109 #[I gm.src, I gm.dst, .slice A2 gm.bytes.length c2]
    have hbA : Below w.heap.size w (w.alloc (.cells #[I gm.src, I gm.dst, .slice A2 gm.bytes.length c2] 109)) := (Below.refl _ _).alloc (Nat.le_refl _) _
    have hszA : (w.alloc (.cells #[I gm.src, I gm.dst, .slice A2 gm.bytes.length c2] 109)).heap.size = w.heap.size + 1 := by simp
    generalize w.alloc (.cells #[I gm.src, I gm.dst, .slice A2 gm.bytes.length c2] 109) = wA at *
    generalize hG : w.heap.size = gb at *
    have HG := Lib.hid hG
    have HCL := Lib.hid (clone_u8 (w := wA) A2 gm.bytes.length c2 gm.bytes rfl (by have := HG80.out; omega) (HRD.out.below hbA |>.more (by omega)))
    have HBA := Lib.hid hbA
    have hb2 := kb.cellv 2 _ rfl
    have hgl := kb.lt
    clear g0 g1 g2 c7 hbA hG HRD hg
    go_wp2_with (first
      | (go_at_call 63; refine HCL.out.mono ?_; rintro e wB ⟨⟨v', rfl, ho⟩, hbB⟩; have kB := kb.after hbB; have d0 := kB.cellv 0 _ rfl; have d1 := kB.cellv 1 _ rfl; have d2 := kB.cellv 2 _ rfl; have f2 := kB.free 2; have HO := Lib.hid (BAt.of_own ho); obtain ⟨A', c', rfl, -, -, -, -⟩ := own_read ho; have hglB := kB.lt; have KB := Lib.hid kB; have HBB := Lib.hid hbB; clear ho hbB kB kb hb2)
      | (go_at_call 64
         have hbC := HBA.out.trans (HBB.out.mono (by omega : gb ≤ wA.heap.size))
         have hbD : Below gb w (wB.setCell ⟨gb, 2, none⟩ (.slice A' gm.bytes.length c')) := hbC.setCell (Nat.le_refl _) _
         have HBD := Lib.hid hbD
         have HY : SyAt (wB.setCell ⟨gb, 2, none⟩ (.slice A' gm.bytes.length c')) B x L s := HH.out.after (by rw [HG.out]; exact hbD)
         have HV : BAt (wB.setCell ⟨gb, 2, none⟩ (.slice A' gm.bytes.length c')) (.slice A' gm.bytes.length c') gm.bytes := HO.out.keep fun g cs hh => hh.far (hh.ne KB.out (by decide)) _
         refine (sy_put HY (by have := hbD.size; rw [HG.out] at this; omega) HF.out.way (Nat.le_trans HF.out.lost (by omega)) gm _ HV).mono ?_
         rintro e wE ⟨rfl, x2, hy2, hm2⟩
         have HP := Lib.hid (And.intro hy2 hm2)
         clear hy2 hm2 HY HV hbC hbD))
    go_ret
    refine ⟨⟨_, rfl⟩, x2, by rw [HE.out]; exact HP.out.1, (Moved.of_below (by rw [HG.out]; exact HBD.out)).trans HP.out.2⟩
  · have hii : s.way.length ≤ i := by omega
    have HE : Hid (sysTwice s i = s) := Lib.hid (by
      unfold sysTwice
      rw [List.getElem?_eq_none hii])
    clear h hv hf
    go_enter Try.func33, Try.ntmps33
    go_wp2
    go_ret
    exact ⟨⟨_, rfl⟩, x, by rw [HE.out]; exact HH.out, Moved.refl w x⟩
def upd (f : Nat → Nat) (k v : Nat) (j : Nat) : Nat := if j = k then v else f j
theorem SyAt.crash (h : SyAt w B x L s) (hB : B ≤ w.heap.size) {k : Nat} (hk : k < 3) (hb : Below w.heap.size w w1) {gr gc : Nat} (hgr : w.heap.size ≤ gr) {r : Re} (hr : RepAt w1 gr gc L r) :
  SyAt (w1.setCell ⟨x.g, 3 + k, none⟩ (.pointer (some ⟨gr, 0, none⟩))) B { x with rb := upd x.rb k gr, cb := upd x.cb k gc } L { s with rs := s.rs.set k r } ∧
  Moved w (w1.setCell ⟨x.g, 3 + k, none⟩ (.pointer (some ⟨gr, 0, none⟩))) x { x with rb := upd x.rb k gr, cb := upd x.cb k gc } := by
 have h1 := h.after hb
 have ht : Turned (fun b => b = x.g) w1 (w1.setCell ⟨x.g, 3 + k, none⟩ (.pointer (some ⟨gr, 0, none⟩))) := (Turned.refl _ _).setCell _ _ (.inl rfl)
 have hF : ∀ b, b = x.g → Mut w1 b := fun b e => h1.mut (.inl e)
 have hset := h1.has.set (3 + k) (.pointer (some ⟨gr, 0, none⟩))
 have hcells : (syC x L s).setIfInBounds (3 + k) (.pointer (some ⟨gr, 0, none⟩)) = syC { x with rb := upd x.rb k gr, cb := upd x.cb k gc } L { s with rs := s.rs.set k r } := by
  have : k = 0 ∨ k = 1 ∨ k = 2 := by omega
  rcases this with rfl | rfl | rfl <;> rfl
 rw [hcells] at hset
 have hlt : ∀ j, j < 3 → x.rb j < w.heap.size := fun j hj => (h.rep j hj).has.lt
 refine ⟨⟨hset, own_keepT h1.routes ht hF (by decide), by simp [h1.n3], fun j hj => ?_, fun i j hi hj e => ?_, h1.vo.turned ht ?_, own_turned h1.way ht (fun q hq e => own_has_ne h1.way h1.has (by decide) (by rw [hq, e])), h1.len, fun i gm v e1 e2 => (h1.bytes i gm v e1 e2).keepT ht hF, h1.low, fun j hj => ?_⟩, ⟨(Turned.of_below hb _).trans ht fun b _ e => .inl e, fun b hf => ?_, rfl⟩⟩
 ·rw [sy_re_set h1.n3 hk]
  show RepAt _ (upd x.rb k gr j) (upd x.cb k gc j) L _
  unfold upd
  by_cases e : j = k
  ·subst e
   rw [if_pos rfl, if_pos rfl, if_pos rfl]
   exact hr.keepT ht hF fun e => hr.has.ne h1.has (by decide) e
  ·rw [if_neg e, if_neg e, if_neg e]
   exact (h1.rep j hj).keepT ht hF fun e2 => (h1.rep j hj).has.ne h1.has (by decide) e2
 ·change upd x.rb k gr i = upd x.rb k gr j at e
  unfold upd at e
  have hi' := hlt i hi
  have hj' := hlt j hj
  split at e
  ·split at e
   ·omega
   ·omega
  ·split at e
   ·omega
   ·exact h1.apart i j hi hj e
 ·rintro b (rfl | hb') e
  ·exact h1.vo.has.ne h1.has (by decide) e
  ·exact own_has_ne h1.vo.own h1.has (by decide) (by rw [hb', e])
 ·show B ≤ upd x.rb k gr j
  unfold upd
  split
  ·omega
  ·exact h1.lows j hj
 ·rcases hf with e | ⟨j, hj, e⟩ | e | e
  ·exact .inl (.inl e)
  ·change b = upd x.rb k gr j at e
   unfold upd at e
   split at e
   ·exact .inr (by omega)
   ·exact .inl (.inr (.inl ⟨j, hj, e⟩))
  ·exact .inl (.inr (.inr (.inl e)))
  ·exact .inl (.inr (.inr (.inr e)))
set_option maxHeartbeats 2000000 in
theorem sy_crash (h : SyAt w B x L s) (hB : B ≤ w.heap.size) (hL : L.Ok) (k : Nat) (hk : k < 3) : Calls Try.prog 35 #[.pointer (some ⟨x.g, 0, none⟩), I k] w (SysDone w B x L (sysCrash s k)) := by
 have hg := h.has.lt
 have HH := Lib.hid h
 have HK := Lib.hid hk
 have HBS := Lib.hid hB
 have hki : (k : Int) < 3 := by omega
 have hk1 : k ≤ 1000 := by omega
 have HD := Lib.hid (show decide (k < 3) = true by simpa using hk)
 obtain ⟨A, c, hvr, hc, hl, hrd⟩ := own_reads h.routes
 have c0 := h.cell 0 (I L.secs) rfl
 have c1 : w.cell? ⟨x.g, 1, none⟩ = some (.slice A L.routes.length c) := by rw [← hvr]; exact h.cell 1 x.vr rfl
 have c2 := h.cell 2 (I L.delay) rfl
 have HDR := Lib.hid (h.after ((Below.refl _ _).drew))
 have HCL := Lib.hid (re_new k hk A L.routes.length c L w.drew hL (Lib.hid rfl) hc hrd)
 clear h hvr hl hrd hk hB
 go_enter Try.func35, Try.ntmps35
 go_upto_region 3 with (go_at_call 43; refine (right_nat k hk1).mono ?_; rintro e w' ⟨rfl, rfl⟩; rw [HD.out])
 go_cut [] (fun wx => Hid (∃ x2, SyAt wx B x2 L (sysCrash s k) ∧ Moved w wx x x2))
 case first =>
  go_region_with (go_at_call 53; refine HCL.out.mono ?_; rintro e wn ⟨⟨gr, gc, hgr, rfl, hr⟩, hb⟩; have dk := (HDR.out.after hb).rcell HK.out; have fk := (HDR.out.after hb).has.free (3 + k); have HEE := Lib.hid (HDR.out.crash HBS.out HK.out hb hgr hr); clear hgr hr hb)
  all_goals
   go_wp2_with fail
   go_meet
   case rel => exact Lib.hid ⟨_, HEE.out.1, (Moved.of_below ((Below.refl _ _).drew)).trans HEE.out.2⟩
 case rest =>
  go_wp2
  go_ret
  obtain ⟨x2, h2, h3⟩ := hcut.out
  exact ⟨⟨_, rfl⟩, x2, h2, h3⟩
end
end Go.Proofs.Ytdhekhlmdefcnab
namespace Go.Proofs.Ytdhekhlmdefcnab
open Go.RowKit
section
variable {w0 w w1 : World} {B : Nat} {x : SyX} {L : Lay} {s : Sys} {T : Nat}
set_option maxHeartbeats 8000000 in
theorem in_says (h : SyIn w0 B x L s w) (hf : Fine T s) (hT : T ≤ 9999999990) (k dst : Nat) (hk : k < 3) (hd : dst ≤ 3) (A : Option Addr) (c : Nat) (l : List UInt8) (_hc : l.length ≤ c) (hr : Reads w w.heap.size A (bytes l)) (hl : l.length ≤ 1000) :
  Calls Try.prog 37 #[.pointer (some ⟨x.g, 0, none⟩), I k, I dst, .slice A l.length c] w (InPost w0 B x L w (fun _ => True) (sysSays s k dst l)) := by
 have hg := h.lt
 have HH := Lib.hid h
 have HF := Lib.hid hf
 have HR := Lib.hid hr
 have HD := Lib.hid (show decide (k < 3) = true by simpa using hk)
 have hk1 : k ≤ 1000 := by omega
 have hd1 : dst ≤ 1000 := by omega
 by_cases e : k = dst
 ·subst e
  have HE : Hid (sysSays s k k l = s) := Lib.hid (by unfold sysSays; rw [if_pos (.inl rfl)])
  clear h hf hr hk hd
  go_enter Try.func37, Try.ntmps37
  go_wp2_with (go_at_call 43; refine (right_nat k hk1).mono ?_; rintro e w' ⟨rfl, rfl⟩; rw [HD.out])
  go_ret
  exact ⟨⟨_, rfl, trivial⟩, by rw [HE.out]; exact HH.out, Stay.refl w⟩
 ·have hne : ((k : Int) == (dst : Int)) = false := by simpa using (fun h => e (by omega) : ¬ (k : Int) = (dst : Int))
  by_cases h80 : 80 < l.length
  ·have HE : Hid (sysSays s k dst l = s) := Lib.hid (by unfold sysSays; rw [if_pos (.inr h80)])
   have h80i : (80 : Int) < (l.length : Int) := by omega
   clear e
   by_cases hd3 : dst < 3
   ·have HD2 := Lib.hid (show decide (dst < 3) = true by simpa using hd3)
    clear h hf hr hk hd hd3 h80
    go_enter Try.func37, Try.ntmps37
    go_wp2_with (go_at_call 43; first | (refine (right_nat k hk1).mono ?_; rintro e w' ⟨rfl, rfl⟩; rw [HD.out]) | (refine (right_nat dst hd1).mono ?_; rintro e w' ⟨rfl, rfl⟩; rw [HD2.out]))
    go_ret
    exact ⟨⟨_, rfl, trivial⟩, by rw [HE.out]; exact HH.out, Stay.refl w⟩
   ·have HD2 := Lib.hid (show decide (dst < 3) = false by simpa using hd3)
    have e3 : dst = 3 := by omega
    subst e3
    clear h hf hr hk hd hd3 h80
    go_enter Try.func37, Try.ntmps37
    go_wp2_with (go_at_call 43; first | (refine (right_nat k hk1).mono ?_; rintro e w' ⟨rfl, rfl⟩; rw [HD.out]) | (refine (right_nat 3 hd1).mono ?_; rintro e w' ⟨rfl, rfl⟩; rw [HD2.out]))
    go_ret
    exact ⟨⟨_, rfl, trivial⟩, by rw [HE.out]; exact HH.out, Stay.refl w⟩
  ·have HE : Hid (sysSays s k dst l = sysPut s ⟨k, dst, l⟩) := Lib.hid (by unfold sysSays; rw [if_neg (by rintro (h | h); exact e h; exact h80 h)])
   have h80i : ¬ (80 : Int) < (l.length : Int) := by omega
   have HCL := Lib.hid (clone_u8 (w := w) A l.length c l rfl hl hr)
   clear e
   by_cases hd3 : dst < 3
   ·have HD2 := Lib.hid (show decide (dst < 3) = true by simpa using hd3)
    clear h hf hr hk hd hd3 h80
    go_enter Try.func37, Try.ntmps37
    go_wp2_with (first
     | (go_at_call 43; first | (refine (right_nat k hk1).mono ?_; rintro e w' ⟨rfl, rfl⟩; rw [HD.out]) | (refine (right_nat dst hd1).mono ?_; rintro e w' ⟨rfl, rfl⟩; rw [HD2.out]))
     | (go_at_call 63; refine HCL.out.mono ?_; rintro e wa ⟨⟨v', rfl, ho⟩, hb⟩; have HI := Lib.hid (HH.out.after hb); have HB := Lib.hid (BAt.of_own ho); have HS := Lib.hid (Stay.below hb); obtain ⟨A', c', rfl, -, -, -, -⟩ := own_read ho; clear ho hb)
     | (go_at_call 64; refine (in_put HI.out HF.out (by omega) ⟨k, dst, l⟩ _ HB.out).mono ?_; rintro e wb ⟨⟨v, rfl, rfl⟩, hin2, hst2⟩))
    go_ret
    exact ⟨⟨_, rfl, trivial⟩, by rw [HE.out]; exact hin2, HS.out.trans hst2⟩
   ·have HD2 := Lib.hid (show decide (dst < 3) = false by simpa using hd3)
    have e3 : dst = 3 := by omega
    subst e3
    clear h hf hr hk hd hd3 h80
    go_enter Try.func37, Try.ntmps37
    go_wp2_with (first
     | (go_at_call 43; first | (refine (right_nat k hk1).mono ?_; rintro e w' ⟨rfl, rfl⟩; rw [HD.out]) | (refine (right_nat 3 hd1).mono ?_; rintro e w' ⟨rfl, rfl⟩; rw [HD2.out]))
     | (go_at_call 63; refine HCL.out.mono ?_; rintro e wa ⟨⟨v', rfl, ho⟩, hb⟩; have HI := Lib.hid (HH.out.after hb); have HB := Lib.hid (BAt.of_own ho); have HS := Lib.hid (Stay.below hb); obtain ⟨A', c', rfl, -, -, -, -⟩ := own_read ho; clear ho hb)
     | (go_at_call 64; refine (in_put HI.out HF.out (by omega) ⟨k, 3, l⟩ _ HB.out).mono ?_; rintro e wb ⟨⟨v, rfl, rfl⟩, hin2, hst2⟩))
    go_ret
    exact ⟨⟨_, rfl, trivial⟩, by rw [HE.out]; exact hin2, HS.out.trans hst2⟩
end
end Go.Proofs.Ytdhekhlmdefcnab
