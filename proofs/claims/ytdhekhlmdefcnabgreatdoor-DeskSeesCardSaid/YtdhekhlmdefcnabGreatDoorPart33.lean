/- Part 33 of the proof: SyDel, SyCalm. -/
import Derived.Test.YtdhekhlmdefcnabGreatDoorPart29
import Derived.Deep.RegionHeld3
namespace Go.Proofs.YtdhekhlmdefcnabGreatDoor
open Go.RowKit
section
variable {w0 w w1 w' : World} {B : Nat} {x : SyX} {L : Lay} {s s' : Sys} {T : Nat}
def DIn (w0 : World) (B : Nat) (x : SyX) (L : Lay) (gb : Nat) (cs : Array Value) (s : Sys) (w : World) : Prop := ∃ x1, SyAt w B x1 L s ∧ Moved w0 w x x1 ∧ B ≤ w.heap.size ∧ Has w gb 132 cs ∧ ¬ FS x1 gb
theorem DIn.sy {gb : Nat} {cs : Array Value} (h : DIn w0 B x L gb cs s w) : SyIn w0 B x L s w := by
 obtain ⟨x1, h1, h2, h3, _⟩ := h
 exact ⟨x1, h1, h2, h3⟩
theorem DIn.box {gb : Nat} {cs : Array Value} (h : DIn w0 B x L gb cs s w) : Has w gb 132 cs := by
 obtain ⟨_, _, _, _, h4, _⟩ := h
 exact h4
theorem DIn.after {gb : Nat} {cs : Array Value} (h : DIn w0 B x L gb cs s w) (hb : Below w.heap.size w w') : DIn w0 B x L gb cs s w' := by
 obtain ⟨x1, h1, h2, h3, h4, h5⟩ := h
 exact ⟨x1, h1.after hb, h2.trans (Moved.of_below hb), Nat.le_trans h3 hb.size, h4.after hb, h5⟩
theorem DIn.next {gb : Nat} {cs : Array Value} {x1 x2 : SyX} (h1 : SyAt w B x1 L s) (hm : Moved w0 w x x1) (hB : B ≤ w.heap.size) (hg : Has w gb 132 cs) (hn : ¬ FS x1 gb) (h2 : SyAt w' B x2 L s') (hm2 : Moved w w' x1 x2) :
  DIn w0 B x L gb cs s' w' ∧ Stay w w' := by
 obtain ⟨k1, k2⟩ := hm2.keep hg hn
 exact ⟨⟨x2, h2, hm.trans hm2, Nat.le_trans hB hm2.size, k1, k2⟩, h1.stay hm2⟩
theorem din_send {gb : Nat} {cs : Array Value} (h : DIn w0 B x L gb cs s w) (hf : Fine T s) (hT : T ≤ 10000000000) (a b : Nat) (f : List Int) (hw : Wf f) :
  Calls Tryz.prog 43 #[.pointer (some ⟨x.g, 0, none⟩), I a, I b, .agg (frC f)] w fun e w' => e = .returned (.tuple #[]) ∧ DIn w0 B x L gb cs (sysSend s a b f) w' ∧ Stay w w' := by
 obtain ⟨x1, h1, hm, hB, hg, hn⟩ := h
 have hc := sy_send h1 hB hf.way (Nat.le_trans hf.lost hT) a b f hw
 rw [hm.same] at hc
 refine hc.mono ?_
 rintro e w' ⟨he, x2, h2, hm2⟩
 exact ⟨he, DIn.next h1 hm hB hg hn h2 hm2⟩
theorem DIn.rep {gb : Nat} {cs : Array Value} (h : DIn w0 B x L gb cs s w) {k : Nat} (hk : k < 3) : ∃ gr gc, w.cell? ⟨x.g, 3 + k, none⟩ = some (.pointer (some ⟨gr, 0, none⟩)) ∧ RepAt w gr gc L (re s k) ∧
  ∀ (w' : World) (r : Re), Turned (fun b => b = gr) w w' → RepAt w' gr gc L r → DIn w0 B x L gb cs { s with rs := s.rs.set k r } w' ∧ Stay w w' := by
 obtain ⟨x1, h1, hm, hB, hg, hn⟩ := h
 refine ⟨x1.rb k, x1.cb k, by rw [← hm.same]; exact h1.rcell hk, h1.rep k hk, fun w' r ht hr => ?_⟩
 obtain ⟨h2, hm2⟩ := h1.setRep hk ht hr
 exact DIn.next h1 hm hB hg hn h2 hm2
theorem DIn.voter {gb : Nat} {cs : Array Value} (h : DIn w0 B x L gb cs s w) : ∃ vb vt, w.cell? ⟨x.g, 6, none⟩ = some (.pointer (some ⟨vb, 0, none⟩)) ∧ VoAt w B vb vt s.v ∧ B ≤ w.heap.size ∧
  ∀ (w' : World) (v : Vo) (vt' : Value), Turned (FV vb vt) w w' → VoAt w' B vb vt' v → (vt'.ownBlock = vt.ownBlock ∨ ∃ b, w.heap.size ≤ b ∧ vt'.ownBlock = some b) → DIn w0 B x L gb cs { s with v := v } w' ∧ Stay w w' := by
 obtain ⟨x1, h1, hm, hB, hg, hn⟩ := h
 refine ⟨x1.vb, x1.vt, by rw [← hm.same]; exact h1.vcell, h1.vo, hB, fun w' v vt' ht hv ho => ?_⟩
 obtain ⟨h2, hm2⟩ := h1.setVo ht hv ho
 exact DIn.next h1 hm hB hg hn h2 hm2
theorem DIn.lt {gb : Nat} {cs : Array Value} (h : DIn w0 B x L gb cs s w) : x.g < w.heap.size := h.sy.lt
theorem Turned.cellT {F : Nat → Prop} {w w' : World} (ht : Turned F w w') {b o : Nat} (hn : ¬ F b) (hl : b < w.heap.size) : w'.cell? ⟨b, o, none⟩ = w.cell? ⟨b, o, none⟩ := by
 unfold World.cell?
 rw [ht.block b hl hn]
theorem yields_frame {ops : Array Oper} {S : World → Prop} {op : Oper} {a : Act} (hw : Region.wanted op (yielded ops a.tmps) = true) (x : Operand) (ho : op.op = .load 110 x) (b : Nat) (hx : a.eval x = .pointer (some ⟨b, 0, none⟩)) (f : List Int)
  (hS : ∀ w, S w → w.rangeAt b 0 (ints f)) (hi : (Tryz.prog.info? 110).map (·.size) = some (ints f).length) : YieldsIf Tryz.prog ops S op (.agg (frC f)) a :=
 yieldsIf_load_mid hw 110 x ho b 0 hx (ints f) _ hS Tryz.underlying110 rfl hi
def toTo (s : Sys) (all : Bool) (b : Nat) (x : List Int) : Nat → Sys
 | 0 => s
 | k + 1 => if all = true ∨ k = b then sysSend (toTo s all b x k) 3 k x else toTo s all b x k
theorem toAll_to (s : Sys) (all : Bool) (b : Nat) (x : List Int) : toAll s all b x = toTo s all b x 3 := rfl
theorem toTo_fine {U : Nat} (h : Fine U s) (all : Bool) (b : Nat) (y : List Int) : ∀ k, k ≤ 3 → Fine (U + k) (toTo s all b y k)
 | 0, _ => h
 | k + 1, hk => by
  rw [toTo]
  split
  ·exact (toTo_fine h all b y k (by omega)).send y (by decide) (by omega)
  ·exact (toTo_fine h all b y k (by omega)).mono (by omega)
theorem dec_wf2 (l : List UInt8) : Wf (dec l).2 := by
 unfold dec
 split
 ·exact wf_zero
 split
 ·exact wf_zero
 split
 ·exact wf_zero
 split
 ·exact wf_zero
 split
 ·exact decTo_wf l _
 ·exact wf_zero
theorem sy_frs_at : ∀ (fs : List (List Int)), (∀ f ∈ fs, f.length = 23) → ∀ i f, fs[i]? = some f → ∀ j u, (ints f)[j]? = some u → (frsC fs)[i * 23 + j]? = some u
 | [], _, i, f, h, _, _, _ => by simp at h
 | a :: l, hl, 0, f, h, j, u, hu => by
  have e : f = a := by simpa using h.symm
  subst e
  have hj : j < 23 := by
   have := (List.getElem?_eq_some_iff.1 hu).1
   simpa [ints, hl f (List.mem_cons_self ..)] using this
  show (frC f ++ frsC l)[0 * 23 + j]? = some u
  rw [Nat.zero_mul, Nat.zero_add, Array.getElem?_append_left (by rw [frC_size _ (hl f (List.mem_cons_self ..))]; exact hj)]
  simpa [frC] using hu
 | a :: l, hl, i + 1, f, h, j, u, hu => by
  have h' : l[i]? = some f := by simpa using h
  have ih := sy_frs_at l (fun f hf => hl f (List.mem_cons_of_mem _ hf)) i f h' j u hu
  have hs := frC_size a (hl a (List.mem_cons_self ..))
  show (frC a ++ frsC l)[(i + 1) * 23 + j]? = some u
  rw [Array.getElem?_append_right (by rw [hs]; omega), hs, show (i + 1) * 23 + j - 23 = i * 23 + j by omega]
  exact ih
def FrAt (w : World) (A : Option Addr) (fs : List (List Int)) : Prop := fs ≠ [] → ∃ gr, A = some ⟨gr, 0, none⟩ ∧ Has w gr 110 (frsC fs)
theorem framesAt_A {lo : Nat} {v : Value} {fs : List (List Int)} (h : FramesAt w lo v fs) : ∃ A, v = .slice A fs.length fs.length ∧ FrAt w A fs := by
 rcases h with ⟨rfl, rfl⟩ | ⟨gr, rfl, _, hh⟩
 ·exact ⟨none, rfl, fun hn => absurd rfl hn⟩
 ·exact ⟨_, rfl, fun _ => ⟨gr, rfl, hh⟩⟩
theorem FrAt.stay {A : Option Addr} {fs : List (List Int)} (h : FrAt w A fs) (hs : Stay w w') : FrAt w' A fs := fun hn => by
 obtain ⟨gr, e, hh⟩ := h hn
 exact ⟨gr, e, hs _ _ _ hh (by decide)⟩
def oneF (w : World) (f : List Int) : World := (w.alloc (.cells (frC zeroF) 110)).setRow w.heap.size (frC f)
theorem oneF_has (w : World) (f : List Int) : Has (oneF w f) w.heap.size 110 (frC f) ∧ Below w.heap.size w (oneF w f) :=
 ⟨(Has.new w 110 (frC zeroF)).setRow _, below_setRow ((Below.refl _ _).alloc (Nat.le_refl _) _) (Nat.le_refl _) _⟩
set_option maxHeartbeats 1000000 in
set_option maxRecDepth 100000 in
theorem in_deliver (h : SyAt w B x L s) (hB : B ≤ w.heap.size) (hf : Fine T s) (hL : L.Ok) (hT : T ≤ 9999999900) (i : Nat) (hi : i < s.way.length ∨ s.way.length = 0) : Calls Tryz.prog 39 #[.pointer (some ⟨x.g, 0, none⟩), I i] w (InPost w B x L w (fun v => i < s.way.length → v = .nilIface) (deliver L s i)) := by
 obtain ⟨A, c, hv, c7⟩ := h.wcell
 have hg := h.has.lt
 have HH := Lib.hid h
 have HF := Lib.hid hf
 have HBS := Lib.hid hB
 rcases hi with hi | h0
 ·have hii : ¬ s.way.length ≤ i := by omega
  obtain ⟨gm, gw, c', v, hgm⟩ := h.gram hi
  have hAB : A = some ⟨gw, 0, none⟩ ∧ c = c' := by
   have := hv.symm.trans hgm.vw
   injection this with h1 h2 h3
   exact ⟨h1, h3⟩
  obtain ⟨rfl, rfl⟩ := hAB
  have g0 := hgm.c0
  have g1 := hgm.c1
  have g2 := hgm.c2
  have hmem := HF.out.gram gm (List.mem_of_getElem? hgm.get)
  have HM := Lib.hid hmem
  have HGE := Lib.hid hgm.get
  obtain ⟨A2, c2, hv2, hc2, hrd⟩ := hgm.bytes.reads
  subst hv2
  have HB2 := Lib.hid hgm.bytes
  have hib : i + 1 ≤ s.way.length := hi
  have h120 : i ≤ 120 := by have := HF.out.way; omega
  have HI := Lib.hid hi
  have HVW := Lib.hid hgm.vw
  clear h hf hv hgm hrd hi hB hmem
  go_enter Tryz.func39, Tryz.ntmps39
  go_upto_region 4 with (fail)
  have kb := Has.new w 132 #[I gm.src, I gm.dst, .slice A2 gm.bytes.length c2]
  have hbA : Below w.heap.size w (w.alloc (.cells #[I gm.src, I gm.dst, .slice A2 gm.bytes.length c2] 132)) := (Below.refl _ _).alloc (Nat.le_refl _) _
  have hnf : ¬ FS x w.heap.size := fun e => by have := HH.out.lt e; omega
  have HD0 : Hid (DIn w B x L w.heap.size #[I gm.src, I gm.dst, .slice A2 gm.bytes.length c2] s (w.alloc (.cells #[I gm.src, I gm.dst, .slice A2 gm.bytes.length c2] 132))) := Lib.hid ⟨x, HH.out.after hbA, Moved.of_below hbA, Nat.le_trans HBS.out hbA.size, kb, hnf⟩
  have HA := Lib.hid (HH.out.after hbA)
  have HSA := Lib.hid (Stay.below hbA)
  have HMA := Lib.hid (Moved.of_below (x := x) hbA)
  have HNF := Lib.hid hnf
  have HKB := Lib.hid kb
  have HSZ := Lib.hid (Nat.le_trans HBS.out hbA.size)
  clear hnf g0 g1 g2 kb c7
  generalize w.alloc (.cells #[I gm.src, I gm.dst, .slice A2 gm.bytes.length c2] 132) = wA at *
  generalize hG : w.heap.size = gb at *
  clear hG hbA
  have c7 : wA.cell? ⟨x.g, 7, none⟩ = some (.slice (some ⟨gw, 0, none⟩) s.way.length c) := by rw [← HVW.out]; exact HA.out.cell 7 _ rfl
  have hgA := HA.out.has.lt
  have ho := HA.out.way
  rw [HVW.out] at ho
  have HC := Lib.hid (del_gram ho HA.out.ones i HI.out)
  clear ho
  go_upto_region 5 with (go_at_call 70; refine HC.out.mono ?_; rintro e w1 ⟨⟨v', rfl, hb, ho⟩, ht⟩; obtain ⟨A', c', rfl, -, -, -, -⟩ := own_read ho; rw [← HVW.out] at hb ht; have HE := Lib.hid (HA.out.erase HI.out hb ho ht); have hx1 : Has w1 x.g 68 (syC x L s) := HA.out.has.turned ht (fun e => own_has_ne HA.out.way HA.out.has (by decide) e); have d7 := hx1.cellv 7 _ rfl; have g7 := hx1.free 7; clear hb ho ht hx1)
  have HDE := Lib.hid (DIn.next HA.out HMA.out HSZ.out HKB.out HNF.out HE.out.1 HE.out.2)
  clear d7 g7 HE HC c7 hgA HA HSZ HMA HKB
  generalize w1.setCell ⟨x.g, 7, none⟩ (.slice A' (s.way.length - 1) c') = w2 at *
  have S2 := Lib.hid (HSA.out.trans HDE.out.2)
  have HD2 := Lib.hid HDE.out.1
  have HB3 : BAt w2 (.slice A2 gm.bytes.length c2) gm.bytes := HB2.out.keep fun g cs hh => S2.out _ _ _ hh (by decide)
  obtain ⟨A3, c3, e3, _, hrd⟩ := HB3.reads
  injection e3 with e31 _ e33
  subst e31 e33
  have HRD := Lib.hid hrd
  have hk2 := HD2.out.box
  have k2v := hk2.cellv 2 _ rfl
  obtain ⟨er, f, hdec⟩ : ∃ er f, dec gm.bytes = (er, f) := ⟨_, _, rfl⟩
  have hwf := dec_wf2 gm.bytes
  have hmay := dec_may (l := gm.bytes)
  rw [hdec] at hwf hmay
  dsimp only at hwf hmay
  have HWF := Lib.hid hwf
  have HMAY := Lib.hid hmay
  have HDC := Lib.hid (decode_ok A2 gm.bytes.length c2 gm.bytes w2 rfl hc2 hrd)
  rw [hdec] at HDC
  have HEQ : Hid (deliver L s i = (if er = 0 ∧ f.getD 1 0 = gm.src then (if gm.dst = 3 then (voTake s.v f).2.1.foldl (fun s' y => toAll s' (voTake s.v f).2.2 gm.src y) { s with way := s.way.eraseIdx i, v := (voTake s.v f).1 } else (reTake L (re s gm.dst) f).2.foldl (fun s' y => sysSend s' gm.dst gm.src y) { s with way := s.way.eraseIdx i, rs := s.rs.set gm.dst (reTake L (re s gm.dst) f).1 }) else { s with way := s.way.eraseIdx i })) := Lib.hid (by
   unfold deliver
   rw [HGE.out]
   dsimp only
   rw [hdec, show re { s with way := s.way.eraseIdx i } gm.dst = re s gm.dst from rfl])
  have HF1 := Lib.hid (HF.out.erase i)
  have hsf : Hid ((Tryz.prog.info? 110).map (·.size) = some (frC f).size) := Lib.hid (by rw [frC_size _ hwf.1]; exact infoFrame)
  have hzf : Hid ((frC zeroF).size = (frC f).size) := Lib.hid (by rw [frC_size _ hwf.1]; rfl)
  clear hdec hwf hmay hrd HB2 HB3 HDE HD0 HSA hk2 HGE HVW HNF
  go_upto_region 6 with (first
   | (go_at_call 71; refine HDC.out.mono ?_; rintro e wD ⟨rfl, hbD⟩; have HBD := Lib.hid hbD; clear hbD)
   | (rw [← zeroFrame]; refine wpList_store_row rfl 110 (.tmp 6) (.tmp 49) rfl wD.heap.size (frC f) rfl rfl 110 (frC zeroF) (Has.new wD 110 (frC zeroF)) hsf.out hzf.out (frC_one _) ?_))
  have h6 := oneF_has wD f
  change Code.wp _ _ _ _ (oneF wD f)
  generalize oneF wD f = w6 at *
  obtain ⟨kf, hb6⟩ := h6
  have HD6 := Lib.hid ((HD2.out.after HBD.out).after hb6)
  have S6 := Lib.hid ((S2.out.trans (Stay.below HBD.out)).trans (Stay.below hb6))
  generalize hG : wD.heap.size = gf at *
  clear hG hb6 HBD HD2 S2 HRD HDC k2v
  have f1 := kf.cellv 1 (I (f.getD 1 0)) (frC_get f 1 _ (by rw [List.getD_eq_getElem?_getD]; have := HWF.out.1; rw [List.getElem?_eq_getElem (by omega)]; rfl))
  have b0 := HD6.out.box.cellv 0 _ rfl
  have b1 := HD6.out.box.cellv 1 _ rfl
  have KF := Lib.hid kf
  have hg6 := HD6.out.lt
  have hsI : (Tryz.prog.info? 110).map (·.size) = some (ints f).length := by rw [ints_length, HWF.out.1]; exact infoFrame
  have HSI := Lib.hid hsI
  have HRW : Hid (w6.rangeAt gf 0 (ints f)) := Lib.hid (fun j v hv => by rw [Nat.zero_add, kf.cell]; simpa [frC] using hv)
  generalize hfr : f.getD 1 0 = fr at *
  clear hfr kf hsI hsf hzf
  by_cases he : er = 0
  ·by_cases hs : fr = (gm.src : Int)
   ·have HE : Hid (deliver L s i = (if gm.dst = 3 then (voTake s.v f).2.1.foldl (fun s' y => toAll s' (voTake s.v f).2.2 gm.src y) { s with way := s.way.eraseIdx i, v := (voTake s.v f).1 } else (reTake L (re s gm.dst) f).2.foldl (fun s' y => sysSend s' gm.dst gm.src y) { s with way := s.way.eraseIdx i, rs := s.rs.set gm.dst (reTake L (re s gm.dst) f).1 })) := Lib.hid (by rw [HEQ.out, if_pos ⟨he, hs⟩])
    have he2 : errV er = .nilIface := by rw [he]; rfl
    have hne : (fr != (gm.src : Int)) = false := by simpa using hs
    have HMB := Lib.hid (HMAY.out he)
    rw [he2]
    clear hs he HEQ HMAY
    by_cases hd : gm.dst = 3
    ·have hdn : ((gm.dst : Int) != 3) = false := by rw [hd]; rfl
     rw [if_pos hd] at HE
     obtain ⟨vb, vt, c6, hvo, hBv, hup⟩ := HD6.out.voter
     have hfr := HWF.out
     have HCL := Lib.hid (vo_take (hvo.after ((Below.refl _ _).drew)) HF.out.vo hBv f hfr)
     have h64 := voTake_64 HF.out.vo HF.out.trace HF.out.votes hfr
     have hvw := voTake_wf HF.out.vo f
     have hn2 := voTake_two s.v f
     have HF2 : Hid (Fine T { s with way := s.way.eraseIdx i, v := (voTake s.v f).1 }) := Lib.hid ⟨HF.out.n3, HF.out.fits, hvw, h64.1, h64.2.1, HF1.out.way, HF.out.lost, HF1.out.gram⟩
     have hup2 : ∀ (w' : World) (v : Vo) (vt' : Value), Turned (FV vb vt) w6 w' → VoAt w' B vb vt' v → (vt'.ownBlock = vt.ownBlock ∨ ∃ b, w6.heap.size ≤ b ∧ vt'.ownBlock = some b) → DIn w B x L gb #[I gm.src, I gm.dst, .slice A2 gm.bytes.length c2] { s with way := s.way.eraseIdx i, v := v } w' ∧ Stay w6 w' := hup
     have HSS : Hid (∀ wx, Turned (FV vb vt) w6 wx → wx.cell? ⟨x.g, 6, none⟩ = some (.pointer (some ⟨vb, 0, none⟩)) ∧ wx.rangeAt gf 0 (ints f)) := Lib.hid (fun wx ht => by
      have n2 : ¬ FV vb vt x.g := by
       obtain ⟨x1, h1, hm, _⟩ := HD6.out
       have e : (FV vb vt x.g) → (FV vb vt x1.g) := by rw [hm.same]; exact id
       intro h
       rcases e h with h | h
       ·exact h1.has.ne hvo.has (by decide) h
       ·exact own_has_ne hvo.own h1.has (by decide) h
      have n3 : ¬ FV vb vt gf := by
       rintro (h | h)
       ·exact KF.out.ne hvo.has (by decide) h
       ·exact own_has_ne hvo.own KF.out (by decide) h
      have k1 := KF.out.turned ht n3
      refine ⟨(ht.cellT n2 hg6).trans c6, fun j v hv => ?_⟩
      rw [Nat.zero_add, k1.cell]
      simpa [frC] using hv)
     generalize voTake s.v f = R at *
     obtain ⟨v', fs, all⟩ := R
     dsimp only at HCL h64 hn2 HE HF2
     have HUP := Lib.hid hup2
     have HTW := Lib.hid h64.2.2
     clear hvo hup hup2 h64 hvw hd hBv hfr
     go_upto_region 15 with (fail)
     go_cut [10, 11] (fun s10 s11 wx => (∃ AF, s10 = .slice AF fs.length fs.length ∧ Hid (FrAt wx AF fs)) ∧ s11 = .bool all ∧ Hid (DIn w B x L gb #[I gm.src, I gm.dst, .slice A2 gm.bytes.length c2] { s with way := s.way.eraseIdx i, v := v' } wx ∧ Stay w wx))
     case first =>
      refine wp_region_held_drew (S := fun wx => (wx.cell? ⟨x.g, 6, none⟩ = some (.pointer (some ⟨vb, 0, none⟩))) ∧ (wx.rangeAt gf 0 (ints f))) (by kernel_rfl) ⟨c6, HRW.out⟩ (fun hHeld => ?_)
      refine wpAnyH_take (i := 0) (oi := { dst := some 86, op := Op.move (Operand.tmp 0), type := 30, pos := "system.go:125", after := #[], guard := none }) (v := .pointer (some ⟨x.g, 0, none⟩)) rfl (by kernel_rfl) (by kernel_rfl) (by kernel_rfl) (fun _ _ _ h => h) (Or.inl ⟨by rfl, ?_⟩) hHeld ?_
      ·rintro wx ⟨hs0, hs1⟩
       go_simp
      simp only [Act.put, List.setIfInBounds_toArray, List.set_cons_zero, List.set_cons_succ]
      refine wpAnyH_take (i := 1) (oi := { dst := some 87, op := Op.nilCheck (Operand.tmp 86), type := 0, pos := "system.go:125", after := #[{ on := 0, ground := Ground.data }], guard := none }) (v := .pointer (some ⟨x.g, 0, none⟩)) rfl (by kernel_rfl) (by kernel_rfl) (by kernel_rfl) (fun _ _ _ h => h) (Or.inl ⟨by rfl, ?_⟩) hHeld ?_
      ·rintro wx ⟨hs0, hs1⟩
       go_simp
      simp only [Act.put, List.setIfInBounds_toArray, List.set_cons_zero, List.set_cons_succ]
      refine wpAnyH_take (i := 2) (oi := { dst := some 88, op := Op.fieldAddr 68 (Operand.tmp 87) 2, type := 0, pos := "system.go:125", after := #[{ on := 1, ground := Ground.data }], guard := none }) (v := .pointer (some ⟨x.g, 6, none⟩)) rfl (by kernel_rfl) (by kernel_rfl) (by kernel_rfl) (fun _ _ _ h => h) (Or.inl ⟨by rfl, ?_⟩) hHeld ?_
      ·rintro wx ⟨hs0, hs1⟩
       go_simp
      simp only [Act.put, List.setIfInBounds_toArray, List.set_cons_zero, List.set_cons_succ]
      refine wpAnyH_take (i := 3) (oi := { dst := some 89, op := Op.load 61 (Operand.tmp 88), type := 61, pos := "system.go:125", after := #[{ on := 2, ground := Ground.data }], guard := none }) (v := .pointer (some ⟨vb, 0, none⟩)) rfl (by kernel_rfl) (by kernel_rfl) (by kernel_rfl) (fun _ _ _ h => h) (Or.inl ⟨by rfl, ?_⟩) hHeld ?_
      ·rintro wx ⟨hs0, hs1⟩
       go_simp
      simp only [Act.put, List.setIfInBounds_toArray, List.set_cons_zero, List.set_cons_succ]
      refine wpAnyH_take (i := 4) (oi := { dst := some 90, op := Op.load 110 (Operand.tmp 6), type := 110, pos := "system.go:125", after := #[], guard := none }) (v := .agg (frC f)) rfl (by kernel_rfl) (by kernel_rfl) (by kernel_rfl) (fun _ _ _ h => h) (yields_frame (by rfl) (.tmp 6) rfl gf (by rfl) f (fun _ h => h.2) HSI.out) hHeld ?_
      simp only [Act.put, List.setIfInBounds_toArray, List.set_cons_zero, List.set_cons_succ]
      refine wpAnyH_ready (rs := [5]) (by kernel_rfl) (by simp) (AllReadyH.cons (o := { dst := some 91, op := Op.call { callee := Callee.value (Operand.func 73), args := #[Operand.tmp 89, Operand.tmp 90], argTypes := #[61, 110] }, type := 138, pos := "system.go:125", after := #[{ on := 3, ground := Ground.data }, { on := 4, ground := Ground.data }], guard := none }) rfl (fun K hK => ?_) AllReadyH.nil)
      go_simp
      go_at_call 73; refine HCL.out.mono ?_; rintro e wt ⟨⟨xv, rfl, hfa⟩, ⟨vt', hvt', hob⟩, htt⟩; obtain ⟨AF, rfl, hFA⟩ := framesAt_A hfa; have HFA := Lib.hid hFA; have HTW6 := Lib.hid (((Turned.refl (FV vb vt) w6).drew).trans htt (fun b _ e => e)); have HDT := Lib.hid (HUP.out wt v' vt' HTW6.out hvt' hob); clear hfa hvt' hob htt hFA
      refine hK.out _ _ (HSS.out wt HTW6.out) (fun hHeld => ?_)
      clear hK K
      try simp only [Act.put, List.setIfInBounds_toArray, List.set_cons_zero, List.set_cons_succ]
      refine wpAnyH_take (i := 6) (oi := { dst := some 85, op := Op.move (Operand.tmp 91), type := 138, pos := "system.go:125", after := #[{ on := 5, ground := Ground.data }], guard := none }) (v := .tuple #[.slice AF fs.length fs.length, .bool all]) rfl (by kernel_rfl) (by kernel_rfl) (by kernel_rfl) (fun _ _ _ h => h) (Or.inl ⟨by rfl, ?_⟩) hHeld ?_
      ·rintro wx ⟨hs0, hs1⟩
       go_simp
      simp only [Act.put, List.setIfInBounds_toArray, List.set_cons_zero, List.set_cons_succ]
      refine wpAnyH_take (i := 7) (oi := { dst := some 92, op := Op.extract (Operand.tmp 85) 0, type := 136, pos := "system.go:125", after := #[{ on := 6, ground := Ground.data }], guard := none }) (v := .slice AF fs.length fs.length) rfl (by kernel_rfl) (by kernel_rfl) (by kernel_rfl) (fun _ _ _ h => h) (Or.inl ⟨by rfl, ?_⟩) hHeld ?_
      ·rintro wx ⟨hs0, hs1⟩
       go_simp
      simp only [Act.put, List.setIfInBounds_toArray, List.set_cons_zero, List.set_cons_succ]
      refine wpAnyH_take (i := 8) (oi := { dst := some 93, op := Op.extract (Operand.tmp 85) 1, type := 4, pos := "system.go:125", after := #[{ on := 6, ground := Ground.data }, { on := 9, ground := Ground.gcOnly Departure.lateStores }], guard := none }) (v := .bool all) rfl (by kernel_rfl) (by kernel_rfl) (by kernel_rfl) (fun _ _ _ h => h) (Or.inl ⟨by rfl, ?_⟩) hHeld ?_
      ·rintro wx ⟨hs0, hs1⟩
       go_simp
      simp only [Act.put, List.setIfInBounds_toArray, List.set_cons_zero, List.set_cons_succ]
      refine wpAnyH_take (i := 9) (oi := { dst := some 10, op := Op.assign (Operand.tmp 92), type := 136, pos := "system.go:125", after := #[{ on := 7, ground := Ground.data }, { on := 5, ground := Ground.chain }, { on := 0, ground := Ground.phase }, { on := 1, ground := Ground.phase }, { on := 2, ground := Ground.phase }, { on := 3, ground := Ground.phase }, { on := 4, ground := Ground.phase }, { on := 5, ground := Ground.phase }, { on := 6, ground := Ground.phase }, { on := 7, ground := Ground.phase }, { on := 8, ground := Ground.textOnly Departure.lateStores }], guard := none }) (v := .slice AF fs.length fs.length) rfl (by kernel_rfl) (by kernel_rfl) (by kernel_rfl) (fun _ _ _ h => h) (Or.inl ⟨by rfl, ?_⟩) hHeld ?_
      ·rintro wx ⟨hs0, hs1⟩
       go_simp
      simp only [Act.put, List.setIfInBounds_toArray, List.set_cons_zero, List.set_cons_succ]
      refine wpAnyH_take (i := 10) (oi := { dst := some 11, op := Op.assign (Operand.tmp 93), type := 4, pos := "system.go:125", after := #[{ on := 8, ground := Ground.data }, { on := 9, ground := Ground.chain }, { on := 0, ground := Ground.phase }, { on := 1, ground := Ground.phase }, { on := 2, ground := Ground.phase }, { on := 3, ground := Ground.phase }, { on := 4, ground := Ground.phase }, { on := 5, ground := Ground.phase }, { on := 6, ground := Ground.phase }, { on := 7, ground := Ground.phase }, { on := 8, ground := Ground.phase }, { on := 9, ground := Ground.phase }], guard := none }) (v := .bool all) rfl (by kernel_rfl) (by kernel_rfl) (by kernel_rfl) (fun _ _ _ h => h) (Or.inl ⟨by rfl, ?_⟩) hHeld ?_
      ·rintro wx ⟨hs0, hs1⟩
       go_simp
      simp only [Act.put, List.setIfInBounds_toArray, List.set_cons_zero, List.set_cons_succ]
      refine wpAnyH_done (by kernel_rfl) ?_ _
      go_wp2_with fail
      go_meet
      case rel => exact ⟨⟨_, rfl, HFA⟩, rfl, Lib.hid ⟨HDT.out.1, S6.out.trans HDT.out.2⟩⟩
     case rest =>
      obtain ⟨⟨AF, rfl, HFA⟩, rfl, HDS⟩ := hcut
      have HD7 := Lib.hid HDS.out.1
      have S7 := Lib.hid HDS.out.2
      clear c6 b0 b1 f1 HD6 S6 HRW HSS HCL HUP KF HDS hne hg6
      go_wp2_with fail
      go_loopw [96] (fun iv wr => ∃ j : Nat, j ≤ fs.length ∧ iv = I j ∧ Hid (DIn w B x L gb #[I gm.src, I gm.dst, .slice A2 gm.bytes.length c2] ((fs.take j).foldl (fun s' y => toAll s' all gm.src y) { s with way := s.way.eraseIdx i, v := v' }) wr) ∧ Hid (FrAt wr AF fs) ∧ Hid (Stay w wr)) (fun iv _ => fs.length - (intOf iv).toNat)
      case atStart => exact ⟨0, Nat.zero_le _, rfl, HD7, HFA, S7⟩
      case round =>
       clear HD7 HFA S7
       obtain ⟨j, hj, rfl, HD, HFA, HS⟩ := hrel
       by_cases hlt : j < fs.length
       ·obtain ⟨gr2, rfl, hh⟩ := HFA.out (by intro e; rw [e] at hlt; simp at hlt)
        obtain ⟨y, hy⟩ : ∃ y, fs[j]? = some y := ⟨_, List.getElem?_eq_getElem hlt⟩
        have hyw := HTW.out y (List.mem_of_getElem? hy)
        have HYW := Lib.hid hyw
        have HRG : Hid (wr.rangeAt gr2 (j * 23) (ints y)) := Lib.hid (fun k v hv => by rw [hh.cell]; exact sy_frs_at fs (fun f hf => (HTW.out f hf).1) j y hy k v hv)
        have hsI2 : Hid ((Tryz.prog.info? 110).map (·.size) = some (ints y).length) := Lib.hid (by rw [ints_length, hyw.1]; exact infoFrame)
        have hsy : Hid ((Tryz.prog.info? 110).map (·.size) = some (frC y).size) := Lib.hid (by rw [frC_size _ hyw.1]; exact infoFrame)
        have hzy : Hid ((frC zeroF).size = (frC y).size) := Lib.hid (by rw [frC_size _ hyw.1]; rfl)
        have HFJ : Hid (Fine (T + 6) ((fs.take j).foldl (fun s' y => toAll s' all gm.src y) { s with way := s.way.eraseIdx i, v := v' })) := Lib.hid ((Fine.toAlls all gm.src (fs.take j) HF2.out).mono (by rw [List.length_take]; omega))
        have HST : Hid (((fs.take (j + 1)).foldl (fun s' y => toAll s' all gm.src y) { s with way := s.way.eraseIdx i, v := v' }) = toTo ((fs.take j).foldl (fun s' y => toAll s' all gm.src y) { s with way := s.way.eraseIdx i, v := v' }) all gm.src y 3) := Lib.hid (by
         rw [List.take_add_one, hy, List.foldl_append]
         exact toAll_to _ _ _ _)
        clear hh hy hyw hj
        go_upto_region 19 with (first
         | (refine wpList_load_mid rfl 110 (.tmp 98) rfl gr2 (j * 23) rfl (ints y) _ HRG.out Tryz.underlying110 rfl hsI2.out ?_)
         | (rw [← zeroFrame]; refine wpList_store_row rfl 110 (.tmp 13) (.tmp 99) rfl wr.heap.size (frC y) rfl rfl 110 (frC zeroF) (Has.new wr 110 (frC zeroF)) hsy.out hzy.out (frC_one _) ?_))
        have h9 := oneF_has wr y
        change Code.wp _ _ _ _ (oneF wr y)
        generalize oneF wr y = w9 at *
        obtain ⟨k9, hb9⟩ := h9
        have HD9 : Hid (DIn w B x L gb #[I gm.src, I gm.dst, .slice A2 gm.bytes.length c2] (toTo ((fs.take j).foldl (fun s' y => toAll s' all gm.src y) { s with way := s.way.eraseIdx i, v := v' }) all gm.src y 0) w9) := Lib.hid (HD.out.after hb9)
        have HS9 := Lib.hid (HS.out.trans (Stay.below hb9))
        have HFA9 := Lib.hid (HFA.out.stay (Stay.below hb9))
        generalize hG : wr.heap.size = g9 at *
        clear hG hb9 HD HS HFA HRG
        go_wp2_with fail
        go_loopw [100] (fun kv wk => ∃ k : Nat, k ≤ 3 ∧ kv = I k ∧ Hid (DIn w B x L gb #[I gm.src, I gm.dst, .slice A2 gm.bytes.length c2] (toTo ((fs.take j).foldl (fun s' y => toAll s' all gm.src y) { s with way := s.way.eraseIdx i, v := v' }) all gm.src y k) wk) ∧ Hid (FrAt wk (some ⟨gr2, 0, none⟩) fs) ∧ Hid (Stay w wk) ∧ Has wk g9 110 (frC y)) (fun kv _ => 3 - (intOf kv).toNat)
        case atStart => exact ⟨0, Nat.zero_le _, rfl, HD9, HFA9, HS9, k9⟩
        case round =>
         clear HD9 HFA9 HS9 k9
         obtain ⟨k, hk, rfl, HDK, HFK, HSK, kk⟩ := hrel
         by_cases hk3 : k < 3
         ·have b0 := HDK.out.box.cellv 0 _ rfl
          have hgk := HDK.out.lt
          have KK := Lib.hid kk
          have HFN : Hid (Fine (T + 10) (toTo ((fs.take j).foldl (fun s' y => toAll s' all gm.src y) { s with way := s.way.eraseIdx i, v := v' }) all gm.src y k)) := Lib.hid ((toTo_fine HFJ.out all gm.src y k (by omega)).mono (by omega))
          by_cases hsd : all = true ∨ k = gm.src
          ·have HN : Hid (toTo ((fs.take j).foldl (fun s' y => toAll s' all gm.src y) { s with way := s.way.eraseIdx i, v := v' }) all gm.src y (k + 1) = sysSend (toTo ((fs.take j).foldl (fun s' y => toAll s' all gm.src y) { s with way := s.way.eraseIdx i, v := v' }) all gm.src y k) 3 k y) := Lib.hid (by rw [toTo, if_pos hsd])
           have hb : all = true ∨ (all = false ∧ ((k : Int) == (gm.src : Int)) = true) := by
            cases all with
            | true => exact .inl rfl
            | false => exact .inr ⟨rfl, by rcases hsd with h | h; cases h; rw [h]; simp⟩
           clear hsd
           rcases hb with rfl | ⟨rfl, hke⟩
           all_goals
            go_wp2_with (first
             | (refine wpList_load_row rfl 110 (.tmp 13) rfl g9 rfl 110 (frC y) (0, 0) _ kk Tryz.underlying110 rfl hsy.out ?_)
             | (go_at_call 43; refine (din_send HDK.out HFN.out (by omega) 3 k y HYW.out).mono ?_; rintro e wb ⟨rfl, hd2, hst2⟩; have HDB := Lib.hid hd2; have HSB := Lib.hid (HSK.out.trans hst2); have HFB := Lib.hid (HFK.out.stay hst2); have kb := Lib.hid (hst2 _ _ _ KK.out (by decide)); clear hd2 hst2))
            go_roundw
            case rel => exact ⟨k + 1, hk3, by rfl, by rw [HN.out]; exact HDB, HFB, HSB, kb.out⟩
            case measure => simp [intOf]; omega
          ·have HN : Hid (toTo ((fs.take j).foldl (fun s' y => toAll s' all gm.src y) { s with way := s.way.eraseIdx i, v := v' }) all gm.src y (k + 1) = toTo ((fs.take j).foldl (fun s' y => toAll s' all gm.src y) { s with way := s.way.eraseIdx i, v := v' }) all gm.src y k) := Lib.hid (by rw [toTo, if_neg hsd])
           have hb : all = false := by
            cases all with
            | true => exact absurd (.inl rfl) hsd
            | false => rfl
           have hke : ((k : Int) == (gm.src : Int)) = false := by
            have hne : k ≠ gm.src := fun h => hsd (.inr h)
            simpa using (fun h => hne (by omega) : ¬ (k : Int) = (gm.src : Int))
           subst hb
           clear hsd kk
           go_wp2_with fail
           go_roundw
           case rel => exact ⟨k + 1, hk3, by rfl, by rw [HN.out]; exact HDK, HFK, HSK, KK.out⟩
           case measure => simp [intOf]; omega
         ·have hk4 : k = 3 := by omega
          subst hk4
          clear kk
          go_wp2_with fail
          go_roundw
          case rel => exact ⟨j + 1, hlt, by rfl, by rw [HST.out]; exact HDK, HFK, HSK⟩
          case measure => simp [intOf]; omega
       ·have hjn : j = fs.length := by omega
        have HTK := Lib.hid (List.take_of_length_le (Nat.le_of_eq hjn.symm))
        have hnlt : ¬ (j : Int) < (fs.length : Int) := by omega
        go_wp2
        go_ret
        refine ⟨⟨_, rfl, fun _ => rfl⟩, ?_, HS.out⟩
        rw [HE.out]
        have := HD.out.sy
        rw [HTK.out] at this
        exact this
    ·have hd3 : gm.dst < 3 := by have := HM.out.2.1; omega
     have hdi : (gm.dst : Int) < 3 := by omega
     have hdn : ((gm.dst : Int) != 3) = true := by simpa using (by omega : ¬ (gm.dst : Int) = 3)
     rw [if_neg hd] at HE
     obtain ⟨gr, gc, c3, hr, hup⟩ := HD6.out.rep hd3
     have hr2 : RepAt w6 gr gc L (re s gm.dst) := hr
     have hup2 : ∀ (w' : World) (r : Re), Turned (fun b => b = gr) w6 w' → RepAt w' gr gc L r → DIn w B x L gb #[I gm.src, I gm.dst, .slice A2 gm.bytes.length c2] { s with way := s.way.eraseIdx i, rs := s.rs.set gm.dst r } w' ∧ Stay w6 w' := hup
     have HCL := Lib.hid (re_take (hr2.after ((Below.refl _ _).drew)) hL T (by omega) (Lib.hid (HF.out.fits gm.dst hd3)) HMB.out)
     have htw := take_wf hL (by omega : T ≤ 10000000000) (HF.out.fits gm.dst hd3) HMB.out
     have hfn := take_fits hL (HF.out.fits gm.dst hd3) HMB.out
     have hn2 := reTake_two L (re s gm.dst) f
     unfold TakePost at HCL
     generalize reTake L (re s gm.dst) f = R at *
     obtain ⟨q, fs⟩ := R
     dsimp only at HCL htw hfn hn2 HE
     have HUP := Lib.hid hup2
     have HTW := Lib.hid htw
     have HF2 : Hid (Fine (T + 8) { s with way := s.way.eraseIdx i, rs := s.rs.set gm.dst q }) := Lib.hid (HF1.out.setRe hd3 hfn (by omega))
     have HSR := Lib.hid hr2.has
     have HSS : Hid (∀ wx, Turned (fun b => b = gr) w6 wx → wx.cell? ⟨gb, 1, none⟩ = some (I gm.dst) ∧ wx.cell? ⟨x.g, 3 + gm.dst, none⟩ = some (.pointer (some ⟨gr, 0, none⟩)) ∧ wx.rangeAt gf 0 (ints f)) := Lib.hid (fun wx ht => by
      have n1 : gb ≠ gr := HD6.out.box.ne hr2.has (by decide)
      have n2 : x.g ≠ gr := by
       obtain ⟨x1, h1, hm, _⟩ := HD6.out
       rw [← hm.same]
       exact h1.has.ne hr2.has (by decide)
      have n3 : gf ≠ gr := KF.out.ne hr2.has (by decide)
      have k1 := KF.out.turned ht (fun e => n3 e)
      refine ⟨(ht.cellT (fun e => n1 e) HD6.out.box.lt).trans b1, (ht.cellT (fun e => n2 e) hg6).trans c3, fun j v hv => ?_⟩
      rw [Nat.zero_add, k1.cell]
      simpa [frC] using hv)
     clear hr hup hr2 hup2 htw hfn hd hd3
     go_upto_region 9 with (fail)
     go_cut [71, 72, 73] (fun s71 s72 s73 wx => (∃ AF, s71 = .slice AF fs.length fs.length ∧ Hid (FrAt wx AF fs)) ∧ s72 = I (fs.length : Int) ∧ s73 = I 0 ∧ Hid (DIn w B x L gb #[I gm.src, I gm.dst, .slice A2 gm.bytes.length c2] { s with way := s.way.eraseIdx i, rs := s.rs.set gm.dst q } wx ∧ Stay w wx))
     case first =>
      refine wp_region_held_drew (S := fun wx => (wx.cell? ⟨gb, 1, none⟩ = some (I gm.dst)) ∧ (wx.cell? ⟨x.g, 3 + gm.dst, none⟩ = some (.pointer (some ⟨gr, 0, none⟩))) ∧ (wx.rangeAt gf 0 (ints f))) (by kernel_rfl) ⟨b1, c3, HRW.out⟩ (fun hHeld => ?_)
      refine wpAnyH_take (i := 0) (oi := { dst := some 63, op := Op.move (Operand.tmp 0), type := 30, pos := "system.go:120", after := #[], guard := none }) (v := .pointer (some ⟨x.g, 0, none⟩)) rfl (by kernel_rfl) (by kernel_rfl) (by kernel_rfl) (fun _ _ _ h => h) (Or.inl ⟨by rfl, ?_⟩) hHeld ?_
      ·rintro wx ⟨hs0, hs1, hs2⟩
       go_simp
      simp only [Act.put, List.setIfInBounds_toArray, List.set_cons_zero, List.set_cons_succ]
      refine wpAnyH_take (i := 1) (oi := { dst := some 64, op := Op.fieldAddr 132 (Operand.tmp 5) 1, type := 0, pos := "system.go:120", after := #[], guard := none }) (v := .pointer (some ⟨gb, 1, none⟩)) rfl (by kernel_rfl) (by kernel_rfl) (by kernel_rfl) (fun _ _ _ h => h) (Or.inl ⟨by rfl, ?_⟩) hHeld ?_
      ·rintro wx ⟨hs0, hs1, hs2⟩
       go_simp
      simp only [Act.put, List.setIfInBounds_toArray, List.set_cons_zero, List.set_cons_succ]
      refine wpAnyH_take (i := 2) (oi := { dst := some 65, op := Op.load 3 (Operand.tmp 64), type := 3, pos := "system.go:120", after := #[{ on := 1, ground := Ground.data }], guard := none }) (v := I gm.dst) rfl (by kernel_rfl) (by kernel_rfl) (by kernel_rfl) (fun _ _ _ h => h) (Or.inl ⟨by rfl, ?_⟩) hHeld ?_
      ·rintro wx ⟨hs0, hs1, hs2⟩
       go_simp
      simp only [Act.put, List.setIfInBounds_toArray, List.set_cons_zero, List.set_cons_succ]
      refine wpAnyH_take (i := 3) (oi := { dst := some 66, op := Op.nilCheck (Operand.tmp 63), type := 0, pos := "system.go:120", after := #[{ on := 0, ground := Ground.data }], guard := none }) (v := .pointer (some ⟨x.g, 0, none⟩)) rfl (by kernel_rfl) (by kernel_rfl) (by kernel_rfl) (fun _ _ _ h => h) (Or.inl ⟨by rfl, ?_⟩) hHeld ?_
      ·rintro wx ⟨hs0, hs1, hs2⟩
       go_simp
      simp only [Act.put, List.setIfInBounds_toArray, List.set_cons_zero, List.set_cons_succ]
      refine wpAnyH_take (i := 4) (oi := { dst := some 67, op := Op.fieldAddr 68 (Operand.tmp 66) 1, type := 0, pos := "system.go:120", after := #[{ on := 3, ground := Ground.data }], guard := none }) (v := .pointer (some ⟨x.g, 3, none⟩)) rfl (by kernel_rfl) (by kernel_rfl) (by kernel_rfl) (fun _ _ _ h => h) (Or.inl ⟨by rfl, ?_⟩) hHeld ?_
      ·rintro wx ⟨hs0, hs1, hs2⟩
       go_simp
      simp only [Act.put, List.setIfInBounds_toArray, List.set_cons_zero, List.set_cons_succ]
      refine wpAnyH_take (i := 5) (oi := { dst := some 68, op := Op.indexAddr 65 (Operand.tmp 67) (Operand.tmp 65), type := 0, pos := "system.go:120", after := #[{ on := 4, ground := Ground.data }, { on := 2, ground := Ground.data }], guard := none }) (v := .pointer (some ⟨x.g, 3 + gm.dst, none⟩)) rfl (by kernel_rfl) (by kernel_rfl) (by kernel_rfl) (fun _ _ _ h => h) (Or.inl ⟨by rfl, ?_⟩) hHeld ?_
      ·rintro wx ⟨hs0, hs1, hs2⟩
       go_simp
      simp only [Act.put, List.setIfInBounds_toArray, List.set_cons_zero, List.set_cons_succ]
      refine wpAnyH_take (i := 6) (oi := { dst := some 69, op := Op.load 64 (Operand.tmp 68), type := 64, pos := "system.go:120", after := #[{ on := 5, ground := Ground.data }], guard := none }) (v := .pointer (some ⟨gr, 0, none⟩)) rfl (by kernel_rfl) (by kernel_rfl) (by kernel_rfl) (fun _ _ _ h => h) (Or.inl ⟨by rfl, ?_⟩) hHeld ?_
      ·rintro wx ⟨hs0, hs1, hs2⟩
       go_simp
      simp only [Act.put, List.setIfInBounds_toArray, List.set_cons_zero, List.set_cons_succ]
      refine wpAnyH_take (i := 7) (oi := { dst := some 70, op := Op.load 110 (Operand.tmp 6), type := 110, pos := "system.go:120", after := #[], guard := none }) (v := .agg (frC f)) rfl (by kernel_rfl) (by kernel_rfl) (by kernel_rfl) (fun _ _ _ h => h) (yields_frame (by rfl) (.tmp 6) rfl gf (by rfl) f (fun _ h => h.2.2) HSI.out) hHeld ?_
      simp only [Act.put, List.setIfInBounds_toArray, List.set_cons_zero, List.set_cons_succ]
      refine wpAnyH_take (i := 10) (oi := { dst := some 73, op := Op.move (Operand.const (Value.int IntKind.i64 0)), type := 3, pos := "system.go:120", after := #[], guard := none }) (v := I 0) rfl (by kernel_rfl) (by kernel_rfl) (by kernel_rfl) (fun _ _ _ h => h) (Or.inl ⟨by rfl, ?_⟩) hHeld ?_
      ·rintro wx ⟨hs0, hs1, hs2⟩
       go_simp
      simp only [Act.put, List.setIfInBounds_toArray, List.set_cons_zero, List.set_cons_succ]
      refine wpAnyH_ready (rs := [8]) (by kernel_rfl) (by simp) (AllReadyH.cons (o := { dst := some 71, op := Op.call { callee := Callee.value (Operand.func 72), args := #[Operand.tmp 69, Operand.tmp 70], argTypes := #[64, 110] }, type := 136, pos := "system.go:120", after := #[{ on := 6, ground := Ground.data }, { on := 7, ground := Ground.data }], guard := none }) rfl (fun K hK => ?_) AllReadyH.nil)
      go_simp
      go_at_call 72; refine HCL.out.mono ?_; rintro e wt ⟨⟨xv, rfl, hfa⟩, hrt, htt⟩; obtain ⟨AF, rfl, hFA⟩ := framesAt_A hfa; have HFA := Lib.hid hFA; have HTW6 := Lib.hid (((Turned.refl (fun b => b = gr) w6).drew).trans htt (fun b _ e => e)); have HDT := Lib.hid (HUP.out wt q HTW6.out hrt); clear hfa hrt htt hFA
      refine hK.out _ _ (HSS.out wt HTW6.out) (fun hHeld => ?_)
      clear hK K
      try simp only [Act.put, List.setIfInBounds_toArray, List.set_cons_zero, List.set_cons_succ]
      refine wpAnyH_take (i := 9) (oi := { dst := some 72, op := Op.call { callee := Callee.builtin Builtin.len, args := #[Operand.tmp 71], argTypes := #[136] }, type := 3, pos := "system.go:120", after := #[{ on := 8, ground := Ground.data }], guard := none }) (v := I (fs.length : Int)) rfl (by kernel_rfl) (by kernel_rfl) (by kernel_rfl) (fun _ _ _ h => h) (Or.inl ⟨by rfl, ?_⟩) hHeld ?_
      ·rintro wx ⟨hs0, hs1, hs2⟩
       go_simp
      simp only [Act.put, List.setIfInBounds_toArray, List.set_cons_zero, List.set_cons_succ]
      refine wpAnyH_done (by kernel_rfl) ?_ _
      go_wp2_with fail
      go_meet
      case rel => exact ⟨⟨_, rfl, HFA⟩, rfl, rfl, Lib.hid ⟨HDT.out.1, S6.out.trans HDT.out.2⟩⟩
     case rest =>
      obtain ⟨⟨AF, rfl, HFA⟩, rfl, rfl, HDS⟩ := hcut
      have HD7 := Lib.hid HDS.out.1
      have S7 := Lib.hid HDS.out.2
      clear c3 b0 b1 f1 HD6 S6 HRW HSS HCL HUP HSR KF HDS hne hg6
      go_wp2_with fail
      go_loopw [73] (fun iv wr => ∃ j : Nat, j ≤ fs.length ∧ iv = I j ∧ Hid (DIn w B x L gb #[I gm.src, I gm.dst, .slice A2 gm.bytes.length c2] ((fs.take j).foldl (fun s' y => sysSend s' gm.dst gm.src y) { s with way := s.way.eraseIdx i, rs := s.rs.set gm.dst q }) wr) ∧ Hid (FrAt wr AF fs) ∧ Hid (Stay w wr)) (fun iv _ => fs.length - (intOf iv).toNat)
      case atStart => exact ⟨0, Nat.zero_le _, rfl, HD7, HFA, S7⟩
      case round =>
       clear HD7 HFA S7
       obtain ⟨j, hj, rfl, HD, HFA, HS⟩ := hrel
       by_cases hlt : j < fs.length
       ·obtain ⟨gr2, rfl, hh⟩ := HFA.out (by intro e; rw [e] at hlt; simp at hlt)
        obtain ⟨y, hy⟩ : ∃ y, fs[j]? = some y := ⟨_, List.getElem?_eq_getElem hlt⟩
        have hyw := HTW.out y (List.mem_of_getElem? hy)
        have HYW := Lib.hid hyw
        have HRG : Hid (wr.rangeAt gr2 (j * 23) (ints y)) := Lib.hid (fun k v hv => by rw [hh.cell]; exact sy_frs_at fs (fun f hf => (HTW.out f hf).1) j y hy k v hv)
        have hsI2 : Hid ((Tryz.prog.info? 110).map (·.size) = some (ints y).length) := Lib.hid (by rw [ints_length, hyw.1]; exact infoFrame)
        have hsy : Hid ((Tryz.prog.info? 110).map (·.size) = some (frC y).size) := Lib.hid (by rw [frC_size _ hyw.1]; exact infoFrame)
        have hzy : Hid ((frC zeroF).size = (frC y).size) := Lib.hid (by rw [frC_size _ hyw.1]; rfl)
        have HFJ : Hid (Fine (T + 10) ((fs.take j).foldl (fun s' y => sysSend s' gm.dst gm.src y) { s with way := s.way.eraseIdx i, rs := s.rs.set gm.dst q })) := Lib.hid ((Fine.sends HM.out.2.1 HM.out.1 (fs.take j) HF2.out).mono (by rw [List.length_take]; omega))
        have HST : Hid ((fs.take (j + 1)).foldl (fun s' y => sysSend s' gm.dst gm.src y) { s with way := s.way.eraseIdx i, rs := s.rs.set gm.dst q } = sysSend ((fs.take j).foldl (fun s' y => sysSend s' gm.dst gm.src y) { s with way := s.way.eraseIdx i, rs := s.rs.set gm.dst q }) gm.dst gm.src y) := Lib.hid (by
         rw [List.take_add_one, hy, List.foldl_append]
         rfl)
        clear hh hy hyw hj
        go_upto_region 12 with (first
         | (refine wpList_load_mid rfl 110 (.tmp 75) rfl gr2 (j * 23) rfl (ints y) _ HRG.out Tryz.underlying110 rfl hsI2.out ?_)
         | (rw [← zeroFrame]; refine wpList_store_row rfl 110 (.tmp 9) (.tmp 76) rfl wr.heap.size (frC y) rfl rfl 110 (frC zeroF) (Has.new wr 110 (frC zeroF)) hsy.out hzy.out (frC_one _) ?_))
        have h9 := oneF_has wr y
        change Code.wp _ _ _ _ (oneF wr y)
        generalize oneF wr y = w9 at *
        obtain ⟨k9, hb9⟩ := h9
        have HD9 := Lib.hid (HD.out.after hb9)
        have HS9 := Lib.hid (HS.out.trans (Stay.below hb9))
        have HFA9 := Lib.hid (HFA.out.stay (Stay.below hb9))
        have b0 := HD9.out.box.cellv 0 _ rfl
        have b1 := HD9.out.box.cellv 1 _ rfl
        have hg9 := HD9.out.lt
        generalize hG : wr.heap.size = g9 at *
        clear hG hb9 HD HS HFA HRG
        go_wp2_with (first
         | (refine wpList_load_row rfl 110 (.tmp 9) rfl g9 rfl 110 (frC y) (0, 0) _ k9 Tryz.underlying110 rfl hsy.out ?_)
         | (go_at_call 43; refine (din_send HD9.out HFJ.out (by omega) gm.dst gm.src y HYW.out).mono ?_; rintro e wb ⟨rfl, hd2, hst2⟩; have HDB := Lib.hid hd2; have HSB := Lib.hid (HS9.out.trans hst2); have HFB := Lib.hid (HFA9.out.stay hst2); clear hd2 hst2))
        go_roundw
        case rel => exact ⟨j + 1, hlt, by rfl, by rw [HST.out]; exact HDB, HFB, HSB⟩
        case measure => simp [intOf]; omega
       ·have hjn : j = fs.length := by omega
        have HTK := Lib.hid (List.take_of_length_le (Nat.le_of_eq hjn.symm))
        have hnlt : ¬ (j : Int) < (fs.length : Int) := by omega
        go_wp2
        go_ret
        refine ⟨⟨_, rfl, fun _ => rfl⟩, ?_, HS.out⟩
        rw [HE.out]
        have := HD.out.sy
        rw [HTK.out] at this
        exact this
   ·have HE : Hid (deliver L s i = { s with way := s.way.eraseIdx i }) := Lib.hid (by rw [HEQ.out, if_neg (fun h => hs h.2)])
    have hne : (fr != (gm.src : Int)) = true := by simpa using hs
    have he2 : errV er = .nilIface := by rw [he]; rfl
    rw [he2]
    clear hs
    go_wp2
    go_ret
    exact ⟨⟨_, rfl, fun _ => rfl⟩, by rw [HE.out]; exact HD6.out.sy, S6.out⟩
  ·have HE : Hid (deliver L s i = { s with way := s.way.eraseIdx i }) := Lib.hid (by rw [HEQ.out, if_neg (fun h => he h.1)])
   have he2 : errV er = .iface 73 (I er) := by unfold errV; rw [if_neg he]
   rw [he2]
   clear he
   go_wp2
   go_ret
   exact ⟨⟨_, rfl, fun _ => rfl⟩, by rw [HE.out]; exact HD6.out.sy, S6.out⟩
 ·have hii : s.way.length ≤ i := by omega
  have HE : Hid (deliver L s i = s) := Lib.hid (by
   unfold deliver
   rw [List.getElem?_eq_none hii])
  clear h hv hf
  go_enter Tryz.func39, Tryz.ntmps39
  go_wp2
  go_ret
  exact ⟨⟨_, rfl, fun h => absurd h (Nat.not_lt.2 hii)⟩, by rw [HE.out]; exact SyIn.start HH.out HBS.out, Stay.refl w⟩
end
end Go.Proofs.YtdhekhlmdefcnabGreatDoor
namespace Go.Proofs.YtdhekhlmdefcnabGreatDoor
open Go.RowKit
section
variable {w0 w w1 w' : World} {B : Nat} {x : SyX} {L : Lay} {s s' : Sys} {T : Nat}
theorem InPost.since {x1 : SyX} {V : Value → Prop} {e : Ending} (_h1 : SyAt w B x1 L s) (hm : Moved w0 w x x1) (h : InPost w B x1 L w V s' e w') : InPost w0 B x L w V s' e w' := by
 obtain ⟨h2, ⟨x2, h3, h4, h5⟩, h6⟩ := h
 exact ⟨h2, ⟨x2, h3, hm.trans h4, h5⟩, h6⟩
theorem in_deliv (h : SyIn w0 B x L s w) (hf : Fine T s) (hL : L.Ok) (hT : T ≤ 9999999900) (i : Nat) (hi : i < s.way.length ∨ s.way.length = 0) : Calls Tryz.prog 39 #[.pointer (some ⟨x.g, 0, none⟩), I i] w (InPost w0 B x L w (fun v => i < s.way.length → v = .nilIface) (deliver L s i)) := by
 obtain ⟨x1, h1, hm, hB⟩ := h
 have hc := in_deliver h1 hB hf hL hT i hi
 rw [hm.same] at hc
 exact hc.mono fun e w' h => h.since h1 hm
theorem in_twice (h : SyIn w0 B x L s w) (hf : Fine T s) (hT : T ≤ 9999999990) (i : Nat) (hi : i < s.way.length ∨ s.way.length = 0) : Calls Tryz.prog 102 #[.pointer (some ⟨x.g, 0, none⟩), I i] w (InPost w0 B x L w (fun v => i < s.way.length → v = .nilIface) (sysTwice s i)) := by
 obtain ⟨x1, h1, hm, hB⟩ := h
 have hc := sy_twice h1 hB hf hT i hi
 rw [hm.same] at hc
 refine hc.mono ?_
 rintro e w' ⟨⟨v, he, hn⟩, x2, h2, hm2⟩
 exact ⟨⟨_, he, hn⟩, SyIn.next h1 hm hB h2 hm2⟩
theorem in_crash (h : SyIn w0 B x L s w) (hL : L.Ok) (k : Nat) (hk : k < 3) : Calls Tryz.prog 90 #[.pointer (some ⟨x.g, 0, none⟩), I k] w (InPost w0 B x L w (· = .nilIface) (sysCrash s k)) := by
 obtain ⟨x1, h1, hm, hB⟩ := h
 have hc := sy_crash h1 hB hL k hk
 rw [hm.same] at hc
 refine hc.mono ?_
 rintro e w' ⟨⟨v, he, hn⟩, x2, h2, hm2⟩
 exact ⟨⟨_, he, hn trivial⟩, SyIn.next h1 hm hB h2 hm2⟩
theorem SyIn.wcell (h : SyIn w0 B x L s w) : ∃ A c, w.cell? ⟨x.g, 7, none⟩ = some (.slice A s.way.length c) := by
 obtain ⟨x1, h1, hm, _⟩ := h
 obtain ⟨A, c, _, h7⟩ := h1.wcell
 exact ⟨A, c, by rw [← hm.same]; exact h7⟩
set_option maxHeartbeats 2000000 in
set_option maxRecDepth 100000 in
theorem in_flows (h : SyIn w0 B x L s w) (hf : Fine T s) (hL : L.Ok) (hT : T ≤ 9999980000) : Calls Tryz.prog 24 #[.pointer (some ⟨x.g, 0, none⟩)] w (InPost w0 B x L w (· = .tuple #[]) (flows L s 1200)) := by
 have HH := Lib.hid h
 have HF := Lib.hid hf
 clear h hf
 go_enter Tryz.func24, Tryz.ntmps24
 go_wp2_with fail
 go_loopw [2] (fun iv wr => ∃ (k : Nat) (s' : Sys), k ≤ 1200 ∧ iv = I k ∧ Hid (SyIn w0 B x L s' wr) ∧ Hid (Fine (T + 14 * k) s') ∧ Hid (flows L s' (1200 - k) = flows L s 1200) ∧ Hid (Stay w wr)) (fun iv _ => 1200 - (intOf iv).toNat)
 case atStart => exact ⟨0, s, by omega, rfl, HH, HF, Lib.hid rfl, Lib.hid (Stay.refl w)⟩
 case round =>
  clear HH HF
  obtain ⟨k, s', hk, rfl, HI, HF, HE, HS⟩ := hrel
  have hg := HI.out.lt
  obtain ⟨A, c, c7⟩ := HI.out.wcell
  by_cases h0 : s'.way.length = 0
  ·have HE2 : Hid (flows L s 1200 = s') := Lib.hid (by
    rw [← HE.out]
    cases 1200 - k with
    | zero => rfl
    | succ n => rw [flows, if_pos h0])
   rw [h0] at c7
   clear h0
   go_wp2
   go_end0
   exact ⟨⟨_, rfl, rfl⟩, by rw [HE2.out]; exact HI.out, HS.out⟩
  ·have hpos : 0 < s'.way.length := by omega
   by_cases hlt : k < 1200
   ·have hki : (k : Int) < 1200 := by omega
    have HP := Lib.hid hpos
    have HE2 : Hid (flows L (deliver L s' 0) (1200 - (k + 1)) = flows L s 1200) := Lib.hid (by
     rw [← HE.out, show 1200 - k = (1200 - (k + 1)) + 1 by omega, flows, if_neg h0])
    have HF2 := Lib.hid (HF.out.deliver hL 0)
    clear h0
    go_wp2_with (go_at_call 39; refine (in_deliv HI.out HF.out hL (by omega) 0 (.inl HP.out)).mono ?_; rintro e wb ⟨⟨v, rfl, _⟩, hin2, hst2⟩; have HI2 := Lib.hid hin2; have HS2 := Lib.hid (HS.out.trans hst2); clear hin2 hst2)
    go_roundw
    case rel => exact ⟨k + 1, deliver L s' 0, by omega, by rfl, HI2, Lib.hid (HF2.out.mono (by omega)), HE2, HS2⟩
    case measure => simp [intOf]; omega
   ·have hk2 : k = 1200 := by omega
    subst hk2
    have HE2 : Hid (flows L s 1200 = s') := Lib.hid (by rw [← HE.out]; rfl)
    clear h0
    go_wp2
    go_end0
    exact ⟨⟨_, rfl, rfl⟩, by rw [HE2.out]; exact HI.out, HS.out⟩
def tkTo (L : Lay) (s : Sys) : Nat → Sys
 | 0 => s
 | k + 1 => tickR L (tkTo L s k) k
theorem tkTo_fine {U : Nat} (h : Fine U s) (hL : L.Ok) : ∀ k, k ≤ 3 → Fine (U + 5 * k) (tkTo L s k)
 | 0, _ => h
 | k + 1, hk => ((tkTo_fine h hL k (by omega)).tickR hL (by omega)).mono (by omega)
def halfTo (L : Lay) (N : Nat) (s : Sys) : Nat → Sys
 | 0 => s
 | k + 1 => halfRound L N (halfTo L N s k)
theorem halfTo_fine {U N : Nat} (hN : N = 1200) (h : Fine U s) (hL : L.Ok) : ∀ k, Fine (U + 16815 * k) (halfTo L N s k)
 | 0 => h
 | k + 1 => ((halfTo_fine hN h hL k).half hL N).mono (by omega)
theorem in_flowsN (N : Nat) (hN : N = 1200) (h : SyIn w0 B x L s w) (hf : Fine T s) (hL : L.Ok) (hT : T ≤ 9999980000) : Calls Tryz.prog 24 #[.pointer (some ⟨x.g, 0, none⟩)] w (InPost w0 B x L w (· = .tuple #[]) (flows L s N)) := by
 rw [hN]
 exact in_flows h hf hL hT
set_option maxHeartbeats 1000000 in
set_option maxRecDepth 100000 in
theorem in_calm (N : Nat) (hN : N = 1200) (h : SyIn w0 B x L s w) (hf : Fine T s) (hL : L.Ok) (n : Nat) (hn : n ≤ 100) (hT : T ≤ 9900000000) : Calls Tryz.prog 11 #[.pointer (some ⟨x.g, 0, none⟩), I n] w (InPost w0 B x L w (· = .tuple #[]) (calm L N s n)) := by
 have HH := Lib.hid h
 have HF := Lib.hid hf
 clear h hf
 go_enter Tryz.func11, Tryz.ntmps11
 go_wp2_with fail
 go_loopw [1] (fun iv wr => ∃ (m : Nat) (s' : Sys), m ≤ n ∧ iv = I m ∧ Hid (SyIn w0 B x L s' wr) ∧ Hid (Fine (T + 50430 * (n - m)) s') ∧ Hid (calm L N s' m = calm L N s n) ∧ Hid (Stay w wr)) (fun iv _ => (intOf iv).toNat)
 case atStart => exact ⟨n, s, Nat.le_refl _, rfl, HH, Lib.hid (HF.out.mono (by omega)), Lib.hid rfl, Lib.hid (Stay.refl w)⟩
 case round =>
  clear HH HF
  obtain ⟨m, s', hm, rfl, HI, HF, HE, HS⟩ := hrel
  by_cases h0 : m = 0
  ·subst h0
   go_wp2
   go_end0
   exact ⟨⟨_, rfl, rfl⟩, by rw [← HE.out]; exact HI.out, HS.out⟩
  ·obtain ⟨m', hm'⟩ : ∃ m', m = m' + 1 := ⟨m - 1, by omega⟩
   have HM := Lib.hid hm'
   have hpos : 0 < m := by omega
   have HF1 := Lib.hid (Fine.flows hL N HF.out)
   have HE2 : Hid (calm L N { halfTo L N (flows L s' N) 2 with v := voTick (halfTo L N (flows L s' N) 2).v } m' = calm L N s n) := Lib.hid (by rw [← HE.out, hm']; rfl)
   clear h0 hm'
   go_wp2_with (go_at_call 24; refine (in_flowsN N hN HI.out HF.out hL (by omega)).mono ?_; rintro e wb ⟨⟨v, rfl, rfl⟩, hin2, hst2⟩; have HI2 := Lib.hid hin2; have HS2 := Lib.hid (HS.out.trans hst2); clear hin2 hst2)
   go_loopw [11] (fun iv wi => ∃ i : Nat, i ≤ 2 ∧ iv = I i ∧ Hid (SyIn w0 B x L (halfTo L N (flows L s' N) i) wi) ∧ Hid (Stay w wi)) (fun iv _ => 2 - (intOf iv).toNat)
   case atStart => exact ⟨0, by omega, rfl, HI2, HS2⟩
   case round =>
    clear HI2 HS2 HI HS
    obtain ⟨i, hi, rfl, HI, HS⟩ := hrel
    by_cases hi2 : i < 2
    ·have HFI := Lib.hid (halfTo_fine hN HF1.out hL i)
     have hii : (i : Int) < 2 := by omega
     have HI3 := Lib.hid hi2
     clear hi2
     go_wp2_with fail
     go_loopw [13] (fun kv wk => ∃ k : Nat, k ≤ 3 ∧ kv = I k ∧ Hid (SyIn w0 B x L (tkTo L (halfTo L N (flows L s' N) i) k) wk) ∧ Hid (Stay w wk)) (fun kv _ => 3 - (intOf kv).toNat)
     case atStart => exact ⟨0, by omega, rfl, HI, HS⟩
     case round =>
      clear HI HS
      obtain ⟨k, hk, rfl, HI, HS⟩ := hrel
      by_cases hk3 : k < 3
      ·have HK := Lib.hid hk3
       have hki : (k : Int) < 3 := by omega
       clear hk3
       have HFK := Lib.hid (tkTo_fine HFI.out hL k (by omega))
       go_wp2_with (go_at_call 25; refine (in_tick HI.out HFK.out hL (by omega) k HK.out).mono ?_; rintro e wb ⟨⟨v, rfl, _⟩, hin2, hst2⟩; have HI2 := Lib.hid hin2; have HS2 := Lib.hid (HS.out.trans hst2); clear hin2 hst2)
       go_roundw
       case rel => exact ⟨k + 1, HK.out, by rfl, HI2, HS2⟩
       case measure => have := HK.out; simp [intOf]; omega
      ·have hk4 : k = 3 := by omega
       subst hk4
       have HFK := Lib.hid (tkTo_fine HFI.out hL 3 (by omega))
       go_wp2_with (go_at_call 24; refine (in_flowsN N hN HI.out HFK.out hL (by omega)).mono ?_; rintro e wb ⟨⟨v, rfl, rfl⟩, hin2, hst2⟩; have HI2 := Lib.hid hin2; have HS2 := Lib.hid (HS.out.trans hst2); clear hin2 hst2)
       go_roundw
       case rel => exact ⟨i + 1, HI3.out, by rfl, HI2, HS2⟩
       case measure => have := HI3.out; simp [intOf]; omega
    ·have hi3 : i = 2 := by omega
     subst hi3
     have HFI := Lib.hid (halfTo_fine hN HF1.out hL 2)
     go_wp2_with (go_at_call 25; refine (in_tick3 HI.out HFI.out.vo).mono ?_; rintro e wb ⟨⟨v, rfl, _⟩, hin2, hst2⟩; have HI2 := Lib.hid hin2; have HS2 := Lib.hid (HS.out.trans hst2); clear hin2 hst2)
     go_roundw
     case rel => exact ⟨m', _, by have := HM.out; omega, by rw [show (m : Int) - 1 = (m' : Int) by have := HM.out; omega], HI2, Lib.hid (HFI.out.voTick.mono (by have := HM.out; omega)), HE2, HS2⟩
     case measure => simp [intOf]; omega
end
end Go.Proofs.YtdhekhlmdefcnabGreatDoor
