/- Part 30 of the proof: SySpoil, SyRep, SyNew. -/
import Derived.Test.YtdhekhlmdefcnabPart29
import Derived.Test.YtdhekhlmdefcnabPart8
namespace Go.Proofs.Ytdhekhlmdefcnab
open Go.RowKit
def withinTo (n p what j : Nat) : Bool := (List.range j).all fun k => !what.testBit (31 - k) || decide (p + k < 8 * n)
theorem withinTo_succ (n p what j : Nat) : withinTo n p what (j + 1) = (withinTo n p what j && (!what.testBit (31 - j) || decide (p + j < 8 * n))) := by
 unfold withinTo
 rw [List.range_succ, List.all_append]
 simp
theorem within_bad {n p what j : Nat} (hj : j < 32) (h1 : what.testBit (31 - j) = true) (h2 : ¬ p + j < 8 * n) : within n p what = false := by
 cases h : within n p what with
 | false => rfl
 | true =>
  unfold within at h
  have := List.all_eq_true.1 h j (List.mem_range.2 hj)
  simp [h1, h2] at this
theorem wayL_set : ∀ (l : List Gram) (vs : List Value) (i : Nat) (g g' : Gram) (v : Value), vs.length = l.length → l[i]? = some g → g'.src = g.src → g'.dst = g.dst → wayL (l.set i g') (vs.set i v) = (wayL l vs).set (i * 3 + 2) v
 | [], _, i, _, _, _, _, h, _, _ => by simp at h
 | _ :: _, [], _, _, _, _, hl, _, _, _ => by simp at hl
 | a :: l, b :: vs, 0, g, g', v, _, h, h1, h2 => by
  have e : a = g := by simpa using h
  subst e
  show I g'.src :: I g'.dst :: v :: wayL l vs = _
  rw [h1, h2]
  rfl
 | a :: l, b :: vs, i + 1, g, g', v, hl, h, h1, h2 => by
  have ih := wayL_set l vs i g g' v (by simpa using hl) (by simpa using h) h1 h2
  show I a.src :: I a.dst :: b :: wayL (l.set i g') (vs.set i v) = (I a.src :: I a.dst :: b :: wayL l vs).set ((i + 1) * 3 + 2) v
  rw [ih, show (i + 1) * 3 + 2 = i * 3 + 2 + 1 + 1 + 1 by omega]
  rfl
theorem own_setS {w : World} {base : Nat} {e : TypeId} {size g n c : Nat} {xs : List Value} (h : w.ownsRow base e size (.slice (some ⟨g, 0, none⟩) n c) n xs) (i : Nat) (v : Value) :
  (w.setCell ⟨g, i, none⟩ v).ownsRow base e size (.slice (some ⟨g, 0, none⟩) n c) n (xs.set i v) := by
 obtain ⟨h1, h2⟩ := h
 refine ⟨by simpa using h1, ?_⟩
 rcases h2 with ⟨h0, _⟩ | ⟨g', cap, cur, he, hg, hh, h3, h4, h5, h6⟩
 ·cases h0
 ·injection he with e1 _ e3
  injection e1 with e1
  injection e1 with e1
  subst e1
  subst e3
  have hs : Has w g e cur := hh
  refine .inr ⟨g, c, cur.setIfInBounds i v, rfl, hg, hs.set i v, h3, h4, by simpa using h5, ?_⟩
  rw [Array.toList_setIfInBounds, ← h6]
  by_cases hi : i < n * size
  ·rw [List.take_set]
  ·rw [List.take_set_of_le (by omega), List.set_eq_of_length_le (by simp; omega)]
section
variable {w0 w w' : World} {B : Nat} {x : SyX} {L : Lay} {s : Sys} {T : Nat}
set_option maxHeartbeats 4000000 in
set_option maxRecDepth 100000 in
theorem sy_spoil (h : SyAt w B x L s) (hB : B ≤ w.heap.size) (hf : Fine T s) (i : Nat) (hi : i < s.way.length ∨ s.way.length = 0) (p wn : Nat) (hp : p ≤ 1000) (hw0 : 0 < wn) (hw1 : wn < 4294967296) :
  Calls Try.prog 34 #[.pointer (some ⟨x.g, 0, none⟩), I i, I p, .int .u32 (wn : Int)] w (SysDone w B x L (sysSpoil s i p wn)) := by
 obtain ⟨A, c, hv, c7⟩ := h.wcell
 have hg := h.has.lt
 have HH := Lib.hid h
 have HF := Lib.hid hf
 have HBS := Lib.hid hB
 rcases hi with hi | h0
 ·have hii : ¬ s.way.length ≤ i := by omega
  obtain ⟨gm, gw, c', v, hgm⟩ := h.gram hi
  have hAB : A = some ⟨gw, 0, none⟩ ∧ c = c' := by
   have := hv.symm.trans hgm.vw
   injection this with h1 h2 h3
   exact ⟨h1, h3⟩
  obtain ⟨rfl, rfl⟩ := hAB
  have g2 := hgm.c2
  have hmem := HF.out.gram gm (List.mem_of_getElem? hgm.get)
  have hl80 := hmem.2.2
  have HGE := Lib.hid hgm.get
  obtain ⟨A2, c2, hv2, hc2, hrd⟩ := hgm.bytes.reads
  subst hv2
  have HB2 := Lib.hid hgm.bytes
  have hib : i + 1 ≤ s.way.length := hi
  have h120 : i ≤ 120 := by have := HF.out.way; omega
  have HI := Lib.hid hi
  have HVW := Lib.hid hgm.vw
  have hgwl : gw < w.heap.size := by
   have := HH.out.lt (b := gw) (.inr (.inr (.inr (by rw [HVW.out]; rfl))))
   exact this
  have HCL := Lib.hid (clone_u8 (w := w) A2 gm.bytes.length c2 gm.bytes rfl (by omega) hrd)
  have HRD := Lib.hid hrd
  have HEQ : Hid (sysSpoil s i p wn = (if 8 * gm.bytes.length ≤ p ∨ wn = 0 ∨ within gm.bytes.length p wn = false ∨ (dec gm.bytes).1 ≠ 0 then s else { s with way := s.way.set i { gm with bytes := Crc.flips gm.bytes p wn 32 } })) := Lib.hid (by unfold sysSpoil; rw [HGE.out])
  have tz : ((wn : Int) == 0) = false := by simp; omega
  have hwn := Lib.hid hw0
  clear h hf hv hgm hrd hi hB hmem hw0
  generalize hn : gm.bytes.length = n at *
  have HN := Lib.hid hn
  clear hn
  by_cases hat : 8 * n ≤ p
  ·have hati : 8 * (n : Int) ≤ (p : Int) := by omega
   have HE : Hid (sysSpoil s i p wn = s) := Lib.hid (by rw [HEQ.out, if_pos (.inl hat)])
   go_enter Try.func34, Try.ntmps34
   go_wp2_with (go_at_call 63; refine HCL.out.mono ?_; rintro e wB ⟨⟨v', rfl, ho⟩, hbB⟩; obtain ⟨A', c', rfl, -, -, -, -⟩ := own_read ho; have HBB := Lib.hid hbB; clear ho hbB)
   go_ret
   exact ⟨⟨_, rfl⟩, x, by rw [HE.out]; exact HH.out.after HBB.out, Moved.of_below HBB.out⟩
  ·have hati : ¬ 8 * (n : Int) ≤ (p : Int) := by omega
   go_enter Try.func34, Try.ntmps34
   go_wp2_with (go_at_call 63; refine HCL.out.mono ?_; rintro e wB ⟨⟨v', rfl, ho⟩, hbB⟩; obtain ⟨A', c', rfl, hcn, -, hAn, -⟩ := own_read ho; have HBB := Lib.hid hbB; have HO := Lib.hid ho; have HAN := Lib.hid hAn; clear ho hbB hAn)
   obtain ⟨gb, rfl⟩ : ∃ gb, A' = some ⟨gb, 0, none⟩ := by
    rcases HO.out.2 with ⟨e, _⟩ | ⟨g', cap, cur, e, _⟩
    ·injection e with e1 e2
     omega
    ·injection e with e1
     exact ⟨g', e1⟩
   have hgb0 : w.heap.size ≤ gb := by
    rcases HO.out.2 with ⟨e, _⟩ | ⟨g', cap, cur, e, h2, _⟩
    ·cases e
    ·injection e with e1
     injection e1 with e1
     injection e1 with e1
     rw [e1]; exact h2
   obtain ⟨cur, kgw⟩ : ∃ cur, Has w gw 109 cur := by
    obtain ⟨_, cur, hh⟩ := own_block HH.out.way (q := gw) (by rw [HVW.out]; rfl)
    exact ⟨cur, hh⟩
   have KG := Lib.hid kgw
   have HO3 : Hid (wB.ownsRow w.heap.size 5 1 (.slice (some ⟨gb, 0, none⟩) n c') n (bytes (Crc.flips gm.bytes p wn 0))) := HO
   have hbB := HBB.out
   have hc7 := Lib.hid c7
   have hg2 := Lib.hid g2
   clear HO HAN HCL kgw HBB c7 g2
   generalize hG : w.heap.size = g0 at *
   have HG := Lib.hid hG
   clear hG
   go_loopw [48] (fun iv wr => ∃ j : Nat, j ≤ 32 ∧ iv = I j ∧ Hid (wr.ownsRow g0 5 1 (.slice (some ⟨gb, 0, none⟩) n c') n (bytes (Crc.flips gm.bytes p wn j))) ∧ Below g0 w wr ∧ Hid (withinTo n p wn j = true)) (fun iv _ => 32 - (intOf iv).toNat)
   case atStart => exact ⟨0, by omega, rfl, HO3, hbB, Lib.hid rfl⟩
   case round =>
    clear HO3 hbB
    obtain ⟨j, hj, rfl, HO, hbr, HWT⟩ := hrel
    by_cases hlt : j < 32
    ·have hsub : (31 : Int) - (j : Int) = ((31 - j : Nat) : Int) := by omega
     have tB := u32_bit wn (31 - j) hw1
     have HL : Hid (Crc.flips gm.bytes p wn (j + 1) = if wn.testBit (31 - j) && decide (p + j < 8 * n) then Crc.flipBit (Crc.flips gm.bytes p wn j) (p + j) else Crc.flips gm.bytes p wn j) := Lib.hid (by rw [Crc.flips, HN.out])
     have hj31 : 31 - j ≤ 31 := by omega
     have hji : (j : Int) < 32 := by omega
     have HJ := Lib.hid hlt
     cases hb1 : wn.testBit (31 - j) with
     | false =>
      have tB2 : (bits .and .u32 ((wn : Int) / 2 ^ (31 - j)) 1 == 0) = true := by
       have h := and_u32 (wn >>> (31 - j)) 1 (Nat.lt_of_le_of_lt (by rw [Nat.shiftRight_eq_div_pow]; exact Nat.div_le_self _ _) hw1) (by decide)
       rw [hb1] at tB
       rw [shr_cast] at tB ⊢
       rw [show ((1 : Nat) : Int) = 1 from rfl] at h
       rw [h, Nat.and_one_is_mod] at tB ⊢
       have : wn >>> (31 - j) % 2 = 0 ∨ wn >>> (31 - j) % 2 = 1 := by omega
       rcases this with e | e
       ·rw [e]; rfl
       ·rw [e] at tB; cases tB
      have HL' : Hid (Crc.flips gm.bytes p wn (j + 1) = Crc.flips gm.bytes p wn j) := Lib.hid (by rw [HL.out, hb1]; rfl)
      have HW' : Hid (withinTo n p wn (j + 1) = true) := Lib.hid (by rw [withinTo_succ, HWT.out, hb1]; rfl)
      clear hb1 HL tB hlt
      go_wp2_with fail
      go_roundw
      case rel => exact ⟨j + 1, HJ.out, by go_num, by rw [HL'.out]; exact HO, hbr, HW'⟩
      case measure => have := HJ.out; simp [intOf]; omega
     | true =>
      have tB2 : (bits .and .u32 ((wn : Int) / 2 ^ (31 - j)) 1 == 0) = false := by
       rw [hb1] at tB
       rw [eq_of_beq tB]
       rfl
      by_cases hr : p + j < 8 * n
      ·have tR : ¬ 8 * (n : Int) ≤ (p : Int) + (j : Int) := by omega
       have HW' : Hid (withinTo n p wn (j + 1) = true) := Lib.hid (by rw [withinTo_succ, HWT.out, decide_eq_true hr, Bool.or_true]; rfl)
       obtain ⟨y, hy⟩ := some_at (Crc.flips gm.bytes p wn j) ((p + j) / 8) (by rw [Crc.flips_length, HN.out]; omega)
       have HL' : Hid (Crc.flips gm.bytes p wn (j + 1) = (Crc.flips gm.bytes p wn j).set ((p + j) / 8) (y ^^^ UInt8.ofNat (128 >>> ((p + j) % 8)))) := Lib.hid (by rw [HL.out, hb1, decide_eq_true hr]; exact flips_byte _ _ _ hy)
       obtain ⟨c1, f1⟩ := own_byte HO.out hy
       have hq : ((p : Int) + (j : Int)) / 8 = (((p + j) / 8 : Nat) : Int) := by omega
       have hm8 : ((p : Int) + (j : Int)) % 8 = (((p + j) % 8 : Nat) : Int) := by omega
       have hqn : (p + j) / 8 < n := by omega
       have HX := Lib.hid (u8_xorp y ((p + j) % 8) (by omega))
       have hx8 := y.toNat_lt
       have hr8 : (p + j) % 8 < 8 := Nat.mod_lt _ (by decide)
       clear hb1 HL hy hr tB hlt
       generalize (p + j) / 8 = q at *
       generalize (p + j) % 8 = r at *
       go_wp2_with fail
       go_region
       go_wp2_with fail
       go_roundw
       case rel =>
        refine ⟨j + 1, HJ.out, by go_num, ?_, (hbr.setCell hgb0 _).drew, HW'⟩
        have h := own_set HO.out q (U8 (y ^^^ UInt8.ofNat (128 >>> r)))
        rw [bytes_set, ← HL'.out] at h
        have e : Value.int .u8 (bits .xor .u8 (y.toNat : Int) (128 / 2 ^ r)) = U8 (y ^^^ UInt8.ofNat (128 >>> r)) := U_eq HX.out
        rw [e]
        exact h
       case measure => have := HJ.out; simp [intOf]; omega
      ·have tR : 8 * (n : Int) ≤ (p : Int) + (j : Int) := by omega
       have HE : Hid (sysSpoil s i p wn = s) := Lib.hid (by rw [HEQ.out, if_pos (.inr (.inr (.inl (within_bad hlt hb1 hr))))])
       clear hb1 HL tB hr hlt
       go_wp2
       go_ret
       exact ⟨⟨_, rfl⟩, x, by rw [HE.out]; exact HH.out.after (by rw [HG.out]; exact hbr), Moved.of_below (by rw [HG.out]; exact hbr)⟩
    ·have hj32 : j = 32 := by omega
     subst hj32
     have HWI : Hid (within n p wn = true) := HWT
     have HYR := Lib.hid (HH.out.after (by rw [HG.out]; exact hbr))
     have c7 : wr.cell? ⟨x.g, 7, none⟩ = some (.slice (some ⟨gw, 0, none⟩) s.way.length c) := (hbr.cell (p := ⟨x.g, 7, none⟩) hg).trans hc7.out
     have g2 : wr.cell? ⟨gw, i * 3 + 2, none⟩ = some (.slice A2 n c2) := (hbr.cell (p := ⟨gw, i * 3 + 2, none⟩) hgwl).trans hg2.out
     have hgr := HYR.out.has.lt
     have KGR := Lib.hid (KG.out.after (by rw [HG.out]; exact hbr))
     have hrd2 : Reads wr wr.heap.size A2 (bytes gm.bytes) := (HRD.out.below hbr).more (by rw [← HG.out]; exact hbr.size)
     obtain ⟨er, f, hdec⟩ : ∃ er f, dec gm.bytes = (er, f) := ⟨_, _, rfl⟩
     have hwf := dec_wf2 gm.bytes
     have HDC := Lib.hid (decode_ok A2 n c2 gm.bytes wr HN.out hc2 hrd2)
     rw [hdec] at hwf HDC HEQ
     dsimp only at hwf HDC HEQ
     have hsf : Hid ((Try.prog.info? 35).map (·.size) = some (frC f).size) := Lib.hid (by rw [frC_size _ hwf.1]; exact infoFrame)
     have hzf : Hid ((frC zeroF).size = (frC f).size) := Lib.hid (by rw [frC_size _ hwf.1]; rfl)
     have HBR := Lib.hid hbr
     clear hwf hdec hrd2 hbr tz
     go_upto_region 15 with (first
      | (go_at_call 60; refine HDC.out.mono ?_; rintro e wD ⟨rfl, hbD⟩; have HBD := Lib.hid hbD; clear hbD)
      | (rw [← zeroFrame]; refine wpList_store_row rfl 35 (.tmp 11) (.tmp 90) rfl wD.heap.size (frC f) rfl rfl 35 (frC zeroF) (Has.new wD 35 (frC zeroF)) hsf.out hzf.out (frC_one _) ?_))
     have h6 := (oneF_has wD f).2
     change Code.wp _ _ _ _ (oneF wD f)
     generalize oneF wD f = w6 at *
     have hb6 : Below wr.heap.size wr w6 := HBD.out.trans (h6.mono HBD.out.size)
     have HB6 := Lib.hid hb6
     have HY6 := Lib.hid (HYR.out.after hb6)
     have c76 : w6.cell? ⟨x.g, 7, none⟩ = some (.slice (some ⟨gw, 0, none⟩) s.way.length c) := (hb6.cell (p := ⟨x.g, 7, none⟩) hgr).trans c7
     have g26 : w6.cell? ⟨gw, i * 3 + 2, none⟩ = some (.slice A2 n c2) := (hb6.cell (p := ⟨gw, i * 3 + 2, none⟩) KGR.out.lt).trans g2
     have hg6 := HY6.out.has.lt
     have KG6 := Lib.hid (KGR.out.after hb6)
     have fr6 := KG6.out.free (i * 3 + 2)
     have HBW : Hid (Below w.heap.size w w6) := Lib.hid (by rw [HG.out]; exact HBR.out.trans (hb6.mono (by rw [← HG.out]; exact HBR.out.size)))
     clear hb6 h6 HBD c7 g2 hgr HDC
     by_cases he : er = 0
     ·have he2 : errV er = .nilIface := by rw [he]; rfl
      rw [he2]
      have HE : Hid (sysSpoil s i p wn = { s with way := s.way.set i { gm with bytes := Crc.flips gm.bytes p wn 32 } }) := Lib.hid (by
       rw [HEQ.out, if_neg]
       rintro (h | h | h | h)
       ·exact hat h
       ·have := hwn.out; omega
       ·rw [HWI.out] at h; cases h
       ·exact h he)
      clear he
      go_wp2
      go_ret
      have ht : Turned (fun b => b = x.g ∨ x.vw.ownBlock = some b) w6 (w6.setCell ⟨gw, i * 3 + 2, none⟩ (.slice (some ⟨gb, 0, none⟩) n c')) := (Turned.refl _ _).setCell _ _ (.inl (.inr (by rw [HVW.out]; rfl)))
      have hF : ∀ b, (b = x.g ∨ x.vw.ownBlock = some b) → Mut w6 b := fun b e => HY6.out.mut (e.elim .inl fun e => .inr (.inr (.inr e)))
      have hoB : BAt w6 (.slice (some ⟨gb, 0, none⟩) n c') (Crc.flips gm.bytes p wn 32) := BAt.of_own (base := g0) (by
       rw [Crc.flips_length, HN.out]
       exact own_after HO.out HB6.out)
      have how := HY6.out.way
      rw [HVW.out] at how
      have hsetw := own_setS how (i * 3 + 2) (.slice (some ⟨gb, 0, none⟩) n c')
      rw [← wayL_set s.way x.vs i gm { gm with bytes := Crc.flips gm.bytes p wn 32 } _ HY6.out.len HGE.out rfl rfl] at hsetw
      obtain ⟨h3, h4⟩ := HY6.out.setWay (vw' := x.vw) (vs' := x.vs.set i (.slice (some ⟨gb, 0, none⟩) n c')) (way' := s.way.set i { gm with bytes := Crc.flips gm.bytes p wn 32 }) (lost' := s.lost) ht
       (HY6.out.has.far (HY6.out.has.ne KG6.out (by decide)) _) (by rw [HVW.out, List.length_set]; exact hsetw) (by rw [List.length_set, List.length_set, HY6.out.len]) (fun b hb => .inl hb) (fun j gm' v' e1 e2 => by
        rw [List.getElem?_set] at e1 e2
        by_cases hij : i = j
        ·subst hij
         rw [if_pos rfl] at e1 e2
         split at e1
         ·split at e2
          ·injection e1 with e1
           injection e2 with e2
           rw [← e1, ← e2]
           exact hoB.keepT ht hF
          ·cases e2
         ·cases e1
        ·rw [if_neg hij] at e1 e2
         exact (HY6.out.bytes j gm' v' e1 e2).keepT ht hF)
      refine ⟨⟨_, rfl⟩, _, ?_, (Moved.of_below HBW.out).trans h4⟩
      rw [HE.out]
      exact h3
     ·have HE : Hid (sysSpoil s i p wn = s) := Lib.hid (by rw [HEQ.out, if_pos (.inr (.inr (.inr he)))])
      have he2 : errV er = .iface 88 (I er) := by unfold errV; rw [if_neg he]
      rw [he2]
      clear he
      go_wp2
      go_ret
      exact ⟨⟨_, rfl⟩, x, by rw [HE.out]; exact HH.out.after HBW.out, Moved.of_below HBW.out⟩
 ·have hii : s.way.length ≤ i := by omega
  have HE : Hid (sysSpoil s i p wn = s) := Lib.hid (by
   unfold sysSpoil
   rw [List.getElem?_eq_none hii])
  clear h hv hf
  go_enter Try.func34, Try.ntmps34
  go_wp2
  go_ret
  exact ⟨⟨_, rfl⟩, x, by rw [HE.out]; exact HH.out, Moved.refl w x⟩
end
end Go.Proofs.Ytdhekhlmdefcnab
namespace Go.Proofs.Ytdhekhlmdefcnab
open Go.RowKit
theorem ret_tct {P : Program} {fn : Func} {a p u : Tmp} {ty : TypeId} (h : fn.results = #[.tmp a, .cell p ty, .tmp u]) (tmps : Array Value) (w : World) (g : Nat) (t : TypeId) (cs : Array Value) (d : TypeDesc)
  (hp : tmps.getD p undef = .pointer (some ⟨g, 0, none⟩)) (hg : Has w g t cs)
  (hu : P.underlying ty = some d) (hd : (match d with | .struct _ | .array _ _ => true | _ => false) = true) (hi : (P.info? ty).map (·.size) = some cs.size) :
  (results fn tmps).run P w = .ok (.tuple #[tmps.getD a undef, .agg cs, tmps.getD u undef]) w := by
 have hp' : tmps[p]?.getD undef = .pointer (some ⟨g, 0, none⟩) := by simpa using hp
 simp [results, h, hp', asAddr, run_loadVar_row w g t ty cs (0, 0) d hg hu hd hi]
section
variable {w0 w w' : World} {B : Nat} {x : SyX} {L : Lay} {s : Sys} {T : Nat}
theorem stL_17 {st : St} {M : Nat} (h : st.Fits M) : (stL st).length = 17 := by
 unfold stL
 simp [ints, zs, h.used8, h.idle8]
set_option maxHeartbeats 4000000 in
set_option maxRecDepth 100000 in
theorem sy_replica (h : SyAt w B x L s) (hf : Fine T s) (k : Nat) (hk' : k < 3) : Calls Try.prog 17 #[.pointer (some ⟨x.g, 0, none⟩), I k] w fun e w' => e = .returned (.tuple #[I ((re s k).cycle : Int), .agg (stC (re s k).state), .nilIface]) ∧ Below w.heap.size w w' := by
 have hs17 := stL_17 (hf.fits k hk').state
 have hb : Below w.heap.size w (w.alloc (.cells #[I 0, I 0, I 0, I 0, I 0, I 0, I 0, I 0, I 0, I 0, I 0, I 0, I 0, I 0, I 0, I 0, I 0] 33)) := (Below.refl _ _).alloc (Nat.le_refl _) _
 have k0 : Has (w.alloc (.cells #[I 0, I 0, I 0, I 0, I 0, I 0, I 0, I 0, I 0, I 0, I 0, I 0, I 0, I 0, I 0, I 0, I 0] 33)) w.heap.size 33 (stC St.zero) := Has.new w 33 #[I 0, I 0, I 0, I 0, I 0, I 0, I 0, I 0, I 0, I 0, I 0, I 0, I 0, I 0, I 0, I 0, I 0]
 have hi2 : (Try.prog.info? 33).map (·.size) = some (stC (re s k).state).size := by unfold stC; rw [List.size_toArray, hs17]; exact infoState
 have hz : (stC St.zero).size = (stC (re s k).state).size := by unfold stC; rw [List.size_toArray, List.size_toArray, hs17]; rfl
 have h1 : (stC (re s k).state).all (·.oneCell') = true := by
  unfold stC stL
  exact all_oneCell_toArray fun v hv => by
   simp only [List.mem_cons, List.mem_append, ints, List.mem_map] at hv
   rcases hv with rfl | ⟨y, _, rfl⟩ | ⟨y, _, rfl⟩ <;> rfl
 have hsy : SyAt (w.alloc (.cells #[I 0, I 0, I 0, I 0, I 0, I 0, I 0, I 0, I 0, I 0, I 0, I 0, I 0, I 0, I 0, I 0, I 0] 33)) B x L s := h.after hb
 have hg0l : Hid (w.heap.size ≤ (w.alloc (.cells #[I 0, I 0, I 0, I 0, I 0, I 0, I 0, I 0, I 0, I 0, I 0, I 0, I 0, I 0, I 0, I 0, I 0] 33)).heap.size) := Lib.hid hb.size
 have hki : (k : Int) < 3 := by omega
 have hk1 : k ≤ 1000 := by omega
 have HD := Lib.hid (show decide (k < 3) = true by simpa using hk')
 have hgx0 := h.has.lt
 clear h
 go_enter Try.func17, Try.ntmps17
 go_upto_region 1 with fail
 generalize w.alloc (.cells #[I 0, I 0, I 0, I 0, I 0, I 0, I 0, I 0, I 0, I 0, I 0, I 0, I 0, I 0, I 0, I 0, I 0] 33) = w1 at *
 have hDW := Lib.hid (hsy.after ((Below.refl _ _).drew))
 have HC1 := Lib.hid (re_cycle (hDW.out.rep k hk'))
 have HC2 := Lib.hid (re_state (hDW.out.rep k hk') hs17)
 have hgx := hsy.has.lt
 have HB := Lib.hid hb
 generalize hG : w.heap.size = g0 at *
 have HG := Lib.hid hG
 clear hG hsy hb hs17
 go_upto_region 3 with (go_at_call 43; refine (right_nat k hk1).mono ?_; rintro e w' ⟨rfl, rfl⟩; rw [HD.out])
 refine wp_region_held_drew (S := fun wx => (wx.cell? ⟨x.g, 3 + k, none⟩ = some (.pointer (some ⟨x.rb k, 0, none⟩)))) (by kernel_rfl) (hDW.out.rcell hk') (fun hHeld => ?_)
 refine wpAnyH_take (i := 0) (oi := { dst := some 12, op := Op.move (Operand.tmp 0), type := 41, pos := "system.go:244", after := #[], guard := none }) (v := .pointer (some ⟨x.g, 0, none⟩)) rfl (by kernel_rfl) (by kernel_rfl) (by kernel_rfl) (fun _ _ _ h => h) (Or.inl ⟨by rfl, ?_⟩) hHeld ?_
 ·rintro wx hs0
  go_simp
 simp only [Act.put, List.setIfInBounds_toArray, List.set_cons_zero, List.set_cons_succ]
 refine wpAnyH_take (i := 1) (oi := { dst := some 13, op := Op.move (Operand.tmp 1), type := 3, pos := "system.go:244", after := #[], guard := none }) (v := I k) rfl (by kernel_rfl) (by kernel_rfl) (by kernel_rfl) (fun _ _ _ h => h) (Or.inl ⟨by rfl, ?_⟩) hHeld ?_
 ·rintro wx hs0
  go_simp
 simp only [Act.put, List.setIfInBounds_toArray, List.set_cons_zero, List.set_cons_succ]
 refine wpAnyH_take (i := 2) (oi := { dst := some 14, op := Op.nilCheck (Operand.tmp 12), type := 0, pos := "system.go:244", after := #[{ on := 0, ground := Ground.data }], guard := none }) (v := .pointer (some ⟨x.g, 0, none⟩)) rfl (by kernel_rfl) (by kernel_rfl) (by kernel_rfl) (fun _ _ _ h => h) (Or.inl ⟨by rfl, ?_⟩) hHeld ?_
 ·rintro wx hs0
  go_simp
 simp only [Act.put, List.setIfInBounds_toArray, List.set_cons_zero, List.set_cons_succ]
 refine wpAnyH_take (i := 3) (oi := { dst := some 15, op := Op.fieldAddr 86 (Operand.tmp 14) 1, type := 0, pos := "system.go:244", after := #[{ on := 2, ground := Ground.data }], guard := none }) (v := .pointer (some ⟨x.g, 3, none⟩)) rfl (by kernel_rfl) (by kernel_rfl) (by kernel_rfl) (fun _ _ _ h => h) (Or.inl ⟨by rfl, ?_⟩) hHeld ?_
 ·rintro wx hs0
  go_simp
 simp only [Act.put, List.setIfInBounds_toArray, List.set_cons_zero, List.set_cons_succ]
 refine wpAnyH_take (i := 4) (oi := { dst := some 16, op := Op.indexAddr 82 (Operand.tmp 15) (Operand.tmp 13), type := 0, pos := "system.go:244", after := #[{ on := 3, ground := Ground.data }, { on := 1, ground := Ground.data }], guard := none }) (v := .pointer (some ⟨x.g, 3 + k, none⟩)) rfl (by kernel_rfl) (by kernel_rfl) (by kernel_rfl) (fun _ _ _ h => h) (Or.inl ⟨by rfl, ?_⟩) hHeld ?_
 ·rintro wx hs0
  go_simp
 simp only [Act.put, List.setIfInBounds_toArray, List.set_cons_zero, List.set_cons_succ]
 refine wpAnyH_take (i := 5) (oi := { dst := some 17, op := Op.load 81 (Operand.tmp 16), type := 81, pos := "system.go:244", after := #[{ on := 4, ground := Ground.data }], guard := none }) (v := .pointer (some ⟨x.rb k, 0, none⟩)) rfl (by kernel_rfl) (by kernel_rfl) (by kernel_rfl) (fun _ _ _ h => h) (Or.inl ⟨by rfl, ?_⟩) hHeld ?_
 ·rintro wx hs0
  go_simp
 simp only [Act.put, List.setIfInBounds_toArray, List.set_cons_zero, List.set_cons_succ]
 refine wpAnyH_take (i := 7) (oi := { dst := some 19, op := Op.move (Operand.tmp 0), type := 41, pos := "system.go:244", after := #[], guard := none }) (v := .pointer (some ⟨x.g, 0, none⟩)) rfl (by kernel_rfl) (by kernel_rfl) (by kernel_rfl) (fun _ _ _ h => h) (Or.inl ⟨by rfl, ?_⟩) hHeld ?_
 ·rintro wx hs0
  go_simp
 simp only [Act.put, List.setIfInBounds_toArray, List.set_cons_zero, List.set_cons_succ]
 refine wpAnyH_take (i := 8) (oi := { dst := some 20, op := Op.move (Operand.tmp 1), type := 3, pos := "system.go:244", after := #[], guard := none }) (v := I k) rfl (by kernel_rfl) (by kernel_rfl) (by kernel_rfl) (fun _ _ _ h => h) (Or.inl ⟨by rfl, ?_⟩) hHeld ?_
 ·rintro wx hs0
  go_simp
 simp only [Act.put, List.setIfInBounds_toArray, List.set_cons_zero, List.set_cons_succ]
 refine wpAnyH_take (i := 9) (oi := { dst := some 21, op := Op.nilCheck (Operand.tmp 19), type := 0, pos := "system.go:244", after := #[{ on := 7, ground := Ground.data }], guard := none }) (v := .pointer (some ⟨x.g, 0, none⟩)) rfl (by kernel_rfl) (by kernel_rfl) (by kernel_rfl) (fun _ _ _ h => h) (Or.inl ⟨by rfl, ?_⟩) hHeld ?_
 ·rintro wx hs0
  go_simp
 simp only [Act.put, List.setIfInBounds_toArray, List.set_cons_zero, List.set_cons_succ]
 refine wpAnyH_take (i := 10) (oi := { dst := some 22, op := Op.fieldAddr 86 (Operand.tmp 21) 1, type := 0, pos := "system.go:244", after := #[{ on := 9, ground := Ground.data }], guard := none }) (v := .pointer (some ⟨x.g, 3, none⟩)) rfl (by kernel_rfl) (by kernel_rfl) (by kernel_rfl) (fun _ _ _ h => h) (Or.inl ⟨by rfl, ?_⟩) hHeld ?_
 ·rintro wx hs0
  go_simp
 simp only [Act.put, List.setIfInBounds_toArray, List.set_cons_zero, List.set_cons_succ]
 refine wpAnyH_take (i := 11) (oi := { dst := some 23, op := Op.indexAddr 82 (Operand.tmp 22) (Operand.tmp 20), type := 0, pos := "system.go:244", after := #[{ on := 10, ground := Ground.data }, { on := 8, ground := Ground.data }], guard := none }) (v := .pointer (some ⟨x.g, 3 + k, none⟩)) rfl (by kernel_rfl) (by kernel_rfl) (by kernel_rfl) (fun _ _ _ h => h) (Or.inl ⟨by rfl, ?_⟩) hHeld ?_
 ·rintro wx hs0
  go_simp
 simp only [Act.put, List.setIfInBounds_toArray, List.set_cons_zero, List.set_cons_succ]
 refine wpAnyH_take (i := 12) (oi := { dst := some 24, op := Op.load 81 (Operand.tmp 23), type := 81, pos := "system.go:244", after := #[{ on := 11, ground := Ground.data }], guard := none }) (v := .pointer (some ⟨x.rb k, 0, none⟩)) rfl (by kernel_rfl) (by kernel_rfl) (by kernel_rfl) (fun _ _ _ h => h) (Or.inl ⟨by rfl, ?_⟩) hHeld ?_
 ·rintro wx hs0
  go_simp
 simp only [Act.put, List.setIfInBounds_toArray, List.set_cons_zero, List.set_cons_succ]
 refine wpAnyH_ready (rs := [6]) (by kernel_rfl) (by simp) (AllReadyH.cons (o := { dst := some 18, op := Op.call { callee := Callee.value (Operand.func 44), args := #[Operand.tmp 17], argTypes := #[81] }, type := 3, pos := "system.go:244", after := #[{ on := 5, ground := Ground.data }], guard := none }) rfl (fun K hK => ?_) AllReadyH.nil)
 go_simp
 go_at_call 44; refine HC1.out.mono ?_; rintro e wt ⟨rfl, rfl⟩
 refine hK.out _ _ hHeld (fun hHeld => ?_)
 clear hK K
 try simp only [Act.put, List.setIfInBounds_toArray, List.set_cons_zero, List.set_cons_succ]
 refine wpAnyH_ready (rs := [13]) (by kernel_rfl) (by simp) (AllReadyH.cons (o := { dst := some 25, op := Op.call { callee := Callee.value (Operand.func 45), args := #[Operand.tmp 24], argTypes := #[81] }, type := 33, pos := "system.go:244", after := #[{ on := 12, ground := Ground.data }, { on := 6, ground := Ground.chain }], guard := none }) rfl (fun K hK => ?_) AllReadyH.nil)
 go_simp
 go_at_call 45; refine HC2.out.mono ?_; rintro e wt ⟨rfl, hbt⟩; have HBT := Lib.hid hbt; have KT := Lib.hid (k0.drew.after hbt); clear hbt
 refine hK.out _ _ ((hDW.out.after HBT.out).rcell hk') (fun hHeld => ?_)
 clear hK K
 try simp only [Act.put, List.setIfInBounds_toArray, List.set_cons_zero, List.set_cons_succ]
 refine wpAnyH_take (i := 14) (oi := { dst := some 4, op := Op.assign (Operand.tmp 18), type := 3, pos := "system.go:244", after := #[{ on := 6, ground := Ground.data }, { on := 13, ground := Ground.chain }, { on := 0, ground := Ground.phase }, { on := 1, ground := Ground.phase }, { on := 2, ground := Ground.phase }, { on := 3, ground := Ground.phase }, { on := 4, ground := Ground.phase }, { on := 5, ground := Ground.phase }, { on := 6, ground := Ground.phase }, { on := 7, ground := Ground.textOnly Departure.lateStores }, { on := 8, ground := Ground.textOnly Departure.lateStores }, { on := 9, ground := Ground.textOnly Departure.lateStores }, { on := 10, ground := Ground.textOnly Departure.lateStores }, { on := 11, ground := Ground.textOnly Departure.lateStores }, { on := 12, ground := Ground.textOnly Departure.lateStores }, { on := 13, ground := Ground.textOnly Departure.lateStoresUnsure }], guard := none }) (v := I (re s k).cycle) rfl (by kernel_rfl) (by kernel_rfl) (by kernel_rfl) (fun _ _ _ h => h) (Or.inl ⟨by rfl, ?_⟩) hHeld ?_
 ·rintro wx hs0
  go_simp
 simp only [Act.put, List.setIfInBounds_toArray, List.set_cons_zero, List.set_cons_succ]
 refine wpAnyH_ready (rs := [15]) (by kernel_rfl) (by simp) (AllReadyH.cons (o := { dst := none, op := Op.store 33 (Operand.tmp 5) (Operand.tmp 25), type := 0, pos := "system.go:244", after := #[{ on := 13, ground := Ground.data }, { on := 14, ground := Ground.chain }, { on := 0, ground := Ground.phase }, { on := 1, ground := Ground.phase }, { on := 2, ground := Ground.phase }, { on := 3, ground := Ground.phase }, { on := 4, ground := Ground.phase }, { on := 5, ground := Ground.phase }, { on := 6, ground := Ground.phase }, { on := 7, ground := Ground.phase }, { on := 8, ground := Ground.phase }, { on := 9, ground := Ground.phase }, { on := 10, ground := Ground.phase }, { on := 11, ground := Ground.phase }, { on := 12, ground := Ground.phase }, { on := 13, ground := Ground.phase }, { on := 14, ground := Ground.phase }], guard := none }) rfl (fun K hK => ?_) AllReadyH.nil)
 rw [if_pos (by rfl)]
 refine wp_store_row 33 (.tmp 5) (.tmp 25) rfl g0 (stC (re s k).state) rfl rfl 33 (stC St.zero) KT.out hi2 hz h1 ?_
 refine hK.out _ _ ((World.cell?_of_block (w := wt) (a := ⟨x.g, 3 + k, none⟩) (heap_setRow_other wt g0 _ x.g (by omega))).trans ((hDW.out.after HBT.out).rcell hk')) (fun hHeld => ?_)
 clear hK K
 try simp only [Act.put]
 refine wpAnyH_take (i := 16) (oi := { dst := some 6, op := Op.assign (Operand.const Value.nilIface), type := 53, pos := "system.go:244", after := #[{ on := 15, ground := Ground.chain }, { on := 0, ground := Ground.phase }, { on := 1, ground := Ground.phase }, { on := 2, ground := Ground.phase }, { on := 3, ground := Ground.phase }, { on := 4, ground := Ground.phase }, { on := 5, ground := Ground.phase }, { on := 6, ground := Ground.phase }, { on := 7, ground := Ground.phase }, { on := 8, ground := Ground.phase }, { on := 9, ground := Ground.phase }, { on := 10, ground := Ground.phase }, { on := 11, ground := Ground.phase }, { on := 12, ground := Ground.phase }, { on := 13, ground := Ground.phase }, { on := 14, ground := Ground.phase }, { on := 15, ground := Ground.phase }], guard := none }) (v := .nilIface) rfl (by kernel_rfl) (by kernel_rfl) (by kernel_rfl) (fun _ _ _ h => h) (Or.inl ⟨by rfl, ?_⟩) hHeld ?_
 ·rintro wx hs0
  go_simp
 simp only [Act.put, List.setIfInBounds_toArray, List.set_cons_zero, List.set_cons_succ]
 refine wpAnyH_done (by kernel_rfl) ?_ _
 go_wp2_with fail
 have hbw : Below g0 w1 wt := (show Below g0 w1 w1.drew from (Below.refl _ _).drew).trans (HBT.out.mono hg0l.out)
 exact bodyPost_ret (ret_tct rfl _ _ g0 _ (stC (re s k).state) _ rfl (KT.out.setRow _) Try.underlying33 rfl hi2) rfl ⟨rfl, by rw [HG.out]; exact below_setRow (HB.out.trans hbw) (Nat.le_refl _) _⟩
end
end Go.Proofs.Ytdhekhlmdefcnab
namespace Go.Proofs.Ytdhekhlmdefcnab
open Go.RowKit
section
variable {w0 w w' : World} {B : Nat} {L : Lay}
def newC (vr : Value) (L : Lay) (vb : Nat) (rb : Nat → Nat) (k : Nat) : Array Value := #[I L.secs, vr, I L.delay, (if 0 < k then .pointer (some ⟨rb 0, 0, none⟩) else .pointer none), (if 1 < k then .pointer (some ⟨rb 1, 0, none⟩) else .pointer none), (if 2 < k then .pointer (some ⟨rb 2, 0, none⟩) else .pointer none), .pointer (some ⟨vb, 0, none⟩), .slice none 0 0, I 0]
theorem newC_at (vr : Value) (L : Lay) (vb : Nat) (rb : Nat → Nat) {k : Nat} (hk : k < 3) : (newC vr L vb rb k)[3 + k]? = some (.pointer none) := by
 have : k = 0 ∨ k = 1 ∨ k = 2 := by omega
 rcases this with rfl | rfl | rfl <;> rfl
theorem newC_set (vr : Value) (L : Lay) (vb : Nat) (rb : Nat → Nat) {k : Nat} (hk : k < 3) (g : Nat) : (newC vr L vb rb k).setIfInBounds (3 + k) (.pointer (some ⟨g, 0, none⟩)) = newC vr L vb (upd rb k g) (k + 1) := by
 have : k = 0 ∨ k = 1 ∨ k = 2 := by omega
 rcases this with rfl | rfl | rfl <;> rfl
def NewAt (w0 : World) (g2 gs vb : Nat) (vr : Value) (L : Lay) (win : Int) (k : Nat) (rb cb : Nat → Nat) (wr : World) : Prop :=
 Has wr gs 86 (newC vr L vb rb k) ∧ Has wr g2 43 #[I L.secs, vr, I L.delay] ∧ wr.ownsRow 0 3 1 vr L.routes.length (ints (zs L.routes)) ∧ VoAt wr g2 vb (.slice none 0 0) (Vo.new win) ∧
 (∀ j, j < k → RepAt wr (rb j) (cb j) L (Re.new j) ∧ g2 ≤ rb j ∧ rb j < wr.heap.size) ∧ (∀ i j, i < k → j < k → rb i = rb j → i = j) ∧ g2 ≤ gs ∧ Below g2 w0 wr
theorem newS {wx : World} {g2 n cR : Nat} {AR : Option Addr} (h : Has wx g2 43 #[I L.secs, .slice AR n cR, I L.delay]) : wx.cell? ⟨g2, 0, none⟩ = some (I L.secs) ∧ wx.cell? ⟨g2, 1, none⟩ = some (.slice AR n cR) ∧ wx.cell? ⟨g2, 2, none⟩ = some (I L.delay) :=
 ⟨h.cellv 0 _ rfl, h.cellv 1 _ rfl, h.cellv 2 _ rfl⟩
theorem NewAt.step {wr wn : World} {g2 gs vb k : Nat} {vr : Value} {win : Int} {rb cb : Nat → Nat} (h : NewAt w0 g2 gs vb vr L win k rb cb wr) (hk : k < 3) {gr gc : Nat} (hgr : wr.heap.size ≤ gr) (hr : RepAt wn gr gc L (Re.new k)) (hb : Below wr.heap.size wr wn) :
  NewAt w0 g2 gs vb vr L win (k + 1) (upd rb k gr) (upd cb k gc) (wn.setCell ⟨gs, 3 + k, none⟩ (.pointer (some ⟨gr, 0, none⟩))) := by
 obtain ⟨h1, h2, h3, h4, h5, h6, h7, h8⟩ := h
 have k1 := h1.after hb
 have ht : Turned (fun b => b = gs) wn (wn.setCell ⟨gs, 3 + k, none⟩ (.pointer (some ⟨gr, 0, none⟩))) := (Turned.refl _ _).setCell _ _ (.inl rfl)
 have hF : ∀ b, b = gs → Mut wn b := fun b e => ⟨_, _, e ▸ k1, rfl⟩
 have hsz : wn.heap.size = (wn.setCell ⟨gs, 3 + k, none⟩ (.pointer (some ⟨gr, 0, none⟩))).heap.size := by simp [World.setCell]
 have hgs := h1.lt
 refine ⟨by rw [← newC_set _ _ _ _ hk]; exact k1.set _ _, (h2.after hb).keepT ht hF (by decide), own_keepT (own_after h3 hb) ht hF (by decide), (h4.after hb).turned ht ?_, fun j hj => ?_, fun i j hi hj e => ?_, h7, (h8.trans (hb.mono (by omega))).setCell h7 _⟩
 ·rintro b (rfl | hb') e
  ·exact (h4.after hb).has.ne k1 (by decide) e
  ·simp [Value.ownBlock] at hb'
 ·unfold upd
  by_cases e : j = k
  ·subst e
   rw [if_pos rfl, if_pos rfl]
   refine ⟨hr.keepT ht hF fun e => hr.has.ne k1 (by decide) e, by omega, ?_⟩
   rw [← hsz]; exact hr.has.lt
  ·rw [if_neg e, if_neg e]
   obtain ⟨a1, a2, a3⟩ := h5 j (by omega)
   have a4 := a1.after hb
   refine ⟨a4.keepT ht hF fun e => a4.has.ne k1 (by decide) e, a2, ?_⟩
   rw [← hsz]; exact a4.has.lt
 ·unfold upd at e
  split at e
  ·split at e
   ·omega
   ·have := (h5 j (by omega)).2.2; omega
  ·split at e
   ·have := (h5 i (by omega)).2.2; omega
   ·exact h6 i j (by omega) (by omega) e
theorem NewAt.sy {wr : World} {g2 gs vb : Nat} {vr : Value} {win : Int} {rb cb : Nat → Nat} (h : NewAt w0 g2 gs vb vr L win 3 rb cb wr) : SyAt wr g2 ⟨gs, rb, cb, vb, .slice none 0 0, vr, .slice none 0 0, []⟩ L (Sys.new win) := by
 obtain ⟨h1, h2, h3, h4, h5, h6, h7, h8⟩ := h
 refine ⟨h1, h3, rfl, fun k hk => ?_, fun i j hi hj e => h6 i j hi hj e, h4, World.ownsRow_nil _ _ _ _, rfl, fun i gm v e => (by cases e), h7, fun k hk => (h5 k hk).2.1⟩
 have : k = 0 ∨ k = 1 ∨ k = 2 := by omega
 rcases this with rfl | rfl | rfl
 ·exact (h5 0 hk).1
 ·exact (h5 1 hk).1
 ·exact (h5 2 hk).1
set_option maxHeartbeats 4000000 in
set_option maxRecDepth 100000 in
theorem sy_new (A : Option Addr) (n c : Nat) (L : Lay) (w : World) (hL : L.Ok) (hxn : Hid (L.routes.length = n)) (hc : n ≤ c) (hr : Reads w w.heap.size A (ints (zs L.routes))) (win : Int) (hw1 : 1 ≤ win) (hw2 : win ≤ 20) :
  Calls Try.prog 24 #[.agg #[I L.secs, .slice A n c, I L.delay], I win] w fun e w' => (∃ x, e = .returned (.tuple #[.pointer (some ⟨x.g, 0, none⟩), .nilIface]) ∧ SyAt w' w.heap.size x L (Sys.new win)) ∧ Below w.heap.size w w' := by
 obtain ⟨i0, hi0, hz0, hz1, hz2⟩ := info_parts infoInt
 have hnn := hxn.out
 subst hnn
 have hn1 : 1 ≤ L.routes.length := hL.many1
 have hn8 : L.routes.length ≤ 8 := hL.many2
 obtain ⟨ab, ao, hA⟩ : ∃ ab ao, A = some ⟨ab, ao, none⟩ := by
  obtain ⟨b, o, e, _⟩ := hr (by intro h; have := congrArg List.length h; rw [ints_length, zs_length] at this; simp at this; rw [this] at hn1; simp at hn1)
  exact ⟨b, o, e⟩
 subst hA
 have hb1 : Below w.heap.size w (w.alloc (.cells #[I L.secs, .slice (some ⟨ab, ao, none⟩) L.routes.length c, I L.delay] 43)) := (Below.refl _ _).alloc (Nat.le_refl _) _
 have k2 := Has.new w 43 #[I L.secs, .slice (some ⟨ab, ao, none⟩) L.routes.length c, I L.delay]
 have hsz1 : (w.alloc (.cells #[I L.secs, .slice (some ⟨ab, ao, none⟩) L.routes.length c, I L.delay] 43)).heap.size = w.heap.size + 1 := by simp
 have hok := Lib.hid (chk_lay hL)
 have hxz : Hid ((zs L.routes).length = L.routes.length) := Lib.hid (zs_length _)
 go_enter Try.func24, Try.ntmps24
 go_upto_region 1 with fail
 generalize w.alloc (.cells #[I L.secs, .slice (some ⟨ab, ao, none⟩) L.routes.length c, I L.delay] 43) = w1 at *
 generalize hG : w.heap.size = g2 at *
 have HG := Lib.hid hG
 have HR1 := Lib.hid ((hr.below hb1).more (by omega : g2 ≤ w1.heap.size))
 have HB1 := Lib.hid hb1
 have a0 := k2.cellv 0 (I L.secs) rfl
 have a1 := k2.cellv 1 (.slice (some ⟨ab, ao, none⟩) L.routes.length c) rfl
 have a2 := k2.cellv 2 (I L.delay) rfl
 clear hG hr hb1
 go_upto_region 4 with (go_at_call 49; refine (check_ok _ _ _ _ _ (zs L.routes) _ w1.heap.size hxz hn8 hc (Nat.le_refl _) HR1.out hok).mono ?_; rintro e w2 ⟨rfl, hb2⟩)
 have k22 := k2.after hb2
 have HR2 := Lib.hid ((HR1.out.below hb2).more hb2.size)
 have HB2 := Lib.hid (HB1.out.trans (hb2.mono (by omega)))
 have hg22 := k22.lt
 clear k2 hb2 HR1 HB1 hsz1 a0 a1 a2
 go_upto_region 7 with (go_at_call 52; refine (vo_new win hw1 hw2 w2).mono ?_; rintro e w3 ⟨⟨rfl, hvo⟩, hb3⟩)
 have k23 := k22.after hb3
 have HR3 := Lib.hid ((HR2.out.below hb3).more hb3.size)
 have HB3 := Lib.hid (HB2.out.trans (hb3.mono (by omega)))
 have HV3 := Lib.hid hvo
 have hg23 := k23.lt
 have hvl := HV3.out.has.lt
 generalize hVB : w2.heap.size = vb at *
 have hvb : g2 < vb := hg22
 clear k22 hb3 HR2 HB2 hvo hVB hg22
 have d1 := k23.cellv 1 _ rfl
 go_upto_region 8 with (at_builtin; go_loud (refine wpList_append_read rfl (.tmp 24) (.tmp 26) 22 rfl w3.heap.size 3 i0 (.int .i64 0) 1 8 Try.underlying22 hi0 hz0 hz1 hz2 rfl (by decide) _ _ _ rfl (World.ownsRow_lit w3 #[] 0 (Nat.le_refl _) (Nat.zero_le _) rfl) w3.heap.size (some ⟨ab, ao, none⟩) L.routes.length c (ints (zs L.routes)) rfl (fun h => by cases h) (by rw [ints_length, hxz.out, Nat.mul_one]) ?c2 (ints_one _) ?c3 ?c4 ?c5 ?_))
 case c2 => exact HR3.out.alloc (Nat.le_refl _) _
 case c3 => unfold maxLen; omega
 case c4 => omega
 case c5 => simp
 intro v1 w4 hown4 hgrow4
 have hb4 : Below w3.heap.size w3 w4 := ((Below.refl _ _).alloc (Nat.le_refl _) _).grown hgrow4 (by simp) (fun q hq => by simp [Value.ownBlock] at hq; omega)
 have HO4 : Hid (w4.ownsRow 0 3 1 v1 L.routes.length (ints (zs L.routes))) := Lib.hid (by exact own_base (by simpa using hown4) (Nat.zero_le _))
 have k24 := k23.after hb4
 have d1 := k24.cellv 1 _ rfl
 have f1 := k24.free 1
 have HV4 := Lib.hid (HV3.out.after hb4)
 have HB4 := Lib.hid (HB3.out.trans (hb4.mono (by omega)))
 have hg24 := k24.lt
 have KG4 := Lib.hid k24
 clear hown4 hgrow4 HR3 HV3 HB3 k23 hb4 hg23 hvl k24
 obtain ⟨AR, cR, rfl, hcR, _, _, _⟩ := own_read HO4.out
 go_upto_region 8 with fail
 have k25 : Has (w4.setCell ⟨g2, 1, none⟩ (.slice AR L.routes.length cR)) g2 43 #[I L.secs, .slice AR L.routes.length cR, I L.delay] := KG4.out.set 1 _
 have hF : ∀ b, b = g2 → ¬ FV vb (.slice none 0 0) b := fun b e h => by
  rcases h with h | h
  ·omega
  ·simp [Value.ownBlock] at h
 have ht5 : Turned (fun b => b = g2) w4 (w4.setCell ⟨g2, 1, none⟩ (.slice AR L.routes.length cR)) := (Turned.refl _ _).setCell _ _ (.inl rfl)
 have hv5 := HV4.out.turned ht5 (fun b hb e => hF b e hb)
 have HV5 : Hid (VoAt (w4.setCell ⟨g2, 1, none⟩ (.slice AR L.routes.length cR)) g2 vb (.slice none 0 0) (Vo.new win)) := Lib.hid ⟨hv5.has, World.ownsRow_nil _ _ _ _, by omega⟩
 have HO5 : Hid ((w4.setCell ⟨g2, 1, none⟩ (.slice AR L.routes.length cR)).ownsRow 0 3 1 (.slice AR L.routes.length cR) L.routes.length (ints (zs L.routes))) := Lib.hid (own_far HO4.out KG4.out (by decide) _ _)
 have HB5 := Lib.hid (HB4.out.setCell (p := ⟨g2, 1, none⟩) (Nat.le_refl _) (.slice AR L.routes.length cR))
 clear hF ht5 hv5 HV4 HO4 HB4 d1 f1 KG4
 generalize w4.setCell ⟨g2, 1, none⟩ (.slice AR L.routes.length cR) = w5 at *
 have e0 := k25.cellv 0 _ rfl
 have e1 := k25.cellv 1 _ rfl
 have e2 := k25.cellv 2 _ rfl
 have hg5 := k25.lt
 go_upto_region 9 with fail
 have hb6 : Below w5.heap.size w5 (w5.alloc (.cells #[I L.secs, .slice AR L.routes.length cR, I L.delay, .pointer none, .pointer none, .pointer none, .pointer (some ⟨vb, 0, none⟩), .slice none 0 0, I 0] 86)) := (Below.refl _ _).alloc (Nat.le_refl _) _
 have HN0 : Hid (NewAt w g2 w5.heap.size vb (.slice AR L.routes.length cR) L win 0 (fun _ => 0) (fun _ => 0) (w5.alloc (.cells #[I L.secs, .slice AR L.routes.length cR, I L.delay, .pointer none, .pointer none, .pointer none, .pointer (some ⟨vb, 0, none⟩), .slice none 0 0, I 0] 86))) := Lib.hid ⟨Has.new w5 _ _, k25.after hb6, own_after HO5.out hb6, HV5.out.after hb6, fun j hj => by omega, fun i j hi hj => by omega, by omega, HB5.out.trans (hb6.mono (by omega))⟩
 clear hb6 e0 e1 e2 k25 HO5 HV5 HB5 hg24
 generalize w5.alloc (.cells #[I L.secs, .slice AR L.routes.length cR, I L.delay, .pointer none, .pointer none, .pointer none, .pointer (some ⟨vb, 0, none⟩), .slice none 0 0, I 0] 86) = w6 at *
 generalize w5.heap.size = gs at *
 go_wp2_with fail
 go_loopw [33] (fun iv wr => ∃ k : Nat, k ≤ 3 ∧ iv = I k ∧ ∃ rb cb, Hid (NewAt w g2 gs vb (.slice AR L.routes.length cR) L win k rb cb wr)) (fun iv _ => 3 - (intOf iv).toNat)
 case atStart => exact ⟨0, by omega, rfl, _, _, HN0⟩
 case round =>
  clear HN0
  obtain ⟨k, hk, rfl, rb, cb, hnew⟩ := hrel
  by_cases hlt : k < 3
  ·have hk3 := Lib.hid hlt
   have hki : (k : Int) < 3 := by omega
   have HSS : Hid (∀ wx, Below wr.heap.size wr wx → wx.cell? ⟨g2, 0, none⟩ = some (I L.secs) ∧ wx.cell? ⟨g2, 1, none⟩ = some (.slice AR L.routes.length cR) ∧ wx.cell? ⟨g2, 2, none⟩ = some (I L.delay)) := Lib.hid (fun wx hb => newS (hnew.out.2.1.after hb))
   have hgs := hnew.out.1.lt
   have HC := Lib.hid (re_new k hlt AR L.routes.length cR L wr.drew hL (Lib.hid rfl) hcR (by
    obtain ⟨A', c', e, _, _, _, hrd⟩ := own_read hnew.out.2.2.1
    injection e with e1 e2 e3
    rw [e1]
    exact hrd))
   clear hlt hk
   go_upto_region 12 with fail
   refine wp_region_held_drew (S := fun wx => (wx.cell? ⟨g2, 0, none⟩ = some (I L.secs)) ∧ (wx.cell? ⟨g2, 1, none⟩ = some (.slice AR L.routes.length cR)) ∧ (wx.cell? ⟨g2, 2, none⟩ = some (I L.delay))) (by kernel_rfl) (HSS.out wr.drew ((Below.refl _ _).drew)) (fun hHeld => ?_)
   refine wpAnyH_take (i := 0) (oi := { dst := some 37, op := Op.move (Operand.tmp 9), type := 41, pos := "system.go:41", after := #[], guard := none }) (v := .pointer (some ⟨gs, 0, none⟩)) rfl (by kernel_rfl) (by kernel_rfl) (by kernel_rfl) (fun _ _ _ h => h) (Or.inl ⟨by rfl, ?_⟩) hHeld ?_
   ·rintro wx ⟨hs0, hs1, hs2⟩
    go_simp
   simp only [Act.put, List.setIfInBounds_toArray, List.set_cons_zero, List.set_cons_succ]
   refine wpAnyH_take (i := 1) (oi := { dst := some 38, op := Op.move (Operand.tmp 10), type := 3, pos := "system.go:41", after := #[], guard := none }) (v := I k) rfl (by kernel_rfl) (by kernel_rfl) (by kernel_rfl) (fun _ _ _ h => h) (Or.inl ⟨by rfl, ?_⟩) hHeld ?_
   ·rintro wx ⟨hs0, hs1, hs2⟩
    go_simp
   simp only [Act.put, List.setIfInBounds_toArray, List.set_cons_zero, List.set_cons_succ]
   refine wpAnyH_take (i := 2) (oi := { dst := some 39, op := Op.move (Operand.tmp 10), type := 3, pos := "system.go:41", after := #[], guard := none }) (v := I k) rfl (by kernel_rfl) (by kernel_rfl) (by kernel_rfl) (fun _ _ _ h => h) (Or.inl ⟨by rfl, ?_⟩) hHeld ?_
   ·rintro wx ⟨hs0, hs1, hs2⟩
    go_simp
   simp only [Act.put, List.setIfInBounds_toArray, List.set_cons_zero, List.set_cons_succ]
   refine wpAnyH_take (i := 3) (oi := { dst := some 40, op := Op.load 43 (Operand.tmp 2), type := 43, pos := "system.go:41", after := #[], guard := none }) (v := .agg #[I L.secs, .slice AR L.routes.length cR, I L.delay]) rfl (by kernel_rfl) (by kernel_rfl) (by kernel_rfl) (fun _ _ _ h => h) (Or.inl ⟨by rfl, ?_⟩) hHeld ?_
   ·rintro wx ⟨hs0, hs1, hs2⟩
    go_simp
   simp only [Act.put, List.setIfInBounds_toArray, List.set_cons_zero, List.set_cons_succ]
   refine wpAnyH_take (i := 8) (oi := { dst := some 44, op := Op.nilCheck (Operand.tmp 37), type := 0, pos := "system.go:41", after := #[{ on := 0, ground := Ground.data }], guard := none }) (v := .pointer (some ⟨gs, 0, none⟩)) rfl (by kernel_rfl) (by kernel_rfl) (by kernel_rfl) (fun _ _ _ h => h) (Or.inl ⟨by rfl, ?_⟩) hHeld ?_
   ·rintro wx ⟨hs0, hs1, hs2⟩
    go_simp
   simp only [Act.put, List.setIfInBounds_toArray, List.set_cons_zero, List.set_cons_succ]
   refine wpAnyH_take (i := 9) (oi := { dst := some 45, op := Op.fieldAddr 86 (Operand.tmp 44) 1, type := 0, pos := "system.go:41", after := #[{ on := 8, ground := Ground.data }], guard := none }) (v := .pointer (some ⟨gs, 3, none⟩)) rfl (by kernel_rfl) (by kernel_rfl) (by kernel_rfl) (fun _ _ _ h => h) (Or.inl ⟨by rfl, ?_⟩) hHeld ?_
   ·rintro wx ⟨hs0, hs1, hs2⟩
    go_simp
   simp only [Act.put, List.setIfInBounds_toArray, List.set_cons_zero, List.set_cons_succ]
   refine wpAnyH_ready (rs := [4]) (by kernel_rfl) (by simp) (AllReadyH.cons (o := { dst := some 41, op := Op.call { callee := Callee.value (Operand.func 53), args := #[Operand.tmp 39, Operand.tmp 40], argTypes := #[3, 43] }, type := 101, pos := "system.go:41", after := #[{ on := 2, ground := Ground.data }, { on := 3, ground := Ground.data }], guard := none }) rfl (fun K hK => ?_) AllReadyH.nil)
   go_simp
   go_at_call 53; refine HC.out.mono ?_; rintro e wn ⟨⟨gr, gc, hgr, rfl, hr⟩, hbn0⟩; have hbn : Below wr.heap.size wr wn := (show Below wr.heap.size wr wr.drew from (Below.refl _ _).drew).trans hbn0; have HST := Lib.hid (NewAt.step hnew.out hk3.out hgr hr hbn); have HSN := Lib.hid (HSS.out wn hbn); have dk := (hnew.out.1.after hbn).cellv (3 + k) _ (newC_at _ _ _ _ hk3.out); have fk := (hnew.out.1.after hbn).free (3 + k); have HFG := Lib.hid (hnew.out.2.1.after hbn); have HFS := Lib.hid (hnew.out.1.after hbn); clear hgr hr hbn hbn0
   refine hK.out _ _ HSN.out (fun hHeld => ?_)
   clear hK K
   try simp only [Act.put, List.setIfInBounds_toArray, List.set_cons_zero, List.set_cons_succ]
   refine wpAnyH_take (i := 5) (oi := { dst := some 36, op := Op.move (Operand.tmp 41), type := 101, pos := "system.go:41", after := #[{ on := 4, ground := Ground.data }], guard := none }) (v := .tuple #[.pointer (some ⟨gr, 0, none⟩), .nilIface]) rfl (by kernel_rfl) (by kernel_rfl) (by kernel_rfl) (fun _ _ _ h => h) (Or.inl ⟨by rfl, ?_⟩) hHeld ?_
   ·rintro wx ⟨hs0, hs1, hs2⟩
    go_simp
   simp only [Act.put, List.setIfInBounds_toArray, List.set_cons_zero, List.set_cons_succ]
   refine wpAnyH_take (i := 6) (oi := { dst := some 42, op := Op.extract (Operand.tmp 36) 0, type := 81, pos := "system.go:41", after := #[{ on := 5, ground := Ground.data }], guard := none }) (v := .pointer (some ⟨gr, 0, none⟩)) rfl (by kernel_rfl) (by kernel_rfl) (by kernel_rfl) (fun _ _ _ h => h) (Or.inl ⟨by rfl, ?_⟩) hHeld ?_
   ·rintro wx ⟨hs0, hs1, hs2⟩
    go_simp
   simp only [Act.put, List.setIfInBounds_toArray, List.set_cons_zero, List.set_cons_succ]
   refine wpAnyH_take (i := 7) (oi := { dst := some 43, op := Op.extract (Operand.tmp 36) 1, type := 53, pos := "system.go:41", after := #[{ on := 5, ground := Ground.data }, { on := 11, ground := Ground.gcOnly Departure.lateStores }], guard := none }) (v := .nilIface) rfl (by kernel_rfl) (by kernel_rfl) (by kernel_rfl) (fun _ _ _ h => h) (Or.inl ⟨by rfl, ?_⟩) hHeld ?_
   ·rintro wx ⟨hs0, hs1, hs2⟩
    go_simp
   simp only [Act.put, List.setIfInBounds_toArray, List.set_cons_zero, List.set_cons_succ]
   refine wpAnyH_take (i := 10) (oi := { dst := some 46, op := Op.indexAddr 82 (Operand.tmp 45) (Operand.tmp 38), type := 0, pos := "system.go:41", after := #[{ on := 9, ground := Ground.data }, { on := 1, ground := Ground.data }, { on := 0, ground := Ground.phase }, { on := 1, ground := Ground.phase }, { on := 2, ground := Ground.phase }, { on := 3, ground := Ground.phase }, { on := 4, ground := Ground.phase }, { on := 5, ground := Ground.phase }, { on := 6, ground := Ground.phase }, { on := 7, ground := Ground.textOnly Departure.lateStores }], guard := none }) (v := .pointer (some ⟨gs, 3 + k, none⟩)) rfl (by kernel_rfl) (by kernel_rfl) (by kernel_rfl) (fun _ _ _ h => h) (Or.inl ⟨by rfl, ?_⟩) hHeld ?_
   ·rintro wx ⟨hs0, hs1, hs2⟩
    go_simp
   simp only [Act.put, List.setIfInBounds_toArray, List.set_cons_zero, List.set_cons_succ]
   refine wpAnyH_ready (rs := [11]) (by kernel_rfl) (by simp) (AllReadyH.cons (o := { dst := none, op := Op.store 81 (Operand.tmp 46) (Operand.tmp 42), type := 0, pos := "system.go:41", after := #[{ on := 10, ground := Ground.data }, { on := 6, ground := Ground.data }, { on := 4, ground := Ground.chain }, { on := 0, ground := Ground.phase }, { on := 1, ground := Ground.phase }, { on := 2, ground := Ground.phase }, { on := 3, ground := Ground.phase }, { on := 4, ground := Ground.phase }, { on := 5, ground := Ground.phase }, { on := 6, ground := Ground.phase }, { on := 7, ground := Ground.textOnly Departure.lateStores }], guard := none }) rfl (fun K hK => ?_) AllReadyH.nil)
   go_simp
   refine hK.out _ _ (newS (HFG.out.far (HFG.out.ne HFS.out (by decide)) _)) (fun hHeld => ?_)
   clear hK K
   try simp only [Act.put, List.setIfInBounds_toArray, List.set_cons_zero, List.set_cons_succ]
   refine wpAnyH_done (by kernel_rfl) ?_ _
   go_wp2_with fail
   go_roundw
   case rel => exact ⟨k + 1, hk3.out, by rfl, _, _, HST⟩
   case measure => have := hk3.out; simp [intOf]; omega
  ·have hk3 : k = 3 := by omega
   subst hk3
   go_wp2
   go_ret2
   rw [HG.out]
   exact ⟨⟨_, rfl, hnew.out.sy⟩, hnew.out.2.2.2.2.2.2.2⟩
end
end Go.Proofs.Ytdhekhlmdefcnab
