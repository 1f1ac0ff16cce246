/- Part 31 of the proof: SySpoil. -/
import Derived.Test.YtdhekhlmdefcnabPart29
import Derived.Test.YtdhekhlmdefcnabPart8
namespace Go.Proofs.Ytdhekhlmdefcnab
open Go.RowKit
def withinTo (n p what j : Nat) : Bool := (List.range j).all fun k => !what.testBit (31 - k) || decide (p + k < 8 * n)
theorem withinTo_succ (n p what j : Nat) : withinTo n p what (j + 1) = (withinTo n p what j && (!what.testBit (31 - j) || decide (p + j < 8 * n))) := by
 unfold withinTo
 rw [List.range_succ, List.all_append]
 simp
theorem within_bad {n p what j : Nat} (hj : j < 32) (h1 : what.testBit (31 - j) = true) (h2 : ¬ p + j < 8 * n) : within n p what = false := by
 cases h : within n p what with
 | false => rfl
 | true =>
  unfold within at h
  have := List.all_eq_true.1 h j (List.mem_range.2 hj)
  simp [h1, h2] at this
theorem wayL_set : ∀ (l : List Gram) (vs : List Value) (i : Nat) (g g' : Gram) (v : Value), vs.length = l.length → l[i]? = some g → g'.src = g.src → g'.dst = g.dst → wayL (l.set i g') (vs.set i v) = (wayL l vs).set (i * 3 + 2) v
 | [], _, i, _, _, _, _, h, _, _ => by simp at h
 | _ :: _, [], _, _, _, _, hl, _, _, _ => by simp at hl
 | a :: l, b :: vs, 0, g, g', v, _, h, h1, h2 => by
  have e : a = g := by simpa using h
  subst e
  show I g'.src :: I g'.dst :: v :: wayL l vs = _
  rw [h1, h2]
  rfl
 | a :: l, b :: vs, i + 1, g, g', v, hl, h, h1, h2 => by
  have ih := wayL_set l vs i g g' v (by simpa using hl) (by simpa using h) h1 h2
  show I a.src :: I a.dst :: b :: wayL (l.set i g') (vs.set i v) = (I a.src :: I a.dst :: b :: wayL l vs).set ((i + 1) * 3 + 2) v
  rw [ih, show (i + 1) * 3 + 2 = i * 3 + 2 + 1 + 1 + 1 by omega]
  rfl
theorem own_setS {w : World} {base : Nat} {e : TypeId} {size g n c : Nat} {xs : List Value} (h : w.ownsRow base e size (.slice (some ⟨g, 0, none⟩) n c) n xs) (i : Nat) (v : Value) :
  (w.setCell ⟨g, i, none⟩ v).ownsRow base e size (.slice (some ⟨g, 0, none⟩) n c) n (xs.set i v) := by
 obtain ⟨h1, h2⟩ := h
 refine ⟨by simpa using h1, ?_⟩
 rcases h2 with ⟨h0, _⟩ | ⟨g', cap, cur, he, hg, hh, h3, h4, h5, h6⟩
 ·cases h0
 ·injection he with e1 _ e3
  injection e1 with e1
  injection e1 with e1
  subst e1
  subst e3
  have hs : Has w g e cur := hh
  refine .inr ⟨g, c, cur.setIfInBounds i v, rfl, hg, hs.set i v, h3, h4, by simpa using h5, ?_⟩
  rw [Array.toList_setIfInBounds, ← h6]
  by_cases hi : i < n * size
  ·rw [List.take_set]
  ·rw [List.take_set_of_le (by omega), List.set_eq_of_length_le (by simp; omega)]
section
variable {w0 w w' : World} {B : Nat} {x : SyX} {L : Lay} {s : Sys} {T : Nat}
set_option maxHeartbeats 4000000 in
set_option maxRecDepth 100000 in
theorem sy_spoil (h : SyAt w B x L s) (hB : B ≤ w.heap.size) (hf : Fine T s) (i : Nat) (hi : i < s.way.length ∨ s.way.length = 0) (p wn : Nat) (hp : p ≤ 1000) (hw0 : 0 < wn) (hw1 : wn < 4294967296) :
  Calls Try.prog 34 #[.pointer (some ⟨x.g, 0, none⟩), I i, I p, .int .u32 (wn : Int)] w (SysDone w B x L (sysSpoil s i p wn)) := by
 obtain ⟨A, c, hv, c7⟩ := h.wcell
 have hg := h.has.lt
 have HH := Lib.hid h
 have HF := Lib.hid hf
 have HBS := Lib.hid hB
 rcases hi with hi | h0
 ·have hii : ¬ s.way.length ≤ i := by omega
  obtain ⟨gm, gw, c', v, hgm⟩ := h.gram hi
  have hAB : A = some ⟨gw, 0, none⟩ ∧ c = c' := by
   have := hv.symm.trans hgm.vw
   injection this with h1 h2 h3
   exact ⟨h1, h3⟩
  obtain ⟨rfl, rfl⟩ := hAB
  have g2 := hgm.c2
  have hmem := HF.out.gram gm (List.mem_of_getElem? hgm.get)
  have hl80 := hmem.2.2
  have HGE := Lib.hid hgm.get
  obtain ⟨A2, c2, hv2, hc2, hrd⟩ := hgm.bytes.reads
  subst hv2
  have HB2 := Lib.hid hgm.bytes
  have hib : i + 1 ≤ s.way.length := hi
  have h120 : i ≤ 120 := by have := HF.out.way; omega
  have HI := Lib.hid hi
  have HVW := Lib.hid hgm.vw
  have hgwl : gw < w.heap.size := by
   have := HH.out.lt (b := gw) (.inr (.inr (.inr (by rw [HVW.out]; rfl))))
   exact this
  have HCL := Lib.hid (clone_u8 (w := w) A2 gm.bytes.length c2 gm.bytes rfl (by omega) hrd)
  have HRD := Lib.hid hrd
  have HEQ : Hid (sysSpoil s i p wn = (if 8 * gm.bytes.length ≤ p ∨ wn = 0 ∨ within gm.bytes.length p wn = false ∨ (dec gm.bytes).1 ≠ 0 then s else { s with way := s.way.set i { gm with bytes := Crc.flips gm.bytes p wn 32 } })) := Lib.hid (by unfold sysSpoil; rw [HGE.out])
  have tz : ((wn : Int) == 0) = false := by simp; omega
  have hwn := Lib.hid hw0
  clear h hf hv hgm hrd hi hB hmem hw0
  generalize hn : gm.bytes.length = n at *
  have HN := Lib.hid hn
  clear hn
  by_cases hat : 8 * n ≤ p
  ·have hati : 8 * (n : Int) ≤ (p : Int) := by omega
   have HE : Hid (sysSpoil s i p wn = s) := Lib.hid (by rw [HEQ.out, if_pos (.inl hat)])
   go_enter Try.func34, Try.ntmps34
   go_wp2_with (go_at_call 63; refine HCL.out.mono ?_; rintro e wB ⟨⟨v', rfl, ho⟩, hbB⟩; obtain ⟨A', c', rfl, -, -, -, -⟩ := own_read ho; have HBB := Lib.hid hbB; clear ho hbB)
   go_ret
   exact ⟨⟨_, rfl⟩, x, by rw [HE.out]; exact HH.out.after HBB.out, Moved.of_below HBB.out⟩
  ·have hati : ¬ 8 * (n : Int) ≤ (p : Int) := by omega
   go_enter Try.func34, Try.ntmps34
   go_wp2_with (go_at_call 63; refine HCL.out.mono ?_; rintro e wB ⟨⟨v', rfl, ho⟩, hbB⟩; obtain ⟨A', c', rfl, hcn, -, hAn, -⟩ := own_read ho; have HBB := Lib.hid hbB; have HO := Lib.hid ho; have HAN := Lib.hid hAn; clear ho hbB hAn)
   obtain ⟨gb, rfl⟩ : ∃ gb, A' = some ⟨gb, 0, none⟩ := by
    rcases HO.out.2 with ⟨e, _⟩ | ⟨g', cap, cur, e, _⟩
    ·injection e with e1 e2
     omega
    ·injection e with e1
     exact ⟨g', e1⟩
   have hgb0 : w.heap.size ≤ gb := by
    rcases HO.out.2 with ⟨e, _⟩ | ⟨g', cap, cur, e, h2, _⟩
    ·cases e
    ·injection e with e1
     injection e1 with e1
     injection e1 with e1
     rw [e1]; exact h2
   obtain ⟨cur, kgw⟩ : ∃ cur, Has w gw 109 cur := by
    obtain ⟨_, cur, hh⟩ := own_block HH.out.way (q := gw) (by rw [HVW.out]; rfl)
    exact ⟨cur, hh⟩
   have KG := Lib.hid kgw
   have HO3 : Hid (wB.ownsRow w.heap.size 5 1 (.slice (some ⟨gb, 0, none⟩) n c') n (bytes (Crc.flips gm.bytes p wn 0))) := HO
   have hbB := HBB.out
   have hc7 := Lib.hid c7
   have hg2 := Lib.hid g2
   clear HO HAN HCL kgw HBB c7 g2
   generalize hG : w.heap.size = g0 at *
   have HG := Lib.hid hG
   clear hG
   go_loopw [48] (fun iv wr => ∃ j : Nat, j ≤ 32 ∧ iv = I j ∧ Hid (wr.ownsRow g0 5 1 (.slice (some ⟨gb, 0, none⟩) n c') n (bytes (Crc.flips gm.bytes p wn j))) ∧ Below g0 w wr ∧ Hid (withinTo n p wn j = true)) (fun iv _ => 32 - (intOf iv).toNat)
   case atStart => exact ⟨0, by omega, rfl, HO3, hbB, Lib.hid rfl⟩
   case round =>
    clear HO3 hbB
    obtain ⟨j, hj, rfl, HO, hbr, HWT⟩ := hrel
    by_cases hlt : j < 32
    ·have hsub : (31 : Int) - (j : Int) = ((31 - j : Nat) : Int) := by omega
     have tB := u32_bit wn (31 - j) hw1
     have HL : Hid (Crc.flips gm.bytes p wn (j + 1) = if wn.testBit (31 - j) && decide (p + j < 8 * n) then Crc.flipBit (Crc.flips gm.bytes p wn j) (p + j) else Crc.flips gm.bytes p wn j) := Lib.hid (by rw [Crc.flips, HN.out])
     have hj31 : 31 - j ≤ 31 := by omega
     have hji : (j : Int) < 32 := by omega
     have HJ := Lib.hid hlt
     cases hb1 : wn.testBit (31 - j) with
     | false =>
      have tB2 : (bits .and .u32 ((wn : Int) / 2 ^ (31 - j)) 1 == 0) = true := by
       have h := and_u32 (wn >>> (31 - j)) 1 (Nat.lt_of_le_of_lt (by rw [Nat.shiftRight_eq_div_pow]; exact Nat.div_le_self _ _) hw1) (by decide)
       rw [hb1] at tB
       rw [shr_cast] at tB ⊢
       rw [show ((1 : Nat) : Int) = 1 from rfl] at h
       rw [h, Nat.and_one_is_mod] at tB ⊢
       have : wn >>> (31 - j) % 2 = 0 ∨ wn >>> (31 - j) % 2 = 1 := by omega
       rcases this with e | e
       ·rw [e]; rfl
       ·rw [e] at tB; cases tB
      have HL' : Hid (Crc.flips gm.bytes p wn (j + 1) = Crc.flips gm.bytes p wn j) := Lib.hid (by rw [HL.out, hb1]; rfl)
      have HW' : Hid (withinTo n p wn (j + 1) = true) := Lib.hid (by rw [withinTo_succ, HWT.out, hb1]; rfl)
      clear hb1 HL tB hlt
      go_wp2_with fail
      go_roundw
      case rel => exact ⟨j + 1, HJ.out, by go_num, by rw [HL'.out]; exact HO, hbr, HW'⟩
      case measure => have := HJ.out; simp [intOf]; omega
     | true =>
      have tB2 : (bits .and .u32 ((wn : Int) / 2 ^ (31 - j)) 1 == 0) = false := by
       rw [hb1] at tB
       rw [eq_of_beq tB]
       rfl
      by_cases hr : p + j < 8 * n
      ·have tR : ¬ 8 * (n : Int) ≤ (p : Int) + (j : Int) := by omega
       have HW' : Hid (withinTo n p wn (j + 1) = true) := Lib.hid (by rw [withinTo_succ, HWT.out, decide_eq_true hr, Bool.or_true]; rfl)
       obtain ⟨y, hy⟩ := some_at (Crc.flips gm.bytes p wn j) ((p + j) / 8) (by rw [Crc.flips_length, HN.out]; omega)
       have HL' : Hid (Crc.flips gm.bytes p wn (j + 1) = (Crc.flips gm.bytes p wn j).set ((p + j) / 8) (y ^^^ UInt8.ofNat (128 >>> ((p + j) % 8)))) := Lib.hid (by rw [HL.out, hb1, decide_eq_true hr]; exact flips_byte _ _ _ hy)
       obtain ⟨c1, f1⟩ := own_byte HO.out hy
       have hq : ((p : Int) + (j : Int)) / 8 = (((p + j) / 8 : Nat) : Int) := by omega
       have hm8 : ((p : Int) + (j : Int)) % 8 = (((p + j) % 8 : Nat) : Int) := by omega
       have hqn : (p + j) / 8 < n := by omega
       have HX := Lib.hid (u8_xorp y ((p + j) % 8) (by omega))
       have hx8 := y.toNat_lt
       have hr8 : (p + j) % 8 < 8 := Nat.mod_lt _ (by decide)
       clear hb1 HL hy hr tB hlt
       generalize (p + j) / 8 = q at *
       generalize (p + j) % 8 = r at *
       go_wp2_with fail
       go_region
       go_wp2_with fail
       go_roundw
       case rel =>
        refine ⟨j + 1, HJ.out, by go_num, ?_, (hbr.setCell hgb0 _).drew, HW'⟩
        have h := own_set HO.out q (U8 (y ^^^ UInt8.ofNat (128 >>> r)))
        rw [bytes_set, ← HL'.out] at h
        have e : Value.int .u8 (bits .xor .u8 (y.toNat : Int) (128 / 2 ^ r)) = U8 (y ^^^ UInt8.ofNat (128 >>> r)) := U_eq HX.out
        rw [e]
        exact h
       case measure => have := HJ.out; simp [intOf]; omega
      ·have tR : 8 * (n : Int) ≤ (p : Int) + (j : Int) := by omega
       have HE : Hid (sysSpoil s i p wn = s) := Lib.hid (by rw [HEQ.out, if_pos (.inr (.inr (.inl (within_bad hlt hb1 hr))))])
       clear hb1 HL tB hr hlt
       go_wp2
       go_ret
       exact ⟨⟨_, rfl⟩, x, by rw [HE.out]; exact HH.out.after (by rw [HG.out]; exact hbr), Moved.of_below (by rw [HG.out]; exact hbr)⟩
    ·have hj32 : j = 32 := by omega
     subst hj32
     have HWI : Hid (within n p wn = true) := HWT
     have HYR := Lib.hid (HH.out.after (by rw [HG.out]; exact hbr))
     have c7 : wr.cell? ⟨x.g, 7, none⟩ = some (.slice (some ⟨gw, 0, none⟩) s.way.length c) := (hbr.cell (p := ⟨x.g, 7, none⟩) hg).trans hc7.out
     have g2 : wr.cell? ⟨gw, i * 3 + 2, none⟩ = some (.slice A2 n c2) := (hbr.cell (p := ⟨gw, i * 3 + 2, none⟩) hgwl).trans hg2.out
     have hgr := HYR.out.has.lt
     have KGR := Lib.hid (KG.out.after (by rw [HG.out]; exact hbr))
     have hrd2 : Reads wr wr.heap.size A2 (bytes gm.bytes) := (HRD.out.below hbr).more (by rw [← HG.out]; exact hbr.size)
     obtain ⟨er, f, hdec⟩ : ∃ er f, dec gm.bytes = (er, f) := ⟨_, _, rfl⟩
     have hwf := dec_wf2 gm.bytes
     have HDC := Lib.hid (decode_ok A2 n c2 gm.bytes wr HN.out hc2 hrd2)
     rw [hdec] at hwf HDC HEQ
     dsimp only at hwf HDC HEQ
     have hsf : Hid ((Try.prog.info? 35).map (·.size) = some (frC f).size) := Lib.hid (by rw [frC_size _ hwf.1]; exact infoFrame)
     have hzf : Hid ((frC zeroF).size = (frC f).size) := Lib.hid (by rw [frC_size _ hwf.1]; rfl)
     have HBR := Lib.hid hbr
     clear hwf hdec hrd2 hbr tz
     go_upto_region 15 with (first
      | (go_at_call 60; refine HDC.out.mono ?_; rintro e wD ⟨rfl, hbD⟩; have HBD := Lib.hid hbD; clear hbD)
      | (rw [← zeroFrame]; refine wpList_store_row rfl 35 (.tmp 11) (.tmp 90) rfl wD.heap.size (frC f) rfl rfl 35 (frC zeroF) (Has.new wD 35 (frC zeroF)) hsf.out hzf.out (frC_one _) ?_))
     have h6 := (oneF_has wD f).2
     change Code.wp _ _ _ _ (oneF wD f)
     generalize oneF wD f = w6 at *
     have hb6 : Below wr.heap.size wr w6 := HBD.out.trans (h6.mono HBD.out.size)
     have HB6 := Lib.hid hb6
     have HY6 := Lib.hid (HYR.out.after hb6)
     have c76 : w6.cell? ⟨x.g, 7, none⟩ = some (.slice (some ⟨gw, 0, none⟩) s.way.length c) := (hb6.cell (p := ⟨x.g, 7, none⟩) hgr).trans c7
     have g26 : w6.cell? ⟨gw, i * 3 + 2, none⟩ = some (.slice A2 n c2) := (hb6.cell (p := ⟨gw, i * 3 + 2, none⟩) KGR.out.lt).trans g2
     have hg6 := HY6.out.has.lt
     have KG6 := Lib.hid (KGR.out.after hb6)
     have fr6 := KG6.out.free (i * 3 + 2)
     have HBW : Hid (Below w.heap.size w w6) := Lib.hid (by rw [HG.out]; exact HBR.out.trans (hb6.mono (by rw [← HG.out]; exact HBR.out.size)))
     clear hb6 h6 HBD c7 g2 hgr HDC
     by_cases he : er = 0
     ·have he2 : errV er = .nilIface := by rw [he]; rfl
      rw [he2]
      have HE : Hid (sysSpoil s i p wn = { s with way := s.way.set i { gm with bytes := Crc.flips gm.bytes p wn 32 } }) := Lib.hid (by
       rw [HEQ.out, if_neg]
       rintro (h | h | h | h)
       ·exact hat h
       ·have := hwn.out; omega
       ·rw [HWI.out] at h; cases h
       ·exact h he)
      clear he
      go_wp2
      go_ret
      have ht : Turned (fun b => b = x.g ∨ x.vw.ownBlock = some b) w6 (w6.setCell ⟨gw, i * 3 + 2, none⟩ (.slice (some ⟨gb, 0, none⟩) n c')) := (Turned.refl _ _).setCell _ _ (.inl (.inr (by rw [HVW.out]; rfl)))
      have hF : ∀ b, (b = x.g ∨ x.vw.ownBlock = some b) → Mut w6 b := fun b e => HY6.out.mut (e.elim .inl fun e => .inr (.inr (.inr e)))
      have hoB : BAt w6 (.slice (some ⟨gb, 0, none⟩) n c') (Crc.flips gm.bytes p wn 32) := BAt.of_own (base := g0) (by
       rw [Crc.flips_length, HN.out]
       exact own_after HO.out HB6.out)
      have how := HY6.out.way
      rw [HVW.out] at how
      have hsetw := own_setS how (i * 3 + 2) (.slice (some ⟨gb, 0, none⟩) n c')
      rw [← wayL_set s.way x.vs i gm { gm with bytes := Crc.flips gm.bytes p wn 32 } _ HY6.out.len HGE.out rfl rfl] at hsetw
      obtain ⟨h3, h4⟩ := HY6.out.setWay (vw' := x.vw) (vs' := x.vs.set i (.slice (some ⟨gb, 0, none⟩) n c')) (way' := s.way.set i { gm with bytes := Crc.flips gm.bytes p wn 32 }) (lost' := s.lost) ht
       (HY6.out.has.far (HY6.out.has.ne KG6.out (by decide)) _) (by rw [HVW.out, List.length_set]; exact hsetw) (by rw [List.length_set, List.length_set, HY6.out.len]) (fun b hb => .inl hb) (fun j gm' v' e1 e2 => by
        rw [List.getElem?_set] at e1 e2
        by_cases hij : i = j
        ·subst hij
         rw [if_pos rfl] at e1 e2
         split at e1
         ·split at e2
          ·injection e1 with e1
           injection e2 with e2
           rw [← e1, ← e2]
           exact hoB.keepT ht hF
          ·cases e2
         ·cases e1
        ·rw [if_neg hij] at e1 e2
         exact (HY6.out.bytes j gm' v' e1 e2).keepT ht hF)
      refine ⟨⟨_, rfl⟩, _, ?_, (Moved.of_below HBW.out).trans h4⟩
      rw [HE.out]
      exact h3
     ·have HE : Hid (sysSpoil s i p wn = s) := Lib.hid (by rw [HEQ.out, if_pos (.inr (.inr (.inr he)))])
      have he2 : errV er = .iface 88 (I er) := by unfold errV; rw [if_neg he]
      rw [he2]
      clear he
      go_wp2
      go_ret
      exact ⟨⟨_, rfl⟩, x, by rw [HE.out]; exact HH.out.after HBW.out, Moved.of_below HBW.out⟩
 ·have hii : s.way.length ≤ i := by omega
  have HE : Hid (sysSpoil s i p wn = s) := Lib.hid (by
   unfold sysSpoil
   rw [List.getElem?_eq_none hii])
  clear h hv hf
  go_enter Try.func34, Try.ntmps34
  go_wp2
  go_ret
  exact ⟨⟨_, rfl⟩, x, by rw [HE.out]; exact HH.out, Moved.refl w x⟩
end
end Go.Proofs.Ytdhekhlmdefcnab
