/- Part 34 of the proof: SystemCalm. -/
import Derived.Test.YtdhekhlmdefcnabPart33
import Derived.Test.YtdhekhlmdefcnabPart9
import Derived.Test.YtdhekhlmdefcnabPart17
import Derived.Test.YtdhekhlmdefcnabPart4
namespace Go.Proofs.Ytdhekhlmdefcnab
open Go.RowKit
def hush (x : Stp) : Stp := if x.what < 10 then x else { x with what := -1 }
theorem hush_lt {x : Stp} (h : x.what < 10) : hush x = x := by unfold hush; rw [if_pos h]
theorem hush_what (x : Stp) : (hush x).what < 10 := by
 unfold hush
 split
 ·assumption
 ·show (-1 : Int) < 10; decide
theorem does_hush {L : Lay} {ℓ N : Nat} {Ta : Tale} {x : Stp} (h : ¬ x.what < 10) : does L ℓ N Ta (hush x) = Ta := by
 have : hush x = { x with what := -1 } := by unfold hush; rw [if_neg h]
 rw [this]
 exact does_13 fun c h1 h2 e => by
  have e2 : (-1 : Int) = c := e
  omega
theorem hush_in {l : List Stp} (h : StpsIn l) : StpsIn (l.map hush) := fun x hx => by
 obtain ⟨y, hy, rfl⟩ := List.mem_map.1 hx
 have := h y hy
 unfold hush
 split <;> exact this
theorem hush_at {l : List Stp} {i : Nat} {x : Stp} (h : l[i]? = some x) : (l.map hush)[i]? = some (hush x) := by simp [h]
def seesTo (c : Int × Int) (s : Sys) : Nat → Sys
 | 0 => s
 | i + 1 => sysSee (seesTo c s i) i c
theorem two_ones (a b : Nat) : (#[I (a : Nat), I (b : Nat)] : Array Value).all (·.oneCell') = true := by
 exact all_oneCell_toArray fun v hv => by
  simp only [List.mem_cons, List.mem_nil_iff, or_false] at hv
  rcases hv with rfl | rfl <;> rfl
theorem pop_le : ∀ n, n ≤ 8 → ∀ x, x < 256 → x < 2 ^ n → pop x ≤ n := by decide +kernel
section
variable {w : World}
set_option maxHeartbeats 8000000 in
set_option maxRecDepth 100000 in
theorem calm_any (a d : Int) (A : Option Addr) (c : Nat) (xs : List Int) (A2 : Option Addr) (c2 : Nat) (l : List Stp) (ic iw : Int) (w : World) (hr : Reads w w.heap.size A (ints xs)) (hs : StepsAt w w.heap.size A2 l) (hI : I64 ic ∧ I64 iw) :
  Calls Try.prog 6 #[I a, I d, .slice A xs.length c, .slice A2 l.length c2, .agg #[I ic, I iw]] w fun e w' => e = .returned (.bool true) ∧ Below w.heap.size w w' := by
 have kin := Has.new w 30 #[I ic, I iw]
 have hb0 : Below w.heap.size w (w.alloc (.cells #[I ic, I iw] 30)) := (Below.refl _ _).alloc (Nat.le_refl _) _
 have HST := Lib.hid (hs.below hb0)
 have HR := Lib.hid (hr.below hb0)
 have HB0 := Lib.hid hb0
 have HGS := Lib.hid hb0.size
 have KIN := Lib.hid kin
 clear hb0 hr hs kin
 go_enter Try.func6, Try.ntmps6
 go_upto_region 1 with fail
 generalize w.alloc (.cells #[I ic, I iw] 30) = wb at *
 generalize hG : w.heap.size = gin at *
 have HG := Lib.hid hG
 clear hG
 have HFT := Lib.hid (fits_ok A2 c2 l HST.out)
 by_cases hx : 30 < xs.length
 ·have hxi : (30 : Int) < (xs.length : Int) := by omega
  clear hx
  go_wp2
  go_ret
  exact ⟨rfl, by rw [HG.out]; exact HB0.out⟩
 ·have hxi : ¬ (30 : Int) < (xs.length : Int) := by omega
  have HX := Lib.hid hx
  cases hfb : fitsB l with
  | false =>
   rw [hfb] at HFT
   clear hfb hx
   go_wp2_with (go_at_call 7; refine HFT.out.mono ?_; rintro e w' ⟨rfl, he⟩; cases he)
   go_ret
   exact ⟨rfl, by rw [HG.out]; exact HB0.out⟩
  | true =>
   obtain ⟨hl, hby⟩ := fitsB_of hfb
   rw [hfb] at HFT
   obtain ⟨N, hN⟩ : ∃ N, N = 1200 := ⟨_, rfl⟩
   have HN := Lib.hid hN
   have HBY := Lib.hid hby
   clear hfb hx hN hby
   go_upto_region 8 with (first
    | (go_at_call 7; refine HFT.out.mono ?_; rintro e w' ⟨rfl, he⟩; cases he)
    | (go_at_call 8; refine (ran_ok wb).mono ?_; rintro e w1 ⟨rfl, hb1⟩; have HB1 := Lib.hid hb1; clear hb1)
    | (go_at_call 9; refine (tells_at a d A c xs 17 3 (by have := HX.out; omega) ((HR.out.below (HB1.out.mono HGS.out)).more (Nat.le_trans HGS.out HB1.out.size))).mono ?_; rintro e w2 ⟨⟨y, L, wi, hL, hw1, hw2, rfl, hta, hgy, hwi⟩, hb2⟩; have HTA := Lib.hid hta; have HB2 := Lib.hid hb2; clear hta hb2))
   have e3 : pkN 3 4 = 3 := by decide
   have e17 : pkN 17 18 = 17 := by decide
   have hw20 : wi = 20 := by rw [hwi, e17]; decide
   subst hw20
   rw [e3] at HTA
   have HT0 : Hid (TaAt w2 w1.heap.size y L 3 (taleTo L 3 N 20 (l.map hush) 0)) := HTA
   have hgi : gin < wb.heap.size := KIN.out.lt
   have hgb : gin < w1.heap.size := Nat.lt_of_lt_of_le hgi HB1.out.size
   have HW1 : Hid (Below gin w w1) := Lib.hid (HB0.out.trans (HB1.out.mono HGS.out))
   have HST1 : Hid (StepsAt w1 gin A2 l) := Lib.hid (HST.out.below (HB1.out.mono HGS.out))
   have K1 : Hid (Has w1 gin 30 #[I ic, I iw]) := Lib.hid (KIN.out.after HB1.out)
   have HNM := Lib.hid HST1.out.nums
   clear HTA HFT HR hwi e3 e17 HB0 HB1 HST KIN hgi
   generalize w1.heap.size = b1 at *
   go_wp2_with fail
   go_loopw [12] (fun iv wr => ∃ i : Nat, i ≤ l.length ∧ iv = I i ∧ ∃ y', Hid (TaAt wr b1 y' L 3 (taleTo L 3 N 20 (l.map hush) i)) ∧ Hid (y'.g = y.g) ∧ Hid (Below b1 w1 wr)) (fun iv _ => l.length - (intOf iv).toNat)
   case atStart => exact ⟨0, Nat.zero_le _, rfl, y, HT0, Lib.hid rfl, HB2⟩
   case round =>
    clear HT0 HB2
    obtain ⟨i, hi, rfl, y1, HT, HG1, HB⟩ := hrel
    by_cases hlt : i < l.length
    ·obtain ⟨x, hx⟩ := some_at l i hlt
     obtain ⟨b, o, A', c', rfl, hbb, hrg, hwf, hc1, hc2, hcl, hrd⟩ := (HST1.out.below (HB.out.mono (by omega))) i x hx
     have hii : (i : Int) < (l.length : Int) := by omega
     have HLT := Lib.hid hlt
     have hcw := hrg 0 (I x.what) rfl
     rw [Nat.add_zero] at hcw
     have hbw : b < wr.heap.size := by have := HB.out.size; have := HT.out.hB; omega
     by_cases h10 : x.what < 10
     ·obtain ⟨hfi, hsn⟩ := taleTo_fine (ℓ := 3) hL HN.out (by decide) hw1 hw2 (hush_in HNM.out) i (by rw [List.length_map]; exact hi)
      have hbl := HBY.out x (List.mem_of_getElem? hx)
      have hcall := ta_does N HN.out HT.out hfi hL (by omega) (by omega) (by decide) x hwf A' c' hcl ((hrd.more (by omega))) (by omega)
      rw [HG1.out, ← hush_lt h10, ← taleTo_succ (hush_at hx), hush_lt h10] at hcall
      have HCL := Lib.hid hcall
      have HRG := Lib.hid hrg
      have hsI : Hid ((Try.prog.info? 38).map (·.size) = some (stpC x (.slice A' x.bytes.length c')).toList.length) := Lib.hid (by rw [stpC_size hwf.1]; exact infoStp)
      clear hcall hx hbb hrg hwf hc1 hc2 hcl hrd hfi hsn hbl hlt hi
      go_wp2_with (first
       | (refine wpList_load_mid rfl 38 (.tmp 55) rfl b (o + i * 29) rfl (stpC x (.slice A' x.bytes.length c')).toList _ HRG.out Try.underlying38 rfl hsI.out ?_)
       | (go_at_call 10; refine HCL.out.mono ?_; rintro e wb ⟨rfl, y2, hy2, hm2⟩; have HT2 := Lib.hid hy2; have HG2 := Lib.hid (hm2.same.trans HG1.out); have HBB := Lib.hid (HB.out.trans (hm2.below HT.out)); clear hy2 hm2))
      go_roundw
      case rel => exact ⟨i + 1, HLT.out, by rfl, y2, HT2, HG2, HBB⟩
      case measure => have := HLT.out; simp [intOf]; omega
     ·have HT2 : Hid (TaAt wr b1 y1 L 3 (taleTo L 3 N 20 (l.map hush) (i + 1))) := Lib.hid (by
       rw [taleTo_succ (hush_at hx), does_hush h10]
       exact HT.out)
      clear hx hbb hrg hwf hc1 hc2 hcl hrd hlt hi
      go_wp2_with fail
      go_roundw
      case rel => exact ⟨i + 1, HLT.out, by rfl, y1, HT2, HG1, HB⟩
      case measure => have := HLT.out; simp [intOf]; omega
    ·have hin : i = l.length := by omega
     subst hin
     obtain ⟨hfi, hsn⟩ := taleTo_fine (ℓ := 3) hL HN.out (by decide) hw1 hw2 (hush_in HNM.out) l.length (by rw [List.length_map]; exact Nat.le_refl _)
     have hok := taleTo_ok (ℓ := 3) (N := N) (wi := 20) (l := l.map hush) hL l.length
     have hgd : Gd (taleTo L 3 N 20 (l.map hush) l.length).s (0 + l.length) := by
      have h1 := good_run hL N (l.map hush) (T := tale0 20) (m := 0) (tale0_ok L 3 20) Gd.start (by rw [List.length_map]; omega) (fun x hx => by obtain ⟨y, _, rfl⟩ := List.mem_map.1 hx; exact hush_what y)
      rw [List.length_map] at h1
      unfold taleTo
      rw [List.take_of_length_le (by rw [List.length_map]; exact Nat.le_refl _)]
      exact h1
     generalize taleTo L 3 N 20 (l.map hush) l.length = Tb at *
     obtain ⟨s6, h6⟩ : ∃ s6, s6 = calm L N Tb.s 6 := ⟨_, rfl⟩
     obtain ⟨s8, h8⟩ : ∃ s8, s8 = calm L N (seesTo (ic, iw) s6 3) 5 := ⟨_, rfl⟩
     have hsaid := calm_law hL hok hgd (by omega) (ic, iw) HN.out h6 rfl h8
     have hf6 : Fine 20000000 s6 := by
      rw [h6, HN.out]
      exact (Fine.calm hL 1200 6 hfi).mono (by omega)
     have hf7 : ∀ j, j ≤ 3 → Fine 20000000 (seesTo (ic, iw) s6 j) := fun j => by
      induction j with
      | zero => exact fun _ => hf6
      | succ j ih => exact fun hj => (ih (by omega)).see (by omega) hI
     have hf8 : Fine 40000000 s8 := by
      rw [h8, HN.out]
      exact (Fine.calm hL 1200 5 (hf7 3 (Nat.le_refl _))).mono (by omega)
     have hmany : Tb.s.v.trace.length ≤ 1000 := hfi.vo.many
     obtain ⟨nw, hnw⟩ : ∃ nw, nw = Tb.s.v.trace.length := ⟨_, rfl⟩
     have hii : ¬ (l.length : Int) < (l.length : Int) := by omega
     have HTR := Lib.hid (sy_trace HT.out.sys hmany)
     have hs0 := HT.out.scell
     rw [HG1.out] at hs0
     have hyg : y.g < wr.heap.size := by rw [← HG1.out]; exact HT.out.has.lt
     rw [← hnw] at HTR
     have HF := Lib.hid hfi
     have HSD := Lib.hid hsaid
     have HF7 := Lib.hid hf7
     have HF8 := Lib.hid hf8
     have H6 := Lib.hid h6
     have H8 := Lib.hid h8
     have HNW := Lib.hid hnw
     clear hlt hi hsn hfi hok hgd hsaid hf6 hf7 hf8 hmany h6 h8 hnw HST1 HBY HNM
     go_upto_region 15 with (go_at_call 12; refine HTR.out.mono ?_; rintro e w3 ⟨⟨vr, rfl, ho⟩, hb3⟩; rw [HNW.out] at ho; obtain ⟨A3, c3, rfl, hc3, hget⟩ := own_cms ho; rw [← HNW.out]; have HT3 := Lib.hid (HT.out.after hb3); have HB3 := Lib.hid (HB.out.trans (hb3.mono HT.out.hB)); clear ho hget hb3)
     have hs3 := HT3.out.scell
     rw [HG1.out] at hs3
     have hy3 : y.g < w3.heap.size := by rw [← HG1.out]; exact HT3.out.has.lt
     have hcl := in_calm N HN.out (SyIn.start HT3.out.sys HT3.out.hB) HF.out hL 6 (by omega) (by omega)
     rw [show ((6 : Nat) : Int) = 6 from rfl, ← H6.out] at hcl
     have HCL := Lib.hid hcl
     clear hcl HTR hs0 hyg HT HB H6 HF
     go_upto_region 16 with (go_at_call 20; refine HCL.out.mono ?_; rintro e w4 ⟨⟨v1, rfl, hv1⟩, hin, hst⟩; have HZ := Lib.hid (HT3.out.fromIn hin); clear hin hst)
     obtain ⟨y4, h4, m4⟩ := HZ.out
     have hg4 : y4.g = y.g := m4.same.trans HG1.out
     have HB4 : Hid (Below b1 w1 w4) := Lib.hid (HB3.out.trans (m4.below HT3.out))
     have HT4 := Lib.hid h4
     have hs4 := h4.scell
     have hy4 := h4.has.lt
     rw [hg4] at hs4 hy4
     have HG4 := Lib.hid hg4
     have HLA : Hid (Calls Try.prog 13 #[.pointer (some ⟨y4.x.g, 0, none⟩)] w4 fun e w' => e = .returned (.bool false) ∧ w4 = w') := Lib.hid (by
      have := sy_latched h4.sys
      rw [show ({ Tb with s := s6 } : Tale).s.v.latched = false from HSD.out.lat6] at this
      exact this)
     obtain ⟨n6, hn6⟩ : ∃ n6, n6 = s6.v.trace.length := ⟨_, rfl⟩
     have hmore : ¬ n6 ≤ nw := by have := HSD.out.more; rw [hn6, HNW.out]; omega
     have HTR4 : Hid (Calls Try.prog 12 #[.pointer (some ⟨y4.x.g, 0, none⟩)] w4 fun e w' => (∃ A c, e = .returned (.slice A n6 c)) ∧ Below w4.heap.size w4 w') := Lib.hid (by
      refine (sy_trace h4.sys (by show s6.v.trace.length ≤ 1000; have := HSD.out.few6; omega)).mono ?_
      rintro e w' ⟨⟨vr, rfl, ho⟩, hb⟩
      obtain ⟨A, c, rfl, _, _⟩ := own_cms ho
      exact ⟨⟨A, c, by rw [hn6]⟩, hb⟩)
     clear hs3 hy3 HCL hv1 HZ h4 m4 hg4 HT3 HB3 hn6
     go_upto_region 18 with (first
      | (go_at_call 13; refine HLA.out.mono ?_; rintro e w' ⟨rfl, rfl⟩)
      | (go_at_call 12; refine HTR4.out.mono ?_; rintro e w5 ⟨⟨A5, c5, rfl⟩, hb5⟩; have HT5 := Lib.hid (HT4.out.after hb5); have HB5 := Lib.hid (HB4.out.trans (hb5.mono HT4.out.hB)); have hs5 := HT5.out.scell; have hy5 := HT5.out.has.lt; rw [HG4.out] at hs5 hy5; clear hb5)
      | (go_at_call 16; refine (sy_out HT5.out.sys).mono ?_; rintro e w' ⟨rfl, rfl⟩; rw [show (({ Tb with s := s6 } : Tale).s.v.out) = 0 from HSD.out.out6]))
     have HT0 : Hid (TaAt w5 b1 y4 L 3 { Tb with s := seesTo (ic, iw) s6 0 }) := HT5
     clear hs4 hy4 HLA HTR4 hmore hs5 hy5 HT5 HT4 HB4 HG1
     go_wp2_with fail
     go_loopw [15] (fun iv wr => ∃ i : Nat, i ≤ 3 ∧ iv = I i ∧ ∃ y', Hid (TaAt wr b1 y' L 3 { Tb with s := seesTo (ic, iw) s6 i }) ∧ Hid (y'.g = y.g) ∧ Hid (Below b1 w1 wr)) (fun iv _ => 3 - (intOf iv).toNat)
     case atStart => exact ⟨0, by omega, rfl, y4, HT0, HG4, HB5⟩
     case round =>
      clear HT0 HG4 HB5
      obtain ⟨i, hi, rfl, y6, HT6, HG6, HB6⟩ := hrel
      by_cases hlt : i < 3
      ·have HLT := Lib.hid hlt
       have hii : (i : Int) < 3 := by omega
       have hk0 := (HB6.out.cell (p := ⟨gin, 0, none⟩) hgb).trans (K1.out.cellv 0 _ rfl)
       have hk1 := (HB6.out.cell (p := ⟨gin, 1, none⟩) hgb).trans (K1.out.cellv 1 _ rfl)
       have hs6 := HT6.out.scell
       have hy6 := HT6.out.has.lt
       rw [HG6.out] at hs6 hy6
       have hgr : gin < wr.heap.size := by have := HB6.out.size; have := HT6.out.hB; omega
       have HTd := Lib.hid (HT6.out.after (show Below wr.heap.size wr wr.drew from (Below.refl _ _).drew))
       have HCL := Lib.hid (in_see (SyIn.start HTd.out.sys HTd.out.hB) i hlt ic iw)
       clear hlt hi
       go_upto_region 21 with fail
       go_cut [103] (fun s103 wx => s103 = .bool false ∧ Hid (∃ y', TaAt wx b1 y' L 3 { Tb with s := seesTo (ic, iw) s6 (i + 1) } ∧ y'.g = y.g ∧ Below b1 w1 wx))
       case first =>
        go_region_with (go_at_call 21; refine HCL.out.mono ?_; rintro e wz ⟨⟨v1, rfl, rfl⟩, hin, hst⟩; have HZ := Lib.hid (HTd.out.fromIn hin); clear hin hst)
        all_goals
         go_wp2_with fail
         go_meet
         case rel =>
          refine ⟨rfl, Lib.hid ?_⟩
          obtain ⟨y', h1, h2⟩ := HZ.out
          exact ⟨y', h1, h2.same.trans HG6.out, (HB6.out.trans ((Below.refl _ _).drew)).trans (h2.below HTd.out)⟩
       case rest =>
        obtain ⟨rfl, HX⟩ := hcut
        obtain ⟨y7, h7, g7, b7⟩ := HX.out
        have HT7 := Lib.hid h7
        have HG7 := Lib.hid g7
        have HB7 := Lib.hid b7
        clear HX h7 g7 b7 HCL HTd hk0 hk1 hs6 hy6 HT6 HB6 HG6 hgr
        go_wp2_with fail
        go_roundw
        case rel => exact ⟨i + 1, HLT.out, by rfl, y7, HT7, HG7, HB7⟩
        case measure => have := HLT.out; simp [intOf]; omega
      ·have hi3 : i = 3 := by omega
       subst hi3
       have hs6 := HT6.out.scell
       have hy6 := HT6.out.has.lt
       rw [HG6.out] at hs6 hy6
       have hcl := in_calm N HN.out (SyIn.start HT6.out.sys HT6.out.hB) (HF7.out 3 (Nat.le_refl _)) hL 5 (by omega) (by decide)
       rw [show ((5 : Nat) : Int) = 5 from rfl] at hcl
       have HCL : Hid (Calls Try.prog 20 #[.pointer (some ⟨y6.x.g, 0, none⟩), I 5] wr (InPost wr b1 y6.x L wr (· = .tuple #[]) s8)) := Lib.hid (by rw [H8.out]; exact hcl)
       clear hcl hlt hi H8 HF7
       go_upto_region 24 with (go_at_call 20; refine HCL.out.mono ?_; rintro e w8 ⟨⟨v1, rfl, hv1⟩, hin, hst⟩; have HZ := Lib.hid (HT6.out.fromIn hin); clear hin hst)
       obtain ⟨y8, h8, m8⟩ := HZ.out
       have hg8 : y8.g = y.g := m8.same.trans HG6.out
       have HB8 : Hid (Below b1 w1 w8) := Lib.hid (HB6.out.trans (m8.below HT6.out))
       have HT8 : Hid (TaAt w8 b1 y8 L 3 { Tb with s := s8 }) := Lib.hid h8
       have HG8 := Lib.hid hg8
       obtain ⟨A8, c8, e8, hc8, _, _, hrd8⟩ := own_read h8.routes
       have q1 := h8.has.cellv 1 (I L.secs) rfl
       have q2 := h8.has.cellv 2 y8.vr rfl
       have q3 := h8.has.cellv 3 (I L.delay) rfl
       have hy8 := h8.has.lt
       rw [hg8] at q1 q2 q3 hy8
       have q2' : w8.cell? ⟨y.g, 2, none⟩ = some (.slice A8 L.routes.length c8) := by rw [← e8]; exact q2
       have hk0 := (HB8.out.cell (p := ⟨gin, 0, none⟩) hgb).trans (K1.out.cellv 0 _ rfl)
       have hk1 := (HB8.out.cell (p := ⟨gin, 1, none⟩) hgb).trans (K1.out.cellv 1 _ rfl)
       have hgr : gin < w8.heap.size := by have := HB8.out.size; have := h8.hB; omega
       have HFI := Lib.hid (fun W (hr : Reads W W.heap.size A8 (ints (zs L.routes))) => fit_ok L.secs L.delay A8 L.routes.length c8 (zs L.routes) ic iw W (Lib.hid (zs_length _)) hL.many2 hc8 hr (by have := hL.secs1; omega) (by have := hL.secs2; omega) (Lib.hid (chk_lay hL)))
       have HRE : Hid (Reads w8 w8.heap.size A8 (ints (zs L.routes))) := Lib.hid hrd8
       clear q2 e8 hrd8 h8 m8 hg8 HZ HCL hs6 hy6 HT6 HB6 HG6 hv1
       have HII : Hid ((Try.prog.info? 30).map (·.size) = some 2) := Lib.hid (by kernel_rfl)
       have HIO := Lib.hid (two_ones (msk ic L.secs) (msk iw L.routes.length))
       go_cut [16, 17] (fun s16 s17 wx => s17 = .nilIface ∧ ∃ gw, s16 = .pointer (some ⟨gw, 0, none⟩) ∧ Hid (Has wx gw 30 #[I (msk ic L.secs : Nat), I (msk iw L.routes.length : Nat)] ∧ Below w8.heap.size w8 wx))
       case first =>
        clear HSD HF8 HT8 HB8 HG8
        --<R24
        rename_i J0 K0 hJ0 hK0
        have HK0 := Lib.hid hK0
        clear hK0
        refine region_alloc w8.heap.size (by kernel_rfl) (fun b0 => b0.tmps.getD 9 undef = .pointer (some ⟨gin, 0, none⟩) ∧ b0.tmps.getD 11 undef = .pointer (some ⟨y.g, 0, none⟩)) ⟨rfl, rfl⟩ 187 rfl (fun γ i => ([.pointer (some ⟨y.g, 0, none⟩), .pointer (some ⟨y.g, 0, none⟩), .pointer (some ⟨y.g, 1, none⟩), .agg #[I L.secs, .slice A8 L.routes.length c8, I L.delay], .agg #[I ic, I iw], .tuple #[.agg #[I (msk ic L.secs : Nat), I (msk iw L.routes.length : Nat)], .nilIface], .tuple #[.agg #[I (msk ic L.secs : Nat), I (msk iw L.routes.length : Nat)], .nilIface], .agg #[I (msk ic L.secs : Nat), I (msk iw L.routes.length : Nat)], .nilIface, .pointer (some ⟨γ, 0, none⟩), undef, .nilIface] : List Value).getD i undef) 9 30 #[I 0, I 0] [10] (by kernel_rfl) (by decide) (by kernel_rfl) ?_ (fun wx => Below w8.heap.size w8 wx) (fun j γ => ([fun _ => True, ((fun γ => (fun wx => Has wx γ 30 #[I (msk ic L.secs : Nat), I (msk iw L.routes.length : Nat)] ∧ Below w8.heap.size w8 wx))) γ] : List (World → Prop)).getD j (fun _ => True)) [110, 111, 112, 113, 114, 115, 109, 116, 117, 16, 17] (by kernel_rfl) (by kernel_rfl) ((Below.refl _ _).drew) ?_ ?_
        ·intro γ γ' j hj
         by_cases hjm : j < 12
         ·have hcase : j = 0 ∨ j = 1 ∨ j = 2 ∨ j = 3 ∨ j = 4 ∨ j = 5 ∨ j = 6 ∨ j = 7 ∨ j = 8 ∨ j = 9 ∨ j = 10 ∨ j = 11 := by omega
          rcases hcase with rfl | rfl | rfl | rfl | rfl | rfl | rfl | rfl | rfl | rfl | rfl | rfl <;> first | rfl | exact absurd rfl hj
         ·rw [List.getD_eq_getElem?_getD, List.getD_eq_getElem?_getD, List.getElem?_eq_none (by simp; omega), List.getElem?_eq_none (by simp; omega)]
        ·intro b0 hb0 i o ho
         have hi : i < 12 := (Array.getElem?_eq_some_iff.1 ho).1
         obtain ⟨f9, f11⟩ := hb0
         have hcase : i = 0 ∨ i = 1 ∨ i = 2 ∨ i = 3 ∨ i = 4 ∨ i = 5 ∨ i = 6 ∨ i = 7 ∨ i = 8 ∨ i = 9 ∨ i = 10 ∨ i = 11 := by omega
         clear hi
         rcases hcase with rfl | rfl | rfl | rfl | rfl | rfl | rfl | rfl | rfl | rfl | rfl | rfl
         ·simp only [List.getElem?_toArray, List.getElem?_cons_zero] at ho
          cases ho
          refine .inl ⟨by decide, by decide, fun γ M => stepA rfl (fun li ac wx H hn hed hM K hk => ?_)⟩
          have e11 : ac.tmps[11]?.getD undef = .pointer (some ⟨y.g, 0, none⟩) := slot_at ((H.frm.slot (by decide)).trans f11)
          clear hed H
          go_simp
          exact hk _ hM
         ·simp only [List.getElem?_toArray, List.getElem?_cons_zero, List.getElem?_cons_succ] at ho
          cases ho
          refine .inl ⟨by decide, by decide, fun γ M => stepA rfl (fun li ac wx H hn hed hM K hk => ?_)⟩
          have e110 : ac.tmps[110]?.getD undef = .pointer (some ⟨y.g, 0, none⟩) := slot_at (H.known 0 _ rfl (hed ⟨0, .data⟩ (by simp) rfl) 110 rfl)
          clear hed H
          go_simp
          exact hk _ hM
         ·simp only [List.getElem?_toArray, List.getElem?_cons_zero, List.getElem?_cons_succ] at ho
          cases ho
          refine .inl ⟨by decide, by decide, fun γ M => stepA rfl (fun li ac wx H hn hed hM K hk => ?_)⟩
          have e111 : ac.tmps[111]?.getD undef = .pointer (some ⟨y.g, 0, none⟩) := slot_at (H.known 1 _ rfl (hed ⟨1, .data⟩ (by simp) rfl) 111 rfl)
          clear hed H
          go_simp
          exact hk _ hM
         ·simp only [List.getElem?_toArray, List.getElem?_cons_zero, List.getElem?_cons_succ] at ho
          cases ho
          refine .inr (.inl ⟨by decide, by decide, by kernel_rfl, fun γ w0 => stepA rfl (fun li ac wx H hn hed hM K hk => ?_)⟩)
          have e112 : ac.tmps[112]?.getD undef = .pointer (some ⟨y.g, 1, none⟩) := slot_at (H.known 2 _ rfl (hed ⟨2, .data⟩ (by simp) rfl) 112 rfl)
          obtain ⟨hM1, rfl⟩ := hM
          have hM1 : (fun wx => Below w8.heap.size w8 wx) w0 := hM1
          have x1 := (hM1.cell (p := ⟨y.g, 1, none⟩) hy8).trans q1
          have x2 := (hM1.cell (p := ⟨y.g, 2, none⟩) hy8).trans q2'
          have x3 := (hM1.cell (p := ⟨y.g, 3, none⟩) hy8).trans q3
          clear hed H
          go_simp
          exact hk _ ⟨hM1, Below.refl _ _⟩
         ·simp only [List.getElem?_toArray, List.getElem?_cons_zero, List.getElem?_cons_succ] at ho
          cases ho
          refine .inr (.inl ⟨by decide, by decide, by kernel_rfl, fun γ w0 => stepA rfl (fun li ac wx H hn hed hM K hk => ?_)⟩)
          have e9 : ac.tmps[9]?.getD undef = .pointer (some ⟨gin, 0, none⟩) := slot_at ((H.frm.slot (by decide)).trans f9)
          obtain ⟨hM1, rfl⟩ := hM
          have hM1 : (fun wx => Below w8.heap.size w8 wx) w0 := hM1
          have x1 := (hM1.cell (p := ⟨gin, 0, none⟩) hgr).trans hk0
          have x2 := (hM1.cell (p := ⟨gin, 1, none⟩) hgr).trans hk1
          clear hed H
          go_simp
          exact hk _ ⟨hM1, Below.refl _ _⟩
         ·simp only [List.getElem?_toArray, List.getElem?_cons_zero, List.getElem?_cons_succ] at ho
          cases ho
          refine .inr (.inl ⟨by decide, by decide, by kernel_rfl, fun γ w0 => stepA rfl (fun li ac wx H hn hed hM K hk => ?_)⟩)
          have e113 : ac.tmps[113]?.getD undef = .agg #[I L.secs, .slice A8 L.routes.length c8, I L.delay] := slot_at (H.known 3 _ rfl (hed ⟨3, .data⟩ (by simp) rfl) 113 rfl)
          have e114 : ac.tmps[114]?.getD undef = .agg #[I ic, I iw] := slot_at (H.known 4 _ rfl (hed ⟨4, .data⟩ (by simp) rfl) 114 rfl)
          obtain ⟨hM1, rfl⟩ := hM
          have hM1 : (fun wx => Below w8.heap.size w8 wx) w0 := hM1
          clear hed H
          go_simp
          refine (HFI.out _ ((HRE.out.below hM1).more hM1.size)).mono ?_
          rintro e w' ⟨rfl, hb⟩
          exact hk _ ⟨hM1.trans (hb.mono hM1.size), hb⟩
         ·simp only [List.getElem?_toArray, List.getElem?_cons_zero, List.getElem?_cons_succ] at ho
          cases ho
          refine .inl ⟨by decide, by decide, fun γ M => stepA rfl (fun li ac wx H hn hed hM K hk => ?_)⟩
          have e115 : ac.tmps[115]?.getD undef = .tuple #[.agg #[I (msk ic L.secs : Nat), I (msk iw L.routes.length : Nat)], .nilIface] := slot_at (H.known 5 _ rfl (hed ⟨5, .data⟩ (by simp) rfl) 115 rfl)
          clear hed H
          go_simp
          exact hk _ hM
         ·simp only [List.getElem?_toArray, List.getElem?_cons_zero, List.getElem?_cons_succ] at ho
          cases ho
          refine .inl ⟨by decide, by decide, fun γ M => stepA rfl (fun li ac wx H hn hed hM K hk => ?_)⟩
          have e109 : ac.tmps[109]?.getD undef = .tuple #[.agg #[I (msk ic L.secs : Nat), I (msk iw L.routes.length : Nat)], .nilIface] := slot_at (H.known 6 _ rfl (hed ⟨6, .data⟩ (by simp) rfl) 109 rfl)
          clear hed H
          go_simp
          exact hk _ hM
         ·simp only [List.getElem?_toArray, List.getElem?_cons_zero, List.getElem?_cons_succ] at ho
          cases ho
          refine .inl ⟨by decide, by decide, fun γ M => stepA rfl (fun li ac wx H hn hed hM K hk => ?_)⟩
          have e109 : ac.tmps[109]?.getD undef = .tuple #[.agg #[I (msk ic L.secs : Nat), I (msk iw L.routes.length : Nat)], .nilIface] := slot_at (H.known 6 _ rfl (hed ⟨6, .data⟩ (by simp) rfl) 109 rfl)
          clear hed H
          go_simp
          exact hk _ hM
         ·simp only [List.getElem?_toArray, List.getElem?_cons_zero, List.getElem?_cons_succ] at ho
          cases ho
          refine .inr (.inr (.inl ⟨by decide, rfl, rfl, fun _ => rfl, fun wx hM1 => ?_, fun ac wx K hk => ?_⟩))
          ·exact ⟨hM1.alloc hM1.size _, hM1.size⟩
          ·go_simp
           exact hk
         ·simp only [List.getElem?_toArray, List.getElem?_cons_zero, List.getElem?_cons_succ] at ho
          cases ho
          refine .inr (.inr (.inr ⟨0, rfl, by decide, fun γ => stepA rfl (fun li ac wx H hn hed hM K hk => ?_)⟩))
          have e16 : ac.tmps[16]?.getD undef = .pointer (some ⟨γ, 0, none⟩) := slot_at (H.known 9 _ rfl (hed ⟨9, .data⟩ (by simp) rfl) 16 rfl)
          have e116 : ac.tmps[116]?.getD undef = .agg #[I (msk ic L.secs : Nat), I (msk iw L.routes.length : Nat)] := slot_at (H.known 7 _ rfl (hed ⟨7, .data⟩ (by simp) rfl) 116 rfl)
          have hM1 : (fun wx => Below w8.heap.size w8 wx) wx ∧ Has wx γ 30 #[I 0, I 0] ∧ w8.heap.size ≤ γ := hM
          clear hed H
          refine wp_store_row 30 (.tmp 16) (.tmp 116) rfl γ #[I (msk ic L.secs : Nat), I (msk iw L.routes.length : Nat)] (eval_at e16) (eval_at e116) 30 _ hM1.2.1 HII.out rfl HIO.out ?_
          exact hk _ ⟨hM1.2.1.setRow _, below_setRow hM1.1 hM1.2.2 _⟩
         ·simp only [List.getElem?_toArray, List.getElem?_cons_zero, List.getElem?_cons_succ] at ho
          cases ho
          refine .inl ⟨by decide, by decide, fun γ M => stepA rfl (fun li ac wx H hn hed hM K hk => ?_)⟩
          have e117 : ac.tmps[117]?.getD undef = .nilIface := slot_at (H.known 8 _ rfl (hed ⟨8, .data⟩ (by simp) rfl) 117 rfl)
          clear hed H
          go_simp
          exact hk _ hM
        ·intro γ ac wx hF hK hM0
         have hM : ((fun γ => (fun wx => Has wx γ 30 #[I (msk ic L.secs : Nat), I (msk iw L.routes.length : Nat)] ∧ Below w8.heap.size w8 wx))) γ wx := hM0
         have E16 := hK 9 _ rfl 16 rfl
         have E17 := hK 11 _ rfl 17 rfl
         have hMet := hF.meet
         simp only [List.foldl_cons, List.foldl_nil, List.setIfInBounds_toArray, List.set_cons_succ, List.set_cons_zero, E16, E17] at hMet
         refine HK0.out _ _ (Met.intro (hJ0 _ _ ?_))
         (repeat apply Exists.intro)
         exact ⟨⟨rfl, γ, rfl, Lib.hid hM⟩, hMet⟩
        --R24>
       case rest =>
        obtain ⟨rfl, gw, rfl, HX⟩ := hcut
        have HTc := Lib.hid (HT8.out.after HX.out.2)
        have HBc : Hid (Below b1 w1 wc) := Lib.hid (HB8.out.trans (HX.out.2.mono HT8.out.hB))
        have hsc := HTc.out.scell
        have hyc := HTc.out.has.lt
        rw [HG8.out] at hsc hyc
        obtain ⟨z, hz1, hz2, hz3⟩ := HSD.out.last
        obtain ⟨n8, hn8⟩ : ∃ n8, n8 = s8.v.trace.length := ⟨_, rfl⟩
        have HN8 := Lib.hid hn8
        obtain ⟨m, hm⟩ : ∃ m, n8 = m + 1 := ⟨n8 - 1, by have := HSD.out.pos8; omega⟩
        have hn60 : n8 ≤ 60 := by rw [hn8]; exact HSD.out.few8
        have hm1 : s8.v.trace.length - 1 = m := by omega
        rw [hm1] at hz1
        have HTR : Hid (Calls Try.prog 12 #[.pointer (some ⟨y8.x.g, 0, none⟩)] wc fun e w' => (∃ b c, e = .returned (.slice (some ⟨b, 0, none⟩) n8 c) ∧ b < w'.heap.size ∧ w'.cell? ⟨b, m * 3, none⟩ = some (I (msk ic L.secs : Nat)) ∧ w'.cell? ⟨b, m * 3 + 1, none⟩ = some (I (msk iw L.routes.length : Nat)) ∧ w'.cell? ⟨b, m * 3 + 2, none⟩ = some (I (z : Nat))) ∧ Below wc.heap.size wc w') := Lib.hid (by
         refine (sy_trace HTc.out.sys (by show s8.v.trace.length ≤ 1000; omega)).mono ?_
         rintro e w' ⟨⟨vr, rfl, ho⟩, hb⟩
         obtain ⟨A, c, rfl, _, hget⟩ := own_cms ho
         obtain ⟨b, rfl, h1, h2, h3, h4⟩ := hget m _ hz1
         exact ⟨⟨b, c, by rw [hn8], h1, h2, h3, h4⟩, hb⟩)
        have hm0' : (m : Int) < (n8 : Int) := by omega
        have hwm' : IntKind.i64.wrap ((n8 : Int) - 1) = (m : Int) := by rw [show (n8 : Int) - 1 = (m : Int) by omega]; exact wr64 (by omega) (by omega)
        have HM0 := Lib.hid hm0'
        have HWM := Lib.hid hwm'
        clear q1 q2' q3 hk0 hk1 hgr HFI HRE hy8 HT8 HB8 hz1 hm1 hn8 hm hm0' hwm'
        go_upto_region 26 with (go_at_call 12; refine HTR.out.mono ?_; rintro e w9 ⟨⟨bt, ct, rfl, hbt, t0, t1, t2⟩, hb9⟩; have HB9 := Lib.hid hb9; clear hb9)
        have kw9 := HX.out.1.after HB9.out
        have g0 := kw9.cellv 0 _ rfl
        have g1 := kw9.cellv 1 _ rfl
        have hgw := kw9.lt
        have HT9 := Lib.hid (HTc.out.after HB9.out)
        have HBB9 : Hid (Below b1 w1 w9) := Lib.hid (HBc.out.trans (HB9.out.mono HTc.out.hB))
        have hm0 := HM0.out
        have hwm := HWM.out
        clear hsc hyc kw9 HTR
        --<Q26
        go_quiet (fail)
        --Q26>
        have HQ : Hid (Below w9.heap.size w9 (w9.drewN nq)) := Lib.hid (below_drewN (Below.refl _ _) nq)
        generalize w9.drewN nq = wq at *
        clear g0 g1 hgw
        go_wp2_with fail
        go_loopw [19] (fun kv wr => ∃ k : Nat, k ≤ 3 ∧ kv = I k ∧ Hid (Below w9.heap.size w9 wr)) (fun kv _ => 3 - (intOf kv).toNat)
        case atStart => exact ⟨0, by omega, rfl, HQ⟩
        case round =>
         clear HQ
         obtain ⟨k, hk, rfl, HBr⟩ := hrel
         have HTr := Lib.hid (HT9.out.after HBr.out)
         have hsr := HTr.out.scell
         have hyr := HTr.out.has.lt
         rw [HG8.out] at hsr hyr
         by_cases hlt : k < 3
         ·have HLT := Lib.hid hlt
          have hkk : (k : Int) < 3 := by omega
          have hs17 := stL_17 (HF8.out.fits k hlt).state
          have hi2 : (Try.prog.info? 33).map (·.size) = some (stC (re s8 k).state).size := by unfold stC; rw [List.size_toArray, hs17]; exact infoState
          have hz : (stC St.zero).size = (stC (re s8 k).state).size := by unfold stC; rw [List.size_toArray, List.size_toArray, hs17]; rfl
          have hcl := sy_replica HTr.out.sys HF8.out k hlt
          have HCL : Hid (Calls Try.prog 17 #[.pointer (some ⟨y8.x.g, 0, none⟩), I k] wr fun e w' => e = .returned (.tuple #[I (n8 : Int), .agg (stC (re s8 k).state), .nilIface]) ∧ Below wr.heap.size wr w') := Lib.hid (by
           rw [HN8.out, ← HSD.out.all8 k hlt]
           exact hcl)
          have HI2 := Lib.hid hi2
          have HZ2 := Lib.hid hz
          generalize re s8 k = rk at *
          clear hcl hs17 hlt hk hi2 hz
          --<Q31
          go_upto_region 32 with (first
           | (go_at_call 17; refine HCL.out.mono ?_; rintro e wR ⟨rfl, hbR⟩; have HBR := Lib.hid hbR; clear hbR)
           | (rw [← zeroState]; refine wpList_store_row rfl 33 (.tmp 21) (.tmp 148) rfl wR.heap.size (stC rk.state) rfl rfl 33 (stC St.zero) (Has.new wR 33 (stC St.zero)) HI2.out HZ2.out (stC_ones _) ?_))
          have HBS : Hid (Below w9.heap.size w9 ((wR.alloc (.cells (stC St.zero) 33)).setRow wR.heap.size (stC rk.state))) := Lib.hid (HBr.out.trans ((HBR.out.trans ((below_setRow ((Below.refl _ _).alloc (Nat.le_refl _) _) (Nat.le_refl _) _).mono HBR.out.size)).mono HBr.out.size))
          generalize (wR.alloc (.cells (stC St.zero) 33)).setRow wR.heap.size (stC rk.state) = wS at *
          clear HBR
          go_wp2_with fail
          go_roundw
          case rel => exact ⟨k + 1, HLT.out, by rfl, HBS⟩
          case measure => have := HLT.out; simp [intOf]; omega
          --Q31>
         ·have hk3 : k = 3 := by omega
          subst hk3
          --<Q34
          obtain ⟨A9, c9, e9, _⟩ := own_read HTr.out.routes
          have q2 := HTr.out.has.cellv 2 y8.vr rfl
          rw [HG8.out, e9] at q2
          have u2 := (HBr.out.cell (p := ⟨bt, m * 3 + 2, none⟩) hbt).trans t2
          have hbtr : bt < wr.heap.size := by have := HBr.out.size; omega
          have hz256 : z < 256 := Nat.lt_of_lt_of_le hz3 (Nat.pow_le_pow_right (n := 2) (by decide) hL.many2)
          have hzu : IntKind.u64.wrap (z : Int) = (z : Int) := by
           show (z : Int) % 18446744073709551616 = _
           omega
          have hpop := pop_le L.routes.length hL.many2 z hz256 hz3
          have HSH : Hid (∀ n, Calls Try.prog 14 #[.pointer (some ⟨y8.x.g, 0, none⟩)] (wr.drewN n) fun e w' => e = .returned (I (z : Int)) ∧ ∃ j, w' = (wr.drewN n).drewN j) := Lib.hid (fun n => by
           have hc := sy_shown (HTr.out.sys.after (below_drewN (Below.refl _ _) n)) (by show s8.v.trace.length ≤ 1000; have := HSD.out.few8; omega)
           refine hc.mono ?_
           rintro e w' ⟨rfl, j, rfl⟩
           exact ⟨by rw [show voShown ({ Tb with s := s8 } : Tale).s.v = z from hz2], j, rfl⟩)
          have HON : Hid (∀ n, Calls Try.prog 23 #[.int .u64 z] (wr.drewN n) fun e w' => e = .returned (I (pop z : Nat)) ∧ w' = wr.drewN n) := Lib.hid (fun n => by
           refine (onesCount_any z hz256 _).mono ?_
           rintro e w' ⟨rfl, rfl⟩
           exact ⟨rfl, rfl⟩)
          generalize pop z = pz at *
          have hwm2 := HWM.out
          have hm2 := HM0.out
          clear hlt hk hz2 hz3 hz256
          go_upto_region 34 with fail
          go_quiet (first
           | (go_at_call 14; exact Calls.quiet_of (HSH.out _))
           | (go_at_call 23; exact Calls.quiet_of_same (HON.out _)))
          go_wp2
          go_ret
          exact ⟨rfl, by rw [HG.out]; exact HW1.out.trans ((below_drewN (HBB9.out.trans (HBr.out.mono HT9.out.hB)) nq).mono (Nat.le_of_lt hgb))⟩
          --Q34>
end
end Go.Proofs.Ytdhekhlmdefcnab
