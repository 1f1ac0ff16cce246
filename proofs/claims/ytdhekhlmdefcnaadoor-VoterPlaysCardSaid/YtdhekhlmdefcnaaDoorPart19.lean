/- Part 19 of the proof: RVoB. -/
import Derived.Test.YtdhekhlmdefcnaaDoorPart18
import Derived.StillTailTactics
/- The walk over the reference's Take: a vote. -/
namespace Go.Proofs.YtdhekhlmdefcnaaDoor
open Go.RowKit Go.Maps

theorem RVoAt.voted {w w' : World} {B g bv bo J : Nat} {vt : Value} {v : Vo} {c : Cm} (h : RVoAt w B g vt bv bo v) (hv : v.votes.length = 3) (hJ : J < 3) (hm : IMap Tryd.prog 3 w' bv 3 (upd (vmap v) J (some (cmV c)))) (hg : w.grownBy w' (some bv)) : RVoAt w' B g vt bv bo (voted v J c) :=
  ⟨h.has.grown hg (fun e => imap_has_ne h.votes h.has (by injection e with e; exact e.symm)), own_keep h.own (fun q _ hq hh => hg.block q hh.lt (fun e => imap_own_ne h.votes h.own (hq.trans e))),
   hm.congr fun j _ => vmap_voted hv c hJ j, h.outs.at_heap (hg.block bo h.outs.lt (fun e => h.ne (by injection e with e; exact e.symm))), h.low, h.ne⟩
theorem vmap_none (j : Nat) (v : Vo) (h : v.votes = noVotes) : vmap v j = none := by
  unfold vmap vv
  rw [h, if_neg]
  unfold noVotes
  rw [List.getD_eq_getElem?_getD, List.getElem?_replicate]
  split <;> simp
section
variable {w : World} {B g bv bo : Nat} {vt : Value} {v : Vo}
set_option maxHeartbeats 8000000 in
set_option maxRecDepth 100000 in
theorem rtake_b (h : RVoAt w B g vt bv bo v) (hw : v.Wf) (hB : B ≤ w.heap.size) (f : List Int) (hf : Wf f)
    (hh : voHears v f = true) (hc : f.getD 2 0 = v.trace.length) (hla : v.latched = false) (hk4 : f.getD 0 0 ≠ 4) : Calls Tryd.prog 29 #[.pointer (some ⟨g, 0, none⟩), .agg (frC f)] w fun e w' => RTook w B g vt bv bo v f e w' := by
  unfold RTook
  obtain ⟨k, hk⟩ := some_at f 0 (by rw [hf.1]; decide)
  obtain ⟨j, hj⟩ := some_at f 1 (by rw [hf.1]; decide)
  obtain ⟨cy, hcy⟩ := some_at f 2 (by rw [hf.1]; decide)
  obtain ⟨p0, hp0⟩ := some_at f 3 (by rw [hf.1]; decide)
  obtain ⟨p1, hp1⟩ := some_at f 4 (by rw [hf.1]; decide)
  obtain ⟨p2, hp2⟩ := some_at f 5 (by rw [hf.1]; decide)
  have HJ : Hid (f.getD 1 0 = j) := Lib.hid (getDi hj)
  have HP : Hid (cmOf f = (p0, p1, p2)) := Lib.hid (by unfold cmOf; rw [getDi hp0, getDi hp1, getDi hp2])
  have hh2 := hh
  unfold voHears at hh2
  rw [and5, getDi hk, getDi hj, getDi hcy] at hh2
  obtain ⟨hk2, hj0, hj3, hc0, hbb⟩ := hh2
  simp only [Bool.or_eq_true, decide_eq_true_eq] at hk2 hj0 hj3 hc0
  obtain ⟨J, rfl⟩ : ∃ J : Nat, j = (J : Int) := ⟨j.toNat, by omega⟩
  have hkk : k = 2 := by
    rcases hk2 with h | h
    · exact h
    · exact absurd ((getDi hk).trans h) hk4
  subst hkk
  have hcy2 : cy = (v.trace.length : Int) := (getDi hcy).symm.trans hc
  subst hcy2
  have hbb2 : v.out.testBit J = false := by simpa using hbb
  have HE := Lib.hid (take_vote hh hc rfl hla hk4 HJ.out)
  rw [HP.out] at HE
  have hJ3 : J < 3 := by omega
  have kb := Has.new w 45 (frC f)
  have h1 := h.after ((Below.refl w.heap.size w).alloc (Nat.le_refl _) (.cells (frC f) 45))
  have ht1 : Turned (FR g vt bv bo) w (w.alloc (.cells (frC f) 45)) := (Turned.refl (FR g vt bv bo) w).alloc _
  have HT1 := Lib.hid ht1
  have H1 := Lib.hid h1
  have HW := Lib.hid hw
  have HL0 := Lib.hid hla
  have hgl := h1.has.lt
  have a0 := kb.cellv 0 _ (frC_get f 0 2 hk)
  have a1 := kb.cellv 1 _ (frC_get f 1 (J : Int) hj)
  have a2 := kb.cellv 2 _ (frC_get f 2 (v.trace.length : Int) hcy)
  have a3 := kb.cellv 3 _ (frC_get f 3 p0 hp0)
  have a4 := kb.cellv 4 _ (frC_get f 4 p1 hp1)
  have a5 := kb.cellv 5 _ (frC_get f 5 p2 hp2)
  have X0 := Lib.hid (frC_get f 0 2 hk)
  have X1 := Lib.hid (frC_get f 1 (J : Int) hj)
  have X2 := Lib.hid (frC_get f 2 (v.trace.length : Int) hcy)
  have X3 := Lib.hid (frC_get f 3 p0 hp0)
  have X4 := Lib.hid (frC_get f 4 p1 hp1)
  have X5 := Lib.hid (frC_get f 5 p2 hp2)
  have c4 := h1.has.cellv 4 (.map (some bo)) rfl
  have HIN := Lib.hid (fun wx => in_is (inR_yes hJ3) wx)
  have hlk := out_lookN h1.outs hJ3
  rw [hbb2] at hlk
  have hlt1000 := (hw.more hla).1
  clear hk hj hcy hp0 hp1 hp2 h h1 ht1 hw hf hh hc hla hk4 hk2 hj0 hj3 hc0 hbb hbb2
  go_enter Tryd.func29, Tryd.ntmps29
  go_upto_region 1 with (fail)
  generalize w.alloc (.cells (frC f) 45) = w1 at *
  generalize hG : w.heap.size = g0 at *
  have HG := Lib.hid hG
  clear hG
  go_cut [41] (fun s41 wx => s41 = .bool false ∧ Hid (∃ q, w1.drewN q = wx))
  case first =>
    go_quiet ((go_at_call 78; exact Calls.quiet_of_same (HIN.out _)))
    go_wp2_with fail
    go_meet
    case rel => exact ⟨rfl, Lib.hid ⟨_, rfl⟩⟩
  case rest =>
    obtain ⟨rfl, hq⟩ := hcut
    obtain ⟨q, rfl⟩ := hq.out
    have H2 : Hid (RVoAt (w1.drewN q) B g vt bv bo v) := Lib.hid (H1.out.turned ((Turned.refl (fun _ => False) w1).drewN q) (fun _ _ h => h))
    have HT2 := Lib.hid (HT1.out.drewN q)
    have kb2 := kb.drewN q
    have hg2 := kb2.lt
    clear hq H1 HT1 kb a0 a1 a2 a3 a4 a5 c4 hgl hlk HIN
    generalize w1.drewN q = w2 at *
    obtain ⟨A, c, hvt, hcc, hget⟩ := trace_slice H2.out.own
    have b2 : w2.cell? ⟨g, 2, none⟩ = some (.slice A v.trace.length c) := by rw [← hvt]; exact H2.out.has.cellv 2 _ rfl
    have b3 := H2.out.has.cellv 3 (.map (some bv)) rfl
    have b5 := H2.out.has.cellv 5 (.bool v.latched) rfl
    rw [HL0.out] at b5
    have x0 := kb2.cellv 0 (I 2) X0.out
    have x1 := kb2.cellv 1 (I (J : Int)) X1.out
    have x2 := kb2.cellv 2 (I (v.trace.length : Int)) X2.out
    have x3 := kb2.cellv 3 (I p0) X3.out
    have x4 := kb2.cellv 4 (I p1) X4.out
    have x5 := kb2.cellv 5 (I p2) X5.out
    have ht : ¬ (v.trace.length : Int) < (v.trace.length : Int) := by omega
    clear hget hvt hcc
    go_upto_region 12 with (fail)
    have kc := Has.new w2 88 #[I p0, I p1, I p2]
    have hba := (Below.refl w2.heap.size w2).alloc (Nat.le_refl _) (.cells #[I p0, I p1, I p2] 88)
    have H3 := Lib.hid (H2.out.after hba)
    have HT3 := Lib.hid (HT2.out.thenBelow hba)
    have kb3 := kb2.after hba
    have y1 := kb3.cellv 1 (I (J : Int)) X1.out
    have hgc := kc.lt
    have hg3 := Nat.lt_of_lt_of_le hg2 hba.size
    have d0 := kc.cellv 0 (I p0) rfl
    have d1 := kc.cellv 1 (I p1) rfl
    have d2 := kc.cellv 2 (I p2) rfl
    have d3 := H3.out.has.cellv 3 (.map (some bv)) rfl
    have HS3 : Hid (w.heap.size ≤ w2.heap.size) := Lib.hid HT2.out.size
    clear b2 b3 b5 x0 x1 x2 x3 x4 x5 H2 HT2 kb2 hg2 hba ht
    generalize w2.alloc (.cells #[I p0, I p1, I p2] 88) = w3 at *
    generalize w2.heap.size = gc at *
    go_still_tail 7, (by kernel_rfl)
    change wpList _ _ _ _ _ w3.drew
    have hu3 : cmV (p0, p1, p2) = .agg #[I p0, I p1, I p2] := rfl
    refine wpList_imap_store _ rfl (.tmp 92) (.tmp 94) (.tmp 95) 79 rfl 3 88 underK underMC bv 3 (vmap v) rfl (H3.out.votes.at_heap rfl) (by decide) J rfl hJ3 (cmV (p0, p1, p2)) rfl ?_
    intro w4 hm4 hg4
    have hg4' : w3.grownBy w4 (some bv) := ⟨hg4.os, hg4.tape, hg4.output, hg4.size, hg4.block⟩
    have H4 : Hid (RVoAt w4 B g vt bv bo (voted v J (p0, p1, p2))) := Lib.hid (H3.out.voted HW.out.votes hJ3 hm4 hg4')
    have HVV : Hid (vv (voted v J (p0, p1, p2)) J = ((p0, p1, p2), true)) := Lib.hid (vv_vote v J (p0, p1, p2) hJ3 HW.out.votes)
    have HTR : Hid ((voted v J (p0, p1, p2)).trace = v.trace) := Lib.hid rfl
    have HLA : Hid ((voted v J (p0, p1, p2)).latched = false) := Lib.hid HL0.out
    have HWV := Lib.hid (voted_wf HW.out J (p0, p1, p2))
    have HT4 : Hid (Turned (FR g vt bv bo) w w4) := Lib.hid (HT3.out.grown hg4' (fun q hq => by injection hq with hq; subst hq; exact .inl (.inr (.inr (.inl rfl)))))
    have kc4 : Has w4 gc 88 #[I p0, I p1, I p2] := kc.grown hg4' (fun e => imap_has_ne H3.out.votes kc (by injection e with e; exact e.symm))
    have HS4 : Hid (gc ≤ w4.heap.size) := Lib.hid (Nat.le_of_lt kc4.lt)
    clear d0 d1 d2 d3 y1 kb3 hg3 hgc H3 HT3 hm4 hg4 hg4' hu3 kc HW
    generalize voted v J (p0, p1, p2) = v1 at *
    have d3 := H4.out.has.cellv 3 (.map (some bv)) rfl
    go_wp2_with (first
      | (at_range; refine wpList_imap_range _ rfl (.tmp 99) 79 rfl 3 88 underK underMC bv 3 _ rfl H4.out.votes ?_; intro w5 hr5 hg5 hs5; go_frame))
    have hb5 : Below w4.heap.size w4 w5 := (Below.refl _ _).grown hg5 (Nat.le_refl _) (fun q hq => by cases hq)
    have H5x : Hid (∀ w', Below w4.heap.size w5 w' → RVoAt w' B g vt bv bo v1) := Lib.hid (fun w' hb => H4.out.after (hb5.trans hb))
    have HT5x : Hid (∀ w', Below w4.heap.size w5 w' → Turned (FR g vt bv bo) w w') := Lib.hid (fun w' hb => HT4.out.thenBelow (hb5.trans hb))
    have kc5 := kc4.after hb5
    have hgc5 := kc4.lt
    clear d3 H4 HT4 kc4 hg5 hs5 hb5
    generalize w4.heap.size = r5 at *
    have HR5 := Lib.hid hr5
    have hz5 := HR5.out.lt
    go_loopw [9] (fun c wr => ∃ left : Nat → Bool, IRange Tryd.prog 3 wr bv r5 3 (vmap v1) left ∧ (∃ n : Nat, n ≤ 3 ∧ c = I (n : Int) ∧ Hid (n = cntB (fun i => !left i && sameB v1 (p0, p1, p2) i) 3)) ∧ Below r5 w5 wr) (fun _ wr => wr.rangeLeft bv r5)
    case atStart => exact ⟨_, hr5, ⟨0, by omega, rfl, Lib.hid (same_start _ _).symm⟩, Below.refl _ _⟩
    case round =>
      obtain ⟨left, hir, ⟨n, hn3, rfl, HN⟩, hbr⟩ := hrel
      go_wp2_with (at_next; refine wpList_imap_next _ rfl (.tmp 100) rfl 3 underK bv r5 3 _ left rfl hir ?_ ?_)
      · intro hdone
        have HAL : Hid (alike v1.votes J (p0, p1, p2) = decide (2 ≤ n)) := Lib.hid (by rw [alike_two hJ3 HVV.out, HN.out, same_end _ _ _ hdone])
        clear hdone HN hir hn3
        by_cases hn2 : 2 ≤ n
        · have ht : ¬ (n : Int) < 2 := by omega
          have HA2 : Hid (alike v1.votes J (p0, p1, p2) = true) := Lib.hid (by rw [HAL.out]; simpa using hn2)
          clear hn2
          have HER := Lib.hid HE.out
          rw [HA2.out, if_pos rfl] at HER
          have H6 := Lib.hid (H5x.out _ hbr)
          have HT6 := Lib.hid (HT5x.out _ hbr)
          have kc6 := kc5.below hbr hgc5
          have d3 := H6.out.has.cellv 3 (.map (some bv)) rfl
          have HS6 : Hid (w.heap.size ≤ wr.heap.size) := Lib.hid HT6.out.size
          clear H5x HT5x kc5 hgc5 hz5 HR5 hr5 hbr HE HAL HA2 HS4 HS3
          go_wp2_with (first
            | (at_range; refine wpList_imap_range _ rfl (.tmp 115) 79 rfl 3 88 underK underMC bv 3 _ rfl H6.out.votes ?_; intro w7 hr7 hg7 hs7; go_frame))
          have hb7 : Below wr.heap.size wr w7 := (Below.refl _ _).grown hg7 (Nat.le_refl _) (fun q hq => by cases hq)
          have H7 := Lib.hid (H6.out.after hb7)
          have HL7 : Hid (∀ b, FR g vt bv bo b → b < wr.heap.size) := Lib.hid (fun b hb => H6.out.lt b hb)
          have HT7 := Lib.hid (HT6.out.thenBelow hb7)
          have hgc6 : gc ≠ wr.heap.size := Nat.ne_of_lt kc6.lt
          have kc7 := kc6.after hb7
          have hgw := HS6.out
          clear d3 H6 HT6 kc6 hg7 hs7 hb7 HS6
          generalize wr.heap.size = r7 at *
          have HR7 := Lib.hid hr7
          have hm7 : IMap Tryd.prog 3 w7 bo 3 (omapL v1 (p0, p1, p2) (fun i => (vmap v1 i).isSome)) := H7.out.outs.congr fun j _ => omapL_start v1 (p0, p1, p2) j
          have hgne : ∀ b, Has w7 b 82 #[I v1.window, I v1.time, vt, .map (some bv), .map (some bo), .bool v1.latched] → b ≠ bo := fun b hb e => imap_has_ne H7.out.outs hb e.symm
          have HNB : Hid (bv ≠ bo) := Lib.hid H7.out.ne
          have HG7 : Hid (¬ (g = bo ∨ g = r7)) := Lib.hid (fun e => e.elim (hgne g H7.out.has) (fun e => Nat.lt_irrefl _ (e ▸ HL7.out g (.inl rfl))))
          have HC7 : Hid (¬ (gc = bo ∨ gc = r7)) := Lib.hid (fun e => e.elim (fun e => imap_has_ne H7.out.outs kc7 e.symm) hgc6)
          clear hgne hgc6
          go_loopw [12] (fun _ wx => ∃ left : Nat → Bool, IRange Tryd.prog 3 wx bv r7 3 (vmap v1) left ∧ IMap Tryd.prog 3 wx bo 3 (omapL v1 (p0, p1, p2) left) ∧ Turned (fun b => b = bo ∨ b = r7) w7 wx) (fun _ wx => wx.rangeLeft bv r7)
          case atStart => exact ⟨_, hr7, hm7, Turned.refl _ _⟩
          case round =>
            clear hr7 hm7
            obtain ⟨left, hir, him, htx⟩ := hrel
            go_wp2_with (at_next; refine wpList_imap_next _ rfl (.tmp 116) rfl 3 underK bv r7 3 _ left rfl hir ?_ ?_)
            · intro hdone
              have hio : IMap Tryd.prog 3 wr bo 3 (omap (voOut v1.votes (p0, p1, p2) v1.out 3)) := him.congr fun j hj => (omapL_end v1 (p0, p1, p2) left hdone j hj).symm
              have hq8 := voOut_lt v1.votes (p0, p1, p2) v1.out HWV.out.out 3 (by decide)
              have hown : wr.ownsRow B 88 3 vt v1.trace.length (cmsC v1.trace) := own_turned H7.out.own htx (fun q hq e => e.elim (fun e => imap_own_ne H7.out.outs H7.out.own (by rw [hq, e])) (fun e => Nat.lt_irrefl _ (e ▸ HL7.out q (.inr (.inl hq)))))
              have kg := H7.out.has.turned htx HG7.out
              have kc := kc7.turned htx HC7.out
              have HTx : Hid (Turned (FR g vt bv bo) w wr) := Lib.hid (HT7.out.trans htx (fun k hk e => e.elim (fun e => .inr (.inr (.inr e))) (fun e => absurd hk (by omega))))
              have HCO0 : Hid (voCommits v1 (p0, p1, p2) = { v1 with out := voOut v1.votes (p0, p1, p2) v1.out 3, trace := v1.trace ++ [(p0, p1, p2)], votes := noVotes, time := v1.window, latched := v1.latched || manyOut (voOut v1.votes (p0, p1, p2) v1.out 3) || decide (1000 ≤ v1.trace.length + 1) }) := Lib.hid rfl
              have HLOW0 := Lib.hid H7.out.low
              have hsz : r7 ≤ wr.heap.size := Nat.le_trans (Nat.le_of_lt HR7.out.lt) htx.size
              have HBW : Hid (B ≤ w.heap.size) := Lib.hid (by rw [HG.out]; exact hB)
              clear him hir hdone htx kc7 H7 HT7 HL7 HR7 HG7 HC7 HNB
              generalize voOut v1.votes (p0, p1, p2) v1.out 3 = OUT at *
              obtain ⟨i0, hi0, hz0, hz1, hz2⟩ := info_parts infoCm
              obtain ⟨Ax, cx, hvt, hcx, hlen, hA, hR⟩ := own_read hown
              have HVT := Lib.hid hvt
              have a2 : wr.cell? ⟨g, 2, none⟩ = some (.slice Ax v1.trace.length cx) := by rw [← hvt]; exact kg.cellv 2 vt rfl
              have d0 := kc.cellv 0 (I p0) rfl
              have d1 := kc.cellv 1 (I p1) rfl
              have d2 := kc.cellv 2 (I p2) rfl
              have hgk := kg.lt
              have hgck := kc.lt
              have hlen3 : v1.trace.length < 1000 := by rw [HTR.out]; exact hlt1000
              have hm1 : v1.trace.length + 1 ≤ maxLen := by unfold maxLen; omega
              have hm2 : (v1.trace.length + 1) * 24 ≤ 140737488355328 := by omega
              have hBr : B ≤ wr.heap.size := by have := HBW.out; omega
              have HO : Hid (wr.ownsRow B 88 3 (.slice Ax v1.trace.length cx) v1.trace.length (cmsC v1.trace)) := Lib.hid (HVT.out ▸ hown)
              have HNE : Hid (some g ≠ (Value.slice Ax v1.trace.length cx).ownBlock) := Lib.hid (fun e => own_has_ne HO.out kg (by decide) e.symm)
              have HIO := Lib.hid hio
              have HNO : Hid ((Value.slice Ax v1.trace.length cx).ownBlock ≠ some bo) := Lib.hid (imap_own_ne HIO.out HO.out)
              have HGB : Hid (bo ≠ g) := Lib.hid (imap_has_ne HIO.out kg)
              clear hvt hA hR hlen hcx hown hio kc
              go_upto_region 26 with (fail)
              go_cut [] (fun wx => ∃ A2 c2, Has wx g 82 #[I v1.window, I v1.time, .slice A2 (v1.trace.length + 1) c2, .map (some bv), .map (some bo), .bool v1.latched] ∧ Hid (wx.ownsRow B 88 3 (.slice A2 (v1.trace.length + 1) c2) (v1.trace.length + 1) (cmsC (v1.trace ++ [(p0, p1, p2)]))) ∧
                Hid ((Value.slice A2 (v1.trace.length + 1) c2).ownBlock = vt.ownBlock ∨ ∃ b, w.heap.size ≤ b ∧ (Value.slice A2 (v1.trace.length + 1) c2).ownBlock = some b) ∧ Hid (Turned (FR g vt bv bo) w wx) ∧ Hid (IMap Tryd.prog 3 wx bo 3 (omap OUT)))
              case first =>
                go_region_law ((refine step_append_at rfl _ _ 78 rfl B 88 i0 (.agg #[.int .i64 0, .int .i64 0, .int .i64 0]) 3 24 Tryd.underlying78 hi0 hz0 hz1 hz2 rfl (by decide) _ v1.trace.length _ rfl (World.ownsRow.alloc HO.out _) _ 1 1 _ rfl rfl (cells_new _ _ _) (by intro u hu; simp at hu; rcases hu with rfl | rfl | rfl <;> rfl) hm1 hm2 (Nat.le_trans hBr (by simp)) ?_; intro v2 w2' hown2 hgrow2 hloc2; obtain ⟨A2, c2, rfl, hc2, -⟩ := own_read hown2; have k2 : Has w2' g 82 #[I v1.window, I v1.time, vt, .map (some bv), .map (some bo), .bool v1.latched] := (kg.alloc _).drew.grown hgrow2 HNE.out; have f22 := k2.free 2; have c22 := k2.cellv 2 vt rfl))
                all_goals
                  have hg2 : (wr.alloc (.cells #[I p0, I p1, I p2] 88)).drew.grownBy w2' (Value.slice Ax v1.trace.length cx).ownBlock := hgrow2
                  have ho2 : Hid ((w2'.setCell ⟨g, 2, none⟩ (.slice A2 (v1.trace.length + 1) c2)).ownsRow B 88 3 (.slice A2 (v1.trace.length + 1) c2) (v1.trace.length + 1) (cmsC (v1.trace ++ [(p0, p1, p2)]))) := Lib.hid (own_far (by rw [cmsC_snoc]; exact hown2) k2 (by decide) _ _)
                  have hl2 : Hid ((Value.slice A2 (v1.trace.length + 1) c2).ownBlock = vt.ownBlock ∨ ∃ b, w.heap.size ≤ b ∧ (Value.slice A2 (v1.trace.length + 1) c2).ownBlock = some b) := Lib.hid (by
                    rw [HVT.out]
                    rcases hloc2 with h | h
                    · exact .inl h
                    · exact .inr ⟨_, by simp; omega, h⟩)
                  have ht2 : Hid (Turned (FR g vt bv bo) w (w2'.setCell ⟨g, 2, none⟩ (.slice A2 (v1.trace.length + 1) c2))) := Lib.hid ((((HTx.out.alloc _).drew).grown hg2 (fun q hq => .inl (.inr (.inl (by rw [HVT.out]; exact hq))))).setCell _ _ (.inl (.inl rfl)))
                  have hi2 : Hid (IMap Tryd.prog 3 (w2'.setCell ⟨g, 2, none⟩ (.slice A2 (v1.trace.length + 1) c2)) bo 3 (omap OUT)) := Lib.hid (HIO.out.at_heap ((Below.heap_setCell w2' ⟨g, 2, none⟩ _ bo HGB.out).trans ((hg2.block bo (Nat.lt_of_lt_of_le HIO.out.lt (by simp)) (fun e => HNO.out e.symm)).trans (Below.heap_alloc wr _ bo HIO.out.lt))))
                  have k3 := k2.set 2 (.slice A2 (v1.trace.length + 1) c2)
                  clear hgrow2 hloc2 hown2 hg2 f22 c22
                  go_wp2_with fail
                  go_meet
                  case rel => exact ⟨A2, c2, k3, ho2, hl2, ht2, hi2⟩
              case rest =>
                obtain ⟨A2, c2, kv, ho2, hl2, ht2, hi2⟩ := hcut
                clear kg HTx a2 d0 d1 d2 hm1 hm2 HVT HNE HIO HNO HO hgk hgck hBr
                have hmm := @run_makeMap Tryd.prog
                have hgv := kv.lt
                have e0 := kv.cellv 0 (I v1.window) rfl
                have e1 := kv.cellv 1 (I v1.time) rfl
                have e3 := kv.cellv 3 (.map (some bv)) rfl
                have f1 := kv.free 1
                have f3 := kv.free 3
                go_upto_region 29 with (fail)
                have kb := (kv.set 3 (.map (some wc.heap.size))).set 1 (I v1.window)
                have k8 := kb.alloc (.map #[] 0)
                have tb : Turned (fun b => b = g) wc ((wc.setCell ⟨g, 3, none⟩ (.map (some wc.heap.size))).setCell ⟨g, 1, none⟩ (I v1.window)) := ((Turned.refl (fun b => b = g) wc).setCell ⟨g, 3, none⟩ _ (.inl rfl)).setCell ⟨g, 1, none⟩ _ (.inl rfl)
                have hsb : ((wc.setCell ⟨g, 3, none⟩ (.map (some wc.heap.size))).setCell ⟨g, 1, none⟩ (I v1.window)).heap.size = wc.heap.size := by simp [World.setCell]
                have HV8 : Hid (IMap Tryd.prog 3 (((wc.setCell ⟨g, 3, none⟩ (.map (some wc.heap.size))).setCell ⟨g, 1, none⟩ (I v1.window)).alloc (.map #[] 0)) wc.heap.size 3 (fun _ => none)) := Lib.hid (by have := IMap.new Tryd.prog 3 ((wc.setCell ⟨g, 3, none⟩ (.map (some wc.heap.size))).setCell ⟨g, 1, none⟩ (I v1.window)) 3; rw [hsb] at this; exact this)
                have hub := hi2.out.at_heap (tb.block bo hi2.out.lt HGB.out)
                have HU8 := Lib.hid (hub.at_heap (Below.heap_alloc ((wc.setCell ⟨g, 3, none⟩ (.map (some wc.heap.size))).setCell ⟨g, 1, none⟩ (I v1.window)) (.map #[] 0) bo hub.lt))
                have HO8 := Lib.hid ((own_turned ho2.out tb (fun q hq e => own_has_ne ho2.out kv (by decide) (by rw [hq, e]))).alloc (.map #[] 0))
                have HT8 : Hid (Turned (FR g vt bv bo) w (((wc.setCell ⟨g, 3, none⟩ (.map (some wc.heap.size))).setCell ⟨g, 1, none⟩ (I v1.window)).alloc (.map #[] 0))) := Lib.hid (((ht2.out.setCell ⟨g, 3, none⟩ _ (.inl (.inl rfl))).setCell ⟨g, 1, none⟩ _ (.inl (.inl rfl))).alloc _)
                have HB9 : Hid (w.heap.size ≤ wc.heap.size) := Lib.hid ht2.out.size
                have HNE9 : Hid (wc.heap.size ≠ bo) := Lib.hid (Nat.ne_of_gt hi2.out.lt)
                have HLOW : Hid (B ≤ g ∧ B ≤ wc.heap.size ∧ B ≤ bo) := Lib.hid ⟨HLOW0.out.1, Nat.le_trans HBW.out ht2.out.size, HLOW0.out.2.2⟩
                clear kb tb hsb hub kv hgv e0 e1 e3 f1 f3 ho2 ht2 hi2 hmm
                generalize ((wc.setCell ⟨g, 3, none⟩ (.map (some wc.heap.size))).setCell ⟨g, 1, none⟩ (I v1.window)).alloc (.map #[] 0) = w8 at *
                generalize wc.heap.size = b9 at *
                have e2 := k8.cellv 2 (.slice A2 (v1.trace.length + 1) c2) rfl
                have e4 := k8.cellv 4 (.map (some bo)) rfl
                have e5 := k8.cellv 5 (.bool v1.latched) rfl
                have f5 := k8.free 5
                obtain ⟨m, hm⟩ : ∃ m, cntB (fun j => (omap OUT j).isSome) 3 = m := ⟨_, rfl⟩
                have hmo2 := omap_two hq8
                rw [hm] at hmo2
                have HM := Lib.hid hm
                clear hm
                by_cases hmo : manyOut OUT = true
                · have hge : (2 : Int) ≤ (m : Int) := by
                    rw [hmo] at hmo2
                    have := of_decide_eq_true hmo2
                    omega
                  have k9 : Has (w8.setCell ⟨g, 5, none⟩ (.bool true)) g 82 #[I v1.window, I v1.window, .slice A2 (v1.trace.length + 1) c2, .map (some b9), .map (some bo), .bool true] := k8.set 5 _
                  have t9 : Turned (fun b => b = g) w8 (w8.setCell ⟨g, 5, none⟩ (.bool true)) := (Turned.refl (fun b => b = g) w8).setCell ⟨g, 5, none⟩ _ (.inl rfl)
                  have hv9 : RVoAt (w8.setCell ⟨g, 5, none⟩ (.bool true)) B g (.slice A2 (v1.trace.length + 1) c2) b9 bo (voCommits v1 (p0, p1, p2)) := by
                    have hL : (v1.latched || manyOut OUT || decide (1000 ≤ v1.trace.length + 1)) = true := by rw [hmo]; simp
                    refine ⟨?_, ?_, ?_, ?_, HLOW.out, HNE9.out⟩
                    · rw [HCO0.out]; show Has _ g 82 #[I v1.window, I v1.window, _, _, _, .bool (v1.latched || manyOut OUT || decide (1000 ≤ v1.trace.length + 1))]; rw [hL]; exact k9
                    · rw [HCO0.out]; show World.ownsRow _ B 88 3 _ (v1.trace ++ [(p0, p1, p2)]).length (cmsC (v1.trace ++ [(p0, p1, p2)])); rw [List.length_append]; exact own_turned HO8.out t9 (fun q hq e => own_has_ne HO8.out k8 (by decide) (by rw [hq, e]))
                    · exact (HV8.out.at_heap (t9.block b9 HV8.out.lt (imap_has_ne HV8.out k8))).congr fun i _ => by rw [HCO0.out]; exact vmap_none i _ rfl
                    · rw [HCO0.out]; exact HU8.out.at_heap (t9.block bo HU8.out.lt (imap_has_ne HU8.out k8))
                  have HV9 := Lib.hid hv9
                  have HT9 : Hid (Turned (FR g vt bv bo) w (w8.setCell ⟨g, 5, none⟩ (.bool true))) := Lib.hid (HT8.out.setCell ⟨g, 5, none⟩ _ (.inl (.inl rfl)))
                  have HL9 : Hid (v.trace.length < (voCommits v1 (p0, p1, p2)).trace.length) := Lib.hid (by rw [HCO0.out, ← HTR.out]; show _ < (v1.trace ++ [(p0, p1, p2)]).length; simp)
                  have HF9 : Hid ((frC (voDone (voCommits v1 (p0, p1, p2)) v.trace.length)).size = 23) := Lib.hid (frC_size _ rfl)
                  have HF8 : Hid ((voDone (voCommits v1 (p0, p1, p2)) v.trace.length).length = 23) := Lib.hid rfl
                  clear k9 t9 hv9 hmo hmo2
                  go_wp2_with (first
                    | (at_len; refine wpList_imap_len _ rfl (.tmp 164) 80 rfl 3 4 underMB bo 3 (omap OUT) rfl HU8.out ?_; rw [HM.out])
                    | (go_at_call 82; refine (rvo_done HV9.out v.trace.length HL9.out).mono ?_; rintro e wd ⟨rfl, hbd⟩)
                    | (refine wpList_rframes1 rfl (.tmp 179) rfl (frC (voDone (voCommits v1 (p0, p1, p2)) v.trace.length)) rfl HF9.out ?_))
                  go_ret2
                  have hbd2 := hbd.alloc hbd.size (.cells (frC (voDone (voCommits v1 (p0, p1, p2)) v.trace.length)) 45)
                  have hz9 : w.heap.size ≤ wd.heap.size := Nat.le_trans HT9.out.size hbd.size
                  rw [HER.out]
                  exact ⟨⟨_, rfl, rframes_one hz9 _ HF8.out⟩, ⟨_, _, HV9.out.after hbd2, hl2.out, .inr HB9.out⟩, HT9.out.thenBelow hbd2⟩
                · have hge : ¬ (2 : Int) ≤ (m : Int) := by
                    have h := hmo2
                    have hf : manyOut OUT = false := by simpa using hmo
                    rw [hf] at h
                    have := of_decide_eq_false h
                    omega
                  by_cases hth : 1000 ≤ v1.trace.length + 1
                  · have hti : (1000 : Int) ≤ (v1.trace.length : Int) + 1 := by omega
                    have k9 : Has (w8.setCell ⟨g, 5, none⟩ (.bool true)) g 82 #[I v1.window, I v1.window, .slice A2 (v1.trace.length + 1) c2, .map (some b9), .map (some bo), .bool true] := k8.set 5 _
                    have t9 : Turned (fun b => b = g) w8 (w8.setCell ⟨g, 5, none⟩ (.bool true)) := (Turned.refl (fun b => b = g) w8).setCell ⟨g, 5, none⟩ _ (.inl rfl)
                    have hv9 : RVoAt (w8.setCell ⟨g, 5, none⟩ (.bool true)) B g (.slice A2 (v1.trace.length + 1) c2) b9 bo (voCommits v1 (p0, p1, p2)) := by
                      have hL : (v1.latched || manyOut OUT || decide (1000 ≤ v1.trace.length + 1)) = true := by simp [hth]
                      refine ⟨?_, ?_, ?_, ?_, HLOW.out, HNE9.out⟩
                      · rw [HCO0.out]; show Has _ g 82 #[I v1.window, I v1.window, _, _, _, .bool (v1.latched || manyOut OUT || decide (1000 ≤ v1.trace.length + 1))]; rw [hL]; exact k9
                      · rw [HCO0.out]; show World.ownsRow _ B 88 3 _ (v1.trace ++ [(p0, p1, p2)]).length (cmsC (v1.trace ++ [(p0, p1, p2)])); rw [List.length_append]; exact own_turned HO8.out t9 (fun q hq e => own_has_ne HO8.out k8 (by decide) (by rw [hq, e]))
                      · exact (HV8.out.at_heap (t9.block b9 HV8.out.lt (imap_has_ne HV8.out k8))).congr fun i _ => by rw [HCO0.out]; exact vmap_none i _ rfl
                      · rw [HCO0.out]; exact HU8.out.at_heap (t9.block bo HU8.out.lt (imap_has_ne HU8.out k8))
                    have HV9 := Lib.hid hv9
                    have HT9 : Hid (Turned (FR g vt bv bo) w (w8.setCell ⟨g, 5, none⟩ (.bool true))) := Lib.hid (HT8.out.setCell ⟨g, 5, none⟩ _ (.inl (.inl rfl)))
                    have HL9 : Hid (v.trace.length < (voCommits v1 (p0, p1, p2)).trace.length) := Lib.hid (by rw [HCO0.out, ← HTR.out]; show _ < (v1.trace ++ [(p0, p1, p2)]).length; simp)
                    have HF9 : Hid ((frC (voDone (voCommits v1 (p0, p1, p2)) v.trace.length)).size = 23) := Lib.hid (frC_size _ rfl)
                    have HF8 : Hid ((voDone (voCommits v1 (p0, p1, p2)) v.trace.length).length = 23) := Lib.hid rfl
                    clear k9 t9 hv9 hmo hmo2 hth
                    go_wp2_with (first
                      | (at_len; refine wpList_imap_len _ rfl (.tmp 164) 80 rfl 3 4 underMB bo 3 (omap OUT) rfl HU8.out ?_; rw [HM.out])
                      | (go_at_call 82; refine (rvo_done HV9.out v.trace.length HL9.out).mono ?_; rintro e wd ⟨rfl, hbd⟩)
                      | (refine wpList_rframes1 rfl (.tmp 179) rfl (frC (voDone (voCommits v1 (p0, p1, p2)) v.trace.length)) rfl HF9.out ?_))
                    go_ret2
                    have hbd2 := hbd.alloc hbd.size (.cells (frC (voDone (voCommits v1 (p0, p1, p2)) v.trace.length)) 45)
                    have hz9 : w.heap.size ≤ wd.heap.size := Nat.le_trans HT9.out.size hbd.size
                    rw [HER.out]
                    exact ⟨⟨_, rfl, rframes_one hz9 _ HF8.out⟩, ⟨_, _, HV9.out.after hbd2, hl2.out, .inr HB9.out⟩, HT9.out.thenBelow hbd2⟩
                  · have hti : ¬ (1000 : Int) ≤ (v1.trace.length : Int) + 1 := by omega
                    have k9 : Has (w8.setCell ⟨g, 5, none⟩ (.bool false)) g 82 #[I v1.window, I v1.window, .slice A2 (v1.trace.length + 1) c2, .map (some b9), .map (some bo), .bool false] := k8.set 5 _
                    have t9 : Turned (fun b => b = g) w8 (w8.setCell ⟨g, 5, none⟩ (.bool false)) := (Turned.refl (fun b => b = g) w8).setCell ⟨g, 5, none⟩ _ (.inl rfl)
                    have hv9 : RVoAt (w8.setCell ⟨g, 5, none⟩ (.bool false)) B g (.slice A2 (v1.trace.length + 1) c2) b9 bo (voCommits v1 (p0, p1, p2)) := by
                      have hL : (v1.latched || manyOut OUT || decide (1000 ≤ v1.trace.length + 1)) = false := by rw [HLA.out]; simp [hmo]; omega
                      refine ⟨?_, ?_, ?_, ?_, HLOW.out, HNE9.out⟩
                      · rw [HCO0.out]; show Has _ g 82 #[I v1.window, I v1.window, _, _, _, .bool (v1.latched || manyOut OUT || decide (1000 ≤ v1.trace.length + 1))]; rw [hL]; exact k9
                      · rw [HCO0.out]; show World.ownsRow _ B 88 3 _ (v1.trace ++ [(p0, p1, p2)]).length (cmsC (v1.trace ++ [(p0, p1, p2)])); rw [List.length_append]; exact own_turned HO8.out t9 (fun q hq e => own_has_ne HO8.out k8 (by decide) (by rw [hq, e]))
                      · exact (HV8.out.at_heap (t9.block b9 HV8.out.lt (imap_has_ne HV8.out k8))).congr fun i _ => by rw [HCO0.out]; exact vmap_none i _ rfl
                      · rw [HCO0.out]; exact HU8.out.at_heap (t9.block bo HU8.out.lt (imap_has_ne HU8.out k8))
                    have HV9 := Lib.hid hv9
                    have HT9 : Hid (Turned (FR g vt bv bo) w (w8.setCell ⟨g, 5, none⟩ (.bool false))) := Lib.hid (HT8.out.setCell ⟨g, 5, none⟩ _ (.inl (.inl rfl)))
                    have HL9 : Hid (v.trace.length < (voCommits v1 (p0, p1, p2)).trace.length) := Lib.hid (by rw [HCO0.out, ← HTR.out]; show _ < (v1.trace ++ [(p0, p1, p2)]).length; simp)
                    have HF9 : Hid ((frC (voDone (voCommits v1 (p0, p1, p2)) v.trace.length)).size = 23) := Lib.hid (frC_size _ rfl)
                    have HF8 : Hid ((voDone (voCommits v1 (p0, p1, p2)) v.trace.length).length = 23) := Lib.hid rfl
                    clear k9 t9 hv9 hmo hmo2 hth
                    go_wp2_with (first
                      | (at_len; refine wpList_imap_len _ rfl (.tmp 164) 80 rfl 3 4 underMB bo 3 (omap OUT) rfl HU8.out ?_; rw [HM.out])
                      | (go_at_call 82; refine (rvo_done HV9.out v.trace.length HL9.out).mono ?_; rintro e wd ⟨rfl, hbd⟩)
                      | (refine wpList_rframes1 rfl (.tmp 179) rfl (frC (voDone (voCommits v1 (p0, p1, p2)) v.trace.length)) rfl HF9.out ?_))
                    go_ret2
                    have hbd2 := hbd.alloc hbd.size (.cells (frC (voDone (voCommits v1 (p0, p1, p2)) v.trace.length)) 45)
                    have hz9 : w.heap.size ≤ wd.heap.size := Nat.le_trans HT9.out.size hbd.size
                    rw [HER.out]
                    exact ⟨⟨_, rfl, rframes_one hz9 _ HF8.out⟩, ⟨_, _, HV9.out.after hbd2, hl2.out, .inr HB9.out⟩, HT9.out.thenBelow hbd2⟩
            · intro j u w8 hj3 hlj hmj hir8 hlt8 hg8 hs8 hen8
              obtain ⟨hf8, rfl⟩ := vmap_some hmj
              have ht8 : Turned (fun b => b = bo ∨ b = r7) w7 w8 := htx.grown hg8 (fun q hq => by injection hq with hq; exact .inl (.inr hq.symm))
              have hbo : bo ≠ r7 := fun e => Nat.lt_irrefl _ (e ▸ HL7.out bo (.inr (.inr (.inr rfl))))
              have him8 : IMap Tryd.prog 3 w8 bo 3 (omapL v1 (p0, p1, p2) left) := him.at_heap (hg8.block bo him.lt (fun e => hbo (by injection e)))
              have kc8 := kc7.turned ht8 HC7.out
              have kg8 := H7.out.has.turned ht8 HG7.out
              have d0 := kc8.cellv 0 (I p0) rfl
              have d1 := kc8.cellv 1 (I p1) rfl
              have d2 := kc8.cellv 2 (I p2) rfl
              have e4 := kg8.cellv 4 (.map (some bo)) rfl
              have hgc8 := kc8.lt
              have hgg8 := kg8.lt
              have hoc : othC v1 (p0, p1, p2) j = othB (vv v1 j) (p0, p1, p2) := rfl
              generalize vv v1 j = y at *
              obtain ⟨⟨u0, u1, u2⟩, uf⟩ := y
              have hf8' : uf = true := hf8
              subst hf8'
              have hen : (Instr.entry (.pointer (some ⟨r7, 0, none⟩))).run Tryd.prog w8 = .ok (.tuple #[.int .i64 (j : Int), .agg #[I u0, I u1, I u2]]) w8 := hen8
              have HOC := Lib.hid hoc
              have HIR8 := Lib.hid hir8
              have HIM8 := Lib.hid him8
              have HT8 := Lib.hid ht8
              have HBL := Lib.hid hlt8
              have HBO := Lib.hid hbo
              clear hen8 hoc hmj hir8 him8 hf8 hlj kc8 kg8 hlt8 hir him htx ht8 hbo hg8 hs8
              by_cases h0 : u0 = p0
              · subst h0
                by_cases h1 : u1 = p1
                · subst h1
                  by_cases h2 : u2 = p2
                  · subst h2
                    have HN : Hid (othC v1 (u0, u1, u2) j = false) := Lib.hid (by rw [HOC.out]; simp [othB])
                    go_wp2_with fail
                    go_roundw
                    case rel => exact ⟨_, HIR8.out.at_heap (Below.heap_alloc _ _ _ HIR8.out.imap.lt) (Below.heap_alloc _ _ _ HIR8.out.lt), (HIM8.out.at_heap (Below.heap_alloc _ _ _ HIM8.out.lt)).congr fun i _ => omapL_no _ _ _ HN.out i, HT8.out.alloc _⟩
                    case measure => rw [rangeLeft_at (Below.heap_alloc _ _ _ HIR8.out.imap.lt) (Below.heap_alloc _ _ _ HIR8.out.lt)]; exact HBL.out
                  · have h2n : (u2 != p2) = true := by simpa using h2
                    have HN : Hid (othC v1 (u0, u1, p2) j = true) := Lib.hid (by rw [HOC.out]; simp [othB, h2])
                    clear h2
                    go_wp2_with (at_mapUpdate; refine wpList_imap_store _ rfl (.tmp 137) (.tmp 138) (.const (.bool true)) 80 rfl 3 4 underK underMB bo 3 (omapL v1 (u0, u1, p2) left) rfl (HIM8.out.at_heap (Below.heap_alloc _ _ _ HIM8.out.lt)) (by decide) j rfl hj3 (.bool true) rfl ?_; intro w9 hm9 hg9; go_frame)
                    have e1 : w9.heap[bv]? = w8.heap[bv]? := (hg9.block bv (Nat.lt_of_lt_of_le HIR8.out.imap.lt (by simp)) (fun e => HNB.out (by injection e))).trans (Below.heap_alloc _ _ _ HIR8.out.imap.lt)
                    have e2 : w9.heap[r7]? = w8.heap[r7]? := (hg9.block r7 (Nat.lt_of_lt_of_le HIR8.out.lt (by simp)) (fun e => HBO.out (by injection e with e; exact e.symm))).trans (Below.heap_alloc _ _ _ HIR8.out.lt)
                    go_roundw
                    case rel => exact ⟨_, HIR8.out.at_heap e1 e2, hm9.congr fun i _ => omapL_yes _ _ _ HN.out i, (HT8.out.alloc _).grown hg9 (fun q hq => by injection hq with hq; exact .inl (.inl hq.symm))⟩
                    case measure => rw [rangeLeft_at e1 e2]; exact HBL.out
                · have h1n : (u1 == p1) = false := by simpa using h1
                  have HN : Hid (othC v1 (u0, p1, p2) j = false) := Lib.hid (by rw [HOC.out]; simp [othB, h1])
                  go_wp2_with fail
                  go_roundw
                  case rel => exact ⟨_, HIR8.out.at_heap (Below.heap_alloc _ _ _ HIR8.out.imap.lt) (Below.heap_alloc _ _ _ HIR8.out.lt), (HIM8.out.at_heap (Below.heap_alloc _ _ _ HIM8.out.lt)).congr fun i _ => omapL_no _ _ _ HN.out i, HT8.out.alloc _⟩
                  case measure => rw [rangeLeft_at (Below.heap_alloc _ _ _ HIR8.out.imap.lt) (Below.heap_alloc _ _ _ HIR8.out.lt)]; exact HBL.out
              · have h0n : (u0 == p0) = false := by simpa using h0
                have HN : Hid (othC v1 (p0, p1, p2) j = false) := Lib.hid (by rw [HOC.out]; simp [othB, h0])
                go_wp2_with fail
                go_roundw
                case rel => exact ⟨_, HIR8.out.at_heap (Below.heap_alloc _ _ _ HIR8.out.imap.lt) (Below.heap_alloc _ _ _ HIR8.out.lt), (HIM8.out.at_heap (Below.heap_alloc _ _ _ HIM8.out.lt)).congr fun i _ => omapL_no _ _ _ HN.out i, HT8.out.alloc _⟩
                case measure => rw [rangeLeft_at (Below.heap_alloc _ _ _ HIR8.out.imap.lt) (Below.heap_alloc _ _ _ HIR8.out.lt)]; exact HBL.out
        · have ht : (n : Int) < 2 := by omega
          have HA2 : Hid (alike v1.votes J (p0, p1, p2) = false) := Lib.hid (by rw [HAL.out]; simpa using hn2)
          have HER := Lib.hid HE.out
          rw [HA2.out, if_neg (by decide)] at HER
          clear hn2
          go_wp2
          go_ret2
          rw [HER.out]
          exact ⟨⟨_, rfl, rframes_nil _ _⟩, ⟨vt, bv, H5x.out _ hbr, .inl rfl, .inl rfl⟩, HT5x.out _ hbr⟩
      · intro j u w6 hj3 hlj hmj hir6 hlt6 hg6 hs6 hen6
        obtain ⟨hf6, rfl⟩ := vmap_some hmj
        have hb6 : Below r5 w5 w6 := hbr.grown hg6 (by have := hbr.size; omega) (fun q hq => by injection hq with hq; omega)
        have kc6 := (kc5.below hb6 hgc5)
        have d0 := kc6.cellv 0 (I p0) rfl
        have d1 := kc6.cellv 1 (I p1) rfl
        have d2 := kc6.cellv 2 (I p2) rfl
        have hg6c := kc6.lt
        have hst := same_step v1 (p0, p1, p2) left hj3 hlj
        have hsb : sameB v1 (p0, p1, p2) j = ((vv v1 j).2 && decide ((vv v1 j).1 = (p0, p1, p2))) := rfl
        rw [hf6] at hsb
        generalize vv v1 j = y at *
        obtain ⟨⟨u0, u1, u2⟩, uf⟩ := y
        have hen : (Instr.entry (.pointer (some ⟨r5, 0, none⟩))).run Tryd.prog w6 = .ok (.tuple #[.int .i64 (j : Int), .agg #[I u0, I u1, I u2]]) w6 := hen6
        have HST := Lib.hid hst
        have HSB := Lib.hid hsb
        have HIR6 := Lib.hid hir6
        have HBL := Lib.hid hlt6
        clear hen6 hst hsb hmj hir6 hf6 hlj kc6 hlt6 hir
        by_cases hy : u0 = p0 ∧ u1 = p1 ∧ u2 = p2
        · obtain ⟨rfl, rfl, rfl⟩ := hy
          have HS : Hid (sameB v1 (u0, u1, u2) j = true) := Lib.hid (by rw [HSB.out]; simp)
          have HN1 : Hid (n + 1 = cntB (fun i => !(left i && !decide (i = j)) && sameB v1 (u0, u1, u2) i) 3) := Lib.hid (by rw [HST.out, HS.out, HN.out]; rfl)
          have hn3' : n + 1 ≤ 3 := by rw [HN1.out]; exact cntB_le _ _
          clear hg6 hs6
          go_wp2_with fail
          go_roundw
          case rel => exact ⟨_, HIR6.out.at_heap (Below.heap_alloc _ _ _ HIR6.out.imap.lt) (Below.heap_alloc _ _ _ HIR6.out.lt), ⟨n + 1, hn3', by rfl, HN1⟩, hb6.alloc (by have := hb6.size; omega) _⟩
          case measure => rw [rangeLeft_at (Below.heap_alloc _ _ _ HIR6.out.imap.lt) (Below.heap_alloc _ _ _ HIR6.out.lt)]; exact HBL.out
        · have HS : Hid (sameB v1 (p0, p1, p2) j = false) := Lib.hid (by rw [HSB.out]; simp only [Bool.true_and, decide_eq_false_iff_not]; intro e; injection e with e1 e2; injection e2 with e2 e3; exact hy ⟨e1, e2, e3⟩)
          have HN1 : Hid (n = cntB (fun i => !(left i && !decide (i = j)) && sameB v1 (p0, p1, p2) i) 3) := Lib.hid (by rw [HST.out, HS.out, HN.out]; rfl)
          clear hg6 hs6
          by_cases h0 : u0 = p0
          · subst h0
            by_cases h1 : u1 = p1
            · subst h1
              have h2n : (u2 == p2) = false := by
                have : u2 ≠ p2 := fun e => hy ⟨rfl, rfl, e⟩
                simpa using this
              clear hy
              go_wp2_with fail
              go_roundw
              case rel => exact ⟨_, HIR6.out.at_heap (Below.heap_alloc _ _ _ HIR6.out.imap.lt) (Below.heap_alloc _ _ _ HIR6.out.lt), ⟨n, hn3, by rfl, HN1⟩, hb6.alloc (by have := hb6.size; omega) _⟩
              case measure => rw [rangeLeft_at (Below.heap_alloc _ _ _ HIR6.out.imap.lt) (Below.heap_alloc _ _ _ HIR6.out.lt)]; exact HBL.out
            · have h1n : (u1 == p1) = false := by simpa using h1
              clear hy
              go_wp2_with fail
              go_roundw
              case rel => exact ⟨_, HIR6.out.at_heap (Below.heap_alloc _ _ _ HIR6.out.imap.lt) (Below.heap_alloc _ _ _ HIR6.out.lt), ⟨n, hn3, by rfl, HN1⟩, hb6.alloc (by have := hb6.size; omega) _⟩
              case measure => rw [rangeLeft_at (Below.heap_alloc _ _ _ HIR6.out.imap.lt) (Below.heap_alloc _ _ _ HIR6.out.lt)]; exact HBL.out
          · have h0n : (u0 == p0) = false := by simpa using h0
            clear hy
            go_wp2_with fail
            go_roundw
            case rel => exact ⟨_, HIR6.out.at_heap (Below.heap_alloc _ _ _ HIR6.out.imap.lt) (Below.heap_alloc _ _ _ HIR6.out.lt), ⟨n, hn3, by rfl, HN1⟩, hb6.alloc (by have := hb6.size; omega) _⟩
            case measure => rw [rangeLeft_at (Below.heap_alloc _ _ _ HIR6.out.imap.lt) (Below.heap_alloc _ _ _ HIR6.out.lt)]; exact HBL.out
end
end Go.Proofs.YtdhekhlmdefcnaaDoor
