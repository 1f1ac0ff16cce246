/- Part 28 of the proof: VoterPlays. -/
import Derived.Test.YtdhekhlmdefcnaaDoorPart27
import Derived.Test.YtdhekhlmdefcnaaDoorPart14
/- The walk over VoterPlays. -/
namespace Go.Proofs.YtdhekhlmdefcnaaDoor
open Go.RowKit
/-- what is told to a voter, read -/
def SaysAt (w : World) (B : Nat) (A : Option Addr) (ss : List (Int × List Int)) : Prop :=
  ∀ i s, ss[i]? = some s → ∃ b o, A = some ⟨b, o, none⟩ ∧ b < B ∧ w.cell? ⟨b, o + i * 24, none⟩ = some (I s.1) ∧ w.rangeAt b (o + i * 24 + 1) (ints s.2) ∧ Wf s.2
theorem cm_in {a b c : Int} (h1 : -9223372036854775808 ≤ a) (h2 : a ≤ 9223372036854775807) (h3 : -9223372036854775808 ≤ b) (h4 : b ≤ 9223372036854775807) (h5 : -9223372036854775808 ≤ c) (h6 : c ≤ 9223372036854775807) : CmIn (a, b, c) := ⟨⟨h1, h2⟩, ⟨h3, h4⟩, ⟨h5, h6⟩⟩
set_option maxHeartbeats 2000000 in
theorem vo_new_bad (n : Int) (h : ¬ (1 ≤ n ∧ n ≤ 20)) (w : World) : Calls Tryd.prog 26 #[I n] w fun e w' => e = .returned (.tuple #[.pointer none, errOf 2]) ∧ w = w' := by
  have he : errOf 2 = .iface 42 (I 2) := rfl
  rw [he]
  by_cases h1 : n < 1
  · go_enter Tryd.func26, Tryd.ntmps26
    go_wp2
    go_ret2
    exact ⟨rfl, rfl⟩
  · have h2 : (20 : Int) < n := by omega
    go_enter Tryd.func26, Tryd.ntmps26
    go_wp2
    go_ret2
    exact ⟨rfl, rfl⟩
set_option maxHeartbeats 2000000 in
set_option maxRecDepth 100000 in
theorem plays_long (win m : Int) (A : Option Addr) (n c : Nat) (w : World) (h : 120 < n) :
    Calls Tryd.prog 8 #[I win, .slice A n c, I m] w fun e w' => e = .returned (.bool true) ∧ Below w.heap.size w w' := by
  go_enter Tryd.func8, Tryd.ntmps8
  go_wp2
  go_ret
  exact ⟨rfl, Below.refl _ _⟩
set_option maxHeartbeats 2000000 in
set_option maxRecDepth 100000 in
theorem plays_bad (win m : Int) (A : Option Addr) (n c : Nat) (w : World) (h : n ≤ 120) (hw : ¬ (1 ≤ win ∧ win ≤ 20)) (hg : Hid (EType w)) :
    Calls Tryd.prog 8 #[I win, .slice A n c, I m] w fun e w' => e = .returned (.bool true) ∧ Below w.heap.size w w' := by
  have HW := Lib.hid hw
  by_cases h1 : win < 1
  · clear hw
    go_enter Tryd.func8, Tryd.ntmps8
    go_wp2_with (first
      | (go_at_call 26; refine (vo_new_bad win HW.out _).mono ?_; rintro e w9 ⟨rfl, rfl⟩)
      | (go_at_call 19; refine (bare_ok 2 2 _ hg).mono ?_; rintro e w9 ⟨rfl, hb9⟩))
    go_ret
    exact ⟨rfl, hb9⟩
  · have h2 : (20 : Int) < win := by omega
    clear hw
    go_enter Tryd.func8, Tryd.ntmps8
    go_wp2_with (first
      | (go_at_call 26; refine (vo_new_bad win HW.out _).mono ?_; rintro e w9 ⟨rfl, rfl⟩)
      | (go_at_call 19; refine (bare_ok 2 2 _ hg).mono ?_; rintro e w9 ⟨rfl, hb9⟩))
    go_ret
    exact ⟨rfl, hb9⟩
theorem voTick_rest' (v : Vo) : (voTick v).trace = v.trace := by
  unfold voTick
  split
  · rfl
  · split <;> rfl
section
variable {ty : TypeId} {ps : String} {af : Array Edge} {g : Option (Nat × Bool)} {a : Act} {w : World} {K : Act → World → Prop} {Q : Exit → Act → World → Prop}
theorem wp_sayIndex {bi oi n c k d s t : Nat} (hk : (k : Int) < (n : Int)) (e2 : a.tmps.getD s undef = .slice (some ⟨bi, oi, none⟩) n c) (e3 : a.tmps.getD t undef = I k) (h : K (a.put (some d) (.pointer (some ⟨bi, oi + k * 24, none⟩))) w) :
    Oper.wp Tryd.prog { dst := some d, op := .indexAddr 63 (.tmp s) (.tmp t), type := ty, pos := ps, after := af, guard := g } a w K Q := by
  have e2' : a.eval (.tmp s) = .slice (some ⟨bi, oi, none⟩) n c := e2
  have e3' : a.eval (.tmp t) = I k := e3
  go_simp
  exact h
theorem wp_sayField {b o d s : Nat} (e3 : a.tmps.getD s undef = .pointer (some ⟨b, o, none⟩)) (h : K (a.put (some d) (.pointer (some ⟨b, o + 1, none⟩))) w) :
    Oper.wp Tryd.prog { dst := some d, op := .fieldAddr 77 (.tmp s) 1, type := ty, pos := ps, after := af, guard := g } a w K Q := by
  have e3' : a.eval (.tmp s) = .pointer (some ⟨b, o, none⟩) := e3
  go_simp
  exact h
end
set_option maxHeartbeats 8000000 in
set_option maxRecDepth 100000 in
theorem plays_in (win m : Int) (A : Option Addr) (n c : Nat) (ss : List (Int × List Int)) (w : World) (h : n ≤ 120) (h1 : 1 ≤ win) (h2 : win ≤ 20) (hss : ss.length = n) (hr : SaysAt w w.heap.size A ss) (hg : Hid (EType w)) :
    Calls Tryd.prog 8 #[I win, .slice A n c, I m] w fun e w' => e = .returned (.bool true) ∧ Below w.heap.size w w' := by
  have HR := Lib.hid hr
  have HSS := Lib.hid hss
  have hpk := pk_walk m 1001 (by decide) (by decide)
  obtain ⟨hm0, hm1⟩ := pk_in m 1001 (by decide)
  obtain ⟨M, hM⟩ : ∃ M : Nat, pk m 1001 = (M : Int) := ⟨(pk m 1001).toNat, by omega⟩
  rw [hM] at hpk hm0 hm1
  clear hr hss hM hm0
  go_enter Tryd.func8, Tryd.ntmps8
  go_upto_region 9 with (first
    | (go_at_call 26; refine (vo_new win h1 h2 _).mono ?_; rintro e w1 ⟨⟨rfl, hv1⟩, hb1⟩)
    | (go_at_call 27; refine (rvo_new win _).mono ?_; rintro e w2 ⟨⟨g2, bv, bo, rfl, hr2⟩, hb2⟩))
  have T2 := two_new h1 h2 hv1 hb1 hr2 hb2
  have T3 := T2.after ((Below.refl w2.heap.size w2).alloc (Nat.le_refl _) (.cells #[.pointer (some ⟨g2, 0, none⟩)] 67))
  have kw := Has.new w2 67 #[.pointer (some ⟨g2, 0, none⟩)]
  have hb3 : Below w.heap.size w (w2.alloc (.cells #[.pointer (some ⟨g2, 0, none⟩)] 67)) := (hb1.trans (hb2.mono hb1.size)).alloc (Nat.le_trans hb1.size hb2.size) _
  have hg0 : Hid (EType (w2.alloc (.cells #[.pointer (some ⟨g2, 0, none⟩)] 67))) := Lib.hid (hg.out.after hb3)
  clear hv1 hr2 hb1 hb2 T2
  have HT3 := Lib.hid T3
  clear T3
  generalize hG : w.heap.size = g at *
  have HG := Lib.hid hG
  clear hG
  generalize w2.alloc (.cells #[.pointer (some ⟨g2, 0, none⟩)] 67) = w3 at *
  generalize w2.heap.size = gw at *
  go_wp2_with fail
  go_loopw [10] (fun i wr => ∃ k : Nat, k ≤ M ∧ i = I k ∧ Hid (∃ vt vt2 bv v, Two wr g g vt g2 vt2 bv bo v) ∧ Has wr gw 67 #[.pointer (some ⟨g2, 0, none⟩)] ∧ Below g w wr) (fun i _ => M - (intOf i).toNat)
  case atStart => exact ⟨0, by omega, rfl, Lib.hid ⟨_, _, _, _, HT3.out⟩, kw, hb3⟩
  case round =>
    clear kw hb3 HT3 hg0
    obtain ⟨k, hk, rfl, HT, kw, hbr⟩ := hrel
    by_cases hlt : k < M
    · have hki : (k : Int) < (M : Int) := by omega
      have hk1 : k < 1001 := by omega
      obtain ⟨cq, hcq⟩ : ∃ cq : Cm, cq = ((k : Int) % 5, 0, (k : Int) % 3) := ⟨_, rfl⟩
      have HCQ : Hid (CmIn cq) := Lib.hid (by rw [hcq]; exact cm_in (by omega) (by omega) (by omega) (by omega) (by omega) (by omega))
      have HFE : Hid (frC (frm 2 0 k cq) = #[I 2, I 0, I k, I ((k : Int) % 5), I 0, I ((k : Int) % 3), I 0, I 0, I 0, I 0, I 0, I 0, I 0, I 0, I 0, I 0, I 0, I 0, I 0, I 0, I 0, I 0, I 0]) := Lib.hid (by rw [hcq]; rfl)
      have HFW : Hid (∀ p : Int, 0 ≤ p → p ≤ 2 → Wf (frm 2 p k cq)) := Lib.hid (fun p h1 h2 => frm_wf (by omega) (by omega) (by omega) HCQ.out)
      have HFS : Hid (∀ p : Int, (frm 2 p k cq).length = 23) := Lib.hid (fun p => rfl)
      have HFT : Hid (∀ p q : Int, (frm 2 p k cq).set 1 q = frm 2 q k cq) := Lib.hid (fun p q => rfl)
      have HFG : Hid (∀ p : Int, (frm 2 p k cq)[1]? = some p) := Lib.hid (fun p => rfl)
      clear hcq hk1
      have k2 : Has (wr.alloc (.cells #[I 0, I 0, I 0, I 0, I 0, I 0, I 0, I 0, I 0, I 0, I 0, I 0, I 0, I 0, I 0, I 0, I 0, I 0, I 0, I 0, I 0, I 0, I 0] 40)) wr.heap.size 40 (frC zeroF) := by rw [zeroFrame]; exact Has.new _ _ _
      have hs1 : (Tryd.prog.info? 40).map (·.size) = some (frC (frm 2 0 k cq)).size := by rw [frC_size _ (HFS.out 0)]; exact infoFrame
      have hs2 : (frC zeroF).size = (frC (frm 2 0 k cq)).size := by rw [frC_size _ (HFS.out 0)]; rfl
      have hgle := hbr.size
      go_upto_region 13 with (refine wpList_store_row rfl 40 (.tmp 11) (.tmp 67) rfl wr.heap.size (frC (frm 2 0 k cq)) rfl (congrArg Value.agg HFE.out.symm) 40 _ k2 hs1 hs2 (frC_one _) ?_)
      have kf := k2.setRow (frC (frm 2 0 k cq))
      have hbx : Below wr.heap.size wr ((wr.alloc (.cells #[I 0, I 0, I 0, I 0, I 0, I 0, I 0, I 0, I 0, I 0, I 0, I 0, I 0, I 0, I 0, I 0, I 0, I 0, I 0, I 0, I 0, I 0, I 0] 40)).setRow wr.heap.size (frC (frm 2 0 k cq))) := below_setRow ((Below.refl _ _).alloc (Nat.le_refl _) _) (Nat.le_refl _) _
      have HT4 : Hid (∃ vt vt2 bv v, Two ((wr.alloc (.cells #[I 0, I 0, I 0, I 0, I 0, I 0, I 0, I 0, I 0, I 0, I 0, I 0, I 0, I 0, I 0, I 0, I 0, I 0, I 0, I 0, I 0, I 0, I 0] 40)).setRow wr.heap.size (frC (frm 2 0 k cq))) g g vt g2 vt2 bv bo v) := Lib.hid (by obtain ⟨vt, vt2, bv, v, T⟩ := HT.out; exact ⟨vt, vt2, bv, v, T.after hbx⟩)
      have kw4 := kw.after hbx
      have hb4 : Below g w ((wr.alloc (.cells #[I 0, I 0, I 0, I 0, I 0, I 0, I 0, I 0, I 0, I 0, I 0, I 0, I 0, I 0, I 0, I 0, I 0, I 0, I 0, I 0, I 0, I 0, I 0] 40)).setRow wr.heap.size (frC (frm 2 0 k cq))) := hbr.trans (hbx.mono (by have := HG.out; omega))
      clear k2 hs1 hs2 HT kw hbr hbx HFE
      generalize (wr.alloc (.cells #[I 0, I 0, I 0, I 0, I 0, I 0, I 0, I 0, I 0, I 0, I 0, I 0, I 0, I 0, I 0, I 0, I 0, I 0, I 0, I 0, I 0, I 0, I 0] 40)).setRow wr.heap.size (frC (frm 2 0 k cq)) = w4 at *
      generalize wr.heap.size = gf at *
      have HGF : Hid (g ≤ gf) := Lib.hid (by have := HG.out; omega)
      clear hgle
      go_wp2_with fail
      go_loopw [12] (fun i wx => ∃ q : Nat, q ≤ 2 ∧ i = I q ∧ Hid (∃ vt vt2 bv v, Two wx g g vt g2 vt2 bv bo v) ∧ Has wx gw 67 #[.pointer (some ⟨g2, 0, none⟩)] ∧ (∃ p : Int, Has wx gf 40 (frC (frm 2 p k cq))) ∧ Below g w wx) (fun i _ => 2 - (intOf i).toNat)
      case atStart => exact ⟨0, by omega, rfl, HT4, kw4, ⟨0, kf⟩, hb4⟩
      case round =>
        clear HT4 kw4 kf hb4
        obtain ⟨q, hq, rfl, HT, kw, ⟨p, kf⟩, hbr⟩ := hrel
        by_cases hltq : q < 2
        · have hqi : (q : Int) < 2 := by omega
          have f1 := kf.free 1
          have c1 := kf.cellv 1 (I p) (frC_get _ 1 p (HFG.out p))
          go_upto_region 17 with fail
          have hnw : gw ≠ gf := kw.ne kf (by decide)
          obtain ⟨vt, vt2, bv, v, T⟩ := HT.out
          have hts : Turned (fun b => b = gf) wr (wr.setCell ⟨gf, 1, none⟩ (I q)) := (Turned.refl (fun b => b = gf) wr).setCell ⟨gf, 1, none⟩ _ (.inl rfl)
          have T5 := T.turned hts (fun b hb e => has_notFV T.vo kf (by decide) (by decide) (e ▸ hb)) (fun b hb e => has_notFR T.rv kf (by decide) (by decide) (e ▸ hb))
          have kw5 := kw.turned hts hnw
          have kf5 := kf.set 1 (I q)
          rw [frC_set, HFT.out] at kf5
          have hgf : g ≤ gf := HGF.out
          have hb5 : Below g w (wr.setCell ⟨gf, 1, none⟩ (I q)) := hbr.trans (hts.below (fun k e => e ▸ hgf) (by have := hbr.size; have := HG.out; omega))
          have hFw := HFW.out q (by omega) (by omega)
          have hsF : (Tryd.prog.info? 40).map (·.size) = some (frC (frm 2 q k cq)).size := by rw [frC_size _ (HFS.out q)]; exact infoFrame
          clear kf c1 f1 hts T kw hbr HT
          generalize hFq : frm 2 (q : Int) k cq = F at *
          have HFQ := Lib.hid hFq
          clear hFq
          generalize wr.setCell ⟨gf, 1, none⟩ (I q) = w5 at *
          have hB5 : g ≤ w5.heap.size := by have := hb5.size; have := HG.out; omega
          have HT5 := Lib.hid T5
          have HFw := Lib.hid hFw
          clear T5 hFw
          go_upto_region 18 with (first
            | (refine wpList_load_row rfl 40 (.tmp 11) rfl gf rfl 40 (frC F) (0, 0) _ kf5 Tryd.underlying40 rfl hsF ?_)
            | (go_at_call 28; refine (vo_take HT5.out.vo HT5.out.wf hB5 F HFw.out).mono ?_; rintro e w6 ⟨⟨x1, rfl, hx1⟩, ⟨vt', hv6, hl6⟩, ht6⟩))
          obtain ⟨hrv6, hd6⟩ := HT5.out.mid hl6 ht6
          have kw6 := kw5.turned ht6 (has_notFV HT5.out.vo kw5 (by decide) (by decide))
          have kf6 := kf5.turned ht6 (has_notFV HT5.out.vo kf5 (by decide) (by decide))
          have hb6 : Below g w w6 := hb5.trans (ht6.below HT5.out.vo.ge hB5)
          have hB6 : g ≤ w6.heap.size := Nat.le_trans hB5 ht6.size
          obtain ⟨hfw6, hfl6⟩ := take_frames HT5.out.wf HT5.out.cm HFw.out
          have HK : Hid (∀ wa e w', Below w6.heap.size w6 wa → RTook wa g g2 vt2 bv bo v F e w' → (∃ x, e = .returned (.tuple #[x, .bool (voTake v F).2.2]) ∧ TookBoth w g g2 bo gw w5.heap.size x1 (voTake v F).2.1 (voTake v F).1 x w') ∧ Has w' gf 40 (frC F)) := Lib.hid (fun wa e w' hba ht => by
            obtain ⟨h1, h2⟩ := took_both (hv6.after hba) hd6 (hrv6.after hba) ht HT5.out.wf HT5.out.cm HFw.out (framesAt_turned hx1 (Turned.of_below hba (fun _ => False)) (fun _ _ _ h => h)) (kw6.after hba) (hb6.trans (hba.mono hB6)) (Nat.le_trans hB6 hba.size)
            exact ⟨h1, h2 _ _ _ (kf6.after hba) (by decide) (by decide)⟩)
          have HKC : Hid (∀ wa, Below w6.heap.size w6 wa → Calls Tryd.prog 29 #[.pointer (some ⟨g2, 0, none⟩), .agg (frC F)] wa fun e w' => RTook wa g g2 vt2 bv bo v F e w') := Lib.hid (fun wa hba => rvo_take (hrv6.after hba) HT5.out.wf (Nat.le_trans hB6 hba.size) F HFw.out)
          have HX1 := Lib.hid hx1
          have HFW6 := Lib.hid hfw6
          clear hx1 hv6 hl6 ht6 hrv6 hd6 hfw6 kw5 kf5 hb5 hb6 HT5
          generalize w5.heap.size = lo at *
          generalize (voTake v F).2.1 = fs at *
          generalize (voTake v F).2.2 = b at *
          generalize (voTake v F).1 = v' at *
          go_cut [15, 16] (fun s15 s16 wx => s16 = .bool b ∧ Hid (TookBoth w g g2 bo gw lo x1 fs v' s15 wx) ∧ Has wx gf 40 (frC F))
          case first =>
            rename_i J0 K0 hJ0 hK0
            have HK0 := Lib.hid hK0
            refine region_tabG (by kernel_rfl) (fun b0 => b0.tmps.getD 9 undef = .pointer (some ⟨gw, 0, none⟩) ∧ b0.tmps.getD 11 undef = .pointer (some ⟨gf, 0, none⟩)) ⟨rfl, rfl⟩ 202 rfl
                (fun (γ : Value) i => ([.pointer (some ⟨g2, 0, none⟩), .agg (frC F), .agg (frC F), .tuple #[γ, .bool b], .tuple #[γ, .bool b], γ, .bool b, γ, .bool b] : List Value).getD i undef)
                (WP 3 [2] (fun wx => Below w6.heap.size w6 wx) (fun γ wx => TookBoth w g g2 bo gw lo x1 fs v' γ wx ∧ Has wx gf 40 (frC F))) [81, 82, 83, 84, 80, 85, 86, 15, 16] (by kernel_rfl) (by kernel_rfl) undef (.inl ⟨fun j _ => getD_rep j, (Below.refl _ _).drew⟩) ?_ ?_
            · intro b0 hb0 i o ho
              have hi : i < 9 := (Array.getElem?_eq_some_iff.1 ho).1
              obtain ⟨f9, f11⟩ := hb0
              have hcase : i = 0 ∨ i = 1 ∨ i = 2 ∨ i = 3 ∨ i = 4 ∨ i = 5 ∨ i = 6 ∨ i = 7 ∨ i = 8 := by omega
              rcases hcase with rfl | rfl | rfl | rfl | rfl | rfl | rfl | rfl | rfl
              · cases ho
                exact doesG_quiet rfl (fun γ li a wx hF hed hK hW => ⟨hW.ahead (by decide) id id, fun K hk => wp_ptrLoad (by
                  rcases hW with ⟨_, hp⟩ | ⟨_, _, ⟨_, _, _, hp, _⟩, _⟩
                  · exact (kw6.after hp).cellv 0 _ rfl
                  · exact hp.cellv 0 _ rfl) (by rw [hF.slot (by decide)]; exact f9) hk⟩)
              · cases ho
                exact doesG_quiet rfl (fun γ li a wx hF hed hK hW => ⟨hW.ahead (by decide) id id, fun K hk => wp_load_row 40 (.tmp 11) rfl gf (by show a.tmps.getD 11 undef = _; rw [hF.slot (by decide)]; exact f11) 40 (frC F) (0, 0) _ (by
                  rcases hW with ⟨_, hp⟩ | ⟨_, _, _, hp⟩
                  · exact kf6.after hp
                  · exact hp) Tryd.underlying40 rfl hsF hk⟩)
              · cases ho
                refine doesG_turn rfl (fun γ li a wx hs hn hF hed hK hW K hk => ?_)
                obtain ⟨hp, hpw⟩ := hW.turn (by decide) (by decide) hn
                refine wp_callGiven (hK 1 _ rfl (hed ⟨1, .data⟩ (by simp) rfl) 82 rfl) (given_ok F HFw.out wx) ?_
                rintro r w' ⟨rfl, hb⟩
                exact ⟨_, rfl, hk γ w' (fun _ _ => rfl) (hpw _ (hp.trans (hb.mono hp.size)))⟩
              · cases ho
                refine doesG_turn rfl (fun γ li a wx hs hn hF hed hK hW K hk => ?_)
                obtain ⟨hp, hno, hpw⟩ := hW.now hn (by rw [hs]; decide) (fun j hj => by rw [List.mem_singleton.1 hj]; exact hed ⟨2, .data⟩ (by simp) rfl)
                refine wp_callRTake (hK 0 _ rfl (hed ⟨0, .data⟩ (by simp) rfl) 81 rfl) (hK 2 _ rfl (hed ⟨2, .data⟩ (by simp) rfl) 83 rfl) (HKC.out wx hp) ?_
                intro r w' hr
                obtain ⟨⟨x, rfl, htb⟩, hkf⟩ := HK.out wx r w' hp hr
                refine ⟨_, rfl, hk x w' (fun j hj => ?_) (hpw x w' ⟨htb, hkf⟩)⟩
                rcases Nat.lt_or_ge j 3 with h | h
                · have : j = 0 ∨ j = 1 ∨ j = 2 := by omega
                  rcases this with rfl | rfl | rfl <;> rfl
                · rw [hno j h] at hj; cases hj
              · cases ho
                exact doesG_quiet rfl (fun γ li a wx hF hed hK hW => ⟨hW.later (j := 3) (by decide) (hed ⟨3, .data⟩ (by simp) rfl) _, fun K hk => wp_move_at rfl (hK 3 _ rfl (hed ⟨3, .data⟩ (by simp) rfl) 84 rfl) hk⟩)
              · cases ho
                exact doesG_quiet rfl (fun γ li a wx hF hed hK hW => ⟨hW.later (j := 4) (by decide) (hed ⟨4, .data⟩ (by simp) rfl) _, fun K hk => wp_extract_at 80 0 rfl (hK 4 _ rfl (hed ⟨4, .data⟩ (by simp) rfl) 80 rfl) rfl hk⟩)
              · cases ho
                exact doesG_quiet rfl (fun γ li a wx hF hed hK hW => ⟨hW.later (j := 4) (by decide) (hed ⟨4, .data⟩ (by simp) rfl) _, fun K hk => wp_extract_at 80 1 rfl (hK 4 _ rfl (hed ⟨4, .data⟩ (by simp) rfl) 80 rfl) rfl hk⟩)
              · cases ho
                exact doesG_quiet rfl (fun γ li a wx hF hed hK hW => ⟨hW.later (j := 5) (by decide) (hed ⟨5, .data⟩ (by simp) rfl) _, fun K hk => wp_assign_at rfl (hK 5 _ rfl (hed ⟨5, .data⟩ (by simp) rfl) 85 rfl) hk⟩)
              · cases ho
                exact doesG_quiet rfl (fun γ li a wx hF hed hK hW => ⟨hW.later (j := 6) (by decide) (hed ⟨6, .data⟩ (by simp) rfl) _, fun K hk => wp_assign_at rfl (hK 6 _ rfl (hed ⟨6, .data⟩ (by simp) rfl) 86 rfl) hk⟩)
            · intro γ li a w' hF hK hall hW
              have e15 := hK 7 _ rfl (hall 7 (by decide)) 15 rfl
              have e16 := hK 8 _ rfl (hall 8 (by decide)) 16 rfl
              obtain ⟨hp1, hp2⟩ := hW.behind (j := 3) (by decide) (hall 3 (by decide))
              have hM := hF.meet
              simp only [List.foldl_cons, List.foldl_nil, List.setIfInBounds_toArray, List.set_cons_succ, List.set_cons_zero, e15, e16] at hM
              refine HK0.out _ _ (Met.intro (hJ0 _ _ ?_))
              (repeat apply Exists.intro)
              exact ⟨⟨rfl, Lib.hid hp1, hp2⟩, hM⟩
          case rest =>
            obtain ⟨rfl, htb, kf7⟩ := hcut
            obtain ⟨⟨lo2, hx2⟩, hx1, ⟨vt8, vt9, bv8, T8⟩, kw8, hb8⟩ := htb.out
            have hfr1 := frs_read hx1 (fun f hf => (HFW6.out f hf).1)
            have hfr2 := rfrs_read hx2 (fun f hf => (HFW6.out f hf).1)
            have HT8 := Lib.hid T8
            have kf8 : Has wc gf 40 (frC (frm 2 q k cq)) := by rw [HFQ.out]; exact kf7
            clear htb hx1 hx2 kf7 kw6 kf6 hsF HK HKC T8
            go_wp2_with (go_at_call 30; refine (told_ok hfr1 hfr2 HFW6.out (Nat.le_trans hfl6 (by decide))).mono ?_; rintro e w9 ⟨rfl, hb9⟩)
            go_roundw
            case rel => exact ⟨q + 1, by omega, by go_num, Lib.hid ⟨_, _, _, _, HT8.out.after hb9⟩, kw8.after hb9, ⟨q, kf8.after hb9⟩, hb8.trans (hb9.mono (by have := hb8.size; have := HG.out; omega))⟩
            case measure => simp [intOf]; omega
        · have hq2 : q = 2 := by omega
          subst hq2
          go_wp2_with fail
          go_roundw
          case rel => exact ⟨k + 1, by omega, by go_num, HT, kw, hbr⟩
          case measure => simp [intOf]; omega
    · have hkM : k = M := by omega
      subst hkM
      clear hlt
      go_wp2_with fail
      clear hpk hm1
      go_loopw [17] (fun i wr => ∃ k : Nat, k ≤ n ∧ i = I k ∧ Hid (∃ vt vt2 bv v, Two wr g g vt g2 vt2 bv bo v) ∧ Has wr gw 67 #[.pointer (some ⟨g2, 0, none⟩)] ∧ Below g w wr) (fun i _ => n - (intOf i).toNat)
      case atStart => exact ⟨0, by omega, rfl, HT, kw, hbr⟩
      case round =>
        clear HT kw hbr
        obtain ⟨k, hk, rfl, HT, kw, hbr⟩ := hrel
        by_cases hltk : k < n
        · have hki : (k : Int) < (n : Int) := by omega
          obtain ⟨sy, hsy⟩ := some_at ss k (by rw [HSS.out]; exact hltk)
          obtain ⟨ab, ao, rfl, hab, hc0, hrg, hFw⟩ := HR.out k sy hsy
          have c0 := (hbr.cell (p := ⟨ab, ao + k * 24, none⟩) hab).trans hc0
          go_upto_region 25 with fail
          have hmf : ∀ (fn : Fn) (first cap : Array Value) (w : World), (Instr.makeFunc fn first cap).run Tryd.prog w = .ok (.func fn first cap) w := fun _ _ _ _ => rfl
          by_cases h0 : sy.1 = 0
          · have hs0 : (sy.1 == 0) = true := by simpa using h0
            have HRG : Hid (∀ wx, Below g w wx → wx.rangeAt ab (ao + k * 24 + 1) (ints sy.2)) := Lib.hid (fun wx hb => rangeAt_below hrg hb hab)
            have HFw := Lib.hid hFw
            have hsI : (Tryd.prog.info? 40).map (·.size) = some (ints sy.2).length := by rw [ints_length, hFw.1]; exact infoFrame
            have hab' : ab < wr.heap.size := Nat.lt_of_lt_of_le hab (by have := hbr.size; have := HG.out; omega)
            clear hrg hFw h0 hsy hc0
            generalize sy.2 = F at *
            generalize sy.1 = sy1 at *
            obtain ⟨vt, vt2, bv, v, T5⟩ := HT.out
            have hB5 : g ≤ wr.heap.size := by have := hbr.size; have := HG.out; omega
            have HT5 := Lib.hid T5
            have HR5 := Lib.hid (HRG.out wr hbr)
            clear T5 HT
            go_upto_region 27 with (first
              | (refine wpList_load_mid rfl 40 (.tmp 114) rfl ab (ao + k * 24 + 1) rfl (ints F) _ HR5.out Tryd.underlying40 rfl hsI ?_)
              | (go_at_call 28; refine (vo_take HT5.out.vo HT5.out.wf hB5 F HFw.out).mono ?_; rintro e w6 ⟨⟨x1, rfl, hx1⟩, ⟨vt', hv6, hl6⟩, ht6⟩))
            obtain ⟨hrv6, hd6⟩ := HT5.out.mid hl6 ht6
            have kw6 := kw.turned ht6 (has_notFV HT5.out.vo kw (by decide) (by decide))
            have hb6 : Below g w w6 := hbr.trans (ht6.below HT5.out.vo.ge hB5)
            have hB6 : g ≤ w6.heap.size := Nat.le_trans hB5 ht6.size
            obtain ⟨hfw6, hfl6⟩ := take_frames HT5.out.wf HT5.out.cm HFw.out
            have HK : Hid (∀ wa e w', Below w6.heap.size w6 wa → RTook wa g g2 vt2 bv bo v F e w' → ∃ x, e = .returned (.tuple #[x, .bool (voTake v F).2.2]) ∧ TookBoth w g g2 bo gw wr.heap.size x1 (voTake v F).2.1 (voTake v F).1 x w') := Lib.hid (fun wa e w' hba ht =>
              (took_both (hv6.after hba) hd6 (hrv6.after hba) ht HT5.out.wf HT5.out.cm HFw.out (framesAt_turned hx1 (Turned.of_below hba (fun _ => False)) (fun _ _ _ h => h)) (kw6.after hba) (hb6.trans (hba.mono hB6)) (Nat.le_trans hB6 hba.size)).1)
            have HKC : Hid (∀ wa, Below w6.heap.size w6 wa → Calls Tryd.prog 29 #[.pointer (some ⟨g2, 0, none⟩), .agg (frC F)] wa fun e w' => RTook wa g g2 vt2 bv bo v F e w') := Lib.hid (fun wa hba => rvo_take (hrv6.after hba) HT5.out.wf (Nat.le_trans hB6 hba.size) F HFw.out)
            have HR6 : Hid (∀ wx, Below w6.heap.size w6 wx ∨ Below g w wx → wx.rangeAt ab (ao + k * 24 + 1) (ints F)) := Lib.hid (fun wx hx => hx.elim (fun hx => HRG.out wx (hb6.trans (hx.mono hB6))) (fun hx => HRG.out wx hx))
            have hki6 : (k : Int) < (n : Int) := hki
            have HX1 := Lib.hid hx1
            have HFW6 := Lib.hid hfw6
            clear hx1 hv6 hl6 ht6 hrv6 hd6 hfw6 kw hbr hb6 HT5 c0 HRG hs0
            generalize wr.heap.size = lo at *
            generalize (voTake v F).2.1 = fs at *
            generalize (voTake v F).2.2 = b at *
            generalize (voTake v F).1 = v' at *
            go_cut [20, 21] (fun s20 s21 wx => s21 = .bool b ∧ Hid (TookBoth w g g2 bo gw lo x1 fs v' s20 wx))
            case first =>
              rename_i J0 K0 hJ0 hK0
              have HK0 := Lib.hid hK0
              refine region_tabG (by kernel_rfl) (fun b0 => b0.tmps.getD 9 undef = .pointer (some ⟨gw, 0, none⟩) ∧ b0.tmps.getD 1 undef = .slice (some ⟨ab, ao, none⟩) n c ∧ b0.tmps.getD 17 undef = I k) ⟨rfl, rfl, rfl⟩ 202 rfl
                  (fun (γ : Value) i => ([.pointer (some ⟨g2, 0, none⟩), .slice (some ⟨ab, ao, none⟩) n c, I k, .pointer (some ⟨ab, ao + k * 24, none⟩), .pointer (some ⟨ab, ao + k * 24 + 1, none⟩), .agg (frC F), .agg (frC F), .tuple #[γ, .bool b], .tuple #[γ, .bool b], γ, .bool b, γ, .bool b] : List Value).getD i undef)
                  (WP 7 [6] (fun wx => Below w6.heap.size w6 wx) (fun γ wx => TookBoth w g g2 bo gw lo x1 fs v' γ wx)) [120, 121, 122, 123, 124, 125, 126, 127, 119, 128, 129, 20, 21] (by kernel_rfl) (by kernel_rfl) undef (.inl ⟨fun j _ => getD_rep j, (Below.refl _ _).drew⟩) ?_ ?_
              · intro b0 hb0 i o ho
                have hi : i < 13 := (Array.getElem?_eq_some_iff.1 ho).1
                obtain ⟨f9, f1, f17⟩ := hb0
                have hcase : i = 0 ∨ i = 1 ∨ i = 2 ∨ i = 3 ∨ i = 4 ∨ i = 5 ∨ i = 6 ∨ i = 7 ∨ i = 8 ∨ i = 9 ∨ i = 10 ∨ i = 11 ∨ i = 12 := by omega
                rcases hcase with rfl | rfl | rfl | rfl | rfl | rfl | rfl | rfl | rfl | rfl | rfl | rfl | rfl
                · cases ho
                  exact doesG_quiet rfl (fun γ li a wx hF hed hK hW => ⟨hW.ahead (by decide) id id, fun K hk => wp_ptrLoad (by
                    rcases hW with ⟨_, hp⟩ | ⟨_, _, _, _, _, hp, _⟩
                    · exact (kw6.after hp).cellv 0 _ rfl
                    · exact hp.cellv 0 _ rfl) (by rw [hF.slot (by decide)]; exact f9) hk⟩)
                · cases ho
                  exact doesG_quiet rfl (fun γ li a wx hF hed hK hW => ⟨hW.ahead (by decide) id id, fun K hk => wp_move_at rfl (by rw [hF.slot (by decide)]; exact f1) hk⟩)
                · cases ho
                  exact doesG_quiet rfl (fun γ li a wx hF hed hK hW => ⟨hW.ahead (by decide) id id, fun K hk => wp_move_at rfl (by rw [hF.slot (by decide)]; exact f17) hk⟩)
                · cases ho
                  exact doesG_quiet rfl (fun γ li a wx hF hed hK hW => ⟨hW.ahead (by decide) id id, fun K hk => wp_sayIndex hki6 (hK 1 _ rfl (hed ⟨1, .data⟩ (by simp) rfl) 121 rfl) (hK 2 _ rfl (hed ⟨2, .data⟩ (by simp) rfl) 122 rfl) hk⟩)
                · cases ho
                  exact doesG_quiet rfl (fun γ li a wx hF hed hK hW => ⟨hW.ahead (by decide) id id, fun K hk => wp_sayField (hK 3 _ rfl (hed ⟨3, .data⟩ (by simp) rfl) 123 rfl) hk⟩)
                · cases ho
                  exact doesG_quiet rfl (fun γ li a wx hF hed hK hW => ⟨hW.ahead (by decide) id id, fun K hk => wp_load_mid 40 (.tmp 124) rfl ab (ao + k * 24 + 1) (hK 4 _ rfl (hed ⟨4, .data⟩ (by simp) rfl) 124 rfl) (ints F) _ (by
                    rcases hW with ⟨_, hp⟩ | ⟨_, _, _, _, _, _, hp⟩
                    · exact HR6.out wx (.inl hp)
                    · exact HR6.out wx (.inr hp)) Tryd.underlying40 rfl hsI hk⟩)
                · cases ho
                  refine doesG_turn rfl (fun γ li a wx hs hn hF hed hK hW K hk => ?_)
                  obtain ⟨hp, hpw⟩ := hW.turn (by decide) (by decide) hn
                  refine wp_callGiven (hK 5 _ rfl (hed ⟨5, .data⟩ (by simp) rfl) 125 rfl) (given_ok F HFw.out wx) ?_
                  rintro r w' ⟨rfl, hb⟩
                  exact ⟨_, rfl, hk γ w' (fun _ _ => rfl) (hpw _ (hp.trans (hb.mono hp.size)))⟩
                · cases ho
                  refine doesG_turn rfl (fun γ li a wx hs hn hF hed hK hW K hk => ?_)
                  obtain ⟨hp, hno, hpw⟩ := hW.now hn (by rw [hs]; decide) (fun j hj => by rw [List.mem_singleton.1 hj]; exact hed ⟨6, .data⟩ (by simp) rfl)
                  refine wp_callRTake (hK 0 _ rfl (hed ⟨0, .data⟩ (by simp) rfl) 120 rfl) (hK 6 _ rfl (hed ⟨6, .data⟩ (by simp) rfl) 126 rfl) (HKC.out wx hp) ?_
                  intro r w' hr
                  obtain ⟨x, rfl, htb⟩ := HK.out wx r w' hp hr
                  refine ⟨_, rfl, hk x w' (fun j hj => ?_) (hpw x w' htb)⟩
                  rcases Nat.lt_or_ge j 7 with h | h
                  · have : j = 0 ∨ j = 1 ∨ j = 2 ∨ j = 3 ∨ j = 4 ∨ j = 5 ∨ j = 6 := by omega
                    rcases this with rfl | rfl | rfl | rfl | rfl | rfl | rfl <;> rfl
                  · rw [hno j h] at hj; cases hj
                · cases ho
                  exact doesG_quiet rfl (fun γ li a wx hF hed hK hW => ⟨hW.later (j := 7) (by decide) (hed ⟨7, .data⟩ (by simp) rfl) _, fun K hk => wp_move_at rfl (hK 7 _ rfl (hed ⟨7, .data⟩ (by simp) rfl) 127 rfl) hk⟩)
                · cases ho
                  exact doesG_quiet rfl (fun γ li a wx hF hed hK hW => ⟨hW.later (j := 8) (by decide) (hed ⟨8, .data⟩ (by simp) rfl) _, fun K hk => wp_extract_at 119 0 rfl (hK 8 _ rfl (hed ⟨8, .data⟩ (by simp) rfl) 119 rfl) rfl hk⟩)
                · cases ho
                  exact doesG_quiet rfl (fun γ li a wx hF hed hK hW => ⟨hW.later (j := 8) (by decide) (hed ⟨8, .data⟩ (by simp) rfl) _, fun K hk => wp_extract_at 119 1 rfl (hK 8 _ rfl (hed ⟨8, .data⟩ (by simp) rfl) 119 rfl) rfl hk⟩)
                · cases ho
                  exact doesG_quiet rfl (fun γ li a wx hF hed hK hW => ⟨hW.later (j := 9) (by decide) (hed ⟨9, .data⟩ (by simp) rfl) _, fun K hk => wp_assign_at rfl (hK 9 _ rfl (hed ⟨9, .data⟩ (by simp) rfl) 128 rfl) hk⟩)
                · cases ho
                  exact doesG_quiet rfl (fun γ li a wx hF hed hK hW => ⟨hW.later (j := 10) (by decide) (hed ⟨10, .data⟩ (by simp) rfl) _, fun K hk => wp_assign_at rfl (hK 10 _ rfl (hed ⟨10, .data⟩ (by simp) rfl) 129 rfl) hk⟩)
              · intro γ li a w' hF hK hall hW
                have e20 := hK 11 _ rfl (hall 11 (by decide)) 20 rfl
                have e21 := hK 12 _ rfl (hall 12 (by decide)) 21 rfl
                have hp1 := hW.behind (j := 7) (by decide) (hall 7 (by decide))
                have hM := hF.meet
                simp only [List.foldl_cons, List.foldl_nil, List.setIfInBounds_toArray, List.set_cons_succ, List.set_cons_zero, e20, e21] at hM
                refine HK0.out _ _ (Met.intro (hJ0 _ _ ?_))
                (repeat apply Exists.intro)
                exact ⟨⟨rfl, Lib.hid hp1⟩, hM⟩
            case rest =>
              obtain ⟨rfl, htb⟩ := hcut
              obtain ⟨⟨lo2, hx2⟩, hx1, ⟨vt8, vt9, bv8, T8⟩, kw8, hb8⟩ := htb.out
              have hfr1 := frs_read hx1 (fun f hf => (HFW6.out f hf).1)
              have hfr2 := rfrs_read hx2 (fun f hf => (HFW6.out f hf).1)
              have HT8 := Lib.hid T8
              have KW8 := Lib.hid kw8
              have HB8 := Lib.hid hb8
              clear htb hx1 hx2 kw6 kw8 hb8 hsI HK HKC T8 HR6
              go_upto_region 36 with (go_at_call 30; refine (told_ok hfr1 hfr2 HFW6.out (Nat.le_trans hfl6 (by decide))).mono ?_; rintro e w9 ⟨rfl, hb9⟩)
              have HT9 := Lib.hid (HT8.out.after hb9)
              have KW9 := Lib.hid (KW8.out.after hb9)
              have HB9 : Hid (Below g w w9) := Lib.hid (HB8.out.trans (hb9.mono (by have := HB8.out.size; have := HG.out; omega)))
              clear hfr1 hfr2 hb9 HT8 KW8 HB8
              generalize v' = v9 at *
              go_wp2_with (go_at_call 34; refine (plays_set KW9.out HT9.out).mono ?_; rintro e wt ⟨rfl, hbt⟩)
              have HT10 := Lib.hid (HT9.out.after hbt)
              have KW10 := Lib.hid (KW9.out.after hbt)
              have HB10 : Hid (Below g w wt) := Lib.hid (HB9.out.trans (hbt.mono (by have := HB9.out.size; have := HG.out; omega)))
              have c9 := KW10.out.cellv 0 _ rfl
              have c5 := HT10.out.rv.has.cellv 5 (.bool v9.latched) rfl
              have HSh := Lib.hid (fun n => (vo_shown (HT10.out.turned ((Turned.refl (fun _ => False) wt).drewN n) (fun _ _ h => h) (fun _ _ h => h)).vo HT10.out.wf.many).mono (fun e w' (h : e = .returned (I (voShown v9)) ∧ ∃ q, (wt.drewN n).drewN q = w') => (⟨h.1, by obtain ⟨q, hq⟩ := h.2; exact ⟨q, hq.symm⟩⟩ : e = .returned (I (voShown v9)) ∧ ∃ q, w' = (wt.drewN n).drewN q)))
              have HRS := Lib.hid (fun n => (rvo_shown (HT10.out.turned ((Turned.refl (fun _ => False) wt).drewN n) (fun _ _ h => h) (fun _ _ h => h)).rv HT10.out.wf.many).mono (fun e w' (h : e = .returned (I (voShown v9)) ∧ wt.drewN n = w') => (⟨h.1, h.2.symm⟩ : e = .returned (I (voShown v9)) ∧ w' = wt.drewN n)))
              have HLa := Lib.hid (fun n => (vo_latched (HT10.out.turned ((Turned.refl (fun _ => False) wt).drewN n) (fun _ _ h => h) (fun _ _ h => h)).vo).mono (fun e w' (h : e = .returned (.bool v9.latched) ∧ wt.drewN n = w') => (⟨h.1, h.2.symm⟩ : e = .returned (.bool v9.latched) ∧ w' = wt.drewN n)))
              have HOu := Lib.hid (fun n => (vo_out (HT10.out.turned ((Turned.refl (fun _ => False) wt).drewN n) (fun _ _ h => h) (fun _ _ h => h)).vo).mono (fun e w' (h : e = .returned (I (v9.out : Int)) ∧ wt.drewN n = w') => (⟨h.1, h.2.symm⟩ : e = .returned (I (v9.out : Int)) ∧ w' = wt.drewN n)))
              clear hbt HT9 KW9 HB9
              go_quiet (first
                | (go_at_call 36; exact Calls.quiet_of (HSh.out _))
                | (go_at_call 37; exact Calls.quiet_of_same (HRS.out _))
                | (go_at_call 38; exact Calls.quiet_of_same (HLa.out _))
                | (go_at_call 39; exact Calls.quiet_of_same (HOu.out _)))
              go_wp2_with fail
              go_roundw
              case rel => first | exact ⟨k + 1, by omega, by go_num, Lib.hid ⟨_, _, _, _, HT10.out.after (below_drewN (Below.refl _ _) _)⟩, KW10.out.after (below_drewN (Below.refl _ _) _), below_drewN HB10.out _⟩ | ((repeat apply Exists.intro); exact ⟨⟨k + 1, by omega, by go_num, Lib.hid ⟨_, _, _, _, HT10.out.after (below_drewN (Below.refl _ _) _)⟩, KW10.out.after (below_drewN (Below.refl _ _) _), below_drewN HB10.out _⟩, rfl⟩)
              case measure => simp [intOf]; omega
          · obtain ⟨vt, vt2, bv, v, T5⟩ := HT.out
            have h0n : (sy.1 == 0) = false := by simpa using h0
            have hB5 : g ≤ wr.heap.size := by have := hbr.size; have := HG.out; omega
            have hdis := T5.dis
            have HT5 := Lib.hid T5
            have HBR := Lib.hid hbr
            have hkw9 := kw.cellv 0 _ rfl
            clear T5 HT hrg hFw hsy h0 hc0 hbr
            by_cases h1w : sy.1 = 1
            · have h1t : (sy.1 == 1) = true := by simpa using h1w
              clear h1w
              go_upto_region 32 with (go_at_call 31; refine (vo_tick HT5.out.vo HT5.out.wf).mono ?_; rintro e w6 ⟨rfl, hv6, ht6⟩)
              have kw6 := kw.turned ht6 (has_notFV HT5.out.vo kw (by decide) (by decide))
              have hrv6 := HT5.out.rv.turned ht6 (fun b h1 h2 => HT5.out.dis b h2 h1)
              have hc6 := kw6.cellv 0 _ rfl
              have HB6 : Hid (Below g w w6) := Lib.hid (HBR.out.trans (ht6.below HT5.out.vo.ge hB5))
              have HRV6 := Lib.hid hrv6
              have HV6 := Lib.hid hv6
              clear hrv6 hv6 ht6 hkw9 kw c0 h0n h1t hdis
              go_upto_region 36 with (go_at_call 32; refine (rvo_tick HRV6.out HT5.out.wf).mono ?_; rintro e w7 ⟨rfl, hr7, ht7⟩)
              have HT9 : Hid (Two w7 g g vt g2 vt2 bv bo (voTick v)) := Lib.hid (Two.end_ HV6.out HT5.out.dis hr7 (.inl rfl) (.inl rfl) (ht7.mono (fun _ _ e => .inl e)) (voTick_wf HT5.out.wf) (by rw [(voTick_rest' v)]; exact HT5.out.cm))
              have KW9 : Hid (Has w7 gw 67 #[.pointer (some ⟨g2, 0, none⟩)]) := Lib.hid (kw6.turned ht7 (fun e => kw6.ne HRV6.out.has (by decide) e))
              have HB9 : Hid (Below g w w7) := Lib.hid (HB6.out.trans (ht7.below (fun k e => e ▸ HRV6.out.low.1) (by have := HB6.out.size; have := HG.out; omega)))
              clear hr7 ht7 HRV6 HV6 HB6 hc6 kw6 HT5
              generalize voTick v = v9 at *
              go_wp2_with (go_at_call 34; refine (plays_set KW9.out HT9.out).mono ?_; rintro e wt ⟨rfl, hbt⟩)
              have HT10 := Lib.hid (HT9.out.after hbt)
              have KW10 := Lib.hid (KW9.out.after hbt)
              have HB10 : Hid (Below g w wt) := Lib.hid (HB9.out.trans (hbt.mono (by have := HB9.out.size; have := HG.out; omega)))
              have c9 := KW10.out.cellv 0 _ rfl
              have c5 := HT10.out.rv.has.cellv 5 (.bool v9.latched) rfl
              have HSh := Lib.hid (fun n => (vo_shown (HT10.out.turned ((Turned.refl (fun _ => False) wt).drewN n) (fun _ _ h => h) (fun _ _ h => h)).vo HT10.out.wf.many).mono (fun e w' (h : e = .returned (I (voShown v9)) ∧ ∃ q, (wt.drewN n).drewN q = w') => (⟨h.1, by obtain ⟨q, hq⟩ := h.2; exact ⟨q, hq.symm⟩⟩ : e = .returned (I (voShown v9)) ∧ ∃ q, w' = (wt.drewN n).drewN q)))
              have HRS := Lib.hid (fun n => (rvo_shown (HT10.out.turned ((Turned.refl (fun _ => False) wt).drewN n) (fun _ _ h => h) (fun _ _ h => h)).rv HT10.out.wf.many).mono (fun e w' (h : e = .returned (I (voShown v9)) ∧ wt.drewN n = w') => (⟨h.1, h.2.symm⟩ : e = .returned (I (voShown v9)) ∧ w' = wt.drewN n)))
              have HLa := Lib.hid (fun n => (vo_latched (HT10.out.turned ((Turned.refl (fun _ => False) wt).drewN n) (fun _ _ h => h) (fun _ _ h => h)).vo).mono (fun e w' (h : e = .returned (.bool v9.latched) ∧ wt.drewN n = w') => (⟨h.1, h.2.symm⟩ : e = .returned (.bool v9.latched) ∧ w' = wt.drewN n)))
              have HOu := Lib.hid (fun n => (vo_out (HT10.out.turned ((Turned.refl (fun _ => False) wt).drewN n) (fun _ _ h => h) (fun _ _ h => h)).vo).mono (fun e w' (h : e = .returned (I (v9.out : Int)) ∧ wt.drewN n = w') => (⟨h.1, h.2.symm⟩ : e = .returned (I (v9.out : Int)) ∧ w' = wt.drewN n)))
              clear hbt HT9 KW9 HB9
              go_quiet (first
                | (go_at_call 36; exact Calls.quiet_of (HSh.out _))
                | (go_at_call 37; exact Calls.quiet_of_same (HRS.out _))
                | (go_at_call 38; exact Calls.quiet_of_same (HLa.out _))
                | (go_at_call 39; exact Calls.quiet_of_same (HOu.out _)))
              go_wp2_with fail
              go_roundw
              case rel => first | exact ⟨k + 1, by omega, by go_num, Lib.hid ⟨_, _, _, _, HT10.out.after (below_drewN (Below.refl _ _) _)⟩, KW10.out.after (below_drewN (Below.refl _ _) _), below_drewN HB10.out _⟩ | ((repeat apply Exists.intro); exact ⟨⟨k + 1, by omega, by go_num, Lib.hid ⟨_, _, _, _, HT10.out.after (below_drewN (Below.refl _ _) _)⟩, KW10.out.after (below_drewN (Below.refl _ _) _), below_drewN HB10.out _⟩, rfl⟩)
              case measure => simp [intOf]; omega
            · have h1n : (sy.1 == 1) = false := by simpa using h1w
              by_cases h2w : sy.1 = 2
              · have h2t : (sy.1 == 2) = true := by simpa using h2w
                clear h2w h1w
                go_upto_region 35 with (go_at_call 33; refine (vo_latch HT5.out.vo).mono ?_; rintro e w6 ⟨rfl, hv6, ht6⟩)
                have kw6 := kw.turned ht6 (has_notFV HT5.out.vo kw (by decide) (by decide))
                have hrv6 := HT5.out.rv.turned ht6 (fun b h1 h2 => HT5.out.dis b h2 h1)
                have hc6 := kw6.cellv 0 _ rfl
                have hc5 := hrv6.has.cellv 5 (.bool v.latched) rfl
                have hf5 := hrv6.has.free 5
                have HB6 : Hid (Below g w w6) := Lib.hid (HBR.out.trans (ht6.below HT5.out.vo.ge hB5))
                have HRV6 := Lib.hid hrv6
                have HV6 := Lib.hid hv6
                clear hrv6 hv6 ht6 hkw9 kw c0 hdis
                go_upto_region 36 with fail
                clear h0n h1n h2t
                have ht7 : Turned (fun b => b = g2) w6 (w6.setCell ⟨g2, 5, none⟩ (.bool true)) := (Turned.refl (fun b => b = g2) w6).setCell ⟨g2, 5, none⟩ _ (.inl rfl)
                have HT9 : Hid (Two (w6.setCell ⟨g2, 5, none⟩ (.bool true)) g g vt g2 vt2 bv bo { v with latched := true }) := Lib.hid (Two.end_ HV6.out HT5.out.dis (rv_latch HRV6.out) (.inl rfl) (.inl rfl) (ht7.mono (fun _ _ e => .inl e)) (voLatch_wf HT5.out.wf) HT5.out.cm)
                have KW9 : Hid (Has (w6.setCell ⟨g2, 5, none⟩ (.bool true)) gw 67 #[.pointer (some ⟨g2, 0, none⟩)]) := Lib.hid (kw6.turned ht7 (fun e => kw6.ne HRV6.out.has (by decide) e))
                have HB9 : Hid (Below g w (w6.setCell ⟨g2, 5, none⟩ (.bool true))) := Lib.hid (HB6.out.trans (ht7.below (fun k e => e ▸ HRV6.out.low.1) (by have := HB6.out.size; have := HG.out; omega)))
                clear ht7 HRV6 HV6 HB6 hc6 kw6 HT5 hc5 hf5
                generalize ({ v with latched := true } : Vo) = v9 at *
                generalize w6.setCell ⟨g2, 5, none⟩ (.bool true) = w7 at *
                go_wp2_with (go_at_call 34; refine (plays_set KW9.out HT9.out).mono ?_; rintro e wt ⟨rfl, hbt⟩)
                have HT10 := Lib.hid (HT9.out.after hbt)
                have KW10 := Lib.hid (KW9.out.after hbt)
                have HB10 : Hid (Below g w wt) := Lib.hid (HB9.out.trans (hbt.mono (by have := HB9.out.size; have := HG.out; omega)))
                have c9 := KW10.out.cellv 0 _ rfl
                have c5 := HT10.out.rv.has.cellv 5 (.bool v9.latched) rfl
                have HSh := Lib.hid (fun n => (vo_shown (HT10.out.turned ((Turned.refl (fun _ => False) wt).drewN n) (fun _ _ h => h) (fun _ _ h => h)).vo HT10.out.wf.many).mono (fun e w' (h : e = .returned (I (voShown v9)) ∧ ∃ q, (wt.drewN n).drewN q = w') => (⟨h.1, by obtain ⟨q, hq⟩ := h.2; exact ⟨q, hq.symm⟩⟩ : e = .returned (I (voShown v9)) ∧ ∃ q, w' = (wt.drewN n).drewN q)))
                have HRS := Lib.hid (fun n => (rvo_shown (HT10.out.turned ((Turned.refl (fun _ => False) wt).drewN n) (fun _ _ h => h) (fun _ _ h => h)).rv HT10.out.wf.many).mono (fun e w' (h : e = .returned (I (voShown v9)) ∧ wt.drewN n = w') => (⟨h.1, h.2.symm⟩ : e = .returned (I (voShown v9)) ∧ w' = wt.drewN n)))
                have HLa := Lib.hid (fun n => (vo_latched (HT10.out.turned ((Turned.refl (fun _ => False) wt).drewN n) (fun _ _ h => h) (fun _ _ h => h)).vo).mono (fun e w' (h : e = .returned (.bool v9.latched) ∧ wt.drewN n = w') => (⟨h.1, h.2.symm⟩ : e = .returned (.bool v9.latched) ∧ w' = wt.drewN n)))
                have HOu := Lib.hid (fun n => (vo_out (HT10.out.turned ((Turned.refl (fun _ => False) wt).drewN n) (fun _ _ h => h) (fun _ _ h => h)).vo).mono (fun e w' (h : e = .returned (I (v9.out : Int)) ∧ wt.drewN n = w') => (⟨h.1, h.2.symm⟩ : e = .returned (I (v9.out : Int)) ∧ w' = wt.drewN n)))
                clear hbt HT9 KW9 HB9
                go_quiet (first
                  | (go_at_call 36; exact Calls.quiet_of (HSh.out _))
                  | (go_at_call 37; exact Calls.quiet_of_same (HRS.out _))
                  | (go_at_call 38; exact Calls.quiet_of_same (HLa.out _))
                  | (go_at_call 39; exact Calls.quiet_of_same (HOu.out _)))
                go_wp2_with fail
                go_roundw
                case rel => first | exact ⟨k + 1, by omega, by go_num, Lib.hid ⟨_, _, _, _, HT10.out.after (below_drewN (Below.refl _ _) _)⟩, KW10.out.after (below_drewN (Below.refl _ _) _), below_drewN HB10.out _⟩ | ((repeat apply Exists.intro); exact ⟨⟨k + 1, by omega, by go_num, Lib.hid ⟨_, _, _, _, HT10.out.after (below_drewN (Below.refl _ _) _)⟩, KW10.out.after (below_drewN (Below.refl _ _) _), below_drewN HB10.out _⟩, rfl⟩)
                case measure => simp [intOf]; omega
              · have h2n : (sy.1 == 2) = false := by simpa using h2w
                have HT9 := HT5
                have KW9 := Lib.hid kw
                have HB9 := HBR
                clear h1w h2w hdis kw HT5 HBR hkw9
                generalize v = v9 at *
                go_upto_region 36 with fail
                clear c0 h0n h1n h2n
                go_wp2_with (go_at_call 34; refine (plays_set KW9.out HT9.out).mono ?_; rintro e wt ⟨rfl, hbt⟩)
                have HT10 := Lib.hid (HT9.out.after hbt)
                have KW10 := Lib.hid (KW9.out.after hbt)
                have HB10 : Hid (Below g w wt) := Lib.hid (HB9.out.trans (hbt.mono (by have := HB9.out.size; have := HG.out; omega)))
                have c9 := KW10.out.cellv 0 _ rfl
                have c5 := HT10.out.rv.has.cellv 5 (.bool v9.latched) rfl
                have HSh := Lib.hid (fun n => (vo_shown (HT10.out.turned ((Turned.refl (fun _ => False) wt).drewN n) (fun _ _ h => h) (fun _ _ h => h)).vo HT10.out.wf.many).mono (fun e w' (h : e = .returned (I (voShown v9)) ∧ ∃ q, (wt.drewN n).drewN q = w') => (⟨h.1, by obtain ⟨q, hq⟩ := h.2; exact ⟨q, hq.symm⟩⟩ : e = .returned (I (voShown v9)) ∧ ∃ q, w' = (wt.drewN n).drewN q)))
                have HRS := Lib.hid (fun n => (rvo_shown (HT10.out.turned ((Turned.refl (fun _ => False) wt).drewN n) (fun _ _ h => h) (fun _ _ h => h)).rv HT10.out.wf.many).mono (fun e w' (h : e = .returned (I (voShown v9)) ∧ wt.drewN n = w') => (⟨h.1, h.2.symm⟩ : e = .returned (I (voShown v9)) ∧ w' = wt.drewN n)))
                have HLa := Lib.hid (fun n => (vo_latched (HT10.out.turned ((Turned.refl (fun _ => False) wt).drewN n) (fun _ _ h => h) (fun _ _ h => h)).vo).mono (fun e w' (h : e = .returned (.bool v9.latched) ∧ wt.drewN n = w') => (⟨h.1, h.2.symm⟩ : e = .returned (.bool v9.latched) ∧ w' = wt.drewN n)))
                have HOu := Lib.hid (fun n => (vo_out (HT10.out.turned ((Turned.refl (fun _ => False) wt).drewN n) (fun _ _ h => h) (fun _ _ h => h)).vo).mono (fun e w' (h : e = .returned (I (v9.out : Int)) ∧ wt.drewN n = w') => (⟨h.1, h.2.symm⟩ : e = .returned (I (v9.out : Int)) ∧ w' = wt.drewN n)))
                clear hbt HT9 KW9 HB9
                go_quiet (first
                  | (go_at_call 36; exact Calls.quiet_of (HSh.out _))
                  | (go_at_call 37; exact Calls.quiet_of_same (HRS.out _))
                  | (go_at_call 38; exact Calls.quiet_of_same (HLa.out _))
                  | (go_at_call 39; exact Calls.quiet_of_same (HOu.out _)))
                go_wp2_with fail
                go_roundw
                case rel => first | exact ⟨k + 1, by omega, by go_num, Lib.hid ⟨_, _, _, _, HT10.out.after (below_drewN (Below.refl _ _) _)⟩, KW10.out.after (below_drewN (Below.refl _ _) _), below_drewN HB10.out _⟩ | ((repeat apply Exists.intro); exact ⟨⟨k + 1, by omega, by go_num, Lib.hid ⟨_, _, _, _, HT10.out.after (below_drewN (Below.refl _ _) _)⟩, KW10.out.after (below_drewN (Below.refl _ _) _), below_drewN HB10.out _⟩, rfl⟩)
                case measure => simp [intOf]; omega
        · have hkn : k = n := by omega
          subst hkn
          clear hltk
          obtain ⟨vt, vt2, bv, v, T⟩ := HT.out
          have HT5 := Lib.hid T
          have c9 := kw.cellv 0 _ rfl
          clear HT T
          go_upto_region 40 with (go_at_call 40; refine (vo_trace HT5.out.vo HT5.out.wf.many).mono ?_; rintro e w6 ⟨⟨vr, rfl, hown6⟩, hb6⟩)
          have hrv6 := HT5.out.rv.after hb6
          have kw6 := kw.after hb6
          have HB6 : Hid (Below g w w6) := Lib.hid (hbr.trans (hb6.mono (by have := hbr.size; have := HG.out; omega)))
          obtain ⟨A1, c1, rfl, _, hget1⟩ := trace_slice hown6
          obtain ⟨A2, c2, hvt2, _, hget2⟩ := trace_slice hrv6.own
          have c96 := kw6.cellv 0 _ rfl
          have c26 : w6.cell? ⟨g2, 2, none⟩ = some (.slice A2 v.trace.length c2) := by rw [← hvt2]; exact hrv6.has.cellv 2 _ rfl
          have HG1 := Lib.hid hget1
          have HG2 := Lib.hid hget2
          have h1000 := HT5.out.wf.many
          have hgw6 := kw6.lt
          have hg26 := hrv6.has.lt
          have HLN : Hid (v.trace.length = v.trace.length) := Lib.hid rfl
          obtain ⟨ln, hln⟩ : ∃ ln, v.trace.length = ln := ⟨_, rfl⟩
          rw [hln] at c26 h1000
          have HLN2 := Lib.hid hln
          clear hown6 hrv6 kw6 hvt2 hget1 hget2 kw hbr c9 HT5 hb6
          rw [hln]
          clear hln
          go_wp2_with fail
          go_loopw [24] (fun i wx => ∃ j : Nat, j ≤ ln ∧ i = I j ∧ ∃ q, w6.drewN q = wx) (fun i _ => ln - (intOf i).toNat)
          case atStart => exact ⟨0, by omega, rfl, 0, rfl⟩
          case round =>
            obtain ⟨j, hj, rfl, q, rfl⟩ := hrel
            by_cases hltj : j < ln
            · have hji : (j : Int) < (ln : Int) := by omega
              obtain ⟨cm, hcm⟩ := some_at v.trace j (by rw [HLN2.out]; exact hltj)
              obtain ⟨b1, rfl, _, hl1, a0, a1, a2⟩ := HG1.out j cm hcm
              obtain ⟨b2, rfl, _, hl2, d0, d1, d2⟩ := HG2.out j cm hcm
              clear hcm
              go_wp2_with fail
              go_quiet (fail)
              go_wp2_with fail
              go_roundw
              case rel => exact ⟨j + 1, by omega, by go_num, _, rfl⟩
              case measure => simp [intOf]; omega
            · have hjn : j = ln := by omega
              subst hjn
              go_wp2
              go_ret
              exact ⟨rfl, HG.out ▸ below_drewN HB6.out _⟩
theorem plays_any (win m : Int) (A : Option Addr) (n c : Nat) (ss : List (Int × List Int)) (w : World) (hss : ss.length = n) (hr : SaysAt w w.heap.size A ss) (hg : Hid (EType w)) :
    Calls Tryd.prog 8 #[I win, .slice A n c, I m] w fun e w' => e = .returned (.bool true) ∧ Below w.heap.size w w' := by
  by_cases h : n ≤ 120
  · by_cases hw : 1 ≤ win ∧ win ≤ 20
    · exact plays_in win m A n c ss w h hw.1 hw.2 hss hr hg
    · exact plays_bad win m A n c w h hw hg
  · exact plays_long win m A n c w (by omega)
end Go.Proofs.YtdhekhlmdefcnaaDoor
