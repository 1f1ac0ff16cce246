/- The walk over the reference's May. -/
import Derived.Test.YtdhekhlmdefcnaaDoorMade
import Derived.Test.YtdhekhlmdefcnaaDoorFrRight
namespace Go.Proofs.YtdhekhlmdefcnaaDoor
open Go.RowKit
theorem numsL_get (f : List Int) (j : Nat) : (numsL f)[j]? = ((idx (f.getD 0 0))[j]?).map fun i => f.getD i 0 := by simp [numsL]
theorem numsL_length (f : List Int) : (numsL f).length = (idx (f.getD 0 0)).length := by simp [numsL]
theorem idx_zero (k : Int) : (idx k)[0]? = some 0 := by
  rcases idx_cases k with ⟨_, e⟩ | ⟨_, e⟩ | ⟨_, e⟩ | ⟨_, e⟩ | ⟨_, _, _, _, e⟩ <;> rw [e] <;> rfl
theorem idx_three (k : Int) : 3 ≤ (idx k).length := by
  rcases idx_cases k with ⟨_, e⟩ | ⟨_, e⟩ | ⟨_, e⟩ | ⟨_, e⟩ | ⟨_, _, _, _, e⟩ <;> rw [e] <;> decide
theorem numsL_kind (f : List Int) : (numsL f).getD 0 0 = f.getD 0 0 := by
  refine getD_int (x := f.getD 0 0) ?_
  rw [numsL_get, idx_zero]; rfl
theorem madeTo_nums (f : List Int) : ∀ n, n ≤ (idx (f.getD 0 0)).length → 1 ≤ n → madeTo (numsL f) n = cpTo f n
  | 0, _, h => absurd h (by decide)
  | 1, h, _ => by
    have h0 := idx_zero (f.getD 0 0)
    rw [cpTo_succ f 0 0 h0, madeTo, madeTo, numsL_kind]
    rw [show (idx (f.getD 0 0)).getD 0 0 = 0 by rw [List.getD_eq_getElem?_getD, h0]; rfl]
    unfold cpTo
    simp [zeroF, List.replicate]
  | n + 2, h, _ => by
    obtain ⟨i, hi⟩ := some_at (idx (f.getD 0 0)) (n + 1) (by omega)
    rw [cpTo_succ f (n + 1) i hi, madeTo, madeTo_nums f (n + 1) (by omega) (by omega), numsL_kind]
    rw [show (idx (f.getD 0 0)).getD (n + 1) 0 = i by rw [List.getD_eq_getElem?_getD, hi]; rfl]
    rw [show (numsL f).getD (n + 1) 0 = f.getD i 0 from getD_int (by rw [numsL_get, hi]; rfl)]
theorem made_nums (f : List Int) (h : 1 ≤ f.getD 0 0) (h5 : f.getD 0 0 ≤ 5) : made (numsL f) = (cpTo f (idx (f.getD 0 0)).length, true) := by
  have h3 := idx_three (f.getD 0 0)
  unfold made
  rw [if_pos, numsL_length, madeTo_nums f _ (Nat.le_refl _) (by omega)]
  unfold madeB
  rw [numsL_length, numsL_kind]
  simp only [Bool.and_eq_true, decide_eq_true_eq]
  exact ⟨⟨h3, h, h5⟩, trivial⟩
theorem made_ok (A : Option Addr) (n c : Nat) (ls : List Int) (w : World) (hl : ls.length = n) (hn : n ≤ 1000) (hr : Reads w w.heap.size A (ints ls)) :
    Calls Tryd.prog 79 #[.slice A n c] w fun e w' => e = .returned (.tuple #[.agg (frC (made ls).1), .bool (made ls).2]) ∧ Below w.heap.size w w' := by
  by_cases h3 : 3 ≤ n
  · obtain ⟨x0, hx0⟩ := some_at ls 0 (by omega)
    obtain ⟨b, o, rfl, -, -⟩ := hr.at_ hx0
    exact made_in b o n c ls w (Lib.hid hl) h3 hn hr
  · have : made ls = (zeroF, false) := by unfold made; rw [if_neg]; unfold madeB; simp; omega
    rw [this]
    exact made_small A n c w (by omega)
theorem inR_inB (x : Int) : inR x 0 1048576 = inB x := rfl
set_option maxHeartbeats 4000000 in
set_option maxRecDepth 100000 in
theorem refMay_ok (f : List Int) (hf : Wf f) (w : World) :
    Calls Tryd.prog 63 #[.agg (frC f)] w fun e w' => e = .returned (.bool (mayB f)) ∧ Below w.heap.size w w' := by
  obtain ⟨x0, hx0⟩ := some_at f 0 (by rw [hf.1]; decide)
  obtain ⟨x1, hx1⟩ := some_at f 1 (by rw [hf.1]; decide)
  have HX0 : Hid (f.getD 0 0 = x0) := Lib.hid (getD_int hx0)
  have HX1 : Hid (f.getD 1 0 = x1) := Lib.hid (getD_int hx1)
  have HF := Lib.hid hf
  have k0 := Has.new w 45 (frC f)
  have hb : Below w.heap.size w (w.alloc (.cells (frC f) 45)) := (Below.refl _ _).alloc (Nat.le_refl _) _
  have c0 := k0.cellv 0 _ (frC_get f 0 x0 hx0)
  have c1 := k0.cellv 1 _ (frC_get f 1 x1 hx1)
  have hsz : Hid ((Tryd.prog.info? 45).map (·.size) = some (frC f).size) := Lib.hid (refSize _ hf.1)
  clear hx0 hx1 hf
  go_enter Tryd.func63, Tryd.ntmps63
  go_upto_region 1 with (fail)
  generalize w.alloc (.cells (frC f) 45) = w1 at *
  generalize hG : w.heap.size = g0 at *
  have HG := Lib.hid hG
  clear hG
  by_cases hk : inR x0 1 5 = true
  · by_cases hfr : inR x1 0 3 = true
    · have HH : Hid (headB f = true) := Lib.hid (by unfold headB; rw [HX0.out, HX1.out]; unfold inR at hk hfr; simp at hk hfr ⊢; omega)
      have HK : Hid (1 ≤ f.getD 0 0 ∧ f.getD 0 0 ≤ 5) := Lib.hid (by rw [HX0.out]; unfold inR at hk; simp at hk; omega)
      go_upto_region 3 with (go_at_call 78; refine (in_any _ _ _ _).mono ?_; rintro e w9 ⟨rfl, rfl⟩)
      obtain ⟨n, hn⟩ : ∃ n, (idx (f.getD 0 0)).length = n := ⟨_, rfl⟩
      have hn20 : n ≤ 20 := hn ▸ idx_len _
      have HN := Lib.hid hn
      clear hn
      go_upto_region 4 with (first
        | (refine wpList_load_row rfl 45 (.tmp 1) rfl g0 rfl 45 (frC f) (0, 0) _ k0 Tryd.underlying45 rfl hsz.out ?_)
        | (go_at_call 73; refine (list_ok f _ HF.out).mono ?_; rintro e w9 ⟨⟨A, c, rfl, hown⟩, hb9⟩; rw [HN.out] at hown ⊢))
      have ka := k0.after hb9
      have hbr := hb.trans (hb9.mono (Nat.le_of_lt k0.lt))
      obtain ⟨A', c', ev, -, hll, hR⟩ := own_reads hown
      cases ev
      have HL : Hid ((numsL f).length = n) := Lib.hid (by simpa [ints] using hll)
      have HMD : Hid (made (numsL f) = (cpTo f n, true)) := Lib.hid (by rw [made_nums f HK.out.1 HK.out.2, HN.out])
      have HNG : Hid (∀ j, (numsL f)[j]? = ((idx (f.getD 0 0))[j]?).map fun i => f.getD i 0) := Lib.hid (numsL_get f)
      clear hown hb9 k0 hb c0 c1 hll hk hfr
      generalize numsL f = ls at *
      go_wp2_with fail
      go_loopw [22] (fun i wr => wr = w9 ∧ ∃ j : Nat, j ≤ n ∧ i = I j ∧ Hid (∀ q, q < j → ∀ x, ls[q]? = some x → inB x = true)) (fun i _ => n - (intOf i).toNat)
      case atStart => exact ⟨rfl, 0, by omega, rfl, Lib.hid (fun q h => absurd h (by omega))⟩
      case round =>
        obtain ⟨rfl, j, hj, rfl, HQ⟩ := hrel
        by_cases hlt : j < n
        · obtain ⟨x, hx⟩ := some_at ls j (by rw [HL.out]; exact hlt)
          obtain ⟨b, o, rfl, hb, hcell⟩ := hR.at_ hx
          have HX := Lib.hid hx
          clear hx
          by_cases hin : inR x 0 1048576 = true
          · go_wp2_with (go_at_call 78; refine (in_any _ _ _ _).mono ?_; rintro e w9 ⟨rfl, rfl⟩)
            go_roundw
            case rel =>
              refine ⟨trivial, j + 1, by omega, by go_num, Lib.hid (fun q hq y hy => ?_)⟩
              rcases Nat.lt_or_ge q j with h | h
              · exact HQ.out q h y hy
              · have : q = j := by omega
                subst this
                rw [HX.out] at hy
                cases hy
                exact hin
            case measure => simp [intOf]; omega
          · have hin' : inR x 0 1048576 = false := by simpa using hin
            have HM : Hid (mayB f = false) := Lib.hid (by
              have h0 := HNG.out j
              rw [HX.out] at h0
              obtain ⟨i, hi, e⟩ := Option.map_eq_some_iff.1 h0.symm
              have h1 : (idx (f.getD 0 0)).all (fun i => inB (f.getD i 0)) = false := by
                rw [List.all_eq_false]
                refine ⟨i, List.mem_of_getElem? hi, ?_⟩
                rw [e, ← inR_inB, hin']; decide
              unfold mayB
              rw [h1, Bool.and_false, Bool.false_and])
            clear hin
            go_wp2_with (go_at_call 78; refine (in_any _ _ _ _).mono ?_; rintro e w9 ⟨rfl, rfl⟩)
            go_ret
            exact ⟨by rw [HM.out]; rfl, HG.out ▸ hbr⟩
        · have hjn : j = n := by omega
          subst hjn
          have HM : Hid (mayB f = decide (f = cpTo f j)) := Lib.hid (by
            have h1 : (idx (f.getD 0 0)).all (fun i => inB (f.getD i 0)) = true := by
              rw [List.all_eq_true]
              intro i hi
              obtain ⟨q, hq, rfl⟩ := List.getElem_of_mem hi
              have h0 := HNG.out q
              rw [List.getElem?_eq_getElem hq] at h0
              exact HQ.out q (by rw [HN.out] at hq; exact hq) _ h0
            unfold mayB
            rw [h1, HH.out, HN.out]
            rfl)
          have HWc : Hid (Wf (cpTo f j)) := Lib.hid (cpTo_wf HF.out j)
          have HD : Hid (decide (f = cpTo f j) = true ↔ frC (cpTo f j) = frC f) := Lib.hid (by rw [decide_eq_true_eq, frC_inj]; exact eq_comm)
          have hs2 : Hid ((Tryd.prog.info? 45).map (·.size) = some (frC (cpTo f j)).size) := Lib.hid (refSize _ (cpTo_length _ _))
          have hs3 : Hid ((frC zeroF).size = (frC (cpTo f j)).size) := Lib.hid (by rw [frC_size _ (cpTo_length _ _)]; rfl)
          clear HQ
          generalize cpTo f j = cf at *
          generalize hX : decide (f = cf) = dd at *
          clear hX
          go_upto_region 11 with (first
            | (go_at_call 79; refine (made_ok A j c ls _ HL.out (by omega) hR).mono ?_; rintro e w8 ⟨rfl, hb8⟩; rw [HMD.out]
               have k8 : Has (w8.alloc (.cells #[I 0, I 0, I 0, I 0, I 0, I 0, I 0, I 0, I 0, I 0, I 0, I 0, I 0, I 0, I 0, I 0, I 0, I 0, I 0, I 0, I 0, I 0, I 0] 45)) w8.heap.size 45 (frC zeroF) := by rw [zeroFrame]; exact Has.new _ _ _)
            | (refine wpList_store_row rfl 45 (.tmp 6) _ rfl w8.heap.size (frC cf) rfl rfl 45 _ k8 hs2.out hs3.out (frC_one _) ?_))
          have kf := (ka.after hb8).alloc (.cells #[I 0, I 0, I 0, I 0, I 0, I 0, I 0, I 0, I 0, I 0, I 0, I 0, I 0, I 0, I 0, I 0, I 0, I 0, I 0, I 0, I 0, I 0, I 0] 45)
          have hg8 : g0 < w8.heap.size := (ka.after hb8).lt
          have hbz := below_setRow ((hbr.trans (hb8.mono (Nat.le_of_lt ka.lt))).alloc (Nat.le_of_lt hg8) (.cells #[I 0, I 0, I 0, I 0, I 0, I 0, I 0, I 0, I 0, I 0, I 0, I 0, I 0, I 0, I 0, I 0, I 0, I 0, I 0, I 0, I 0, I 0, I 0] 45)) (Nat.le_of_lt hg8) (frC cf)
          have k6 := k8.setRow (frC cf)
          have kf2 := kf.farRow (Nat.ne_of_lt hg8) (frC cf)
          clear k8 kf ka hbr hb8 hR
          generalize (w8.alloc (.cells #[I 0, I 0, I 0, I 0, I 0, I 0, I 0, I 0, I 0, I 0, I 0, I 0, I 0, I 0, I 0, I 0, I 0, I 0, I 0, I 0, I 0, I 0, I 0] 45)).setRow w8.heap.size (frC cf) = wz at *
          generalize w8.heap.size = g8 at *
          go_wp2_with (first
            | (refine wpList_taken rfl (fun K hK => wp_load_row 45 (.tmp 6) rfl g8 rfl 45 (frC cf) (0, 0) _ k6 Tryd.underlying45 rfl hs2.out (hK _ _ ?_)))
            | (refine wpList_taken rfl (fun K hK => wp_load_row 45 (.tmp 1) rfl g0 rfl 45 (frC f) (0, 0) _ kf2 Tryd.underlying45 rfl hsz.out (hK _ _ ?_)))
            | (refine wpList_taken rfl (fun K hK => wp_eql_row 45 45 5 (frC cf) (frC f) (List.replicate 23 (some .i64)) (.tmp 37) (.tmp 38) rfl rfl rfl (by decide) (by kernel_rfl) sigRef (by kernel_rfl) (by kernel_rfl) (by kernel_rfl) (fit_frame HWc.out) (fit_frame HF.out) _ HD.out (hK _ _ ?_))))
          go_ret
          exact ⟨by rw [HM.out]; rfl, HG.out ▸ hbz⟩
    · have hfr' : inR x1 0 3 = false := by simpa using hfr
      have HM : Hid (mayB f = false) := Lib.hid (by
        have : headB f = false := by unfold headB; rw [HX0.out, HX1.out]; unfold inR at hfr'; simp at hfr' ⊢; omega
        unfold mayB; rw [this]; rfl)
      clear hfr
      go_wp2_with (go_at_call 78; refine (in_any _ _ _ _).mono ?_; rintro e w9 ⟨rfl, rfl⟩)
      go_ret
      exact ⟨by rw [HM.out]; rfl, HG.out ▸ hb⟩
  · have hk' : inR x0 1 5 = false := by simpa using hk
    have HM : Hid (mayB f = false) := Lib.hid (by
      have : headB f = false := by unfold headB; rw [HX0.out, HX1.out]; unfold inR at hk'; simp at hk' ⊢; omega
      unfold mayB; rw [this]; rfl)
    clear hk
    go_wp2_with (go_at_call 78; refine (in_any _ _ _ _).mono ?_; rintro e w9 ⟨rfl, rfl⟩)
    go_ret
    exact ⟨by rw [HM.out]; rfl, HG.out ▸ hb⟩
end Go.Proofs.YtdhekhlmdefcnaaDoor
