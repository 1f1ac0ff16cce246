/- The walk over frame.right. -/
import Derived.Test.YtdhekhlmdefcnaaDoorNumbers
import Derived.Test.YtdhekhlmdefcnaaDoorSig
namespace Go.Proofs.YtdhekhlmdefcnaaDoor
open Go.RowKit
theorem own_slice {w : World} {base : Nat} {e : TypeId} {A : Option Addr} {n c : Nat} {xs : List Value} (h : w.ownsRow base e 1 (.slice A n c) n xs) : n ≤ c ∧ Reads w w.heap.size A xs := by
  obtain ⟨A', c', he, h1, _, h2⟩ := own_reads h
  injection he with e1 _ e3
  subst e1
  subst e3
  exact ⟨h1, h2⟩
theorem ptr_at {w : World} {B b : Nat} {A : Option Addr} {l : List Nat} {k i : Nat} (h : Reads w B A (ptrs b l)) (hi : l[k]? = some i) :
    ∃ bb o, A = some ⟨bb, o, none⟩ ∧ bb < B ∧ w.cell? ⟨bb, o + k, none⟩ = some (.pointer (some ⟨b, i, none⟩)) := by
  have hk : (ptrs b l)[k]? = some (.pointer (some ⟨b, i, none⟩)) := by rw [ptrs_get, hi]; rfl
  obtain ⟨bb, o, hA, hb, hc⟩ := h (by rintro h0; rw [h0] at hk; simp at hk)
  exact ⟨bb, o, hA, hb, hc _ _ hk⟩
theorem infoFrame : (Tryd.prog.info? 40).map (·.size) = some 23 := by kernel_rfl
theorem sigFrame : sig Tryd.prog 5 40 = some (List.replicate 23 (some .i64)) := by kernel_rfl
theorem zeroFrame : frC zeroF = #[I 0, I 0, I 0, I 0, I 0, I 0, I 0, I 0, I 0, I 0, I 0, I 0, I 0, I 0, I 0, I 0, I 0, I 0, I 0, I 0, I 0, I 0, I 0] := rfl
theorem fit_frame {f : List Int} (h : Wf f) : Fit (List.replicate 23 (some .i64)) (frC f).toList := by
  have := fit_ints f (fun x hx => wf_i64 (h.2 x hx).1 (h.2 x hx).2)
  rw [h.1] at this
  exact this
set_option maxHeartbeats 4000000 in
set_option maxRecDepth 100000 in
theorem right_no (f : List Int) (hf : Wf f) (hh : headB f = false) (w : World) :
    Calls Tryd.prog 74 #[.agg (frC f)] w fun e w' => e = .returned (.bool false) ∧ Below w.heap.size w w' := by
  obtain ⟨k, hk⟩ := some_at f 0 (by rw [hf.1]; decide)
  obtain ⟨fr, hfr⟩ := some_at f 1 (by rw [hf.1]; decide)
  have hbad : k < 1 ∨ 5 < k ∨ fr < 0 ∨ 3 < fr := by
    unfold headB at hh
    simp only [List.getD_eq_getElem?_getD, hk, hfr, Option.getD_some, Bool.and_eq_false_iff, decide_eq_false_iff_not] at hh
    omega
  have k0 := Has.new w 40 (frC f)
  have c0 := k0.cellv 0 _ (frC_get f 0 k hk)
  have c1 := k0.cellv 1 _ (frC_get f 1 fr hfr)
  have hb : Below w.heap.size w (w.alloc (.cells (frC f) 40)) := (Below.refl _ _).alloc (Nat.le_refl _) _
  clear hk hfr hh k0
  go_enter Tryd.func74, Tryd.ntmps74
  rcases hbad with h | h | h | h
  all_goals
    go_wp2_with fail
    all_goals
      go_ret
      exact ⟨rfl, hb⟩
theorem cpTo_wf {f : List Int} (h : Wf f) (n : Nat) : Wf (cpTo f n) := by
  refine ⟨cpTo_length f n, ?_⟩
  unfold cpTo
  have hd : ∀ i, -9223372036854775808 ≤ f.getD i 0 ∧ f.getD i 0 ≤ 9223372036854775807 := by
    intro i
    rw [List.getD_eq_getElem?_getD]
    cases hi : f[i]? with
    | none => simp
    | some x => exact h.2 x (List.mem_of_getElem? hi)
  generalize (idx (f.getD 0 0)).take n = l
  have h0 : ∀ x ∈ zeroF.set 0 (f.getD 0 0), -9223372036854775808 ≤ x ∧ x ≤ 9223372036854775807 := by
    intro x hx
    rcases List.mem_or_eq_of_mem_set hx with hx | rfl
    · have := List.eq_of_mem_replicate hx
      omega
    · exact hd 0
  generalize zeroF.set 0 (f.getD 0 0) = g at h0
  induction l generalizing g with
  | nil => exact h0
  | cons i l ih =>
    refine ih _ ?_
    intro x hx
    rcases List.mem_or_eq_of_mem_set hx with hx | rfl
    · exact h0 x hx
    · exact hd i
theorem zero_set (k : Int) : frC (zeroF.set 0 k) = #[I k, I 0, I 0, I 0, I 0, I 0, I 0, I 0, I 0, I 0, I 0, I 0, I 0, I 0, I 0, I 0, I 0, I 0, I 0, I 0, I 0, I 0, I 0] := rfl
set_option maxHeartbeats 4000000 in
set_option maxRecDepth 100000 in
theorem right_yes (f : List Int) (hf : Wf f) (hh : headB f = true) (w : World) :
    Calls Tryd.prog 74 #[.agg (frC f)] w fun e w' => e = .returned (.bool (mayB f)) ∧ Below w.heap.size w w' := by
  obtain ⟨k, hk⟩ := some_at f 0 (by rw [hf.1]; decide)
  obtain ⟨fr, hfr⟩ := some_at f 1 (by rw [hf.1]; decide)
  have hgood : 1 ≤ k ∧ k ≤ 5 ∧ 0 ≤ fr ∧ fr ≤ 3 := by
    unfold headB at hh
    simp only [List.getD_eq_getElem?_getD, hk, hfr, Option.getD_some, Bool.and_eq_true, decide_eq_true_eq] at hh
    omega
  obtain ⟨h1, h2, h3, h4⟩ := hgood
  have HK : Hid (f.getD 0 0 = k) := Lib.hid (by rw [List.getD_eq_getElem?_getD, hk]; rfl)
  have HF := Lib.hid hf
  have HH := Lib.hid hh
  have k0 := Has.new w 40 (frC f)
  have c0 := k0.cellv 0 _ (frC_get f 0 k hk)
  have c1 := k0.cellv 1 _ (frC_get f 1 fr hfr)
  have hb : Below w.heap.size w (w.alloc (.cells (frC f) 40)) := (Below.refl _ _).alloc (Nat.le_refl _) _
  have t1 : decide (k < 1) = false := by simp; omega
  have t2 : decide (5 < k) = false := by simp; omega
  have t3 : decide (fr < 0) = false := by simp; omega
  have t4 : decide (3 < fr) = false := by simp; omega
  clear hk hfr hh hf
  go_enter Tryd.func74, Tryd.ntmps74
  go_upto_region 1 with (fail)
  generalize hw1 : w.alloc (.cells (frC f) 40) = w1 at *
  have hsz : w1.heap.size = w.heap.size + 1 := by rw [← hw1]; simp
  clear hw1
  have hg0 : w.heap.size < w1.heap.size := by omega
  generalize hG : w.heap.size = g0 at *
  have HG := Lib.hid hG
  clear hG
  have HS := Lib.hid hsz
  clear hsz
  go_wp2_with fail
  have hz0 : frC (cpTo f 0) = #[I k, I 0, I 0, I 0, I 0, I 0, I 0, I 0, I 0, I 0, I 0, I 0, I 0, I 0, I 0, I 0, I 0, I 0, I 0, I 0, I 0, I 0, I 0] := by unfold cpTo; rw [HK.out]; rfl
  have kz : Has (w1.alloc (.cells #[I k, I 0, I 0, I 0, I 0, I 0, I 0, I 0, I 0, I 0, I 0, I 0, I 0, I 0, I 0, I 0, I 0, I 0, I 0, I 0, I 0, I 0, I 0] 40)) w1.heap.size 40 (frC (cpTo f 0)) := by rw [hz0]; exact Has.new _ _ _
  have cz := kz.cellv 0 (I k) (by rw [hz0]; rfl)
  have k0a := k0.alloc (.cells #[I k, I 0, I 0, I 0, I 0, I 0, I 0, I 0, I 0, I 0, I 0, I 0, I 0, I 0, I 0, I 0, I 0, I 0, I 0, I 0, I 0, I 0, I 0] 40)
  have hba : Below g0 w (w1.alloc (.cells #[I k, I 0, I 0, I 0, I 0, I 0, I 0, I 0, I 0, I 0, I 0, I 0, I 0, I 0, I 0, I 0, I 0, I 0, I 0, I 0, I 0, I 0, I 0] 40)) := hb.alloc (Nat.le_of_lt hg0) _
  have hne : g0 ≠ w1.heap.size := by omega
  have hle : g0 ≤ w1.heap.size := by omega
  clear k0 c0 c1 hb hz0 HS
  generalize w1.alloc (.cells #[I k, I 0, I 0, I 0, I 0, I 0, I 0, I 0, I 0, I 0, I 0, I 0, I 0, I 0, I 0, I 0, I 0, I 0, I 0, I 0, I 0, I 0, I 0] 40) = w2 at *
  generalize w1.heap.size = g1 at *
  refine (numbers_ok g1 _ k w2 kz cz).mono ?_
  rintro e w3 ⟨⟨A1, n1, rfl, own1⟩, hb3⟩
  have k03 := k0a.after hb3
  have kz3 := kz.after hb3
  obtain ⟨x0, hx0⟩ := some_at f 0 (by rw [HF.out.1]; decide)
  have hxk : x0 = k := by have := HK.out; rw [List.getD_eq_getElem?_getD, hx0] at this; exact this
  have c03 := k03.cellv 0 _ (frC_get f 0 x0 hx0)
  rw [hxk] at c03
  have hbw3 := hba.trans (hb3.mono (Nat.le_of_lt k0a.lt))
  clear hx0 hxk x0 k0a kz cz hba
  go_wp2_with fail
  refine (numbers_ok g0 _ k w3 k03 c03).mono ?_
  rintro e w4 ⟨⟨A2, n2, rfl, own2⟩, hb4⟩
  have k04 := k03.after hb4
  have kz4 := kz3.after hb4
  have own14 := own_after own1 hb4
  have hbw4 := hbw3.trans (hb4.mono (Nat.le_of_lt k03.lt))
  clear k03 c03 kz3 hbw3 own1
  have HO1 := Lib.hid (own_base own14 (Nat.zero_le _))
  have HO2 := Lib.hid (own_base own2 (Nat.zero_le _))
  have hid20 := idx_len k
  have HL : Hid (∀ i, i ∈ idx k → i < 23) := Lib.hid (idx_lt k)
  clear own14 own2 hb3 hb4 hg0
  go_wp2_with fail
  go_loopw [31] (fun i wr => ∃ j : Nat, j ≤ (idx k).length ∧ i = I j ∧ Hid (∀ q, q < j → ∃ i, (idx k)[q]? = some i ∧ inB (f.getD i 0) = true) ∧ Has wr g0 40 (frC f) ∧ Has wr g1 40 (frC (cpTo f j)) ∧
    Hid (wr.ownsRow 0 146 1 (.slice A1 (idx k).length n1) (idx k).length (ptrs g1 (idx k))) ∧ Hid (wr.ownsRow 0 146 1 (.slice A2 (idx k).length n2) (idx k).length (ptrs g0 (idx k))) ∧ Below g0 w wr) (fun i _ => (idx k).length - (intOf i).toNat)
  case atStart => exact ⟨0, by omega, rfl, Lib.hid (fun q hq => absurd hq (by omega)), k04, kz4, HO1, HO2, hbw4⟩
  case round =>
    clear HO1 HO2 k04 kz4 hbw4
    obtain ⟨j, hj, rfl, HR, ka, kb, HO1, HO2, hbr⟩ := hrel
    by_cases hlt : j < (idx k).length
    · obtain ⟨i, hi⟩ := some_at (idx k) j hlt
      have hi23 : i < 23 := HL.out i (List.mem_of_getElem? hi)
      obtain ⟨x, hx⟩ := some_at f i (by rw [HF.out.1]; exact hi23)
      obtain ⟨y, hy⟩ := some_at (cpTo f j) i (by rw [cpTo_length]; exact hi23)
      obtain ⟨hc1, hr1⟩ := own_slice HO1.out
      obtain ⟨hc2, hr2⟩ := own_slice HO2.out
      obtain ⟨b1, o1, rfl, _, e1⟩ := ptr_at hr1 hi
      obtain ⟨b2, o2, rfl, _, e2⟩ := ptr_at hr2 hi
      have a1 := ka.cellv i _ (frC_get f i x hx)
      have z1 := kb.cellv i _ (frC_get _ i y hy)
      have z2 := kb.free i
      have HI := Lib.hid hi
      have HX : Hid (f.getD i 0 = x) := Lib.hid (by rw [List.getD_eq_getElem?_getD, hx]; rfl)
      clear hi hx hy hr1 hr2 hc1 hc2
      by_cases hin : 0 ≤ x ∧ x ≤ 1048576
      · obtain ⟨q1, q2⟩ := hin
        have u1 : decide (x < 0) = false := by simp; omega
        have u2 : decide (1048576 < x) = false := by simp; omega
        go_wp2_with fail
        go_region
        go_wp2_with fail
        go_roundw
        case rel =>
          refine ⟨j + 1, by omega, by go_num, Lib.hid (fun q hq => ?_), ka.drew.far hne _, ?_, Lib.hid (own_far (w := wr.drew) HO1.out kb (by decide) _ _), Lib.hid (own_far (w := wr.drew) HO2.out kb (by decide) _ _), hbr.drew.setCell hle _⟩
          · rcases Nat.lt_or_ge q j with h | h
            · exact HR.out q h
            · have : q = j := by omega
              subst this
              exact ⟨i, HI.out, by rw [HX.out]; unfold inB; simp; omega⟩
          · have h := kb.drew.set i (I x)
            rw [frC_set] at h
            rw [cpTo_succ f j i (by rw [HK.out]; exact HI.out), HX.out]
            exact h
        case measure => simp [intOf]; omega
      · have HM : Hid (mayB f = false) := Lib.hid (by
          have h1 : (idx (f.getD 0 0)).all (fun i => inB (f.getD i 0)) = false := by
            rw [List.all_eq_false]
            refine ⟨i, by rw [HK.out]; exact List.mem_of_getElem? HI.out, ?_⟩
            rw [HX.out]; unfold inB; simp; omega
          unfold mayB
          rw [h1, Bool.and_false, Bool.false_and])
        have hor : x < 0 ∨ 1048576 < x := by omega
        clear hin
        rcases hor with h | h
        · have u1 : decide (x < 0) = true := by simp; omega
          go_wp2_with fail
          go_ret
          exact ⟨by rw [HM.out]; rfl, HG.out ▸ hbr⟩
        · have u1 : decide (1048576 < x) = true := by simp; omega
          have u2 : decide (x < 0) = false := by simp; omega
          go_wp2_with fail
          go_ret
          exact ⟨by rw [HM.out]; rfl, HG.out ▸ hbr⟩
    · have hjn : j = (idx k).length := by omega
      have HM : Hid (mayB f = decide (f = cpTo f j)) := Lib.hid (by
        have h1 : (idx (f.getD 0 0)).all (fun i => inB (f.getD i 0)) = true := by
          rw [List.all_eq_true]
          intro i hi
          rw [HK.out] at hi
          obtain ⟨q, hq, rfl⟩ := List.getElem_of_mem hi
          obtain ⟨i', h1, h2⟩ := HR.out q (by omega)
          rw [List.getElem?_eq_getElem hq] at h1
          injection h1 with h1
          rw [h1]; exact h2
        unfold mayB
        rw [h1, HH.out, HK.out, ← hjn]
        rfl)
      have HWc : Hid (Wf (cpTo f j)) := Lib.hid (cpTo_wf HF.out j)
      have HD : Hid (decide (f = cpTo f j) = true ↔ frC f = frC (cpTo f j)) := Lib.hid (by rw [decide_eq_true_eq, frC_inj])
      have hs1 : Hid ((Tryd.prog.info? 40).map (·.size) = some (frC f).size) := Lib.hid (by rw [frC_size _ HF.out.1]; exact infoFrame)
      have hs2 : Hid ((Tryd.prog.info? 40).map (·.size) = some (frC (cpTo f j)).size) := Lib.hid (by rw [frC_size _ (cpTo_length _ _)]; exact infoFrame)
      clear hjn
      generalize cpTo f j = cf at *
      go_wp2_with (first
        | (refine wpList_load_row rfl 40 (.tmp 1) rfl g0 rfl 40 (frC f) (0, 0) _ ka Tryd.underlying40 rfl hs1.out ?_)
        | (refine wpList_load_row rfl 40 (.tmp 3) rfl g1 rfl 40 (frC cf) (0, 0) _ kb Tryd.underlying40 rfl hs2.out ?_)
        | (refine wpList_taken rfl (fun K hK => wp_eql_row 40 40 5 (frC f) (frC cf) (List.replicate 23 (some .i64)) (.tmp 55) (.tmp 56) rfl rfl rfl (by decide) (by kernel_rfl) sigFrame (by kernel_rfl) (by kernel_rfl) (by kernel_rfl) (fit_frame HF.out) (fit_frame HWc.out) _ HD.out (hK _ _ ?_))))
      go_ret
      exact ⟨by rw [HM.out]; rfl, HG.out ▸ hbr⟩
theorem right_ok (f : List Int) (hf : Wf f) (w : World) :
    Calls Tryd.prog 74 #[.agg (frC f)] w fun e w' => e = .returned (.bool (mayB f)) ∧ Below w.heap.size w w' := by
  cases hh : headB f with
  | true => exact right_yes f hf hh w
  | false =>
    have : mayB f = false := by unfold mayB; rw [hh]; rfl
    rw [this]
    exact right_no f hf hh w
end Go.Proofs.YtdhekhlmdefcnaaDoor
