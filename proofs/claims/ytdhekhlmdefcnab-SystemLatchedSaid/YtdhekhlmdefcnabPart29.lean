/- Part 29 of the proof: LatLaw, SystemLatched. -/
import Derived.Test.YtdhekhlmdefcnabPart28
/- DANGER IS FOR GOOD: what a system shows, and a trace that was handed out before. -/
namespace Go.Proofs.Ytdhekhlmdefcnab
open Go.RowKit
theorem msk_low (x : Int) (m n : Nat) (h : n ≤ m) : msk x m % 2 ^ n = msk x n := by
  unfold msk
  have h0 : (0 : Int) < 2 ^ m := Int.pow_pos (by decide)
  have hdvd : (2 : Int) ^ n ∣ 2 ^ m := ⟨2 ^ (m - n), by rw [← Int.pow_add]; congr 1; omega⟩
  have h1 : ((((x % 2 ^ m).toNat % 2 ^ n : Nat)) : Int) = x % 2 ^ n := by
    rw [Int.natCast_emod, Int.toNat_of_nonneg (Int.emod_nonneg _ (Int.ne_of_gt h0))]
    simp only [Int.natCast_pow]
    exact Int.emod_emod_of_dvd x hdvd
  rw [← h1]
  rfl
theorem nb_low {r n : Nat} (p : Int) (hr : r < 2 ^ n) (hn : n ≤ 62) : bits .andNot .i64 (r : Int) p = ((nb r (msk p n) : Nat) : Int) := by
  have h2 : (2 : Nat) ^ n ≤ 2 ^ 62 := Nat.pow_le_pow_right (by decide) hn
  rw [andNot_msk r (by omega) p]
  congr 1
  apply Nat.eq_of_testBit_eq
  intro i
  rw [testBit_nb, testBit_nb]
  by_cases hi : i < n
  · rw [← msk_low p 64 n (by omega), Nat.testBit_mod_two_pow]
    simp [hi]
  · rw [Nat.testBit_lt_two_pow (Nat.lt_of_lt_of_le hr (Nat.pow_le_pow_right (by decide) (by omega)))]
    rfl
theorem heldTo_zero (rs : List Nat) : ∀ k, heldTo rs 0 k = 0
  | 0 => rfl
  | k + 1 => by rw [heldTo, heldTo_zero rs k, Nat.zero_testBit]; rfl
theorem nb_or_zero {a b m : Nat} (h1 : nb a m = 0) (h2 : nb b m = 0) : nb (a ||| b) m = 0 := by
  apply Nat.eq_of_testBit_eq
  intro i
  have e1 := congrArg (fun x => x.testBit i) h1
  have e2 := congrArg (fun x => x.testBit i) h2
  simp only [testBit_nb, Nat.zero_testBit] at e1 e2
  rw [testBit_nb, Nat.testBit_or, Nat.zero_testBit, Bool.and_or_distrib_right, e1, e2]
  rfl
theorem nb_nil (m : Nat) : nb 0 m = 0 := by
  apply Nat.eq_of_testBit_eq
  intro i
  rw [testBit_nb, Nat.zero_testBit]
  rfl
theorem held_nb {rs : List Nat} {o m : Nat} (h : ∀ k, k < rs.length → o.testBit k = true → nb (rt rs k) m = 0) : ∀ k, k ≤ rs.length → nb (heldTo rs o k) m = 0
  | 0, _ => nb_nil m
  | k + 1, hk => by
    have ih := held_nb h k (by omega)
    rw [heldTo]
    split
    · rename_i hb
      exact nb_or_zero ih (h k (by omega) hb)
    · exact ih
/-- what is shown: a number, of routes that do not meet, all of whose sections were seen clear -/
structure ShownOk (L : Lay) (v : Vo) (o : Nat) : Prop where
  eq : voShown v = (o : Int)
  lt : o < 256
  latched : v.latched = true → o = 0
  free : ∀ l, l < L.routes.length → o.testBit l = true → heldTo L.routes o l &&& rt L.routes l = 0
  clear : ∀ cm, v.trace[v.trace.length - 1]? = some cm → nb (heldTo L.routes o L.routes.length) (msk cm.1 L.secs) = 0
theorem shown_zero {L : Lay} {v : Vo} (h : voShown v = 0) : ShownOk L v 0 :=
  ⟨h, by decide, fun _ => rfl, fun l _ h => (by rw [Nat.zero_testBit] at h; cases h), fun cm _ => (by rw [heldTo_zero]; exact nb_nil _)⟩
theorem shown_ok {L : Lay} {ℓ : Nat} {σ : List Sight} {v : Vo} (hL : L.Ok) (h : VoOk L ℓ σ v) : ∃ o, ShownOk L v o := by
  cases hl : v.latched with
  | true => exact ⟨0, shown_zero (by unfold voShown; rw [hl]; rfl)⟩
  | false =>
    cases hc : v.trace[v.trace.length - 1]? with
    | none => exact ⟨0, shown_zero (by unfold voShown; rw [hl, List.getLast?_eq_getElem?, hc]; rfl)⟩
    | some cm =>
      have e := shown_good h hl hc
      obtain ⟨hI, hS⟩ := fold_inv (L := L) (t := v.trace) (v.trace.length - 1)
      generalize foldN L v.trace (v.trace.length - 1) = s at *
      have hs := fun j (hj : j < L.routes.length) => step_safe (c := cm.1) (w := cm.2.1) hI hS (j := j) (r := rt L.routes j) (by
        unfold rt; rw [List.getD_eq_getElem?_getD, List.getElem?_eq_getElem hj]; rfl)
      have hI' := (step_inv (cl := msk cm.1 L.secs) (wa := msk cm.2.1 L.routes.length) hI hS).1
      have hsub : ∀ i, (step L cm.1 cm.2.1 s).2.testBit i = true → (step L cm.1 cm.2.1 s).1.set.testBit i = true := fun i hi => by
        have hlt : i < L.routes.length := by
          rcases Nat.lt_or_ge i L.routes.length with h1 | h1
          · exact h1
          · have hp : (step L cm.1 cm.2.1 s).2 < 2 ^ L.routes.length := outTo_pow _ _ _ _ _
            rw [Nat.testBit_lt_two_pow (Nat.lt_of_lt_of_le hp (Nat.pow_le_pow_right (by decide) h1))] at hi
            cases hi
        exact (hs i hlt).out1 hi
      refine ⟨(step L cm.1 cm.2.1 s).2, e, outTo_lt _ _ _ _ _ hL.many2, fun h => (by rw [hl] at h; cases h), fun l hl' hb => ?_, fun cm' hcm => ?_⟩
      · exact held_free (inv_sub hI' hsub) l hl' hb l (Nat.le_refl _)
      · rw [hc] at hcm
        injection hcm with hcm
        subst hcm
        exact held_nb (fun k hk hb => (hs k hk).out3 hb) _ (Nat.le_refl _)
/-- a trace that was handed out, in blocks that nobody turns -/
def WasAt (w : World) (y : TaX) (v : Value) (t : List Cm) : Prop := ∃ A c, v = .slice A t.length c ∧ ∀ i cm, t[i]? = some cm → ∃ b, A = some ⟨b, 0, none⟩ ∧ b < w.heap.size ∧ ¬ FA y b ∧ w.cell? ⟨b, i * 3, none⟩ = some (I cm.1) ∧ w.cell? ⟨b, i * 3 + 1, none⟩ = some (I cm.2.1) ∧ w.cell? ⟨b, i * 3 + 2, none⟩ = some (I cm.2.2)
section
variable {w w' w1 : World} {B : Nat} {y y' : TaX} {L : Lay} {ℓ : Nat} {Ta : Tale} {T : Nat} {v : Value} {t : List Cm}
theorem WasAt.nil (w : World) (y : TaX) : WasAt w y (.slice none 0 0) [] := ⟨none, 0, rfl, fun i cm h => by simp at h⟩
theorem TaAt.fa_lt (h : TaAt w B y L ℓ Ta) {b : Nat} (e : FA y b) : b < w.heap.size := by
  rcases e with e | e | e
  · exact h.sys.lt e
  · rw [e]; exact h.has.lt
  · obtain ⟨_, cur, hh⟩ := own_block h.seen e
    exact hh.lt
theorem WasAt.moved (h : WasAt w y v t) (m : AMoved w w' y y') : WasAt w' y' v t := by
  obtain ⟨A, c, e, hg⟩ := h
  refine ⟨A, c, e, fun i cm hi => ?_⟩
  obtain ⟨b, e1, e2, e3, e4, e5, e6⟩ := hg i cm hi
  have hb : ∀ k, w'.cell? ⟨b, k, none⟩ = w.cell? ⟨b, k, none⟩ := fun k => m.turned.cellT e3 e2
  refine ⟨b, e1, Nat.lt_of_lt_of_le e2 m.turned.size, fun hf => ?_, (hb _).trans e4, (hb _).trans e5, (hb _).trans e6⟩
  rcases m.blocks b hf with h1 | h1
  · exact e3 h1
  · omega
theorem WasAt.after (h : WasAt w y v t) (hb : Below w.heap.size w w') : WasAt w' y v t := h.moved (AMoved.of_below hb)
theorem WasAt.new (h : TaAt w B y L ℓ Ta) (_hb : Below w.heap.size w w') (ho : w'.ownsRow w.heap.size 50 3 v t.length (cmsC t)) : WasAt w' y v t := by
  obtain ⟨A, c, e, _, hg⟩ := own_cms ho
  refine ⟨A, c, e, fun i cm hi => ?_⟩
  obtain ⟨b, e1, e2, e4, e5, e6⟩ := hg i cm hi
  refine ⟨b, e1, e2, fun hf => ?_, e4, e5, e6⟩
  have h1 : w.heap.size ≤ b := (own_block ho (by rw [e, e1]; rfl)).1
  have := h.fa_lt hf
  omega
end
end Go.Proofs.Ytdhekhlmdefcnab
/- The walk over SystemLatched: danger is for good. -/
namespace Go.Proofs.Ytdhekhlmdefcnab
open Go.RowKit
section
variable {w : World}
set_option maxHeartbeats 8000000 in
set_option maxRecDepth 100000 in
theorem latched_any (a d : Int) (A : Option Addr) (c : Nat) (xs : List Int) (win liar : Int) (A2 : Option Addr) (c2 : Nat) (l : List Stp) (w : World) (hr : Reads w w.heap.size A (ints xs)) (hs : StepsAt w w.heap.size A2 l) :
    Calls Try.prog 4 #[I a, I d, .slice A xs.length c, I win, I liar, .slice A2 l.length c2] w fun e w' => e = .returned (.bool true) ∧ Below w.heap.size w w' := by
  have HFT := Lib.hid (fits_ok A2 c2 l hs)
  by_cases hx : 30 < xs.length
  · have hxi : (30 : Int) < (xs.length : Int) := by omega
    clear hx
    go_enter Try.func4, Try.ntmps4
    go_wp2
    go_ret
    exact ⟨rfl, Below.refl _ _⟩
  · have hxi : ¬ (30 : Int) < (xs.length : Int) := by omega
    have HX := Lib.hid hx
    cases hfb : fitsB l with
    | false =>
      rw [hfb] at HFT
      clear hfb hx
      go_enter Try.func4, Try.ntmps4
      go_wp2_with (go_at_call 7; refine HFT.out.mono ?_; rintro e w' ⟨rfl, he⟩; cases he)
      go_ret
      exact ⟨rfl, Below.refl _ _⟩
    | true =>
      obtain ⟨hl, hby⟩ := fitsB_of hfb
      rw [hfb] at HFT
      obtain ⟨N, hN⟩ : ∃ N, N = 1200 := ⟨_, rfl⟩
      have HN := Lib.hid hN
      have HR := Lib.hid hr
      have HST := Lib.hid hs
      have HBY := Lib.hid hby
      have hp4 := pkN_lt liar (n := 4) (by decide)
      clear hfb hx hN hr hs hby
      go_enter Try.func4, Try.ntmps4
      go_upto_region 8 with (first
        | (go_at_call 7; refine HFT.out.mono ?_; rintro e w' ⟨rfl, he⟩; cases he)
        | (go_at_call 8; refine (ran_ok w).mono ?_; rintro e w1 ⟨rfl, hb1⟩; have HB1 := Lib.hid hb1; clear hb1)
        | (go_at_call 9; refine (tells_ok a d A c xs win liar (by have := HX.out; omega) ((HR.out.below HB1.out).more HB1.out.size)).mono ?_; rintro e w2 ⟨⟨y, L, wi, hL, hw1, hw2, rfl, hta, hgy⟩, hb2⟩; have HTA := Lib.hid hta; have HB2 := Lib.hid (HB1.out.trans (hb2.mono HB1.out.size)); have hB12 := HB1.out.size; clear hta hb2 HB1))
      have HT0 : Hid (TaAt w2 w1.heap.size y L (pkN liar 4) (taleTo L (pkN liar 4) N wi l 0)) := HTA
      have HW0 : Hid (WasAt w2 y (.slice none 0 0) (taleTo L (pkN liar 4) N wi l 0).s.v.trace) := Lib.hid (WasAt.nil _ _)
      have hl0 : Hid (false = (taleTo L (pkN liar 4) N wi l 0).s.v.latched) := Lib.hid rfl
      clear HTA HFT HR
      have hℓ : pkN liar 4 ≤ 3 := by omega
      generalize pkN liar 4 = ℓ at *
      generalize w1.heap.size = b1 at *
      go_wp2_with fail
      go_loopw [14, 15, 16] (fun lv wv iv wr => ∃ i : Nat, i ≤ l.length ∧ iv = I i ∧ lv = .bool (taleTo L ℓ N wi l i).s.v.latched ∧ ∃ y', Hid (TaAt wr b1 y' L ℓ (taleTo L ℓ N wi l i)) ∧ Hid (y'.g = y.g) ∧ Hid (WasAt wr y' wv (taleTo L ℓ N wi l i).s.v.trace) ∧ Hid (Below w.heap.size w wr)) (fun _ _ iv _ => l.length - (intOf iv).toNat)
      case atStart => exact ⟨0, Nat.zero_le _, rfl, by rw [← hl0.out], y, HT0, Lib.hid rfl, HW0, HB2⟩
      case round =>
        clear HT0 HB2 HW0 hl0
        obtain ⟨i, hi, rfl, rfl, y1, HT, HG, HW, HB⟩ := hrel
        by_cases hlt : i < l.length
        · obtain ⟨x, hx⟩ := some_at l i hlt
          obtain ⟨b, o, A', c', rfl, hbb, hrg, hwf, hc1, hc2, hcl, hrd⟩ := (HST.out.below HB.out) i x hx
          obtain ⟨hfi, hsn⟩ := taleTo_fine (ℓ := ℓ) hL HN.out hℓ hw1 hw2 HST.out.nums i hi
          obtain ⟨hfi2, hsn2⟩ := taleTo_fine (ℓ := ℓ) hL HN.out hℓ hw1 hw2 HST.out.nums (i + 1) hlt
          have hup := does_up L ℓ N (taleTo L ℓ N wi l i) x
          rw [← taleTo_succ hx] at hup
          obtain ⟨o', hso⟩ := shown_ok hL (taleTo_ok (ℓ := ℓ) (N := N) (wi := wi) (l := l) hL (i + 1)).sys.voter
          have hbl := HBY.out x (List.mem_of_getElem? hx)
          have hcall := ta_does N HN.out HT.out hfi hL (by omega) (by omega) hℓ x hwf A' c' hcl ((hrd.more hB12)) (by omega)
          rw [HG.out, ← taleTo_succ hx] at hcall
          have HCL := Lib.hid hcall
          have HRG := Lib.hid hrg
          have hsI : Hid ((Try.prog.info? 38).map (·.size) = some (stpC x (.slice A' x.bytes.length c')).toList.length) := Lib.hid (by rw [stpC_size hwf.1]; exact infoStp)
          have hii : (i : Int) < (l.length : Int) := by omega
          have HLT := Lib.hid hlt
          have hmany : (taleTo L ℓ N wi l (i + 1)).s.v.trace.length ≤ 1000 := hfi2.vo.many
          have HMANY := Lib.hid hmany
          have HSO := Lib.hid hso
          clear hcall hx hbb hrg hwf hc1 hc2 hcl hrd hfi hsn hbl hlt hi hfi2 hsn2 hmany
          generalize taleTo L ℓ N wi l i = Ta at *
          generalize hTb : taleTo L ℓ N wi l (i + 1) = Tb at *
          have HTB := Lib.hid hTb
          clear hTb
          obtain ⟨hpre, hlat⟩ := hup
          have hlen : Ta.s.v.trace.length ≤ Tb.s.v.trace.length := hpre.length_le
          have HPRE := Lib.hid hpre
          have HLAT := Lib.hid hlat
          clear hpre hlat
          obtain ⟨AW, cW, rfl, hwas⟩ := HW.out
          go_upto_region 14 with (first
            | (refine wpList_load_mid rfl 38 (.tmp 50) rfl b (o + i * 29) rfl (stpC x (.slice A' x.bytes.length c')).toList _ HRG.out Try.underlying38 rfl hsI.out ?_)
            | (go_at_call 10; refine HCL.out.mono ?_; rintro e wb ⟨rfl, y2, hy2, hm2⟩; have HT2 := Lib.hid hy2; have HG2 := Lib.hid (hm2.same.trans HG.out); have HW2 := Lib.hid (HW.out.moved hm2); have HBB := Lib.hid (HB.out.trans ((hm2.below HT.out).mono hB12)); clear hy2 hm2))
          clear HCL HRG hsI HW HB HT hwas
          have s0 := HT2.out.scell
          rw [HG2.out] at s0
          have hgy2 : y.g < wb.heap.size := by rw [← HG2.out]; exact HT2.out.has.lt
          have HTR := Lib.hid (sy_trace HT2.out.sys HMANY.out)
          go_upto_region 15 with (go_at_call 12; refine HTR.out.mono ?_; rintro e w3 ⟨⟨vr, rfl, ho⟩, hb3⟩; have HW3 := Lib.hid (HW2.out.after hb3); have HN3 := Lib.hid (WasAt.new HT2.out hb3 ho); have HT3 := Lib.hid (HT2.out.after hb3); have HB3 := Lib.hid (HBB.out.trans (hb3.mono HBB.out.size)); clear hb3 ho)
          clear HW2 HBB HTR s0 HT2 hgy2
          have s0 := HT3.out.scell
          rw [HG2.out] at s0
          have hgy3 : y.g < w3.heap.size := by rw [← HG2.out]; exact HT3.out.has.lt
          have HS0 := Lib.hid s0
          have HGY := Lib.hid hgy3
          clear s0 hgy3
          obtain ⟨AN, cN, rfl, hnow⟩ := HN3.out
          have HNOW := Lib.hid hnow
          clear hnow
          have hnl : ¬ (Tb.s.v.trace.length : Int) < (Ta.s.v.trace.length : Int) := by omega
          generalize hlb : Ta.s.v.latched = lb at *
          have HLB := Lib.hid hlb
          clear hlb
          go_cut [80] (fun s80 wx => s80 = .bool false ∧ w3 = wx)
          case first =>
            have s0 := HS0.out
            have hgy3 := HGY.out
            cases lb with
            | true =>
              obtain ⟨q1, q2⟩ := HLAT.out rfl
              have hne : ((Tb.s.v.trace.length : Int) != (Ta.s.v.trace.length : Int)) = false := by rw [q2]; simp
              clear q2
              go_wp2_with (go_at_call 13; refine (sy_latched HT3.out.sys).mono ?_; rintro e w' ⟨rfl, he⟩; cases he; rw [q1])
              go_meet
              case rel => exact ⟨by first | rfl | (rw [decide_eq_false (by omega)]), rfl⟩
            | false =>
              go_wp2_with fail
              go_meet
              case rel => exact ⟨by first | rfl | (rw [decide_eq_false (by omega)]), rfl⟩
          case rest =>
            obtain ⟨rfl, rfl⟩ := hcut
            clear HLAT
            go_wp2_with fail
            go_loopw [18] (fun kv wr => ∃ k nq : Nat, k ≤ Ta.s.v.trace.length ∧ kv = I k ∧ wr = w3.drewN nq) (fun kv _ => Ta.s.v.trace.length - (intOf kv).toNat)
            case atStart => exact ⟨0, 0, Nat.zero_le _, rfl, rfl⟩
            case round =>
              obtain ⟨k, nq, hk, rfl, rfl⟩ := hrel
              by_cases hkl : k < Ta.s.v.trace.length
              · obtain ⟨cm, hcm⟩ := some_at Ta.s.v.trace k hkl
                have hcm2 : Tb.s.v.trace[k]? = some cm := by
                  obtain ⟨t2, e⟩ := HPRE.out
                  rw [← e, List.getElem?_append_left hkl]
                  exact hcm
                have HW3' := HW3.out
                obtain ⟨AW', cW', eW, hwas⟩ := HW3'
                injection eW with eW1 _ eW2
                subst eW1 eW2
                obtain ⟨bw, rfl, hbw, _, p0, p1, p2⟩ := hwas k cm hcm
                obtain ⟨bn, rfl, hbn, _, n0, n1, n2⟩ := HNOW.out k cm hcm2
                have hki : (k : Int) < (Ta.s.v.trace.length : Int) := by omega
                have hki2 : (k : Int) < (Tb.s.v.trace.length : Int) := by omega
                have HKL := Lib.hid hkl
                have hkb : k ≤ 1000 := by have := HMANY.out; omega
                clear hwas hcm hcm2 hkl hk hnl
                go_wp2_with fail
                go_quiet (fail)
                go_wp2_with fail
                go_roundw
                case rel => exact ⟨k + 1, _, HKL.out, by go_num, rfl⟩
                case measure => have := HKL.out; simp [intOf]; omega
              · have hki : ¬ (k : Int) < (Ta.s.v.trace.length : Int) := by omega
                clear hkl hk
                have s0 : (w3.drewN nq).cell? ⟨y.g, 0, none⟩ = some (.pointer (some ⟨y2.x.g, 0, none⟩)) := HS0.out
                have hgy3 : y.g < (w3.drewN nq).heap.size := HGY.out
                have HT4 := Lib.hid (HT3.out.after (below_drewN (Below.refl _ _) nq))
                have HN4 := Lib.hid (HN3.out.after (below_drewN (Below.refl _ _) nq))
                have HB4 := Lib.hid (below_drewN HB3.out nq)
                clear HT3 HN3 HB3 HW3 HS0 HGY HNOW HPRE hnl
                generalize w3.drewN nq = w4 at *
                go_upto_region 24 with (first
                  | (go_at_call 13; refine (sy_latched HT4.out.sys).mono ?_; rintro e w' ⟨rfl, he⟩; cases he)
                  | (go_at_call 14; refine (sy_shown HT4.out.sys HMANY.out).mono ?_; rintro e w' ⟨rfl, n5, rfl⟩; rw [HSO.out.eq]))
                have HT5 := Lib.hid (HT4.out.after (below_drewN (Below.refl _ _) n5))
                have HN5 := Lib.hid (HN4.out.after (below_drewN (Below.refl _ _) n5))
                have HB5 := Lib.hid (below_drewN HB4.out n5)
                clear HT4 HN4 HB4 s0 hgy3
                generalize w4.drewN n5 = w5 at *
                generalize hlb2 : Tb.s.v.latched = lb2 at *
                have HLB2 := Lib.hid hlb2
                clear hlb2
                have hzo : lb2 = true → o' = 0 := fun e => HSO.out.latched (by rw [HLB2.out]; exact e)
                go_cut [111] (fun s111 wx => s111 = .bool false ∧ w5 = wx)
                case first =>
                  cases lb2 with
                  | true =>
                    have ho0 := hzo rfl
                    clear hzo
                    subst ho0
                    go_wp2_with fail
                    go_meet
                    case rel => exact ⟨by rfl, rfl⟩
                  | false =>
                    go_wp2_with fail
                    go_meet
                    case rel => exact ⟨by rfl, rfl⟩
                case rest =>
                  obtain ⟨rfl, rfl⟩ := hcut
                  obtain ⟨AL, cL, hvr, _, _, _, hrl⟩ := own_read HT5.out.routes
                  have d2 := HT5.out.has.cellv 2 y2.vr rfl
                  rw [hvr, HG2.out] at d2
                  have hgy5 : y.g < w5.heap.size := by rw [← HG2.out]; exact HT5.out.has.lt
                  have hoo := HSO.out.lt
                  clear hvr hzo
                  go_wp2_with fail
                  go_loopw [20, 21] (fun hv jv wr => ∃ (j nq : Nat), j ≤ L.routes.length ∧ jv = I j ∧ hv = I (heldTo L.routes o' j) ∧ wr = w5.drewN nq) (fun _ jv _ => L.routes.length - (intOf jv).toNat)
                  case atStart => exact ⟨0, 0, Nat.zero_le _, rfl, rfl, rfl⟩
                  case round =>
                    obtain ⟨j, nq, hj, rfl, rfl, rfl⟩ := hrel
                    have hn8 := hL.many2
                    have hs12 := hL.secs2
                    by_cases hjl : j < L.routes.length
                    · obtain ⟨r, hr⟩ := some_at L.routes j hjl
                      obtain ⟨br, or', rfl, hbr', hcell⟩ := hrl.at_ (zs_some hr)
                      have hr4 : r < 4096 := hL.small r (List.mem_of_getElem? hr)
                      have hh4 : heldTo L.routes o' j < 4096 := Nat.lt_of_lt_of_le (heldTo_lt L.routes o' L.secs hL.high j (by omega)) (Nat.pow_le_pow_right (n := 2) (by decide) hs12)
                      have hrt : rt L.routes j = r := getD_of hr
                      have HH : Hid (heldTo L.routes o' (j + 1) = if o'.testBit j then heldTo L.routes o' j ||| r else heldTo L.routes o' j) := Lib.hid (by rw [heldTo, hrt])
                      have tO1 := bit_eq1 o' j (by omega)
                      have hfree := HSO.out.free j hjl
                      rw [hrt] at hfree
                      have HJL := Lib.hid hjl
                      have hji : (j : Int) < (L.routes.length : Int) := by omega
                      clear hr hrt hjl hj
                      generalize heldTo L.routes o' j = hd at *
                      cases hO : o'.testBit j with
                      | true =>
                        rw [hO] at tO1
                        have HO := Lib.hid hO
                        have tH : (bits .and .i64 (hd : Int) (r : Int) != 0) = false := by rw [and_i64 _ _ (by omega) (by omega), hfree hO]; rfl
                        clear hO hfree
                        go_wp2_with fail
                        go_roundw
                        case rel => exact ⟨j + 1, _, HJL.out, by go_num, I_eq (by rw [HH.out, if_pos HO.out, or_i64 _ _ (by omega) (by omega)]), rfl⟩
                        case measure => have := HJL.out; simp [intOf]; omega
                      | false =>
                        rw [hO] at tO1
                        have HO : Hid (¬ o'.testBit j = true) := Lib.hid (by rw [hO]; simp)
                        clear hO hfree
                        go_wp2_with fail
                        go_roundw
                        case rel => exact ⟨j + 1, _, HJL.out, by go_num, I_eq (by rw [HH.out, if_neg HO.out]), rfl⟩
                        case measure => have := HJL.out; simp [intOf]; omega
                    · have hjn : j = L.routes.length := by omega
                      subst hjn
                      have HT6 := Lib.hid (HT5.out.after (below_drewN (Below.refl _ _) nq))
                      have HN6 := Lib.hid (HN5.out.after (below_drewN (Below.refl _ _) nq))
                      have HB6 := Lib.hid (below_drewN HB5.out nq)
                      have hji : ¬ (L.routes.length : Int) < (L.routes.length : Int) := by omega
                      have d6 : (w5.drewN nq).cell? ⟨y.g, 2, none⟩ = some (.slice AL L.routes.length cL) := d2
                      have hgy6 : y.g < (w5.drewN nq).heap.size := hgy5
                      clear HT5 HN5 HB5 hrl d2 hgy5 hjl hj
                      generalize w5.drewN nq = w6 at *
                      by_cases hn0 : Tb.s.v.trace.length = 0
                      · have hni : ¬ (0 : Int) < (Tb.s.v.trace.length : Int) := by omega
                        clear hn0
                        go_wp2_with fail
                        go_roundw
                        case rel => exact ⟨i + 1, HLT.out, by go_num, by rw [HTB.out, HLB2.out], y2, by rw [HTB.out]; exact HT6, HG2, by rw [HTB.out]; exact HN6, HB6⟩
                        case measure => have := HLT.out; simp [intOf]; omega
                      · obtain ⟨cm, hcm⟩ := some_at Tb.s.v.trace (Tb.s.v.trace.length - 1) (by omega)
                        have hcl := HSO.out.clear cm hcm
                        have hN6 := HN6.out
                        obtain ⟨AN', cN', eN, hnow⟩ := hN6
                        injection eN with eN1 _ eN2
                        subst eN1 eN2
                        obtain ⟨bn, rfl, hbn, _, n0, _, _⟩ := hnow _ cm hcm
                        have hhl : heldTo L.routes o' L.routes.length < 2 ^ L.secs := heldTo_lt L.routes o' L.secs hL.high _ (Nat.le_refl _)
                        have tF : (bits .andNot .i64 (heldTo L.routes o' L.routes.length : Int) cm.1 != 0) = false := by rw [nb_low cm.1 hhl (by omega), hcl]; rfl
                        have hni : (0 : Int) < (Tb.s.v.trace.length : Int) := by omega
                        have hmb := HMANY.out
                        have hsub : wrap64 ((Tb.s.v.trace.length : Int) - 1) = ((Tb.s.v.trace.length - 1 : Nat) : Int) := by unfold wrap64; omega
                        have hlt1 : ((Tb.s.v.trace.length - 1 : Nat) : Int) < (Tb.s.v.trace.length : Int) := by omega
                        clear hnow hcm hcl hhl hn0
                        go_wp2_with fail
                        go_roundw
                        case rel => exact ⟨i + 1, HLT.out, by go_num, by rw [HTB.out, HLB2.out], y2, by rw [HTB.out]; exact HT6, HG2, by rw [HTB.out]; exact HN6, HB6⟩
                        case measure => have := HLT.out; simp [intOf]; omega
        · have hii : ¬ (i : Int) < (l.length : Int) := by omega
          clear hlt
          go_wp2
          go_ret
          exact ⟨rfl, HB.out⟩
end
end Go.Proofs.Ytdhekhlmdefcnab
