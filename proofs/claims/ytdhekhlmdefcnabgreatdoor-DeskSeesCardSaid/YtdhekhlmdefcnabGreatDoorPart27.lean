/- Part 27 of the proof: VoTake2, SyMem. -/
import Derived.Test.YtdhekhlmdefcnabGreatDoorPart22
import Derived.Test.YtdhekhlmdefcnabGreatDoorPart26
import Derived.Test.YtdhekhlmdefcnabGreatDoorPart17
import Derived.Deep.RegionWith
import Derived.Deep.MidRow
namespace Go.Proofs.YtdhekhlmdefcnabGreatDoor
open Go.RowKit
theorem vote_one (p0 p1 p2 : Int) : (#[I p0, I p1, I p2, .bool true] : Array Value).all (·.oneCell') = true := all_oneCell_toArray (cs := [I p0, I p1, I p2, .bool true]) (by intro v hv; simp at hv; rcases hv with rfl | rfl | rfl | rfl <;> rfl)
theorem infoVote : (Tryz.prog.info? 91).map (·.size) = some 4 := by kernel_rfl
section
variable {w : World} {B g : Nat} {vt : Value} {v : Vo}
set_option maxHeartbeats 4000000 in
set_option maxRecDepth 100000 in
theorem vo_take (h : VoAt w B g vt v) (hw : v.Wf) (hB : B ≤ w.heap.size) (f : List Int) (hf : Wf f) : Calls Tryz.prog 73 #[.pointer (some ⟨g, 0, none⟩), .agg (frC f)] w fun e w' =>
    (∃ x, e = .returned (.tuple #[x, .bool (voTake v f).2.2]) ∧ FramesAt w' w.heap.size x (voTake v f).2.1) ∧
    (∃ vt', VoAt w' B g vt' (voTake v f).1 ∧ (vt'.ownBlock = vt.ownBlock ∨ ∃ b, w.heap.size ≤ b ∧ vt'.ownBlock = some b)) ∧ Turned (FV g vt) w w' := by
  obtain ⟨k, hk⟩ := some_at f 0 (by rw [hf.1]; decide)
  obtain ⟨j, hj⟩ := some_at f 1 (by rw [hf.1]; decide)
  obtain ⟨cy, hcy⟩ := some_at f 2 (by rw [hf.1]; decide)
  obtain ⟨p0, hp0⟩ := some_at f 3 (by rw [hf.1]; decide)
  obtain ⟨p1, hp1⟩ := some_at f 4 (by rw [hf.1]; decide)
  obtain ⟨p2, hp2⟩ := some_at f 5 (by rw [hf.1]; decide)
  have HK : Hid (f.getD 0 0 = k) := Lib.hid (getDi hk)
  have HJ : Hid (f.getD 1 0 = j) := Lib.hid (getDi hj)
  have HC : Hid (f.getD 2 0 = cy) := Lib.hid (getDi hcy)
  have HP : Hid (cmOf f = (p0, p1, p2)) := Lib.hid (by unfold cmOf; rw [getDi hp0, getDi hp1, getDi hp2])
  have kb := Has.new w 110 (frC f)
  have h1 := h.after ((Below.refl w.heap.size w).alloc (Nat.le_refl _) (.cells (frC f) 110))
  have ht1 : Turned (FV g vt) w (w.alloc (.cells (frC f) 110)) := (Turned.refl (FV g vt) w).alloc _
  have HT1 := Lib.hid ht1
  have H1 := Lib.hid h1
  have HW := Lib.hid hw
  have hgl := h1.has.lt
  have a0 := kb.cellv 0 _ (frC_get f 0 k hk)
  have a1 := kb.cellv 1 _ (frC_get f 1 j hj)
  have a2 := kb.cellv 2 _ (frC_get f 2 cy hcy)
  have a3 := kb.cellv 3 _ (frC_get f 3 p0 hp0)
  have a4 := kb.cellv 4 _ (frC_get f 4 p1 hp1)
  have a5 := kb.cellv 5 _ (frC_get f 5 p2 hp2)
  have X0 := Lib.hid (frC_get f 0 k hk)
  have X1 := Lib.hid (frC_get f 1 j hj)
  have X2 := Lib.hid (frC_get f 2 cy hcy)
  have X3 := Lib.hid (frC_get f 3 p0 hp0)
  have X4 := Lib.hid (frC_get f 4 p1 hp1)
  have X5 := Lib.hid (frC_get f 5 p2 hp2)
  have c13 := h1.has.cellv 13 (I (v.out : Int)) rfl
  have hj64 := (hf.2 j (List.mem_of_getElem? hj))
  have hout := hw.out
  clear hk hj hcy hp0 hp1 hp2 h h1 ht1 hw hf
  go_enter Tryz.func73, Tryz.ntmps73
  go_upto_region 1 with (fail)
  generalize w.alloc (.cells (frC f) 110) = w1 at *
  generalize hG : w.heap.size = g0 at *
  have HG := Lib.hid hG
  clear hG
  have HE : Hid (voHears v f = ((decide (k = 2) || decide (k = 4)) && decide (0 ≤ j) && decide (j < 3) && decide (0 ≤ cy) && !v.out.testBit j.toNat)) := Lib.hid (by unfold voHears; rw [HK.out, HJ.out, HC.out])
  go_cut [42] (fun s42 wx => s42 = .bool (!voHears v f) ∧ Hid (∃ q, w1.drewN q = wx))
  case first =>
    by_cases hk2 : k = 2 ∨ k = 4
    · by_cases hj0 : j < 0
      · have HN : Hid (voHears v f = false) := Lib.hid (by rw [HE.out]; have : ¬ 0 ≤ j := by omega
                                                           simp [this])
        rcases hk2 with rfl | rfl
        all_goals
          go_quiet (fail)
          go_wp2_with fail
          go_meet
          case rel => exact ⟨by rw [HN.out]; rfl, Lib.hid ⟨_, rfl⟩⟩
      · by_cases hj3 : 3 ≤ j
        · have HN : Hid (voHears v f = false) := Lib.hid (by rw [HE.out]; have : ¬ j < 3 := by omega
                                                             simp [this])
          rcases hk2 with rfl | rfl
          all_goals
            go_quiet (fail)
            go_wp2_with fail
            go_meet
            case rel => exact ⟨by rw [HN.out]; rfl, Lib.hid ⟨_, rfl⟩⟩
        · by_cases hc0 : cy < 0
          · have HN : Hid (voHears v f = false) := Lib.hid (by rw [HE.out]; have : ¬ 0 ≤ cy := by omega
                                                               simp [this])
            rcases hk2 with rfl | rfl
            all_goals
              go_quiet (fail)
              go_wp2_with fail
              go_meet
              case rel => exact ⟨by rw [HN.out]; rfl, Lib.hid ⟨_, rfl⟩⟩
          · obtain ⟨J, rfl⟩ : ∃ J : Nat, j = (J : Int) := ⟨j.toNat, by omega⟩
            have HN : Hid (voHears v f = !v.out.testBit J) := Lib.hid (by
              rw [HE.out]
              have h1 : (0 : Int) ≤ (J : Int) := by omega
              have h2 : (J : Int) < 3 := by omega
              have h3 : 0 ≤ cy := by omega
              rcases hk2 with h | h <;> simp [h, h2, h3])
            have hb := bit_eq1 v.out J (by omega)
            cases hbb : v.out.testBit J
            all_goals
              rw [hbb] at hb HN
              clear hbb
              rcases hk2 with rfl | rfl
              all_goals
                go_quiet (fail)
                go_wp2_with fail
                go_meet
                case rel => exact ⟨by rw [HN.out]; rfl, Lib.hid ⟨_, rfl⟩⟩
    · have HN : Hid (voHears v f = false) := Lib.hid (by
        rw [HE.out]
        have h2 : ¬ k = 2 := fun h => hk2 (.inl h)
        have h4 : ¬ k = 4 := fun h => hk2 (.inr h)
        simp [h2, h4])
      have n2 : (k != 2) = true := by simpa using fun h => hk2 (.inl h)
      have n4 : (k != 4) = true := by simpa using fun h => hk2 (.inr h)
      clear hk2
      go_quiet (fail)
      go_wp2_with fail
      go_meet
      case rel => exact ⟨by rw [HN.out]; rfl, Lib.hid ⟨_, rfl⟩⟩
  case rest =>
    obtain ⟨rfl, hq⟩ := hcut
    obtain ⟨q, rfl⟩ := hq.out
    have H2 : Hid (VoAt (w1.drewN q) B g vt v) := Lib.hid (H1.out.turned ((Turned.refl (fun _ => False) w1).drewN q) (fun _ _ h => h))
    have HT2 := Lib.hid (HT1.out.drewN q)
    have kb2 := kb.drewN q
    have hg2 := kb2.lt
    clear hq H1 HT1 kb a0 a1 a2 a3 a4 a5 c13 HE hgl
    generalize w1.drewN q = w2 at *
    cases hh : voHears v f with
    | false =>
      have HE := Lib.hid (take_no hh)
      clear hh
      go_wp2
      go_ret2
      rw [HG.out, HE.out]
      exact ⟨⟨_, rfl, framesAt_nil _ _⟩, ⟨vt, H2.out, .inl rfl⟩, HT2.out⟩
    | true =>
      have hh2 := hh
      unfold voHears at hh2
      rw [and5, HK.out, HJ.out, HC.out] at hh2
      obtain ⟨hk2, hj0, hj3, hc0, _⟩ := hh2
      simp only [Bool.or_eq_true, decide_eq_true_eq] at hk2 hj0 hj3 hc0
      obtain ⟨J, rfl⟩ : ∃ J : Nat, j = (J : Int) := ⟨j.toNat, by omega⟩
      obtain ⟨C, rfl⟩ : ∃ C : Nat, cy = (C : Int) := ⟨cy.toNat, by omega⟩
      have HH := Lib.hid hh
      have hn1000 := HW.out.many
      obtain ⟨A, c, hvt, hcc, hget⟩ := H2.out.slice
      have HVT := Lib.hid hvt
      have b0 : w2.cell? ⟨g, 0, none⟩ = some (.slice A v.trace.length c) := by rw [← hvt]; exact H2.out.has.cellv 0 _ rfl
      have b16 := H2.out.has.cellv 16 (.bool v.latched) rfl
      have x0 := kb2.cellv 0 (I k) X0.out
      have x2 := kb2.cellv 2 (I (C : Int)) X2.out
      clear hget hvt hj0 hc0 hj64 hout hh
      by_cases hlast : C + 1 = v.trace.length
      · have HE := Lib.hid (take_last HH.out HC.out hlast)
        have ht : ((C : Int) == (v.trace.length : Int) - 1) = true := by simp; omega
        have HD := Lib.hid (vo_done H2.out C (by omega))
        have HF9 : Hid ((frC (voDone v C)).size = 23) := Lib.hid (frC_size _ rfl)
        clear hlast
        generalize v.trace.length = n at *
        go_wp2_with (first
          | (go_at_call 109; refine HD.out.mono ?_; rintro e wd ⟨rfl, hbd⟩)
          | (refine wpList_frames1 rfl (.tmp 57) rfl (frC (voDone v C)) rfl HF9.out ?_))
        go_ret2
        have hbd2 := hbd.alloc hbd.size (.cells (frC (voDone v C)) 110)
        rw [HG.out, HE.out]
        exact ⟨⟨_, rfl, .inr ⟨_, rfl, by have := hbd.size; have := HT2.out.size; have := HG.out; omega, by rw [frsC_one]; exact Has.new _ _ _⟩⟩, ⟨vt, H2.out.after hbd2, .inl rfl⟩, HT2.out.thenBelow hbd2⟩
      · by_cases hold : C + 1 < v.trace.length
        · have HE := Lib.hid (take_old HH.out HC.out hold)
          obtain ⟨m, hm⟩ : ∃ m, v.trace.length = m + 1 := ⟨v.trace.length - 1, by omega⟩
          have ht : ((C : Int) == (m : Int)) = false := by simp; omega
          have ht2 : (C : Int) < (m : Int) + 1 := by omega
          have HD := Lib.hid (fun w' (h' : VoAt w' B g vt v) => vo_done h' C (by omega))
          have HD2 := Lib.hid (fun w' (h' : VoAt w' B g vt v) => vo_done h' m (by omega))
          have HF9 : Hid ((frC (voDone v C)).size = 23) := Lib.hid (frC_size _ rfl)
          have HF8 : Hid ((frC (voDone v m)).size = 23) := Lib.hid (frC_size _ rfl)
          rw [hm] at b0 HE hcc hn1000
          clear hlast hold
          have HM := Lib.hid hm
          clear hm
          go_upto_region 7 with fail
          go_wp2_with (first
            | (go_at_call_of 109 (I (C : Int)); refine (HD.out _ H2.out).mono ?_; rintro e wd ⟨rfl, hbd⟩)
            | (go_at_call 109; refine (HD2.out _ (H2.out.after hbd)).mono ?_; rintro e we ⟨rfl, hbe⟩)
            | (refine wpList_frames2 rfl (.tmp 67) (.tmp 71) rfl (frC (voDone v C)) (frC (voDone v m)) rfl rfl HF9.out HF8.out ?_))
          go_ret2
          have hbd2 := (hbd.trans (hbe.mono hbd.size)).alloc (Nat.le_trans hbd.size hbe.size) (.cells (frC (voDone v C) ++ frC (voDone v m)) 110)
          rw [HG.out, HE.out]
          exact ⟨⟨_, rfl, .inr ⟨_, rfl, by have := hbd.size; have := hbe.size; have := HT2.out.size; have := HG.out; omega, by rw [frsC_two]; exact Has.new _ _ _⟩⟩, ⟨vt, H2.out.after hbd2, .inl rfl⟩, HT2.out.thenBelow hbd2⟩
        · have hcn : v.trace.length ≤ C := by omega
          have ht : ((C : Int) == (v.trace.length : Int) - 1) = false := by simp; omega
          have ht2 : ¬ (C : Int) < (v.trace.length : Int) := by omega
          by_cases hno : v.trace.length < C ∨ v.latched = true ∨ k = 4
          · have HE := Lib.hid (take_not HH.out HC.out hcn (by rw [HK.out]; exact hno))
            by_cases hgt : v.trace.length < C
            · have ht3 : (v.trace.length : Int) < (C : Int) := by omega
              clear hlast hold hcn hno hgt
              generalize v.trace.length = n at *
              go_wp2
              go_ret2
              rw [HG.out, HE.out]
              exact ⟨⟨_, rfl, framesAt_nil _ _⟩, ⟨vt, H2.out, .inl rfl⟩, HT2.out⟩
            · have ht3 : ¬ (v.trace.length : Int) < (C : Int) := by omega
              cases hla : v.latched with
              | true =>
                rw [hla] at b16
                clear hlast hold hcn hno hgt hla
                generalize v.trace.length = n at *
                go_wp2
                go_ret2
                rw [HG.out, HE.out]
                exact ⟨⟨_, rfl, framesAt_nil _ _⟩, ⟨vt, H2.out, .inl rfl⟩, HT2.out⟩
              | false =>
                rw [hla] at b16
                have hk4 : k = 4 := by
                  rcases hno with h | h | h
                  · exact absurd h hgt
                  · rw [hla] at h; cases h
                  · exact h
                subst hk4
                clear hlast hold hcn hno hgt hla hk2
                generalize v.trace.length = n at *
                go_wp2
                go_ret2
                rw [HG.out, HE.out]
                exact ⟨⟨_, rfl, framesAt_nil _ _⟩, ⟨vt, H2.out, .inl rfl⟩, HT2.out⟩
          · have hCn : v.trace.length = C := by
              have : ¬ v.trace.length < C := fun h => hno (.inl h)
              omega
            have hla : v.latched = false := by
              cases h : v.latched with
              | true => exact absurd (.inr (.inl h)) hno
              | false => rfl
            have hk4 : k ≠ 4 := fun h => hno (.inr (.inr h))
            have HE := Lib.hid (take_vote HH.out HC.out hCn hla (by rw [HK.out]; exact hk4) HJ.out)
            have hkk : k = 2 := by
              rcases hk2 with h | h
              · exact h
              · exact absurd h hk4
            subst hkk
            have ht3 : ¬ (v.trace.length : Int) < (C : Int) := by omega
            rw [hla] at b16
            have hlt1000 := (HW.out.more hla).1
            have HLA := Lib.hid hla
            clear hlast hold hcn hno hla hk4 hk2
            have f1 := fun i => H2.out.has.free i
            have FR := Lib.hid f1
            have HV := Lib.hid H2.out.has
            have c41 := H2.out.has.cellv
            clear c41 f1
            have hj3' : J < 3 := by omega
            go_upto_region 10 with (fail)
            have y1 := kb2.cellv 1 (I (J : Int)) X1.out
            have y3 := kb2.cellv 3 (I p0) X3.out
            have y4 := kb2.cellv 4 (I p1) X4.out
            have y5 := kb2.cellv 5 (I p2) X5.out
            have z0 := FR.out (1 + J * 4)
            have z1 := FR.out (1 + J * 4 + 1)
            have z2 := FR.out (1 + J * 4 + 2)
            have z3 := FR.out (1 + J * 4 + 3)
            have hji : (J : Int) < 3 := by omega
            go_still_tail 12, (by kernel_rfl)
            change wpList _ _ _ _ _ w2.drew
            have hth : w2.drew.there g (1 + J * 4) 4 := fun j hj => by
              have hj17 : 1 + J * 4 + j < (voC vt v).size := by show _ < 17; omega
              exact ⟨by rw [HV.out.drew.cell, Array.getElem?_eq_getElem hj17]; rfl, HV.out.drew.free _⟩
            have his : (Tryz.prog.info? 91).map (·.size) = some (#[I p0, I p1, I p2, .bool true] : Array Value).size := infoVote
            obtain ⟨w3, hw3⟩ : ∃ w3, w3 = w2.drew.setCells g (1 + J * 4) (#[I p0, I p1, I p2, .bool true] : Array Value).toList := ⟨_, rfl⟩
            have hw3' : w3 = ((((w2.drew.setCell ⟨g, 1 + J * 4, none⟩ (I p0)).setCell ⟨g, 1 + J * 4 + 1, none⟩ (I p1)).setCell ⟨g, 1 + J * 4 + 2, none⟩ (I p2)).setCell ⟨g, 1 + J * 4 + 3, none⟩ (.bool true)) := hw3
            have HTH := Lib.hid hth
            have HIS := Lib.hid his
            have HW3 := Lib.hid hw3
            have HW3' := Lib.hid hw3'
            clear hth his hw3 hw3'
            refine wpList_store_mid rfl 91 (.tmp 100) (.tmp 97) rfl g (1 + J * 4) (#[I p0, I p1, I p2, .bool true] : Array Value) rfl rfl HTH.out HIS.out (vote_one p0 p1 p2) ?_
            rw [← HW3.out]
            go_upto_region 11 with fail
            clear HTH HIS HW3
            have hvl := HW.out.votes
            have k3 : Has w3 g 94 (voC vt (voted v J (p0, p1, p2))) := by
              have h := (((HV.out.drew.set (1 + J * 4) (I p0)).set (1 + J * 4 + 1) (I p1)).set (1 + J * 4 + 2) (I p2)).set (1 + J * 4 + 3) (.bool true)
              rw [voD_vote vt v J p0 p1 p2 hj3' hvl] at h
              rw [HW3'.out]
              exact h
            have t3 : Turned (fun b => b = g) w2 w3 := by
              rw [HW3'.out]
              exact (((((Turned.refl (fun b => b = g) w2).drew).setCell ⟨g, 1 + J * 4, none⟩ (I p0) (.inl rfl)).setCell ⟨g, 1 + J * 4 + 1, none⟩ (I p1) (.inl rfl)).setCell ⟨g, 1 + J * 4 + 2, none⟩ (I p2) (.inl rfl)).setCell ⟨g, 1 + J * 4 + 3, none⟩ (.bool true) (.inl rfl)
            have kb3 := kb2.turned t3 (kb2.ne HV.out (by decide))
            have H3 : Hid (VoAt w3 B g vt (voted v J (p0, p1, p2))) :=
              Lib.hid ⟨k3, own_turned H2.out.own t3 (fun q hq e => own_has_ne H2.out.own HV.out (by decide) (by rw [hq, e])), H2.out.low⟩
            have HT3 : Hid (Turned (FV g vt) w w3) := Lib.hid (HT2.out.trans t3 (fun b _ e => .inl e))
            obtain ⟨q0, q1, q2⟩ := voC_at vt (voted v J (p0, p1, p2)) J hj3'
            rw [vv_vote v J (p0, p1, p2) hj3' hvl] at q0 q1 q2
            have Q0 := Lib.hid q0
            have Q1 := Lib.hid q1
            have Q2 := Lib.hid q2
            have HWV := Lib.hid (voted_wf HW.out J (p0, p1, p2))
            have HCV : Hid ((voted v J (p0, p1, p2)).trace.length = C) := Lib.hid hCn
            rw [HP.out] at HE
            have HVV : Hid (vv (voted v J (p0, p1, p2)) J = ((p0, p1, p2), true)) := Lib.hid (vv_vote v J (p0, p1, p2) hj3' hvl)
            clear HW3' t3 kb2 H2 HT2 HV FR z0 z1 z2 z3 y1 y3 y4 y5 x0 x2 b0 b16 q0 q1 q2 hvl HVT
            have HTR : Hid ((voted v J (p0, p1, p2)).trace = v.trace) := Lib.hid rfl
            generalize voted v J (p0, p1, p2) = v1 at *
            have e1 := k3.cellv 1 (I (vv v1 0).1.1) rfl
            have e2 := k3.cellv 2 (I (vv v1 0).1.2.1) rfl
            have e3 := k3.cellv 3 (I (vv v1 0).1.2.2) rfl
            have e4 := k3.cellv 4 (.bool (vv v1 0).2) rfl
            have e5 := k3.cellv 5 (I (vv v1 1).1.1) rfl
            have e6 := k3.cellv 6 (I (vv v1 1).1.2.1) rfl
            have e7 := k3.cellv 7 (I (vv v1 1).1.2.2) rfl
            have e8 := k3.cellv 8 (.bool (vv v1 1).2) rfl
            have e9 := k3.cellv 9 (I (vv v1 2).1.1) rfl
            have e10 := k3.cellv 10 (I (vv v1 2).1.2.1) rfl
            have e11 := k3.cellv 11 (I (vv v1 2).1.2.2) rfl
            have e12 := k3.cellv 12 (.bool (vv v1 2).2) rfl
            go_wp2_with fail
            clear e1 e2 e3 e4 e5 e6 e7 e8 e9 e10 e11 e12
            have hg3 := k3.lt
            have hb3' := kb3.lt
            have KV := Lib.hid k3
            have KB := Lib.hid kb3
            clear k3 kb3 hg2
            go_loopw [105] (fun i wr => ∃ r : Nat, r ≤ 3 ∧ i = I r ∧ Hid (∀ r', r' < r → alikeAt v1 J (p0, p1, p2) r' = false) ∧ Below w3.heap.size w3 wr) (fun i _ => 3 - (intOf i).toNat)
            case atStart => exact ⟨0, by omega, rfl, Lib.hid (fun r' h => by omega), Below.refl _ _⟩
            case round =>
              obtain ⟨r, hr, rfl, HN, hbr⟩ := hrel
              by_cases hlt : r < 3
              · have hgr := Nat.lt_of_lt_of_le hg3 hbr.size
                have hbr2 := Nat.lt_of_lt_of_le hb3' hbr.size
                have kvr := KV.out.after hbr
                have kbr := KB.out.after hbr
                have y1 := kbr.cellv 1 (I (J : Int)) X1.out
                have z0 := kvr.cellv (1 + J * 4) (I p0) Q0.out
                have z1 := kvr.cellv (1 + J * 4 + 1) (I p1) Q1.out
                have z2 := kvr.cellv (1 + J * 4 + 2) (I p2) Q2.out
                have hji : (J : Int) < 3 := by omega
                clear kvr kbr
                have hcase : r = 0 ∨ r = 1 ∨ r = 2 := by omega
                rcases hcase with rfl | rfl | rfl
                · have hix := index_vote0 (I (vv v1 0).1.1) (I (vv v1 0).1.2.1) (I (vv v1 0).1.2.2) (.bool (vv v1 0).2) (I (vv v1 1).1.1) (I (vv v1 1).1.2.1) (I (vv v1 1).1.2.2) (.bool (vv v1 1).2) (I (vv v1 2).1.1) (I (vv v1 2).1.2.1) (I (vv v1 2).1.2.2) (.bool (vv v1 2).2) wr
                  have HX : Hid (alikeAt v1 J (p0, p1, p2) 0 = (decide (0 ≠ J) && (vv v1 0).2 && decide ((vv v1 0).1 = (p0, p1, p2)))) := Lib.hid rfl
                  by_cases hrJ : 0 = J
                  · have hjt : ((0 : Int) != (J : Int)) = false := by simp; omega
                    have hn : decide (0 ≠ J) = false := by simpa using hrJ
                    have HN2 := Lib.hid hn
                    have HRJ := Lib.hid hrJ
                    clear hn hrJ
                    have HF : Hid (alikeAt v1 J (p0, p1, p2) 0 = false) := Lib.hid (by rw [HX.out, HN2.out]; rfl)
                    go_wp2_with fail
                    go_quiet (fail)
                    go_wp2_with fail
                    go_roundw
                    case rel =>
                      refine ⟨0 + 1, by omega, by rfl, Lib.hid (fun r' h => ?_), below_drewN (hbr.alloc hbr.size _) _⟩
                      rcases Nat.lt_or_ge r' 0 with h' | h'
                      · exact HN.out r' h'
                      · have : r' = 0 := by omega
                        subst this
                        exact HF.out
                    case measure => simp [intOf]
                  · have hjt : ((0 : Int) != (J : Int)) = true := by simp; omega
                    have HRJ := Lib.hid hrJ
                    clear hrJ
                    generalize hvx : vv v1 0 = x at *
                    clear hvx
                    obtain ⟨⟨u0, u1, u2⟩, uf⟩ := x
                    cases uf with
                    | false =>
                      have HF : Hid (alikeAt v1 J (p0, p1, p2) 0 = false) := Lib.hid (by rw [HX.out]; simp)
                      go_wp2_with fail
                      go_quiet (fail)
                      go_wp2_with fail
                      go_roundw
                      case rel =>
                        refine ⟨0 + 1, by omega, by rfl, Lib.hid (fun r' h => ?_), below_drewN (hbr.alloc hbr.size _) _⟩
                        rcases Nat.lt_or_ge r' 0 with h' | h'
                        · exact HN.out r' h'
                        · have : r' = 0 := by omega
                          subst this
                          exact HF.out
                      case measure => simp [intOf]
                    | true =>
                      by_cases h0 : u0 = p0
                      · subst h0
                        by_cases h1 : u1 = p1
                        · subst h1
                          by_cases h2 : u2 = p2
                          · subst h2
                            have HF : Hid (alikeAt v1 J (u0, u1, u2) 0 = true) := Lib.hid (by rw [HX.out]; simpa using HRJ.out)
                            have HAL : Hid (alike v1.votes J (u0, u1, u2) = true) := Lib.hid (by rw [alike_at, HF.out]; simp)
                            have HER := Lib.hid HE.out
                            rw [HAL.out, if_pos rfl] at HER
                            have H4 := Lib.hid (H3.out.after (hbr.mono (Nat.le_refl _)))
                            have HS4 : Hid (B ≤ wr.heap.size) := Lib.hid (by have := hbr.size; have := HT3.out.size; have := HG.out; omega)
                            clear HX HRJ
                            go_wp2_with fail
                            go_quiet (fail)
                            go_wp2_with (go_at_call 110; refine (vo_commits (H4.out.turned (((Turned.refl (fun _ => False) wr).alloc _).drewN _) (fun _ _ h => h)) HWV.out (by have := HCV.out; omega) (Nat.le_trans HS4.out (by simp)) (u0, u1, u2)).mono ?_; rintro e w9 ⟨⟨gr, rfl, hgr9, hf9⟩, ⟨vt9, hv9, hl9⟩, ht9⟩)
                            go_ret2
                            have hsz9 : w3.heap.size ≤ wr.heap.size := hbr.size
                            have hwz : w.heap.size ≤ w3.heap.size := HT3.out.size
                            rw [HER.out]
                            refine ⟨⟨_, rfl, .inr ⟨gr, rfl, ?_, ?_⟩⟩, ⟨vt9, hv9, ?_⟩, ?_⟩
                            · simp at hgr9; omega
                            · rw [frsC_one]; rw [HTR.out] at hf9; exact hf9
                            · rcases hl9 with h | ⟨b, hb, h⟩
                              · exact .inl h
                              · exact .inr ⟨b, by simp at hb; omega, h⟩
                            · exact (((HT3.out.thenBelow hbr).alloc _).drewN _).trans ht9 (fun _ _ h => h)
                          · have h2n : (u2 == p2) = false := by simpa using h2
                            have HF : Hid (alikeAt v1 J (u0, u1, p2) 0 = false) := Lib.hid (by rw [HX.out]; simp [h2])
                            go_wp2_with fail
                            go_quiet (fail)
                            go_wp2_with fail
                            go_roundw
                            case rel =>
                              refine ⟨0 + 1, by omega, by rfl, Lib.hid (fun r' h => ?_), below_drewN (hbr.alloc hbr.size _) _⟩
                              rcases Nat.lt_or_ge r' 0 with h' | h'
                              · exact HN.out r' h'
                              · have : r' = 0 := by omega
                                subst this
                                exact HF.out
                            case measure => simp [intOf]
                        · have h1n : (u1 == p1) = false := by simpa using h1
                          have HF : Hid (alikeAt v1 J (u0, p1, p2) 0 = false) := Lib.hid (by rw [HX.out]; simp [h1])
                          go_wp2_with fail
                          go_quiet (fail)
                          go_wp2_with fail
                          go_roundw
                          case rel =>
                            refine ⟨0 + 1, by omega, by rfl, Lib.hid (fun r' h => ?_), below_drewN (hbr.alloc hbr.size _) _⟩
                            rcases Nat.lt_or_ge r' 0 with h' | h'
                            · exact HN.out r' h'
                            · have : r' = 0 := by omega
                              subst this
                              exact HF.out
                          case measure => simp [intOf]
                      · have h0n : (u0 == p0) = false := by simpa using h0
                        have HF : Hid (alikeAt v1 J (p0, p1, p2) 0 = false) := Lib.hid (by rw [HX.out]; simp [h0])
                        go_wp2_with fail
                        go_quiet (fail)
                        go_wp2_with fail
                        go_roundw
                        case rel =>
                          refine ⟨0 + 1, by omega, by rfl, Lib.hid (fun r' h => ?_), below_drewN (hbr.alloc hbr.size _) _⟩
                          rcases Nat.lt_or_ge r' 0 with h' | h'
                          · exact HN.out r' h'
                          · have : r' = 0 := by omega
                            subst this
                            exact HF.out
                        case measure => simp [intOf]
                · have hix := index_vote1 (I (vv v1 0).1.1) (I (vv v1 0).1.2.1) (I (vv v1 0).1.2.2) (.bool (vv v1 0).2) (I (vv v1 1).1.1) (I (vv v1 1).1.2.1) (I (vv v1 1).1.2.2) (.bool (vv v1 1).2) (I (vv v1 2).1.1) (I (vv v1 2).1.2.1) (I (vv v1 2).1.2.2) (.bool (vv v1 2).2) wr
                  have HX : Hid (alikeAt v1 J (p0, p1, p2) 1 = (decide (1 ≠ J) && (vv v1 1).2 && decide ((vv v1 1).1 = (p0, p1, p2)))) := Lib.hid rfl
                  by_cases hrJ : 1 = J
                  · have hjt : ((1 : Int) != (J : Int)) = false := by simp; omega
                    have hn : decide (1 ≠ J) = false := by simpa using hrJ
                    have HN2 := Lib.hid hn
                    have HRJ := Lib.hid hrJ
                    clear hn hrJ
                    have HF : Hid (alikeAt v1 J (p0, p1, p2) 1 = false) := Lib.hid (by rw [HX.out, HN2.out]; rfl)
                    go_wp2_with fail
                    go_quiet (fail)
                    go_wp2_with fail
                    go_roundw
                    case rel =>
                      refine ⟨1 + 1, by omega, by rfl, Lib.hid (fun r' h => ?_), below_drewN (hbr.alloc hbr.size _) _⟩
                      rcases Nat.lt_or_ge r' 1 with h' | h'
                      · exact HN.out r' h'
                      · have : r' = 1 := by omega
                        subst this
                        exact HF.out
                    case measure => simp [intOf]
                  · have hjt : ((1 : Int) != (J : Int)) = true := by simp; omega
                    have HRJ := Lib.hid hrJ
                    clear hrJ
                    generalize hvx : vv v1 1 = x at *
                    clear hvx
                    obtain ⟨⟨u0, u1, u2⟩, uf⟩ := x
                    cases uf with
                    | false =>
                      have HF : Hid (alikeAt v1 J (p0, p1, p2) 1 = false) := Lib.hid (by rw [HX.out]; simp)
                      go_wp2_with fail
                      go_quiet (fail)
                      go_wp2_with fail
                      go_roundw
                      case rel =>
                        refine ⟨1 + 1, by omega, by rfl, Lib.hid (fun r' h => ?_), below_drewN (hbr.alloc hbr.size _) _⟩
                        rcases Nat.lt_or_ge r' 1 with h' | h'
                        · exact HN.out r' h'
                        · have : r' = 1 := by omega
                          subst this
                          exact HF.out
                      case measure => simp [intOf]
                    | true =>
                      by_cases h0 : u0 = p0
                      · subst h0
                        by_cases h1 : u1 = p1
                        · subst h1
                          by_cases h2 : u2 = p2
                          · subst h2
                            have HF : Hid (alikeAt v1 J (u0, u1, u2) 1 = true) := Lib.hid (by rw [HX.out]; simpa using HRJ.out)
                            have HAL : Hid (alike v1.votes J (u0, u1, u2) = true) := Lib.hid (by rw [alike_at, HF.out]; simp)
                            have HER := Lib.hid HE.out
                            rw [HAL.out, if_pos rfl] at HER
                            have H4 := Lib.hid (H3.out.after (hbr.mono (Nat.le_refl _)))
                            have HS4 : Hid (B ≤ wr.heap.size) := Lib.hid (by have := hbr.size; have := HT3.out.size; have := HG.out; omega)
                            clear HX HRJ
                            go_wp2_with fail
                            go_quiet (fail)
                            go_wp2_with (go_at_call 110; refine (vo_commits (H4.out.turned (((Turned.refl (fun _ => False) wr).alloc _).drewN _) (fun _ _ h => h)) HWV.out (by have := HCV.out; omega) (Nat.le_trans HS4.out (by simp)) (u0, u1, u2)).mono ?_; rintro e w9 ⟨⟨gr, rfl, hgr9, hf9⟩, ⟨vt9, hv9, hl9⟩, ht9⟩)
                            go_ret2
                            have hsz9 : w3.heap.size ≤ wr.heap.size := hbr.size
                            have hwz : w.heap.size ≤ w3.heap.size := HT3.out.size
                            rw [HER.out]
                            refine ⟨⟨_, rfl, .inr ⟨gr, rfl, ?_, ?_⟩⟩, ⟨vt9, hv9, ?_⟩, ?_⟩
                            · simp at hgr9; omega
                            · rw [frsC_one]; rw [HTR.out] at hf9; exact hf9
                            · rcases hl9 with h | ⟨b, hb, h⟩
                              · exact .inl h
                              · exact .inr ⟨b, by simp at hb; omega, h⟩
                            · exact (((HT3.out.thenBelow hbr).alloc _).drewN _).trans ht9 (fun _ _ h => h)
                          · have h2n : (u2 == p2) = false := by simpa using h2
                            have HF : Hid (alikeAt v1 J (u0, u1, p2) 1 = false) := Lib.hid (by rw [HX.out]; simp [h2])
                            go_wp2_with fail
                            go_quiet (fail)
                            go_wp2_with fail
                            go_roundw
                            case rel =>
                              refine ⟨1 + 1, by omega, by rfl, Lib.hid (fun r' h => ?_), below_drewN (hbr.alloc hbr.size _) _⟩
                              rcases Nat.lt_or_ge r' 1 with h' | h'
                              · exact HN.out r' h'
                              · have : r' = 1 := by omega
                                subst this
                                exact HF.out
                            case measure => simp [intOf]
                        · have h1n : (u1 == p1) = false := by simpa using h1
                          have HF : Hid (alikeAt v1 J (u0, p1, p2) 1 = false) := Lib.hid (by rw [HX.out]; simp [h1])
                          go_wp2_with fail
                          go_quiet (fail)
                          go_wp2_with fail
                          go_roundw
                          case rel =>
                            refine ⟨1 + 1, by omega, by rfl, Lib.hid (fun r' h => ?_), below_drewN (hbr.alloc hbr.size _) _⟩
                            rcases Nat.lt_or_ge r' 1 with h' | h'
                            · exact HN.out r' h'
                            · have : r' = 1 := by omega
                              subst this
                              exact HF.out
                          case measure => simp [intOf]
                      · have h0n : (u0 == p0) = false := by simpa using h0
                        have HF : Hid (alikeAt v1 J (p0, p1, p2) 1 = false) := Lib.hid (by rw [HX.out]; simp [h0])
                        go_wp2_with fail
                        go_quiet (fail)
                        go_wp2_with fail
                        go_roundw
                        case rel =>
                          refine ⟨1 + 1, by omega, by rfl, Lib.hid (fun r' h => ?_), below_drewN (hbr.alloc hbr.size _) _⟩
                          rcases Nat.lt_or_ge r' 1 with h' | h'
                          · exact HN.out r' h'
                          · have : r' = 1 := by omega
                            subst this
                            exact HF.out
                        case measure => simp [intOf]
                · have hix := index_vote2 (I (vv v1 0).1.1) (I (vv v1 0).1.2.1) (I (vv v1 0).1.2.2) (.bool (vv v1 0).2) (I (vv v1 1).1.1) (I (vv v1 1).1.2.1) (I (vv v1 1).1.2.2) (.bool (vv v1 1).2) (I (vv v1 2).1.1) (I (vv v1 2).1.2.1) (I (vv v1 2).1.2.2) (.bool (vv v1 2).2) wr
                  have HX : Hid (alikeAt v1 J (p0, p1, p2) 2 = (decide (2 ≠ J) && (vv v1 2).2 && decide ((vv v1 2).1 = (p0, p1, p2)))) := Lib.hid rfl
                  by_cases hrJ : 2 = J
                  · have hjt : ((2 : Int) != (J : Int)) = false := by simp; omega
                    have hn : decide (2 ≠ J) = false := by simpa using hrJ
                    have HN2 := Lib.hid hn
                    have HRJ := Lib.hid hrJ
                    clear hn hrJ
                    have HF : Hid (alikeAt v1 J (p0, p1, p2) 2 = false) := Lib.hid (by rw [HX.out, HN2.out]; rfl)
                    go_wp2_with fail
                    go_quiet (fail)
                    go_wp2_with fail
                    go_roundw
                    case rel =>
                      refine ⟨2 + 1, by omega, by rfl, Lib.hid (fun r' h => ?_), below_drewN (hbr.alloc hbr.size _) _⟩
                      rcases Nat.lt_or_ge r' 2 with h' | h'
                      · exact HN.out r' h'
                      · have : r' = 2 := by omega
                        subst this
                        exact HF.out
                    case measure => simp [intOf]
                  · have hjt : ((2 : Int) != (J : Int)) = true := by simp; omega
                    have HRJ := Lib.hid hrJ
                    clear hrJ
                    generalize hvx : vv v1 2 = x at *
                    clear hvx
                    obtain ⟨⟨u0, u1, u2⟩, uf⟩ := x
                    cases uf with
                    | false =>
                      have HF : Hid (alikeAt v1 J (p0, p1, p2) 2 = false) := Lib.hid (by rw [HX.out]; simp)
                      go_wp2_with fail
                      go_quiet (fail)
                      go_wp2_with fail
                      go_roundw
                      case rel =>
                        refine ⟨2 + 1, by omega, by rfl, Lib.hid (fun r' h => ?_), below_drewN (hbr.alloc hbr.size _) _⟩
                        rcases Nat.lt_or_ge r' 2 with h' | h'
                        · exact HN.out r' h'
                        · have : r' = 2 := by omega
                          subst this
                          exact HF.out
                      case measure => simp [intOf]
                    | true =>
                      by_cases h0 : u0 = p0
                      · subst h0
                        by_cases h1 : u1 = p1
                        · subst h1
                          by_cases h2 : u2 = p2
                          · subst h2
                            have HF : Hid (alikeAt v1 J (u0, u1, u2) 2 = true) := Lib.hid (by rw [HX.out]; simpa using HRJ.out)
                            have HAL : Hid (alike v1.votes J (u0, u1, u2) = true) := Lib.hid (by rw [alike_at, HF.out]; simp)
                            have HER := Lib.hid HE.out
                            rw [HAL.out, if_pos rfl] at HER
                            have H4 := Lib.hid (H3.out.after (hbr.mono (Nat.le_refl _)))
                            have HS4 : Hid (B ≤ wr.heap.size) := Lib.hid (by have := hbr.size; have := HT3.out.size; have := HG.out; omega)
                            clear HX HRJ
                            go_wp2_with fail
                            go_quiet (fail)
                            go_wp2_with (go_at_call 110; refine (vo_commits (H4.out.turned (((Turned.refl (fun _ => False) wr).alloc _).drewN _) (fun _ _ h => h)) HWV.out (by have := HCV.out; omega) (Nat.le_trans HS4.out (by simp)) (u0, u1, u2)).mono ?_; rintro e w9 ⟨⟨gr, rfl, hgr9, hf9⟩, ⟨vt9, hv9, hl9⟩, ht9⟩)
                            go_ret2
                            have hsz9 : w3.heap.size ≤ wr.heap.size := hbr.size
                            have hwz : w.heap.size ≤ w3.heap.size := HT3.out.size
                            rw [HER.out]
                            refine ⟨⟨_, rfl, .inr ⟨gr, rfl, ?_, ?_⟩⟩, ⟨vt9, hv9, ?_⟩, ?_⟩
                            · simp at hgr9; omega
                            · rw [frsC_one]; rw [HTR.out] at hf9; exact hf9
                            · rcases hl9 with h | ⟨b, hb, h⟩
                              · exact .inl h
                              · exact .inr ⟨b, by simp at hb; omega, h⟩
                            · exact (((HT3.out.thenBelow hbr).alloc _).drewN _).trans ht9 (fun _ _ h => h)
                          · have h2n : (u2 == p2) = false := by simpa using h2
                            have HF : Hid (alikeAt v1 J (u0, u1, p2) 2 = false) := Lib.hid (by rw [HX.out]; simp [h2])
                            go_wp2_with fail
                            go_quiet (fail)
                            go_wp2_with fail
                            go_roundw
                            case rel =>
                              refine ⟨2 + 1, by omega, by rfl, Lib.hid (fun r' h => ?_), below_drewN (hbr.alloc hbr.size _) _⟩
                              rcases Nat.lt_or_ge r' 2 with h' | h'
                              · exact HN.out r' h'
                              · have : r' = 2 := by omega
                                subst this
                                exact HF.out
                            case measure => simp [intOf]
                        · have h1n : (u1 == p1) = false := by simpa using h1
                          have HF : Hid (alikeAt v1 J (u0, p1, p2) 2 = false) := Lib.hid (by rw [HX.out]; simp [h1])
                          go_wp2_with fail
                          go_quiet (fail)
                          go_wp2_with fail
                          go_roundw
                          case rel =>
                            refine ⟨2 + 1, by omega, by rfl, Lib.hid (fun r' h => ?_), below_drewN (hbr.alloc hbr.size _) _⟩
                            rcases Nat.lt_or_ge r' 2 with h' | h'
                            · exact HN.out r' h'
                            · have : r' = 2 := by omega
                              subst this
                              exact HF.out
                          case measure => simp [intOf]
                      · have h0n : (u0 == p0) = false := by simpa using h0
                        have HF : Hid (alikeAt v1 J (p0, p1, p2) 2 = false) := Lib.hid (by rw [HX.out]; simp [h0])
                        go_wp2_with fail
                        go_quiet (fail)
                        go_wp2_with fail
                        go_roundw
                        case rel =>
                          refine ⟨2 + 1, by omega, by rfl, Lib.hid (fun r' h => ?_), below_drewN (hbr.alloc hbr.size _) _⟩
                          rcases Nat.lt_or_ge r' 2 with h' | h'
                          · exact HN.out r' h'
                          · have : r' = 2 := by omega
                            subst this
                            exact HF.out
                        case measure => simp [intOf]
              · have hr3 : r = 3 := by omega
                subst hr3
                have HAL : Hid (alike v1.votes J (p0, p1, p2) = false) := Lib.hid (by rw [alike_at, HN.out 0 (by decide), HN.out 1 (by decide), HN.out 2 (by decide)]; rfl)
                have HER := Lib.hid HE.out
                rw [HAL.out, if_neg (by decide)] at HER
                go_wp2
                go_ret2
                rw [HER.out]
                exact ⟨⟨_, rfl, framesAt_nil _ _⟩, ⟨vt, H3.out.after hbr, .inl rfl⟩, HT3.out.thenBelow hbr⟩
end
end Go.Proofs.YtdhekhlmdefcnabGreatDoor
namespace Go.Proofs.YtdhekhlmdefcnabGreatDoor
open Go.RowKit
def mutT (t : TypeId) : Bool := t == 68 || t == 108 || t == 94 || t == 42 || t == 132
def Mut (w : World) (b : Nat) : Prop := ∃ t cs, Has w b t cs ∧ mutT t = true
def wayL : List Gram → List Value → List Value
 | g :: l, v :: vs => I g.src :: I g.dst :: v :: wayL l vs
 | _, _ => []
theorem wayL_append : ∀ (l : List Gram) (vs : List Value) (g : Gram) (v : Value), vs.length = l.length → wayL (l ++ [g]) (vs ++ [v]) = wayL l vs ++ [I g.src, I g.dst, v]
 | [], [], _, _, _ => rfl
 | [], _ :: _, _, _, h => by simp at h
 | _ :: l, [], _, _, h => by simp at h
 | _ :: l, _ :: vs, g, v, h => by
  have ih := wayL_append l vs g v (by simpa using h)
  show _ :: _ :: _ :: wayL (l ++ [g]) (vs ++ [v]) = _
  rw [ih]
  rfl
theorem wayL_get : ∀ (l : List Gram) (vs : List Value) (i : Nat) (g : Gram) (v : Value), l[i]? = some g → vs[i]? = some v → (wayL l vs)[i * 3]? = some (I g.src) ∧ (wayL l vs)[i * 3 + 1]? = some (I g.dst) ∧ (wayL l vs)[i * 3 + 2]? = some v
 | [], _, i, _, _, h, _ => by simp at h
 | _ :: _, [], i, _, _, _, h => by simp at h
 | a :: l, b :: vs, 0, g, v, h, h' => by
  simp at h h'
  subst h h'
  exact ⟨rfl, rfl, rfl⟩
 | a :: l, b :: vs, i + 1, g, v, h, h' => by
  rw [List.getElem?_cons_succ] at h h'
  obtain ⟨h1, h2, h3⟩ := wayL_get l vs i g v h h'
  have e : wayL (a :: l) (b :: vs) = I a.src :: I a.dst :: b :: wayL l vs := rfl
  rw [e, show (i + 1) * 3 = i * 3 + 1 + 1 + 1 by omega]
  exact ⟨h1, h2, h3⟩
theorem wayL_drop : ∀ (l : List Gram) (vs : List Value) (i : Nat), vs.length = l.length → (wayL l vs).drop (i * 3) = wayL (l.drop i) (vs.drop i)
 | l, vs, 0, _ => by simp
 | [], _, i + 1, _ => by simp [wayL]
 | _ :: l, [], i + 1, h => by simp at h
 | a :: l, b :: vs, i + 1, h => by
  have ih := wayL_drop l vs i (by simpa using h)
  rw [show (i + 1) * 3 = i * 3 + 3 by omega]
  exact ih
theorem wayL_take : ∀ (l : List Gram) (vs : List Value) (i : Nat), vs.length = l.length → (wayL l vs).take (i * 3) = wayL (l.take i) (vs.take i)
 | l, vs, 0, _ => by simp [wayL]
 | [], _, i + 1, _ => by simp [wayL]
 | _ :: l, [], i + 1, h => by simp at h
 | a :: l, b :: vs, i + 1, h => by
  have ih := wayL_take l vs i (by simpa using h)
  rw [show (i + 1) * 3 = i * 3 + 1 + 1 + 1 by omega]
  show I a.src :: I a.dst :: b :: (wayL l vs).take (i * 3) = _
  rw [ih]
  rfl
theorem wayL_two : ∀ (l l' : List Gram) (vs vs' : List Value), vs.length = l.length → wayL (l ++ l') (vs ++ vs') = wayL l vs ++ wayL l' vs'
 | [], _, [], _, _ => rfl
 | [], _, _ :: _, _, h => by simp at h
 | _ :: l, _, [], _, h => by simp at h
 | _ :: l, l', _ :: vs, vs', h => by
  have ih := wayL_two l l' vs vs' (by simpa using h)
  show _ :: _ :: _ :: wayL (l ++ l') (vs ++ vs') = _
  rw [ih]
  rfl
structure SyX where
 g : Nat
 rb : Nat → Nat
 cb : Nat → Nat
 vb : Nat
 vt : Value
 vr : Value
 vw : Value
 vs : List Value
def FS (x : SyX) (b : Nat) : Prop := b = x.g ∨ (∃ k, k < 3 ∧ b = x.rb k) ∨ FV x.vb x.vt b ∨ x.vw.ownBlock = some b
def syC (x : SyX) (L : Lay) (s : Sys) : Array Value := #[I L.secs, x.vr, I L.delay, .pointer (some ⟨x.rb 0, 0, none⟩), .pointer (some ⟨x.rb 1, 0, none⟩), .pointer (some ⟨x.rb 2, 0, none⟩), .pointer (some ⟨x.vb, 0, none⟩), x.vw, I s.lost]
def BAt (w : World) (v : Value) (l : List UInt8) : Prop := ∃ A c, v = .slice A l.length c ∧ l.length ≤ c ∧ (l ≠ [] → ∃ g cur, A = some ⟨g, 0, none⟩ ∧ Has w g 5 cur ∧ cur.toList.take l.length = bytes l)
theorem BAt.keep {w w' : World} {v : Value} {l : List UInt8} (h : BAt w v l) (hk : ∀ g cs, Has w g 5 cs → Has w' g 5 cs) : BAt w' v l := by
 obtain ⟨A, c, h1, h2, h3⟩ := h
 refine ⟨A, c, h1, h2, fun hn => ?_⟩
 obtain ⟨g, cur, e, hh, ht⟩ := h3 hn
 exact ⟨g, cur, e, hk g cur hh, ht⟩
theorem BAt.after {w w' : World} {v : Value} {l : List UInt8} (h : BAt w v l) (hb : Below w.heap.size w w') : BAt w' v l := h.keep fun _ _ hh => hh.after hb
theorem BAt.of_own {w : World} {base : Nat} {v : Value} {l : List UInt8} (h : w.ownsRow base 5 1 v l.length (bytes l)) : BAt w v l := by
 rcases h.2 with ⟨rfl, hn⟩ | ⟨g, cap, cur, rfl, _, hh, hc, _, _, ht⟩
 ·exact ⟨none, 0, by rw [hn], by omega, fun hx => absurd (List.eq_nil_of_length_eq_zero hn) hx⟩
 ·exact ⟨_, _, rfl, hc, fun _ => ⟨g, cur, rfl, hh, by rw [Nat.mul_one] at ht; exact ht⟩⟩
theorem BAt.reads {w : World} {v : Value} {l : List UInt8} (h : BAt w v l) : ∃ A c, v = .slice A l.length c ∧ l.length ≤ c ∧ Reads w w.heap.size A (bytes l) := by
 obtain ⟨A, c, h1, h2, h3⟩ := h
 refine ⟨A, c, h1, h2, fun hn => ?_⟩
 obtain ⟨g, cur, e, hh, ht⟩ := h3 (by rintro rfl; exact hn rfl)
 refine ⟨g, 0, e, hh.lt, fun j u hu => ?_⟩
 rw [Nat.zero_add, hh.cell]
 rw [← ht, List.getElem?_take] at hu
 split at hu
 ·simpa using hu
 ·cases hu
structure SyAt (w : World) (B : Nat) (x : SyX) (L : Lay) (s : Sys) : Prop where
 has : Has w x.g 68 (syC x L s)
 routes : w.ownsRow 0 3 1 x.vr L.routes.length (ints (zs L.routes))
 n3 : s.rs.length = 3
 rep : ∀ k, k < 3 → RepAt w (x.rb k) (x.cb k) L (re s k)
 apart : ∀ i j, i < 3 → j < 3 → x.rb i = x.rb j → i = j
 vo : VoAt w B x.vb x.vt s.v
 way : w.ownsRow B 132 3 x.vw s.way.length (wayL s.way x.vs)
 len : x.vs.length = s.way.length
 bytes : ∀ (i : Nat) (gm : Gram) (v : Value), s.way[i]? = some gm → x.vs[i]? = some v → BAt w v gm.bytes
 low : B ≤ x.g
 lows : ∀ k, k < 3 → B ≤ x.rb k
structure Moved (w w' : World) (x x' : SyX) : Prop where
 turned : Turned (FS x) w w'
 blocks : ∀ b, FS x' b → FS x b ∨ w.heap.size ≤ b
 same : x'.g = x.g
theorem Moved.refl (w : World) (x : SyX) : Moved w w x x := ⟨Turned.refl _ _, fun _ h => .inl h, rfl⟩
theorem Moved.of_below {w w' : World} {x : SyX} (h : Below w.heap.size w w') : Moved w w' x x := ⟨Turned.of_below h _, fun _ h => .inl h, rfl⟩
theorem Moved.trans {w w1 w2 : World} {x x1 x2 : SyX} (h : Moved w w1 x x1) (h' : Moved w1 w2 x1 x2) : Moved w w2 x x2 := by
 refine ⟨h.turned.trans h'.turned ?_, fun b hb => ?_, h'.same.trans h.same⟩
 ·intro k hk hf
  rcases h.blocks k hf with h1 | h1
  ·exact h1
  ·omega
 ·rcases h'.blocks b hb with h1 | h1
  ·exact h.blocks b h1
  ·exact .inr (Nat.le_trans h.turned.size h1)
theorem own_block {w : World} {base : Nat} {e : TypeId} {size n : Nat} {v : Value} {xs : List Value} (h : w.ownsRow base e size v n xs) {q : Nat} (hq : v.ownBlock = some q) : base ≤ q ∧ ∃ cur, Has w q e cur := by
 rcases h.2 with ⟨rfl, _⟩ | ⟨g', cap, cur, rfl, hg, hh, _⟩
 ·simp [Value.ownBlock] at hq
 ·have : g' = q := by simpa [Value.ownBlock] using hq
  subst this
  exact ⟨hg, cur, hh⟩
section
variable {w w' : World} {B : Nat} {x x' : SyX} {L : Lay} {s : Sys} {F : Nat → Prop}
theorem Has.keepT {g : Nat} {t : TypeId} {cs : Array Value} (h : Has w g t cs) (ht : Turned F w w') (hF : ∀ b, F b → Mut w b) (hn : mutT t = false) : Has w' g t cs :=
 h.turned ht fun hf => by
  obtain ⟨t', cs', h', hm⟩ := hF g hf
  have e : t = t' := by
   unfold Has at h h'
   rw [h] at h'
   injection h' with h'
   injection h' with _ ht
  rw [e, hm] at hn
  cases hn
theorem own_keepT {base : Nat} {e : TypeId} {size n : Nat} {v : Value} {xs : List Value} (h : w.ownsRow base e size v n xs) (ht : Turned F w w') (hF : ∀ b, F b → Mut w b) (hn : mutT e = false) : w'.ownsRow base e size v n xs :=
 own_keep h fun g _ _ hh => (show w'.heap[g]? = w.heap[g]? from (hh.keepT ht hF hn).trans hh.symm)
theorem CoreAt.keepT {gc : Nat} (h : CoreAt w gc L) (ht : Turned F w w') (hF : ∀ b, F b → Mut w b) : CoreAt w' gc L := by
 obtain ⟨vr, vc, a1, a2, a3⟩ := h
 exact ⟨vr, vc, a1.keepT ht hF (by decide), own_keepT a2 ht hF (by decide), own_keepT a3 ht hF (by decide)⟩
theorem BAt.keepT {v : Value} {l : List UInt8} (h : BAt w v l) (ht : Turned F w w') (hF : ∀ b, F b → Mut w b) : BAt w' v l := h.keep fun _ _ hh => hh.keepT ht hF (by decide)
theorem RepAt.keepT {g gc : Nat} {r : Re} (h : RepAt w g gc L r) (ht : Turned F w w') (hF : ∀ b, F b → Mut w b) (hn : ¬ F g) : RepAt w' g gc L r := ⟨h.has.turned ht hn, h.core.keepT ht hF⟩
theorem SyAt.mut (h : SyAt w B x L s) {b : Nat} (hb : FS x b) : Mut w b := by
 rcases hb with rfl | ⟨k, hk, rfl⟩ | (rfl | hb) | hb
 ·exact ⟨_, _, h.has, rfl⟩
 ·exact ⟨_, _, (h.rep k hk).has, rfl⟩
 ·exact ⟨_, _, h.vo.has, rfl⟩
 ·obtain ⟨_, cur, hh⟩ := own_block h.vo.own hb
  exact ⟨_, _, hh, rfl⟩
 ·obtain ⟨_, cur, hh⟩ := own_block h.way hb
  exact ⟨_, _, hh, rfl⟩
theorem SyAt.ge (h : SyAt w B x L s) {b : Nat} (hb : FS x b) : B ≤ b := by
 rcases hb with rfl | ⟨k, hk, rfl⟩ | hb | hb
 ·exact h.low
 ·exact h.lows k hk
 ·exact h.vo.ge b hb
 ·exact (own_block h.way hb).1
theorem SyAt.lt (h : SyAt w B x L s) {b : Nat} (hb : FS x b) : b < w.heap.size := by
 obtain ⟨t, cs, hh, _⟩ := h.mut hb
 exact hh.lt
theorem SyAt.after (h : SyAt w B x L s) (hb : Below w.heap.size w w') : SyAt w' B x L s :=
 ⟨h.has.after hb, own_after h.routes hb, h.n3, fun k hk => (h.rep k hk).after hb, h.apart, h.vo.after hb, own_after h.way hb, h.len, fun i gm v h1 h2 => (h.bytes i gm v h1 h2).after hb, h.low, h.lows⟩
theorem Moved.keep {c : Nat} {t : TypeId} {cs : Array Value} (m : Moved w w' x x') (h : Has w c t cs) (hn : ¬ FS x c) : Has w' c t cs ∧ ¬ FS x' c :=
 ⟨h.turned m.turned hn, fun hf => by
  rcases m.blocks c hf with h1 | h1
  ·exact hn h1
  ·have := h.lt; omega⟩
theorem Moved.below (m : Moved w w' x x') (h : SyAt w B x L s) (hw : B ≤ w.heap.size) : Below B w w' := m.turned.below (fun _k hk => h.ge hk) hw
theorem SyAt.cell (h : SyAt w B x L s) (i : Nat) (v : Value) (hv : (syC x L s)[i]? = some v) : w.cell? ⟨x.g, i, none⟩ = some v := h.has.cellv i v hv
theorem sy_own_ne {base base' : Nat} {e e' : TypeId} {size size' n n' : Nat} {v v' : Value} {xs xs' : List Value} (h : w.ownsRow base e size v n xs) (h' : w.ownsRow base' e' size' v' n' xs') (hne : e ≠ e') {q : Nat} (hq : v.ownBlock = some q) : v'.ownBlock ≠ some q := fun hq' => by
 obtain ⟨_, c1, h1⟩ := own_block h hq
 obtain ⟨_, c2, h2⟩ := own_block h' hq'
 exact (h1.ne h2 hne) rfl
theorem sy_re_set {k j : Nat} {r : Re} (hn : s.rs.length = 3) (hk : k < 3) : re { s with rs := s.rs.set k r } j = if j = k then r else re s j := by
 unfold re
 by_cases h : j = k
 ·subst h
  rw [if_pos rfl]
  show (s.rs.set j r).getD j _ = r
  rw [getD_set _ _ _ _ _ (by omega), if_pos rfl]
 ·rw [if_neg h]
  show (s.rs.set k r).getD j _ = _
  rw [getD_set _ _ _ _ _ (by omega), if_neg h]
theorem SyAt.setRep (h : SyAt w B x L s) {k : Nat} (hk : k < 3) {r : Re} (ht : Turned (fun b => b = x.rb k) w w') (hr : RepAt w' (x.rb k) (x.cb k) L r) :
  SyAt w' B x L { s with rs := s.rs.set k r } ∧ Moved w w' x x := by
 have hF : ∀ b, b = x.rb k → Mut w b := fun b e => h.mut (.inr (.inl ⟨k, hk, e⟩))
 have hh := (h.rep k hk).has
 refine ⟨⟨h.has.turned ht (fun e => h.has.ne hh (by decide) e), own_keepT h.routes ht hF (by decide), by simp [h.n3], fun j hj => ?_, h.apart, h.vo.turned ht ?_, own_turned h.way ht (fun q hq e => own_has_ne h.way hh (by decide) (by rw [hq, e])), h.len, fun i gm v h1 h2 => (h.bytes i gm v h1 h2).keepT ht hF, h.low, h.lows⟩, ⟨ht.mono fun b _ e => .inr (.inl ⟨k, hk, e⟩), fun _ hb => .inl hb, rfl⟩⟩
 ·rw [sy_re_set h.n3 hk]
  by_cases e : j = k
  ·subst e; rw [if_pos rfl]; exact hr
  ·rw [if_neg e]; exact (h.rep j hj).keepT ht hF fun e2 => e (h.apart j k hj hk e2)
 ·rintro b (rfl | hb) e
  ·exact h.vo.has.ne hh (by decide) e
  ·exact own_has_ne h.vo.own hh (by decide) (by rw [hb, e])
theorem SyAt.setVo (h : SyAt w B x L s) {v : Vo} {vt' : Value} (ht : Turned (FV x.vb x.vt) w w') (hv : VoAt w' B x.vb vt' v) (hb : vt'.ownBlock = x.vt.ownBlock ∨ ∃ b, w.heap.size ≤ b ∧ vt'.ownBlock = some b) :
  SyAt w' B { x with vt := vt' } L { s with v := v } ∧ Moved w w' x { x with vt := vt' } := by
 have hF : ∀ b, FV x.vb x.vt b → Mut w b := fun b e => h.mut (.inr (.inr (.inl e)))
 have ne : ∀ {g : Nat} {t : TypeId} {cs : Array Value}, Has w g t cs → 94 ≠ t → 42 ≠ t → ¬ FV x.vb x.vt g := fun hg n1 n2 hf => by
  rcases hf with e | e
  ·exact h.vo.has.ne hg n1 e.symm
  ·exact own_has_ne h.vo.own hg n2 e
 refine ⟨⟨h.has.turned ht (ne h.has (by decide) (by decide)), own_keepT h.routes ht hF (by decide), h.n3, fun j hj => (h.rep j hj).keepT ht hF (ne (h.rep j hj).has (by decide) (by decide)), h.apart, hv, own_turned h.way ht (fun q hq hf => ?_), h.len, fun i gm v h1 h2 => (h.bytes i gm v h1 h2).keepT ht hF, h.low, h.lows⟩, ⟨ht.mono fun b _ e => .inr (.inr (.inl e)), fun b hf => ?_, rfl⟩⟩
 ·rcases hf with e | e
  ·exact own_has_ne h.way h.vo.has (by decide) (by rw [hq, e])
  ·exact sy_own_ne h.way h.vo.own (by decide) hq e
 ·rcases hf with e | e | (e | e) | e
  ·exact .inl (.inl e)
  ·exact .inl (.inr (.inl e))
  ·exact .inl (.inr (.inr (.inl (.inl e))))
  ·rcases hb with hb | ⟨b', hb1, hb2⟩
   ·exact .inl (.inr (.inr (.inl (.inr (hb ▸ e)))))
   ·have e2 : vt'.ownBlock = some b := e
    rw [hb2] at e2
    injection e2 with e2
    exact .inr (e2 ▸ hb1)
  ·exact .inl (.inr (.inr (.inr e)))
theorem SyAt.setWay (h : SyAt w B x L s) {vw' : Value} {vs' : List Value} {way' : List Gram} {lost' : Nat} (ht : Turned (fun b => b = x.g ∨ x.vw.ownBlock = some b) w w')
  (hc : Has w' x.g 68 (syC { x with vw := vw', vs := vs' } L { s with way := way', lost := lost' })) (ho : w'.ownsRow B 132 3 vw' way'.length (wayL way' vs')) (hl : vs'.length = way'.length)
  (hb : ∀ b, vw'.ownBlock = some b → x.vw.ownBlock = some b ∨ w.heap.size ≤ b) (hy : ∀ (i : Nat) (gm : Gram) (v : Value), way'[i]? = some gm → vs'[i]? = some v → BAt w' v gm.bytes) :
  SyAt w' B { x with vw := vw', vs := vs' } L { s with way := way', lost := lost' } ∧ Moved w w' x { x with vw := vw', vs := vs' } := by
 have hF : ∀ b, (b = x.g ∨ x.vw.ownBlock = some b) → Mut w b := fun b e => h.mut (e.elim .inl fun e => .inr (.inr (.inr e)))
 have ne : ∀ {g : Nat} {t : TypeId} {cs : Array Value}, Has w g t cs → 68 ≠ t → 132 ≠ t → ¬ (g = x.g ∨ x.vw.ownBlock = some g) := fun hg n1 n2 hf => by
  rcases hf with e | e
  ·exact h.has.ne hg n1 e.symm
  ·exact own_has_ne h.way hg n2 e
 refine ⟨⟨hc, own_keepT h.routes ht hF (by decide), h.n3, fun j hj => (h.rep j hj).keepT ht hF (ne (h.rep j hj).has (by decide) (by decide)), h.apart, h.vo.turned ht ?_, ho, hl, hy, h.low, h.lows⟩, ⟨ht.mono fun b _ e => e.elim .inl fun e => .inr (.inr (.inr e)), fun b hf => ?_, rfl⟩⟩
 ·rintro b (rfl | hb') e
  ·exact ne h.vo.has (by decide) (by decide) e
  ·rcases e with e | e
   ·exact own_has_ne h.vo.own h.has (by decide) (by rw [hb', e])
   ·exact sy_own_ne h.way h.vo.own (by decide) e hb'
 ·rcases hf with e | e | e | e
  ·exact .inl (.inl e)
  ·exact .inl (.inr (.inl e))
  ·exact .inl (.inr (.inr (.inl e)))
  ·exact (hb b e).elim (fun e => .inl (.inr (.inr (.inr e)))) .inr
end
end Go.Proofs.YtdhekhlmdefcnabGreatDoor
