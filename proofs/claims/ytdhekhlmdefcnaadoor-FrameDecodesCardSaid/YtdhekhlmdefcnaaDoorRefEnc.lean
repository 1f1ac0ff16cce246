/- The walk over the reference's Encode. -/
import Derived.Test.YtdhekhlmdefcnaaDoorRefSum
import Derived.Test.YtdhekhlmdefcnaaDoorRefMay
namespace Go.Proofs.YtdhekhlmdefcnaaDoor
open Go.RowKit
theorem u8_nat (y : Int) (h : 0 ≤ y) : ((UInt8.ofNat y.toNat).toNat : Int) = y % 256 := by
  rw [UInt8.toNat_ofNat']
  omega
theorem three_eq (x v1 v2 v3 : Int) (h0 : 0 ≤ x) (h1 : v1 = x / 65536 % 256) (h2 : v2 = x / 256 % 256) (h3 : v3 = x % 256) : [Value.int .u8 v1, .int .u8 v2, .int .u8 v3] = bytes (three x) := by
  unfold three bytes U8
  have e1 : x.toNat / 65536 = (x / 65536).toNat := by omega
  have e2 : x.toNat / 256 = (x / 256).toNat := by omega
  simp only [List.map_cons, List.map_nil]
  rw [e1, e2, u8_nat _ (by omega), u8_nat _ (by omega), u8_nat _ h0, h1, h2, h3]
set_option maxHeartbeats 2000000 in
set_option maxRecDepth 100000 in
theorem refEncode_no (f : List Int) (hf : Wf f) (hm : mayB f = false) (w : World) :
    Calls Tryd.prog 16 #[.agg (frC f)] w fun e w' => e = .returned (.tuple #[.slice none 0 0, I 1]) ∧ Below w.heap.size w w' := by
  have HF := Lib.hid hf
  have HM := Lib.hid hm
  clear hf hm
  have hs1 : Hid ((Tryd.prog.info? 45).map (·.size) = some (frC f).size) := Lib.hid (refSize _ HF.out.1)
  have k0 := Has.new w 45 (frC f)
  have hb : Below w.heap.size w (w.alloc (.cells (frC f) 45)) := (Below.refl _ _).alloc (Nat.le_refl _) _
  go_enter Tryd.func16, Tryd.ntmps16
  go_wp2_with (first
    | (refine wpList_load_row rfl 45 (.tmp 1) rfl w.heap.size rfl 45 (frC f) (0, 0) _ k0 Tryd.underlying45 rfl hs1.out ?_)
    | (go_at_call 63; refine (refMay_ok f HF.out _).mono ?_; rintro e w1 ⟨rfl, hb1⟩; rw [HM.out]))
  go_ret2
  exact ⟨rfl, hb.trans (hb1.mono (by simp))⟩
set_option maxHeartbeats 4000000 in
set_option maxRecDepth 100000 in
theorem refEncode_yes (f : List Int) (hf : Wf f) (hm : mayB f = true) (w : World) :
    Calls Tryd.prog 16 #[.agg (frC f)] w fun e w' => (∃ A c, e = .returned (.tuple #[.slice A (encB f).length c, I 0]) ∧ w'.ownsRow w.heap.size 5 1 (.slice A (encB f).length c) (encB f).length (bytes (encB f))) ∧ Below w.heap.size w w' := by
  obtain ⟨i0, hi0, hz0, hz1, hz2⟩ := info_parts infoU8
  obtain ⟨k, hk⟩ := some_at f 0 (by rw [hf.1]; decide)
  have HK : Hid (f.getD 0 0 = k) := Lib.hid (by rw [List.getD_eq_getElem?_getD, hk]; rfl)
  have HF := Lib.hid hf
  have HM := Lib.hid hm
  have hall : ∀ i, i ∈ idx k → 0 ≤ f.getD i 0 ∧ f.getD i 0 ≤ 1048576 := by
    intro i hi
    unfold mayB at hm
    simp only [Bool.and_eq_true, List.all_eq_true] at hm
    have := hm.1.2 i (by rw [HK.out]; exact hi)
    unfold inB at this
    simpa using this
  have HA := Lib.hid hall
  have hs1 : Hid ((Tryd.prog.info? 45).map (·.size) = some (frC f).size) := Lib.hid (refSize _ HF.out.1)
  have k0 := Has.new w 45 (frC f)
  have c0 := k0.cellv 0 _ (frC_get f 0 k hk)
  have hb : Below w.heap.size w (w.alloc (.cells (frC f) 45)) := (Below.refl _ _).alloc (Nat.le_refl _) _
  have Hk0 := Lib.hid (frC_get f 0 k hk)
  clear hf hm hk hall
  go_enter Tryd.func16, Tryd.ntmps16
  go_upto_region 1 with (fail)
  generalize w.alloc (.cells (frC f) 45) = w1 at *
  have hg0 := k0.lt
  generalize hG : w.heap.size = g0 at *
  have HG := Lib.hid hG
  clear hG
  obtain ⟨n, hn⟩ : ∃ n, (idx (f.getD 0 0)).length = n := ⟨_, rfl⟩
  have hn20 : n ≤ 20 := hn ▸ idx_len _
  have HN := Lib.hid hn
  clear hn
  go_upto_region 5 with (first
    | (refine wpList_load_row rfl 45 (.tmp 1) rfl g0 rfl 45 (frC f) (0, 0) _ k0 Tryd.underlying45 rfl hs1.out ?_)
    | (refine wpList_load_row rfl 45 (.tmp 1) rfl g0 rfl 45 (frC f) (0, 0) _ k1 Tryd.underlying45 rfl hs1.out ?_)
    | (go_at_call 63; refine (refMay_ok f HF.out _).mono ?_; rintro e w2 ⟨rfl, hb1⟩; rw [HM.out]; have k1 := k0.after hb1; have hbw := hb.trans (hb1.mono (Nat.le_of_lt hg0)); clear k0 c0 hb hb1)
    | (go_at_call 73; refine (list_ok f _ HF.out).mono ?_; rintro e w3 ⟨⟨A2, n2, rfl, own2⟩, hb3⟩; rw [HN.out] at own2 ⊢))
  have hbw3 := hbw.trans (hb3.mono (Nat.le_of_lt k1.lt))
  have hg3 : g0 ≤ w3.heap.size := Nat.le_of_lt (k1.after hb3).lt
  have HO2 := Lib.hid (own_base own2 (Nat.zero_le _))
  have HNG : Hid (∀ j, (numsL f)[j]? = ((idx (f.getD 0 0))[j]?).map fun i => f.getD i 0) := Lib.hid (numsL_get f)
  clear own2 hb3 hbw k1
  generalize numsL f = ls at *
  go_loopw [4, 14] (fun v i wr => ∃ j : Nat, j ≤ n ∧ i = I j ∧ Hid (wr.ownsRow g0 5 1 v (3 * j) (bytes (bodyTo f j))) ∧ g0 ≤ wr.heap.size ∧ Hid (wr.ownsRow 0 3 1 (.slice A2 n n2) n (ints ls)) ∧ Below g0 w wr) (fun _ i _ => n - (intOf i).toNat)
  case atStart => exact ⟨0, by omega, rfl, Lib.hid (World.ownsRow_nil _ _ _ _), hg3, HO2, hbw3⟩
  case round =>
    clear HO2 hbw3 hg3
    obtain ⟨j, hj, rfl, HV, hsr, HO2, hbr⟩ := hrel
    by_cases hlt : j < n
    · obtain ⟨i, hi⟩ := some_at (idx (f.getD 0 0)) j (by rw [HN.out]; exact hlt)
      obtain ⟨hc2, hr2⟩ := own_slice HO2.out
      have hx : ls[j]? = some (f.getD i 0) := by rw [HNG.out, hi]; rfl
      obtain ⟨q1, q2⟩ := HA.out i (List.mem_of_getElem? (HK.out ▸ hi))
      have HI := Lib.hid hi
      have HX : Hid (f.getD i 0 = f.getD i 0) := Lib.hid rfl
      generalize hgx : f.getD i 0 = x at *
      obtain ⟨b2, o2, rfl, hb2, e2⟩ := hr2.at_ hx
      have HB : Hid (bodyTo f (j + 1) = bodyTo f j ++ three x) := Lib.hid (by rw [bodyTo_succ f j i HI.out, hgx])
      clear hi hx hr2 hc2 hgx HX
      go_upto_region 8 with (at_builtin; refine wpList_append_own _ rfl _ _ 41 rfl g0 5 i0 (.int .u8 0) 1 1 Tryd.underlying41 hi0 hz0 hz1 hz2 rfl (by decide) _ (3 * j) _ rfl (World.ownsRow.alloc HV.out _) ⟨wr.heap.size, 0, none⟩ 3 3 (bytes (three x)) rfl rfl ?d1 ?d2 ?d3 ?d4 ?d5 ?_)
      case d1 => rw [← three_eq x (x / 65536) (x / 256 % 256) (x % 256) q1 (by omega) rfl rfl]; exact cells_new _ #[Value.int .u8 (x / 65536), .int .u8 (x / 256 % 256), .int .u8 (x % 256)] _
      case d2 => intro u hu; simp [bytes, three] at hu; rcases hu with rfl | rfl | rfl <;> rfl
      case d3 => unfold maxLen; omega
      case d4 => omega
      case d5 => simp <;> omega
      intro v4 w4 hown4 hgrow4 _
      ·
        have HO4 : Hid (w4.ownsRow g0 5 1 v4 (3 * (j + 1)) (bytes (bodyTo f (j + 1)))) := Lib.hid (by
          have e : bytes (bodyTo f (j + 1)) = bytes (bodyTo f j) ++ bytes (three x) := by rw [HB.out]; simp [bytes]
          rw [e]
          exact hown4)
        have hb4 : Below g0 w w4 := (hbr.alloc hsr _).grown hgrow4 (by simp <;> omega) (fun q hq => (HV.out.lt q hq).1)
        have hs4 : g0 ≤ w4.heap.size := Nat.le_trans hsr (Nat.le_trans (by simp) hgrow4.size)
        have HO24 := Lib.hid (own_own (w := (wr.alloc _)) (HO2.out.alloc _) (HV.out.alloc _) (by decide) hgrow4)
        clear hown4 hgrow4 HV HO2 e2
        go_wp2_with fail
        go_roundw
        case rel => exact ⟨j + 1, by omega, by go_num, HO4, hs4, HO24, hb4⟩
        case measure => simp [intOf]; omega
    · have hjn : j = n := by omega
      have HB : Hid (bodyTo f j = body f) := Lib.hid (by unfold body; rw [HN.out, hjn])
      have hl3 : (body f).length = 3 * j := by rw [← HB.out]; exact bodyTo_length f j (by rw [HN.out]; exact hj)
      have HL3 := Lib.hid hl3
      clear hl3 hjn
      obtain ⟨A4, c4, rfl, hc4, -, hr4⟩ := own_reads HV.out
      rw [HB.out] at hr4
      go_wp2_with (first
        | (go_at_call 21; refine (refSum_ok A4 (3 * j) c4 (body f) _ HL3 (by omega) hr4).mono ?_; rintro e w5 ⟨rfl, rfl⟩)
        | (at_builtin; refine wpList_append_own _ rfl _ _ 41 rfl g0 5 i0 (.int .u8 0) 1 1 Tryd.underlying41 hi0 hz0 hz1 hz2 rfl (by decide) _ _ _ rfl (World.ownsRow.alloc HV.out _) ⟨wr.heap.size, 0, none⟩ 4 4 (bytes (four (Crc.sum (body f)))) rfl rfl ?c1 ?c2 ?c3 ?c4 ?c5 ?_))
      case c1 => rw [← four_vals]; exact cells_new _ _ _
      case c2 => intro u hu; simp [bytes, four] at hu; rcases hu with rfl | rfl | rfl | rfl <;> rfl
      case c3 => unfold maxLen; omega
      case c4 => omega
      case c5 => simp <;> omega
      intro v5 w5 hown5 hgrow5 _
      have hb5 : Below g0 w w5 := (hbr.alloc hsr _).grown hgrow5 (by simp <;> omega) (fun q hq => (HV.out.lt q hq).1)
      have hlen : (encB f).length = 3 * j + 4 := by unfold encB; rw [List.length_append, HL3.out]; rfl
      have HO5 : Hid (w5.ownsRow g0 5 1 v5 (encB f).length (bytes (encB f))) := Lib.hid (by
        have e : bytes (encB f) = bytes (body f) ++ bytes (four (Crc.sum (body f))) := by unfold encB; simp [bytes]
        have h5 := hown5
        rw [HB.out] at h5
        rw [hlen, e]
        exact h5)
      clear hown5 hgrow5 hlen
      go_wp2
      obtain ⟨A5, c5, rfl, -⟩ := own_reads HO5.out
      go_ret2
      refine ⟨⟨A5, c5, rfl, ?_⟩, HG.out ▸ hb5⟩
      rw [HG.out]
      exact HO5.out
end Go.Proofs.YtdhekhlmdefcnaaDoor
