/- Part 22 of the proof: RefEnc, Bare, Given, RefDec. -/
import Derived.Test.YtdhekhlmdefcnaaDoorPart10
import Derived.Test.YtdhekhlmdefcnaaDoorPart21
import Derived.Test.YtdhekhlmdefcnaaDoorPart7
import Derived.Test.YtdhekhlmdefcnaaDoorPart8
import Derived.Stop.Asserts
/- The walk over the reference's Encode. -/
namespace Go.Proofs.YtdhekhlmdefcnaaDoor
open Go.RowKit
theorem u8_nat (y : Int) (h : 0 ≤ y) : ((UInt8.ofNat y.toNat).toNat : Int) = y % 256 := by
  rw [UInt8.toNat_ofNat']
  omega
theorem three_eq (x v1 v2 v3 : Int) (h0 : 0 ≤ x) (h1 : v1 = x / 65536 % 256) (h2 : v2 = x / 256 % 256) (h3 : v3 = x % 256) : [Value.int .u8 v1, .int .u8 v2, .int .u8 v3] = bytes (three x) := by
  unfold three bytes U8
  have e1 : x.toNat / 65536 = (x / 65536).toNat := by omega
  have e2 : x.toNat / 256 = (x / 256).toNat := by omega
  simp only [List.map_cons, List.map_nil]
  rw [e1, e2, u8_nat _ (by omega), u8_nat _ (by omega), u8_nat _ h0, h1, h2, h3]
set_option maxHeartbeats 2000000 in
set_option maxRecDepth 100000 in
theorem refEncode_no (f : List Int) (hf : Wf f) (hm : mayB f = false) (w : World) :
    Calls Tryd.prog 16 #[.agg (frC f)] w fun e w' => e = .returned (.tuple #[.slice none 0 0, I 1]) ∧ Below w.heap.size w w' := by
  have HF := Lib.hid hf
  have HM := Lib.hid hm
  clear hf hm
  have hs1 : Hid ((Tryd.prog.info? 45).map (·.size) = some (frC f).size) := Lib.hid (refSize _ HF.out.1)
  have k0 := Has.new w 45 (frC f)
  have hb : Below w.heap.size w (w.alloc (.cells (frC f) 45)) := (Below.refl _ _).alloc (Nat.le_refl _) _
  go_enter Tryd.func16, Tryd.ntmps16
  go_wp2_with (first
    | (refine wpList_load_row rfl 45 (.tmp 1) rfl w.heap.size rfl 45 (frC f) (0, 0) _ k0 Tryd.underlying45 rfl hs1.out ?_)
    | (go_at_call 63; refine (refMay_ok f HF.out _).mono ?_; rintro e w1 ⟨rfl, hb1⟩; rw [HM.out]))
  go_ret2
  exact ⟨rfl, hb.trans (hb1.mono (by simp))⟩
set_option maxHeartbeats 4000000 in
set_option maxRecDepth 100000 in
theorem refEncode_yes (f : List Int) (hf : Wf f) (hm : mayB f = true) (w : World) :
    Calls Tryd.prog 16 #[.agg (frC f)] w fun e w' => (∃ A c, e = .returned (.tuple #[.slice A (encB f).length c, I 0]) ∧ w'.ownsRow w.heap.size 5 1 (.slice A (encB f).length c) (encB f).length (bytes (encB f))) ∧ Below w.heap.size w w' := by
  obtain ⟨i0, hi0, hz0, hz1, hz2⟩ := info_parts infoU8
  obtain ⟨k, hk⟩ := some_at f 0 (by rw [hf.1]; decide)
  have HK : Hid (f.getD 0 0 = k) := Lib.hid (by rw [List.getD_eq_getElem?_getD, hk]; rfl)
  have HF := Lib.hid hf
  have HM := Lib.hid hm
  have hall : ∀ i, i ∈ idx k → 0 ≤ f.getD i 0 ∧ f.getD i 0 ≤ 1048576 := by
    intro i hi
    unfold mayB at hm
    simp only [Bool.and_eq_true, List.all_eq_true] at hm
    have := hm.1.2 i (by rw [HK.out]; exact hi)
    unfold inB at this
    simpa using this
  have HA := Lib.hid hall
  have hs1 : Hid ((Tryd.prog.info? 45).map (·.size) = some (frC f).size) := Lib.hid (refSize _ HF.out.1)
  have k0 := Has.new w 45 (frC f)
  have c0 := k0.cellv 0 _ (frC_get f 0 k hk)
  have hb : Below w.heap.size w (w.alloc (.cells (frC f) 45)) := (Below.refl _ _).alloc (Nat.le_refl _) _
  have Hk0 := Lib.hid (frC_get f 0 k hk)
  clear hf hm hk hall
  go_enter Tryd.func16, Tryd.ntmps16
  go_upto_region 1 with (fail)
  generalize w.alloc (.cells (frC f) 45) = w1 at *
  have hg0 := k0.lt
  generalize hG : w.heap.size = g0 at *
  have HG := Lib.hid hG
  clear hG
  obtain ⟨n, hn⟩ : ∃ n, (idx (f.getD 0 0)).length = n := ⟨_, rfl⟩
  have hn20 : n ≤ 20 := hn ▸ idx_len _
  have HN := Lib.hid hn
  clear hn
  go_upto_region 5 with (first
    | (refine wpList_load_row rfl 45 (.tmp 1) rfl g0 rfl 45 (frC f) (0, 0) _ k0 Tryd.underlying45 rfl hs1.out ?_)
    | (refine wpList_load_row rfl 45 (.tmp 1) rfl g0 rfl 45 (frC f) (0, 0) _ k1 Tryd.underlying45 rfl hs1.out ?_)
    | (go_at_call 63; refine (refMay_ok f HF.out _).mono ?_; rintro e w2 ⟨rfl, hb1⟩; rw [HM.out]; have k1 := k0.after hb1; have hbw := hb.trans (hb1.mono (Nat.le_of_lt hg0)); clear k0 c0 hb hb1)
    | (go_at_call 73; refine (list_ok f _ HF.out).mono ?_; rintro e w3 ⟨⟨A2, n2, rfl, own2⟩, hb3⟩; rw [HN.out] at own2 ⊢))
  have hbw3 := hbw.trans (hb3.mono (Nat.le_of_lt k1.lt))
  have hg3 : g0 ≤ w3.heap.size := Nat.le_of_lt (k1.after hb3).lt
  have HO2 := Lib.hid (own_base own2 (Nat.zero_le _))
  have HNG : Hid (∀ j, (numsL f)[j]? = ((idx (f.getD 0 0))[j]?).map fun i => f.getD i 0) := Lib.hid (numsL_get f)
  clear own2 hb3 hbw k1
  generalize numsL f = ls at *
  go_loopw [4, 14] (fun v i wr => ∃ j : Nat, j ≤ n ∧ i = I j ∧ Hid (wr.ownsRow g0 5 1 v (3 * j) (bytes (bodyTo f j))) ∧ g0 ≤ wr.heap.size ∧ Hid (wr.ownsRow 0 3 1 (.slice A2 n n2) n (ints ls)) ∧ Below g0 w wr) (fun _ i _ => n - (intOf i).toNat)
  case atStart => exact ⟨0, by omega, rfl, Lib.hid (World.ownsRow_nil _ _ _ _), hg3, HO2, hbw3⟩
  case round =>
    clear HO2 hbw3 hg3
    obtain ⟨j, hj, rfl, HV, hsr, HO2, hbr⟩ := hrel
    by_cases hlt : j < n
    · obtain ⟨i, hi⟩ := some_at (idx (f.getD 0 0)) j (by rw [HN.out]; exact hlt)
      obtain ⟨hc2, hr2⟩ := own_slice HO2.out
      have hx : ls[j]? = some (f.getD i 0) := by rw [HNG.out, hi]; rfl
      obtain ⟨q1, q2⟩ := HA.out i (List.mem_of_getElem? (HK.out ▸ hi))
      have HI := Lib.hid hi
      have HX : Hid (f.getD i 0 = f.getD i 0) := Lib.hid rfl
      generalize hgx : f.getD i 0 = x at *
      obtain ⟨b2, o2, rfl, hb2, e2⟩ := hr2.at_ hx
      have HB : Hid (bodyTo f (j + 1) = bodyTo f j ++ three x) := Lib.hid (by rw [bodyTo_succ f j i HI.out, hgx])
      clear hi hx hr2 hc2 hgx HX
      go_upto_region 8 with (at_builtin; refine wpList_append_own _ rfl _ _ 41 rfl g0 5 i0 (.int .u8 0) 1 1 Tryd.underlying41 hi0 hz0 hz1 hz2 rfl (by decide) _ (3 * j) _ rfl (World.ownsRow.alloc HV.out _) ⟨wr.heap.size, 0, none⟩ 3 3 (bytes (three x)) rfl rfl ?d1 ?d2 ?d3 ?d4 ?d5 ?_)
      case d1 => rw [← three_eq x (x / 65536) (x / 256 % 256) (x % 256) q1 (by omega) rfl rfl]; exact cells_new _ #[Value.int .u8 (x / 65536), .int .u8 (x / 256 % 256), .int .u8 (x % 256)] _
      case d2 => intro u hu; simp [bytes, three] at hu; rcases hu with rfl | rfl | rfl <;> rfl
      case d3 => unfold maxLen; omega
      case d4 => omega
      case d5 => simp <;> omega
      intro v4 w4 hown4 hgrow4 _
      ·
        have HO4 : Hid (w4.ownsRow g0 5 1 v4 (3 * (j + 1)) (bytes (bodyTo f (j + 1)))) := Lib.hid (by
          have e : bytes (bodyTo f (j + 1)) = bytes (bodyTo f j) ++ bytes (three x) := by rw [HB.out]; simp [bytes]
          rw [e]
          exact hown4)
        have hb4 : Below g0 w w4 := (hbr.alloc hsr _).grown hgrow4 (by simp <;> omega) (fun q hq => (HV.out.lt q hq).1)
        have hs4 : g0 ≤ w4.heap.size := Nat.le_trans hsr (Nat.le_trans (by simp) hgrow4.size)
        have HO24 := Lib.hid (own_own (w := (wr.alloc _)) (HO2.out.alloc _) (HV.out.alloc _) (by decide) hgrow4)
        clear hown4 hgrow4 HV HO2 e2
        go_wp2_with fail
        go_roundw
        case rel => exact ⟨j + 1, by omega, by go_num, HO4, hs4, HO24, hb4⟩
        case measure => simp [intOf]; omega
    · have hjn : j = n := by omega
      have HB : Hid (bodyTo f j = body f) := Lib.hid (by unfold body; rw [HN.out, hjn])
      have hl3 : (body f).length = 3 * j := by rw [← HB.out]; exact bodyTo_length f j (by rw [HN.out]; exact hj)
      have HL3 := Lib.hid hl3
      clear hl3 hjn
      obtain ⟨A4, c4, rfl, hc4, -, hr4⟩ := own_reads HV.out
      rw [HB.out] at hr4
      go_wp2_with (first
        | (go_at_call 21; refine (refSum_ok A4 (3 * j) c4 (body f) _ HL3 (by omega) hr4).mono ?_; rintro e w5 ⟨rfl, rfl⟩)
        | (at_builtin; refine wpList_append_own _ rfl _ _ 41 rfl g0 5 i0 (.int .u8 0) 1 1 Tryd.underlying41 hi0 hz0 hz1 hz2 rfl (by decide) _ _ _ rfl (World.ownsRow.alloc HV.out _) ⟨wr.heap.size, 0, none⟩ 4 4 (bytes (four (Crc.sum (body f)))) rfl rfl ?c1 ?c2 ?c3 ?c4 ?c5 ?_))
      case c1 => rw [← four_vals]; exact cells_new _ _ _
      case c2 => intro u hu; simp [bytes, four] at hu; rcases hu with rfl | rfl | rfl | rfl <;> rfl
      case c3 => unfold maxLen; omega
      case c4 => omega
      case c5 => simp <;> omega
      intro v5 w5 hown5 hgrow5 _
      have hb5 : Below g0 w w5 := (hbr.alloc hsr _).grown hgrow5 (by simp <;> omega) (fun q hq => (HV.out.lt q hq).1)
      have hlen : (encB f).length = 3 * j + 4 := by unfold encB; rw [List.length_append, HL3.out]; rfl
      have HO5 : Hid (w5.ownsRow g0 5 1 v5 (encB f).length (bytes (encB f))) := Lib.hid (by
        have e : bytes (encB f) = bytes (body f) ++ bytes (four (Crc.sum (body f))) := by unfold encB; simp [bytes]
        have h5 := hown5
        rw [HB.out] at h5
        rw [hlen, e]
        exact h5)
      clear hown5 hgrow5 hlen
      go_wp2
      obtain ⟨A5, c5, rfl, -⟩ := own_reads HO5.out
      go_ret2
      refine ⟨⟨A5, c5, rfl, ?_⟩, HG.out ▸ hb5⟩
      rw [HG.out]
      exact HO5.out
end Go.Proofs.YtdhekhlmdefcnaaDoor
/- plain.Place, is and bare, at a bare number and at none. -/
namespace Go.Proofs.YtdhekhlmdefcnaaDoor
open Go.RowKit
set_option maxHeartbeats 2000000 in
theorem place_nil (w : World) : Calls Tryd.prog 83 #[.nilIface] w fun e w' => e = .returned (.tuple #[I 0, I (-1)]) ∧ w = w' := by
  go_enter Tryd.func83, Tryd.ntmps83
  go_wp2_with (go_at_call 76; refine (tell_nil _).mono ?_; rintro e w9 ⟨rfl, rfl⟩)
  go_loop [0] (fun v => v = .nilIface) (fun _ => 0)
  case atStart => exact rfl
  case round =>
    subst hrel
    go_wp2
    go_ret2
    exact ⟨rfl, rfl⟩
theorem ta_at (v : Value) (w : World) : (Instr.typeAssert (.iface 42 v) 28 175 true).run Tryd.prog w = .ok (.tuple #[.pointer none, .bool false]) w := by kernel_rfl
theorem ta_un (v : Value) (w : World) : (Instr.typeAssert (.iface 42 v) 28 196 true).run Tryd.prog w = .ok (.tuple #[.nilIface, .bool false]) w := run_typeAssert_lacksB Tryd.underlying196 (by kernel_rfl) (by kernel_rfl) v 28 w
set_option maxHeartbeats 2000000 in
set_option maxRecDepth 100000 in
theorem place_errno (n : Int) (w : World) (hg : Hid (EType w)) : Calls Tryd.prog 83 #[.iface 42 (I n)] w fun e w' => e = .returned (.tuple #[I n, I (-1)]) ∧ Below w.heap.size w w' := by
  go_enter Tryd.func83, Tryd.ntmps83
  go_wp2_with (go_at_call 76; refine (tell_errno n _ hg).mono ?_; rintro e w9 ⟨rfl, hb9⟩)
  go_loop [0] (fun v => v = .iface 42 (I n)) (fun _ => 0)
  case atStart => exact rfl
  case round =>
    subst hrel
    have ht1 := ta_at (I n) w9
    have ht2 := ta_un (I n) w9
    go_wp2
    go_ret2
    exact ⟨rfl, hb9⟩
/-- the error of a number: none at 0 -/
def errOf (e : Int) : Value := if e = 0 then .nilIface else .iface 42 (I e)
theorem place_ok (n : Int) (w : World) (hg : Hid (EType w)) : Calls Tryd.prog 83 #[errOf n] w fun e w' => e = .returned (.tuple #[I n, I (-1)]) ∧ Below w.heap.size w w' := by
  unfold errOf
  split
  · subst n
    refine (place_nil w).mono ?_
    rintro e w' ⟨rfl, rfl⟩
    exact ⟨rfl, Below.refl _ _⟩
  · exact place_errno n w hg
theorem bare_ref (n : Int) (w : World) : Calls Tryd.prog 58 #[I n] w fun e w' => e = .returned (.agg #[I n, I (-1)]) ∧ Below w.heap.size w w' := by
  have hb : Below w.heap.size w (w.alloc (.cells #[I 0, I 0] 95)) := (Below.refl _ _).alloc (Nat.le_refl _) _
  go_enter Tryd.func58, Tryd.ntmps58
  go_wp2
  have k := Has.new w 95 #[I n, I (-1)]
  exact bodyPost_ret (results_cell_row rfl _ _ w.heap.size _ #[I n, I (-1)] _ _ rfl k Tryd.underlying95 rfl (by kernel_rfl)) rfl ⟨rfl, (Below.refl _ _).alloc (Nat.le_refl _) _⟩
set_option maxHeartbeats 2000000 in
theorem is_ok (e n : Int) (w : World) (hg : Hid (EType w)) : Calls Tryd.prog 43 #[errOf e, .agg #[I n, I (-1)]] w fun r w' => r = .returned (.bool (e == n)) ∧ Below w.heap.size w w' := by
  have hb : Below w.heap.size w (w.alloc (.cells #[I n, I (-1)] 95)) := (Below.refl _ _).alloc (Nat.le_refl _) _
  have hg1 := Lib.hid (hg.out.after hb)
  have k0 := Has.new w 95 #[I n, I (-1)]
  generalize hv : errOf e = v
  have HV := Lib.hid hv
  clear hv
  go_enter Tryd.func43, Tryd.ntmps43
  go_upto_region 1 with fail
  generalize w.alloc (.cells #[I n, I (-1)] 95) = w1 at *
  have hl := k0.lt
  generalize hG : w.heap.size = g0 at *
  have HG := Lib.hid hG
  clear hG
  have HP : Hid (Calls Tryd.prog 83 #[v] w1 fun r w' => r = .returned (.tuple #[I e, I (-1)]) ∧ Below w1.heap.size w1 w') := Lib.hid (HV.out ▸ place_ok e w1 hg1)
  by_cases hen : e = n
  · subst hen
    go_wp2_with (go_at_call 83; refine HP.out.mono ?_; rintro r w2 ⟨rfl, hb2⟩; have k2 := k0.after hb2; have c2 := k2.cellv 0 _ rfl; have c3 := k2.cellv 1 _ rfl)
    go_ret
    exact ⟨by simp, HG.out ▸ hb.trans (hb2.mono (Nat.le_of_lt hl))⟩
  · have ht : (e == n) = false := by simpa using hen
    go_wp2_with (go_at_call 83; refine HP.out.mono ?_; rintro r w2 ⟨rfl, hb2⟩; have k2 := k0.after hb2; have c2 := k2.cellv 0 _ rfl; have c3 := k2.cellv 1 _ rfl)
    go_ret
    exact ⟨by rw [ht]; rfl, HG.out ▸ hb.trans (hb2.mono (Nat.le_of_lt hl))⟩
theorem bare_ok (e n : Int) (w : World) (hg : Hid (EType w)) : Calls Tryd.prog 19 #[errOf e, I n] w fun r w' => r = .returned (.bool (e == n)) ∧ Below w.heap.size w w' := by
  generalize hv : errOf e = v
  have HV := Lib.hid hv
  clear hv
  have HI : Hid (∀ w1, EType w1 → Calls Tryd.prog 43 #[v, .agg #[I n, I (-1)]] w1 fun r w' => r = .returned (.bool (e == n)) ∧ Below w1.heap.size w1 w') := Lib.hid (fun w1 h => HV.out ▸ is_ok e n w1 (Lib.hid h))
  go_enter Tryd.func19, Tryd.ntmps19
  go_wp2_with (first
    | (go_at_call 58; refine (bare_ref n _).mono ?_; rintro r w2 ⟨rfl, hb2⟩; have hg2 := Lib.hid (hg.out.after hb2))
    | (go_at_call 43; refine (HI.out _ hg2.out).mono ?_; rintro r w3 ⟨rfl, hb3⟩))
  go_ret
  exact ⟨rfl, hb2.trans (hb3.mono hb2.size)⟩
end Go.Proofs.YtdhekhlmdefcnaaDoor
/- The walk over given (printed by wip/gengiven.py). -/
namespace Go.Proofs.YtdhekhlmdefcnaaDoor
open Go.RowKit
theorem list23 (f : List Int) (h : f.length = 23) : f = [f.getD 0 0, f.getD 1 0, f.getD 2 0, f.getD 3 0, f.getD 4 0, f.getD 5 0, f.getD 6 0, f.getD 7 0, f.getD 8 0, f.getD 9 0, f.getD 10 0, f.getD 11 0, f.getD 12 0, f.getD 13 0, f.getD 14 0, f.getD 15 0, f.getD 16 0, f.getD 17 0, f.getD 18 0, f.getD 19 0, f.getD 20 0, f.getD 21 0, f.getD 22 0] := by
  apply List.ext_getElem? ; intro i
  by_cases hi : i < 23
  · have : i = 0 ∨ i = 1 ∨ i = 2 ∨ i = 3 ∨ i = 4 ∨ i = 5 ∨ i = 6 ∨ i = 7 ∨ i = 8 ∨ i = 9 ∨ i = 10 ∨ i = 11 ∨ i = 12 ∨ i = 13 ∨ i = 14 ∨ i = 15 ∨ i = 16 ∨ i = 17 ∨ i = 18 ∨ i = 19 ∨ i = 20 ∨ i = 21 ∨ i = 22 := by omega
    rcases this with rfl | rfl | rfl | rfl | rfl | rfl | rfl | rfl | rfl | rfl | rfl | rfl | rfl | rfl | rfl | rfl | rfl | rfl | rfl | rfl | rfl | rfl | rfl <;> simp [List.getD_eq_getElem?_getD, h]
  · rw [List.getElem?_eq_none (by omega), List.getElem?_eq_none (by simp; omega)]
theorem getD_nat {f : List Int} {i : Nat} {x : Int} (h : f[i]? = some x) : f.getD i 0 = x := getD_int h
set_option maxHeartbeats 4000000 in
set_option maxRecDepth 100000 in
theorem given_ok (f : List Int) (hf : Wf f) (w : World) : Calls Tryd.prog 17 #[.agg (frC f)] w fun e w' => e = .returned (.agg (frC f)) ∧ Below w.heap.size w w' := by
  have k0 := Has.new w 40 (frC f)
  have hb : Below w.heap.size w (w.alloc (.cells (frC f) 40)) := (Below.refl _ _).alloc (Nat.le_refl _) _
  have hs2 : Hid ((Tryd.prog.info? 45).map (·.size) = some (frC f).size) := Lib.hid (refSize _ hf.1)
  have hs3 : Hid ((frC zeroF).size = (frC f).size) := Lib.hid (by rw [frC_size _ hf.1]; rfl)
  have hsz1 : (w.alloc (.cells (frC f) 40)).heap.size = w.heap.size + 1 := by simp
  obtain ⟨x0, hx0⟩ := some_at f 0 (by rw [hf.1]; decide)
  obtain ⟨x1, hx1⟩ := some_at f 1 (by rw [hf.1]; decide)
  obtain ⟨x2, hx2⟩ := some_at f 2 (by rw [hf.1]; decide)
  obtain ⟨x3, hx3⟩ := some_at f 3 (by rw [hf.1]; decide)
  obtain ⟨x4, hx4⟩ := some_at f 4 (by rw [hf.1]; decide)
  obtain ⟨x5, hx5⟩ := some_at f 5 (by rw [hf.1]; decide)
  obtain ⟨x6, hx6⟩ := some_at f 6 (by rw [hf.1]; decide)
  obtain ⟨x7, hx7⟩ := some_at f 7 (by rw [hf.1]; decide)
  obtain ⟨x8, hx8⟩ := some_at f 8 (by rw [hf.1]; decide)
  obtain ⟨x9, hx9⟩ := some_at f 9 (by rw [hf.1]; decide)
  obtain ⟨x10, hx10⟩ := some_at f 10 (by rw [hf.1]; decide)
  obtain ⟨x11, hx11⟩ := some_at f 11 (by rw [hf.1]; decide)
  obtain ⟨x12, hx12⟩ := some_at f 12 (by rw [hf.1]; decide)
  obtain ⟨x13, hx13⟩ := some_at f 13 (by rw [hf.1]; decide)
  obtain ⟨x14, hx14⟩ := some_at f 14 (by rw [hf.1]; decide)
  obtain ⟨x15, hx15⟩ := some_at f 15 (by rw [hf.1]; decide)
  obtain ⟨x16, hx16⟩ := some_at f 16 (by rw [hf.1]; decide)
  obtain ⟨x17, hx17⟩ := some_at f 17 (by rw [hf.1]; decide)
  obtain ⟨x18, hx18⟩ := some_at f 18 (by rw [hf.1]; decide)
  obtain ⟨x19, hx19⟩ := some_at f 19 (by rw [hf.1]; decide)
  obtain ⟨x20, hx20⟩ := some_at f 20 (by rw [hf.1]; decide)
  obtain ⟨x21, hx21⟩ := some_at f 21 (by rw [hf.1]; decide)
  obtain ⟨x22, hx22⟩ := some_at f 22 (by rw [hf.1]; decide)
  have hF : frC f = #[I x0, I x1, I x2, I x3, I x4, I x5, I x6, I x7, I x8, I x9, I x10, I x11, I x12, I x13, I x14, I x15, I x16, I x17, I x18, I x19, I x20, I x21, I x22] := by
    conv => lhs; rw [list23 f hf.1, getD_nat hx0, getD_nat hx1, getD_nat hx2, getD_nat hx3, getD_nat hx4, getD_nat hx5, getD_nat hx6, getD_nat hx7, getD_nat hx8, getD_nat hx9, getD_nat hx10, getD_nat hx11, getD_nat hx12, getD_nat hx13, getD_nat hx14, getD_nat hx15, getD_nat hx16, getD_nat hx17, getD_nat hx18, getD_nat hx19, getD_nat hx20, getD_nat hx21, getD_nat hx22]
    rfl
  have HF := Lib.hid hF
  clear hF
  go_enter Tryd.func17, Tryd.ntmps17
  go_upto_region 1 with fail
  generalize w.alloc (.cells (frC f) 40) = w1 at *
  have hl := k0.lt
  have kz : Has (w1.alloc (.cells #[I 0, I 0, I 0, I 0, I 0, I 0, I 0, I 0, I 0, I 0, I 0, I 0, I 0, I 0, I 0, I 0, I 0, I 0, I 0, I 0, I 0, I 0, I 0] 45)) w1.heap.size 45 (frC zeroF) := by rw [zeroFrame]; exact Has.new _ _ _
  have kf := k0.alloc (.cells #[I 0, I 0, I 0, I 0, I 0, I 0, I 0, I 0, I 0, I 0, I 0, I 0, I 0, I 0, I 0, I 0, I 0, I 0, I 0, I 0, I 0, I 0, I 0] 45)
  have hb2 := hb.alloc (Nat.le_of_lt hl) (.cells #[I 0, I 0, I 0, I 0, I 0, I 0, I 0, I 0, I 0, I 0, I 0, I 0, I 0, I 0, I 0, I 0, I 0, I 0, I 0, I 0, I 0, I 0, I 0] 45)
  rw [hsz1] at kz
  generalize hG : w.heap.size = g0 at *
  have HG := Lib.hid hG
  clear hG
  generalize w1.alloc (.cells #[I 0, I 0, I 0, I 0, I 0, I 0, I 0, I 0, I 0, I 0, I 0, I 0, I 0, I 0, I 0, I 0, I 0, I 0, I 0, I 0, I 0, I 0, I 0] 45) = w2 at *
  have c0 := kf.cellv 0 _ (frC_get f _ x0 hx0)
  have c1 := kf.cellv 1 _ (frC_get f _ x1 hx1)
  have c2 := kf.cellv 2 _ (frC_get f _ x2 hx2)
  have c3 := kf.cellv 3 _ (frC_get f _ x3 hx3)
  have c4 := kf.cellv 4 _ (frC_get f _ x4 hx4)
  have c5 := kf.cellv 5 _ (frC_get f _ x5 hx5)
  have c6 := kf.cellv 6 _ (frC_get f _ x6 hx6)
  have c7 := kf.cellv 7 _ (frC_get f _ x7 hx7)
  have c8 := kf.cellv 8 _ (frC_get f _ x8 hx8)
  have c9 := kf.cellv 9 _ (frC_get f _ x9 hx9)
  have c10 := kf.cellv 10 _ (frC_get f _ x10 hx10)
  have c11 := kf.cellv 11 _ (frC_get f _ x11 hx11)
  have c12 := kf.cellv 12 _ (frC_get f _ x12 hx12)
  have c13 := kf.cellv 13 _ (frC_get f _ x13 hx13)
  have c14 := kf.cellv 14 _ (frC_get f _ x14 hx14)
  have c15 := kf.cellv 15 _ (frC_get f _ x15 hx15)
  have c16 := kf.cellv 16 _ (frC_get f _ x16 hx16)
  have c17 := kf.cellv 17 _ (frC_get f _ x17 hx17)
  have c18 := kf.cellv 18 _ (frC_get f _ x18 hx18)
  have c19 := kf.cellv 19 _ (frC_get f _ x19 hx19)
  have c20 := kf.cellv 20 _ (frC_get f _ x20 hx20)
  have c21 := kf.cellv 21 _ (frC_get f _ x21 hx21)
  have c22 := kf.cellv 22 _ (frC_get f _ x22 hx22)
  clear hx0 hx1 hx2 hx3 hx4 hx5 hx6 hx7 hx8 hx9 hx10 hx11 hx12 hx13 hx14 hx15 hx16 hx17 hx18 hx19 hx20 hx21 hx22
  go_wp2_with (refine wpList_store_row rfl 45 (.tmp 2) (.tmp 15) rfl (g0 + 1) (frC f) rfl (congrArg Value.agg HF.out.symm) 45 _ kz hs2.out hs3.out (frC_one _) ?_)
  exact bodyPost_ret (results_cell_row rfl _ _ (g0 + 1) _ (frC f) _ _ rfl (kz.setRow _) Tryd.underlying45 rfl hs2.out) rfl ⟨rfl, by rw [HG.out]; exact below_setRow hb2 (by omega) _⟩
end Go.Proofs.YtdhekhlmdefcnaaDoor
/- The walk over the reference's Decode. -/
namespace Go.Proofs.YtdhekhlmdefcnaaDoor
open Go.RowKit
/-- four bytes as a number: the first j -/
def n4To (l : List UInt8) : Nat → Nat
  | 0 => 0
  | j + 1 => n4To l j * 256 + (l.getD j 0).toNat
theorem n4To_lt (l : List UInt8) : ∀ j, n4To l j < 256 ^ j
  | 0 => by simp [n4To]
  | j + 1 => by
    have h := n4To_lt l j
    have := (l.getD j 0).toNat_lt
    rw [n4To, Nat.pow_succ]
    omega
theorem four_eq (l : List UInt8) (s : Crc.B32) (h : l.length = 4) : l = four s ↔ s.toNat = n4To l 4 := by
  match l, h with
  | [a, b, c, d], _ =>
    have ha := a.toNat_lt
    have hb := b.toNat_lt
    have hc := c.toNat_lt
    have hd := d.toNat_lt
    have hs := s.isLt
    have e : n4To [a, b, c, d] 4 = ((a.toNat * 256 + b.toNat) * 256 + c.toNat) * 256 + d.toNat := by simp [n4To]
    rw [e]
    unfold four
    constructor
    · intro h
      injection h with h1 h
      injection h with h2 h
      injection h with h3 h
      injection h with h4 h
      have e1 := congrArg UInt8.toNat h1
      have e2 := congrArg UInt8.toNat h2
      have e3 := congrArg UInt8.toNat h3
      have e4 := congrArg UInt8.toNat h4
      rw [UInt8.toNat_ofNat'] at e1 e2 e3 e4
      omega
    · intro h
      have e1 : a = UInt8.ofNat (s.toNat / 16777216) := UInt8.toNat_inj.1 (by rw [UInt8.toNat_ofNat']; omega)
      have e2 : b = UInt8.ofNat (s.toNat / 65536) := UInt8.toNat_inj.1 (by rw [UInt8.toNat_ofNat']; omega)
      have e3 : c = UInt8.ofNat (s.toNat / 256) := UInt8.toNat_inj.1 (by rw [UInt8.toNat_ofNat']; omega)
      have e4 : d = UInt8.ofNat s.toNat := UInt8.toNat_inj.1 (by rw [UInt8.toNat_ofNat']; omega)
      rw [← e1, ← e2, ← e3, ← e4]
/-- the numbers of bytes: the first j -/
def decL (l : List UInt8) (j : Nat) : List Int := (List.range j).map fun i => ((num3 l i : Nat) : Int)
theorem decL_length (l : List UInt8) (j : Nat) : (decL l j).length = j := by simp [decL]
theorem decL_succ (l : List UInt8) (j : Nat) : decL l (j + 1) = decL l j ++ [((num3 l j : Nat) : Int)] := by simp [decL, List.range_succ]
theorem decL_get (l : List UInt8) (j i : Nat) (h : i < j) : (decL l j).getD i 0 = ((num3 l i : Nat) : Int) := by simp [decL, List.getD_eq_getElem?_getD, h]
theorem made_decTo (l : List UInt8) (j : Nat) (hj : 1 ≤ j) : ∀ n, n ≤ j → 1 ≤ n → madeTo (decL l j) n = decTo l n
  | 0, _, h => by omega
  | n + 1, hn, _ => by
    have e0 := decL_get l j 0 (by omega)
    have en := decL_get l j n (by omega)
    rw [madeTo, decTo, e0, en]
    by_cases h1 : 1 ≤ n
    · rw [made_decTo l j hj n (by omega) h1]
    · have : n = 0 := by omega
      subst this
      have : (idx ((num3 l 0 : Nat) : Int)).getD 0 0 = 0 := (idx_t3 _).1
      rw [this]
      show zeroF.set 0 _ = (zeroF.set 0 _).set 0 _
      rw [List.set_set]
theorem made_dec (l : List UInt8) (j : Nat) (h1 : 1 ≤ j) : (if (made (decL l j)).2 = true ∧ mayB (made (decL l j)).1 = true then ((0 : Int), (made (decL l j)).1) else (3, zeroF)) =
    (if ¬ (idx (num3 l 0)).length * 3 = 3 * j then (3, zeroF) else if mayB (decF l) then (0, decF l) else (3, zeroF)) := by
  have h3 := idx_three_m ((num3 l 0 : Nat) : Int)
  have e0 := decL_get l j 0 (by omega)
  have hB : madeB (decL l j) = (decide (3 ≤ j) && (decide (1 ≤ ((num3 l 0 : Nat) : Int)) && decide (((num3 l 0 : Nat) : Int) ≤ 5)) && decide (j = (idx (num3 l 0)).length)) := by
    unfold madeB
    rw [decL_length, e0]
  unfold made
  rw [hB]
  by_cases hl : (idx (num3 l 0)).length = j
  · have hl2 : (idx (num3 l 0)).length * 3 = 3 * j := by omega
    rw [if_neg (show ¬ ¬ (idx (num3 l 0)).length * 3 = 3 * j by simpa using hl2)]
    have hdec : madeTo (decL l j) (decL l j).length = decF l := by
      rw [decL_length, made_decTo l j h1 j (Nat.le_refl _) h1]
      unfold decF
      rw [hl]
    rw [hdec]
    by_cases hk : 1 ≤ ((num3 l 0 : Nat) : Int) ∧ ((num3 l 0 : Nat) : Int) ≤ 5
    · have hb : (decide (3 ≤ j) && (decide (1 ≤ ((num3 l 0 : Nat) : Int)) && decide (((num3 l 0 : Nat) : Int) ≤ 5)) && decide (j = (idx (num3 l 0)).length)) = true := by
        simp only [Bool.and_eq_true, decide_eq_true_eq]
        exact ⟨⟨by omega, hk⟩, hl.symm⟩
      rw [hb]
      simp
    · have hb : (decide (3 ≤ j) && (decide (1 ≤ ((num3 l 0 : Nat) : Int)) && decide (((num3 l 0 : Nat) : Int) ≤ 5)) && decide (j = (idx (num3 l 0)).length)) = false := by
        rw [Bool.eq_false_iff]
        simp only [ne_eq, Bool.and_eq_true, decide_eq_true_eq]
        exact fun h => hk h.1.2
      rw [hb]
      have hm : mayB (decF l) = false := by
        rw [Bool.eq_false_iff]
        intro hm
        unfold mayB headB at hm
        simp only [Bool.and_eq_true, decide_eq_true_eq] at hm
        have hd0 : (decF l).getD 0 0 = ((num3 l 0 : Nat) : Int) := by
          have key : ∀ n, n ≤ (idx ((num3 l 0 : Nat) : Int)).length → (decTo l n).getD 0 0 = ((num3 l 0 : Nat) : Int) := by
            intro n
            induction n with
            | zero => intro _; rfl
            | succ n ih =>
              intro hn
              rw [decTo]
              by_cases hz : (idx ((num3 l 0 : Nat) : Int)).getD n 0 = 0
              · rw [hz]
                have hn0 : n = 0 := by
                  have hx : ∀ k : Int, ∀ n, n < (idx k).length → (idx k).getD n 0 = 0 → n = 0 := by
                    intro k
                    rcases idx_cases k with ⟨_, e⟩ | ⟨_, e⟩ | ⟨_, e⟩ | ⟨_, e⟩ | ⟨_, _, _, _, e⟩ <;> rw [e] <;> decide
                  exact hx _ n (by omega) hz
                subst hn0
                rw [List.getD_eq_getElem?_getD, List.getElem?_set_self (by rw [decTo_length]; decide)]
                rfl
              · rw [List.getD_eq_getElem?_getD, List.getElem?_set_ne hz, ← List.getD_eq_getElem?_getD, ih (by omega)]
          exact key _ (Nat.le_refl _)
        rw [hd0] at hm
        exact hk ⟨hm.1.1.1.1.1, hm.1.1.1.1.2⟩
      rw [hm]
      simp
  · have hl2 : ¬ (idx (num3 l 0)).length * 3 = 3 * j := by omega
    rw [if_pos hl2]
    have hb : (decide (3 ≤ j) && (decide (1 ≤ ((num3 l 0 : Nat) : Int)) && decide (((num3 l 0 : Nat) : Int) ≤ 5)) && decide (j = (idx (num3 l 0)).length)) = false := by
      rw [Bool.eq_false_iff]
      simp only [ne_eq, Bool.and_eq_true, decide_eq_true_eq]
      exact fun h => hl h.2.symm
    rw [hb]
    simp
theorem Reads.grown {w w' : World} {B : Nat} {A : Option Addr} {xs : List Value} {row : Option Nat} (h : Reads w B A xs) (hB : B ≤ w.heap.size) (hg : w.grownBy w' row) (hr : ∀ q, row = some q → B ≤ q) : Reads w' B A xs :=
  h.keep fun b o hb => by
    have := hg.block b (by omega) (fun e => by have := hr b e.symm; omega)
    simp [World.cell?, this]
theorem n3_wrap (x y z : UInt8) : IntKind.i64.wrap (IntKind.i64.wrap (IntKind.i64.wrap (IntKind.i64.wrap (x.toNat : Int) * 65536) + IntKind.i64.wrap (IntKind.i64.wrap (y.toNat : Int) * 256)) + IntKind.i64.wrap (z.toNat : Int)) = (x.toNat : Int) * 65536 + (y.toNat : Int) * 256 + (z.toNat : Int) := by
  have hx := x.toNat_lt
  have hy := y.toNat_lt
  have hz := z.toNat_lt
  rw [IntWalk.i64_in (x.toNat : Int) (by omega), IntWalk.i64_in (y.toNat : Int) (by omega), IntWalk.i64_in (z.toNat : Int) (by omega), IntWalk.i64_in ((x.toNat : Int) * 65536) (by omega), IntWalk.i64_in ((y.toNat : Int) * 256) (by omega), IntWalk.i64_in ((x.toNat : Int) * 65536 + (y.toNat : Int) * 256) (by omega), IntWalk.i64_in _ (by omega)]
theorem zeroFrameR : (#[I 0, I 0, I 0, I 0, I 0, I 0, I 0, I 0, I 0, I 0, I 0, I 0, I 0, I 0, I 0, I 0, I 0, I 0, I 0, I 0, I 0, I 0, I 0] : Array Value) = frC zeroF := zeroFrame
theorem zeroSizeR : (Tryd.prog.info? 45).map (·.size) = some (frC zeroF).size := refSize _ rfl
theorem num3_lt (l : List UInt8) (j : Nat) : num3 l j < 16777216 := n3_lt _ _ _
theorem made_wf (l : List UInt8) (j : Nat) : Wf (made (decL l j)).1 := by
  have hz : Wf zeroF := ⟨rfl, fun x hx => by have := List.eq_of_mem_replicate hx; omega⟩
  unfold made
  split
  · have key : ∀ n, Wf (madeTo (decL l j) n) := by
      intro n
      induction n with
      | zero => exact hz
      | succ n ih =>
        refine ⟨madeTo_length _ _, fun x hx => ?_⟩
        unfold madeTo at hx
        rcases List.mem_or_eq_of_mem_set hx with hx | rfl
        · exact ih.2 x hx
        · by_cases hn : n < j
          · rw [decL_get l j n hn]
            have := num3_lt l n
            omega
          · rw [List.getD_eq_getElem?_getD, List.getElem?_eq_none (by rw [decL_length]; omega)]
            simp
    exact key _
  · exact hz
set_option maxHeartbeats 2000000 in
set_option maxRecDepth 100000 in
theorem refDecode_size (A : Option Addr) (n c : Nat) (w : World) (h : n < 7 ∨ 80 < n) :
    Calls Tryd.prog 25 #[.slice A n c] w fun e w' => e = .returned (.tuple #[.agg (frC zeroF), I 3]) ∧ Below w.heap.size w w' := by
  have hin : inR (n : Int) 7 80 = false := by unfold inR; simp; omega
  go_enter Tryd.func25, Tryd.ntmps25
  go_upto_region 1 with (fail)
  have k2 : Has (w.alloc (.cells #[I 0, I 0, I 0, I 0, I 0, I 0, I 0, I 0, I 0, I 0, I 0, I 0, I 0, I 0, I 0, I 0, I 0, I 0, I 0, I 0, I 0, I 0, I 0] 45)) w.heap.size 45 (frC zeroF) := by rw [zeroFrameR]; exact Has.new _ _ _
  have hb : Below w.heap.size w (w.alloc (.cells #[I 0, I 0, I 0, I 0, I 0, I 0, I 0, I 0, I 0, I 0, I 0, I 0, I 0, I 0, I 0, I 0, I 0, I 0, I 0, I 0, I 0, I 0, I 0] 45)) := (Below.refl _ _).alloc (Nat.le_refl _) _
  generalize (w.alloc (.cells #[I 0, I 0, I 0, I 0, I 0, I 0, I 0, I 0, I 0, I 0, I 0, I 0, I 0, I 0, I 0, I 0, I 0, I 0, I 0, I 0, I 0, I 0, I 0] 45)) = w1 at *
  generalize hG : w.heap.size = g2 at *
  have HG := Lib.hid hG
  clear hG
  go_wp2_with (first
    | (go_at_call 78; refine (in_any _ _ _ _).mono ?_; rintro e w9 ⟨rfl, rfl⟩)
    | (refine wpList_store_row rfl 45 (.tmp 2) _ rfl g2 (frC zeroF) rfl rfl 45 _ k2 zeroSizeR rfl (frC_one _) ?_))
  exact bodyPost_ret (ret_cell_tmp rfl _ _ _ _ (frC zeroF) _ rfl (k2.setRow _) Tryd.underlying45 rfl zeroSizeR) rfl ⟨rfl, HG.out ▸ below_setRow hb (Nat.le_refl _) _⟩
set_option maxHeartbeats 4000000 in
set_option maxRecDepth 100000 in
theorem refDecode_in (bb oo m c : Nat) (l : List UInt8) (w : World) (hl : Hid (l.length = m + 4)) (h1 : 3 ≤ m) (h2 : m ≤ 76) (hc : m + 4 ≤ c) (hr : Reads w w.heap.size (some ⟨bb, oo, none⟩) (bytes l)) :
    Calls Tryd.prog 25 #[.slice (some ⟨bb, oo, none⟩) (m + 4) c] w fun e w' => e = .returned (.tuple #[.agg (frC (dec l).2), I (dec l).1]) ∧ Below w.heap.size w w' := by
  obtain ⟨i0, hi0, hz0, hz1, hz2⟩ := info_parts infoI
  have hin : inR ((m : Int) + 4) 7 80 = true := by unfold inR; simp; omega
  have HR := Lib.hid hr
  clear hr
  go_enter Tryd.func25, Tryd.ntmps25
  go_upto_region 1 with (fail)
  have k2 : Has (w.alloc (.cells #[I 0, I 0, I 0, I 0, I 0, I 0, I 0, I 0, I 0, I 0, I 0, I 0, I 0, I 0, I 0, I 0, I 0, I 0, I 0, I 0, I 0, I 0, I 0] 45)) w.heap.size 45 (frC zeroF) := by rw [zeroFrameR]; exact Has.new _ _ _
  have hb : Below w.heap.size w (w.alloc (.cells #[I 0, I 0, I 0, I 0, I 0, I 0, I 0, I 0, I 0, I 0, I 0, I 0, I 0, I 0, I 0, I 0, I 0, I 0, I 0, I 0, I 0, I 0, I 0] 45)) := (Below.refl _ _).alloc (Nat.le_refl _) _
  have HR1 : Hid (Reads (w.alloc (.cells #[I 0, I 0, I 0, I 0, I 0, I 0, I 0, I 0, I 0, I 0, I 0, I 0, I 0, I 0, I 0, I 0, I 0, I 0, I 0, I 0, I 0, I 0, I 0] 45)) w.heap.size (some ⟨bb, oo, none⟩) (bytes l)) := Lib.hid (HR.out.below hb)
  generalize (w.alloc (.cells #[I 0, I 0, I 0, I 0, I 0, I 0, I 0, I 0, I 0, I 0, I 0, I 0, I 0, I 0, I 0, I 0, I 0, I 0, I 0, I 0, I 0, I 0, I 0] 45)) = w1 at *
  generalize hG : w.heap.size = g2 at *
  have HG := Lib.hid hG
  have hg2 := k2.lt
  clear hG HR
  have HD : Hid (dec l = (if ¬ l.drop m = four (Crc.sum (l.take m)) then (15, zeroF) else if ¬ m % 3 = 0 then (3, zeroF) else if ¬ (idx (num3 l 0)).length * 3 = m then (3, zeroF) else if mayB (decF l) then (0, decF l) else (3, zeroF))) := Lib.hid (by
    unfold dec
    rw [if_neg (by rw [hl.out]; omega), hl.out, show m + 4 - 4 = m by omega])
  have HT : Hid ((l.take m).length = m) := Lib.hid (by rw [List.length_take, hl.out]; omega)
  have HDr : Hid ((l.drop m).length = 4) := Lib.hid (by rw [List.length_drop, hl.out]; omega)
  have hrt : Reads w1 w1.heap.size (some ⟨bb, oo, none⟩) (bytes (l.take m)) := by rw [bytes_take]; exact (HR1.out.take m).more (Nat.le_of_lt hg2)
  have HRt := Lib.hid hrt
  have hrd : Reads w1 w1.heap.size (some ⟨bb, oo + m, none⟩) (bytes (l.drop m)) := by rw [bytes_drop]; exact ((HR1.out.drop m).more (Nat.le_of_lt hg2))
  have HRd := Lib.hid hrd
  clear hrt hrd
  go_wp2_with (go_at_call 78; refine (in_any _ _ _ _).mono ?_; rintro e w9 ⟨rfl, rfl⟩)
  go_loop [5, 24] (fun v i => ∃ j : Nat, j ≤ 4 ∧ i = I j ∧ v = .int .u32 ((n4To (l.drop m) j : Nat) : Int)) (fun _ i => 4 - (intOf i).toNat)
  case atStart => exact ⟨0, by omega, rfl, rfl⟩
  case round =>
    obtain ⟨j, hj, rfl, rfl⟩ := hrel
    have hn4 := n4To_lt (l.drop m) j
    by_cases hlt : j < 4
    · obtain ⟨x, hx⟩ := some_at (l.drop m) j (by rw [HDr.out]; exact hlt)
      obtain ⟨b', o', e, _, hcell⟩ := HRd.out.byte_ hx
      cases e
      have hx8 := x.toNat_lt
      have HX : Hid (n4To (l.drop m) (j + 1) = n4To (l.drop m) j * 256 + x.toNat) := Lib.hid (by rw [n4To, List.getD_eq_getElem?_getD, hx]; rfl)
      have hn3 : n4To (l.drop m) j < 16777216 := Nat.lt_of_lt_of_le hn4 (show 256 ^ j ≤ 16777216 from Nat.le_trans (Nat.pow_le_pow_right (by decide) (show j ≤ 3 by omega)) (by decide))
      clear hx hn4
      generalize n4To (l.drop m) j = N at *
      go_wp2
      go_round
      case rel => exact ⟨j + 1, by omega, by go_num, U_eq (by rw [HX.out]; omega)⟩
      case measure => simp [intOf]; omega
    · have hj4 : j = 4 := by omega
      subst hj4
      have HF4 := Lib.hid (four_eq (l.drop m) (Crc.sum (l.take m)) HDr.out)
      have hn32 : n4To (l.drop m) 4 < 4294967296 := by simpa using hn4
      clear hn4
      generalize n4To (l.drop m) 4 = N at *
      have hs32 := (Crc.sum (l.take m)).isLt
      by_cases he : (Crc.sum (l.take m)).toNat = N
      · have HE := Lib.hid he
        have hde : (((Crc.sum (l.take m)).toNat : Int) != (N : Int)) = false := by simp; omega
        have HD1 : Hid (dec l = (if ¬ m % 3 = 0 then (3, zeroF) else if ¬ (idx (num3 l 0)).length * 3 = m then (3, zeroF) else if mayB (decF l) then (0, decF l) else (3, zeroF))) := Lib.hid (by rw [HD.out, if_neg (by simpa using HF4.out.2 HE.out)])
        clear he HD HF4
        by_cases he3 : m % 3 = 0
        · have hde3 : ((m : Int) % 3 != 0) = false := by simp; omega
          obtain ⟨q, hq⟩ : ∃ q, m = 3 * q := ⟨m / 3, by omega⟩
          have HQ := Lib.hid hq
          have HD2 : Hid (dec l = (if (made (decL l q)).2 = true ∧ mayB (made (decL l q)).1 = true then ((0 : Int), (made (decL l q)).1) else (3, zeroF))) := Lib.hid (by rw [made_dec l q (by omega), HD1.out, if_neg (by simpa using he3), hq])
          have hw := made_wf l q
          have HW := Lib.hid hw
          clear he3 HD1 hw hq
          go_wp2_with (go_at_call 21; refine (refSum_ok (some ⟨bb, oo, none⟩) m _ (l.take m) _ HT (by omega) HRt.out).mono ?_; rintro e w2 ⟨rfl, rfl⟩)
          go_loopw [8, 9] (fun v i wr => ∃ j J : Nat, Hid (J = 3 * j) ∧ J ≤ m ∧ i = I J ∧ Hid (wr.ownsRow g2 3 1 v j (ints (decL l j))) ∧ Has wr g2 45 (frC zeroF) ∧ Hid (Reads wr g2 (some ⟨bb, oo, none⟩) (bytes l)) ∧ Below g2 w wr) (fun _ i _ => m - (intOf i).toNat)
          case atStart => exact ⟨0, 0, Lib.hid rfl, by omega, rfl, Lib.hid (World.ownsRow_nil _ _ _ _), k2, HR1, hb⟩
          case round =>
            clear k2 hb HR1 HRt HRd hg2
            obtain ⟨j, J, HJ, hJ, rfl, HV, ka, HRr, hbr⟩ := hrel
            by_cases hlt : J < m
            · obtain ⟨x0, hx0⟩ := some_at l J (by rw [hl.out]; omega)
              obtain ⟨x1, hx1⟩ := some_at l (J + 1) (by rw [hl.out]; omega)
              obtain ⟨x2, hx2⟩ := some_at l (J + 2) (by rw [hl.out]; omega)
              have en : ((num3 l j : Nat) : Int) = (x0.toNat : Int) * 65536 + (x1.toNat : Int) * 256 + (x2.toNat : Int) := by
                unfold num3 n3
                rw [← HJ.out]
                simp [List.getD_eq_getElem?_getD, hx0, hx1, hx2]
              have HN : Hid (decL l (j + 1) = decL l j ++ [(x0.toNat : Int) * 65536 + (x1.toNat : Int) * 256 + (x2.toNat : Int)]) := Lib.hid (by rw [decL_succ, en])
              have c0 : wr.cell? ⟨bb, oo + J, none⟩ = some (U8 x0) := by obtain ⟨_, _, e, _, h⟩ := HRr.out.byte_ hx0; cases e; exact h
              have c1 : wr.cell? ⟨bb, oo + (J + 1), none⟩ = some (U8 x1) := by obtain ⟨_, _, e, _, h⟩ := HRr.out.byte_ hx1; cases e; exact h
              have c2 : wr.cell? ⟨bb, oo + (J + 2), none⟩ = some (U8 x2) := by obtain ⟨_, _, e, _, h⟩ := HRr.out.byte_ hx2; cases e; exact h
              have y0 := x0.toNat_lt
              have y1 := x1.toNat_lt
              have y2 := x2.toNat_lt
              have hga := ka.lt
              have hsr := Nat.le_of_lt hga
              have hj77 : j ≤ 77 := by have := HJ.out; omega
              have hI0 : (J : Int) < (m : Int) + 4 := by omega
              have hI1 : (J : Int) + 1 < (m : Int) + 4 := by omega
              have hI2 : (J : Int) + 2 < (m : Int) + 4 := by omega
              have hm1 : j + 1 ≤ maxLen := by unfold maxLen; omega
              have hm2 : (j + 1) * 8 ≤ 140737488355328 := by omega
              have hp1 : (0 : Int) ≤ (J : Int) + 1 := by omega
              have hp2 : (0 : Int) ≤ (J : Int) + 2 := by omega
              have hs1 : IntKind.i64.wrap ((J : Int) + 1) = (J : Int) + 1 := IntWalk.i64_in _ (by omega)
              have hs2 : IntKind.i64.wrap ((J : Int) + 2) = (J : Int) + 2 := IntWalk.i64_in _ (by omega)
              have hn1 : ((J : Int) + 1).toNat = J + 1 := by omega
              have hn2 : ((J : Int) + 2).toNat = J + 2 := by omega
              clear hx0 hx1 hx2 en
              go_wp2_with fail
              go_region_law ((refine step_append_own rfl _ _ 22 rfl g2 3 i0 (.int .i64 0) 1 8 Tryd.underlying22 hi0 hz0 hz1 hz2 rfl (by decide) _ j _ rfl (World.ownsRow.alloc HV.out _) _ 1 1 _ rfl rfl (cells_new _ _ _) (by intro u hu; simp at hu; subst hu; rfl) hm1 hm2 (Nat.le_trans hsr (by simp)) ?_; intro v4 w4 hown4 hgrow4))
              all_goals
                clear hs1 hs2 hn1 hn2
                have HO4 : Hid (w4.ownsRow g2 3 1 v4 (j + 1) (ints (decL l (j + 1)))) := Lib.hid (by
                  rw [HN.out, show ints (decL l j ++ [(x0.toNat : Int) * 65536 + (x1.toNat : Int) * 256 + (x2.toNat : Int)]) = ints (decL l j) ++ [I ((x0.toNat : Int) * 65536 + (x1.toNat : Int) * 256 + (x2.toNat : Int))] by simp [ints], ← n3_wrap]
                  exact hown4)
                have hb4 : Below g2 w w4 := ((hbr.alloc hsr _).drew).grown hgrow4 (by simp <;> omega) (fun q hq => (HV.out.lt q hq).1)
                have ka4 : Has w4 g2 45 (frC zeroF) := ((ka.alloc _).drew).grown hgrow4 (own_ne HV.out ka (by decide))
                have HR4 : Hid (Reads w4 g2 (some ⟨bb, oo, none⟩) (bytes l)) := Lib.hid (((HRr.out.alloc hsr _).drew).grown (by simp <;> omega) hgrow4 (fun q hq => (HV.out.lt q hq).1))
                clear hown4 hgrow4 HV ka HRr c0 c1 c2
                go_wp2_with fail
                go_roundw
                case rel => exact ⟨j + 1, J + 3, Lib.hid (by have := HJ.out; omega), by have := HJ.out; have := HQ.out; omega, by go_num, HO4, ka4, HR4, hb4⟩
                case measure => simp [intOf]; omega
            · have hjm : J = m := by omega
              have hjq : j = q := by have := HJ.out; have := HQ.out; omega
              subst hjq
              obtain ⟨A4, c4, rfl, hc4, -, hr4⟩ := own_reads HV.out
              have HLN : Hid ((decL l j).length = j) := Lib.hid (decL_length l j)
              have hj77 : j ≤ 77 := by have := HJ.out; omega
              have hga := ka.lt
              have hmf : ∃ mf mb, made (decL l j) = (mf, mb) := ⟨_, _, rfl⟩
              obtain ⟨mf, mb, hmf⟩ := hmf
              have HMF := Lib.hid hmf
              rw [hmf] at HW HD2
              clear hmf hjm HJ hJ
              have hs4 : Hid ((Tryd.prog.info? 45).map (·.size) = some (frC mf).size) := Lib.hid (refSize _ HW.out.1)
              have hs5 : Hid ((frC zeroF).size = (frC mf).size) := Lib.hid (by rw [frC_size _ HW.out.1]; rfl)
              have hbk := HV.out.lt
              generalize decL l j = ls at *
              go_upto_region 20 with (first
                | (go_at_call 79; refine (made_ok A4 j c4 ls _ HLN.out (by omega) hr4).mono ?_; rintro e w8 ⟨rfl, hb8⟩; rw [HMF.out]
                   have k8 : Has (w8.alloc (.cells #[I 0, I 0, I 0, I 0, I 0, I 0, I 0, I 0, I 0, I 0, I 0, I 0, I 0, I 0, I 0, I 0, I 0, I 0, I 0, I 0, I 0, I 0, I 0] 45)) w8.heap.size 45 (frC zeroF) := by rw [zeroFrameR]; exact Has.new _ _ _)
                | (refine wpList_store_row rfl 45 (.tmp 10) _ rfl w8.heap.size (frC mf) rfl rfl 45 _ k8 hs4.out hs5.out (frC_one _) ?_))
              have kf := (ka.after hb8).alloc (.cells #[I 0, I 0, I 0, I 0, I 0, I 0, I 0, I 0, I 0, I 0, I 0, I 0, I 0, I 0, I 0, I 0, I 0, I 0, I 0, I 0, I 0, I 0, I 0] 45)
              have hg8 : g2 < w8.heap.size := (ka.after hb8).lt
              have hbz := below_setRow ((hbr.trans (hb8.mono (Nat.le_of_lt ka.lt))).alloc (Nat.le_of_lt hg8) (.cells #[I 0, I 0, I 0, I 0, I 0, I 0, I 0, I 0, I 0, I 0, I 0, I 0, I 0, I 0, I 0, I 0, I 0, I 0, I 0, I 0, I 0, I 0, I 0] 45)) (Nat.le_of_lt hg8) (frC mf)
              have k6 := k8.setRow (frC mf)
              have kf2 := kf.farRow (Nat.ne_of_lt hg8) (frC mf)
              clear k8 kf ka hbr hb8 hr4 HV
              generalize (w8.alloc (.cells #[I 0, I 0, I 0, I 0, I 0, I 0, I 0, I 0, I 0, I 0, I 0, I 0, I 0, I 0, I 0, I 0, I 0, I 0, I 0, I 0, I 0, I 0, I 0] 45)).setRow w8.heap.size (frC mf) = wz at *
              generalize w8.heap.size = g8 at *
              cases mb with
              | false =>
                have HD' : Hid (dec l = (3, zeroF)) := Lib.hid (by rw [HD2.out, if_neg (by simp)])
                go_wp2_with (refine wpList_store_row rfl 45 (.tmp 2) _ rfl g2 (frC zeroF) rfl rfl 45 _ kf2 zeroSizeR rfl (frC_one _) ?_)
                exact bodyPost_ret (ret_cell_tmp rfl _ _ _ _ (frC zeroF) _ rfl (kf2.setRow _) Tryd.underlying45 rfl zeroSizeR) rfl ⟨by rw [HD'.out]; rfl, HG.out ▸ below_setRow hbz (Nat.le_refl _) _⟩
              | true =>
                cases hm : mayB mf with
                | true =>
                  have HM := Lib.hid hm
                  have HD' : Hid (dec l = (0, mf)) := Lib.hid (by rw [HD2.out, if_pos ⟨rfl, hm⟩])
                  clear hm
                  go_wp2_with (first
                    | (refine wpList_taken rfl (fun K hK => wp_load_row 45 (.tmp 10) rfl g8 rfl 45 (frC mf) (0, 0) _ k6 Tryd.underlying45 rfl hs4.out (hK _ _ ?_)))
                    | (go_at_call 63; refine (refMay_ok mf HW.out _).mono ?_; rintro e w10 ⟨rfl, hb10⟩; rw [HM.out]; have k7 := k6.after hb10; have kf7 := kf2.after hb10; have hbw := hbz.trans (hb10.mono (Nat.le_of_lt kf2.lt)); clear hb10)
                    | (refine wpList_load_row rfl 45 (.tmp 10) rfl g8 rfl 45 (frC mf) (0, 0) _ k7 Tryd.underlying45 rfl hs4.out ?_)
                    | (refine wpList_store_row rfl 45 (.tmp 2) _ rfl g2 (frC mf) rfl rfl 45 _ kf7 hs4.out hs5.out (frC_one _) ?_))
                  exact bodyPost_ret (ret_cell_tmp rfl _ _ _ _ (frC mf) _ rfl (kf7.setRow _) Tryd.underlying45 rfl hs4.out) rfl ⟨by rw [HD'.out]; rfl, HG.out ▸ below_setRow hbw (Nat.le_refl _) _⟩
                | false =>
                  have HM := Lib.hid hm
                  have HD' : Hid (dec l = (3, zeroF)) := Lib.hid (by rw [HD2.out, if_neg (fun h => by rw [hm] at h; cases h.2)])
                  clear hm
                  go_wp2_with (first
                    | (refine wpList_taken rfl (fun K hK => wp_load_row 45 (.tmp 10) rfl g8 rfl 45 (frC mf) (0, 0) _ k6 Tryd.underlying45 rfl hs4.out (hK _ _ ?_)))
                    | (go_at_call 63; refine (refMay_ok mf HW.out _).mono ?_; rintro e w10 ⟨rfl, hb10⟩; rw [HM.out]; have kf7 := kf2.after hb10; have hbw := hbz.trans (hb10.mono (Nat.le_of_lt kf2.lt)); clear hb10)
                    | (refine wpList_store_row rfl 45 (.tmp 2) _ rfl g2 (frC zeroF) rfl rfl 45 _ kf7 zeroSizeR rfl (frC_one _) ?_))
                  exact bodyPost_ret (ret_cell_tmp rfl _ _ _ _ (frC zeroF) _ rfl (kf7.setRow _) Tryd.underlying45 rfl zeroSizeR) rfl ⟨by rw [HD'.out]; rfl, HG.out ▸ below_setRow hbw (Nat.le_refl _) _⟩
        · have hde3 : ((m : Int) % 3 != 0) = true := by simp; omega
          have HD' : Hid (dec l = (3, zeroF)) := Lib.hid (by rw [HD1.out, if_pos he3])
          clear he3 HD1
          go_wp2_with (first
            | (go_at_call 21; refine (refSum_ok (some ⟨bb, oo, none⟩) m _ (l.take m) _ HT (by omega) HRt.out).mono ?_; rintro e w2 ⟨rfl, rfl⟩)
            | (refine wpList_store_row rfl 45 (.tmp 2) _ rfl g2 (frC zeroF) rfl rfl 45 _ k2 zeroSizeR rfl (frC_one _) ?_))
          exact bodyPost_ret (ret_cell_tmp rfl _ _ _ _ (frC zeroF) _ rfl (k2.setRow _) Tryd.underlying45 rfl zeroSizeR) rfl ⟨by rw [HD'.out]; rfl, HG.out ▸ below_setRow hb (Nat.le_refl _) _⟩
      · have HE := Lib.hid he
        have hde : (((Crc.sum (l.take m)).toNat : Int) != (N : Int)) = true := by simp; omega
        have HD' : Hid (dec l = (15, zeroF)) := Lib.hid (by rw [HD.out, if_pos (fun h => HE.out (HF4.out.1 h))])
        clear he HD HF4
        go_wp2_with (first
          | (go_at_call 21; refine (refSum_ok (some ⟨bb, oo, none⟩) m _ (l.take m) _ HT (by omega) HRt.out).mono ?_; rintro e w2 ⟨rfl, rfl⟩)
          | (refine wpList_store_row rfl 45 (.tmp 2) _ rfl g2 (frC zeroF) rfl rfl 45 _ k2 zeroSizeR rfl (frC_one _) ?_))
        exact bodyPost_ret (ret_cell_tmp rfl _ _ _ _ (frC zeroF) _ rfl (k2.setRow _) Tryd.underlying45 rfl zeroSizeR) rfl ⟨by rw [HD'.out]; rfl, HG.out ▸ below_setRow hb (Nat.le_refl _) _⟩
/-- the reference's Decode of whatever bytes -/
theorem refDecode_ok (A : Option Addr) (n c : Nat) (l : List UInt8) (w : World) (hl : l.length = n) (hc : n ≤ c) (hr : Reads w w.heap.size A (bytes l)) :
    Calls Tryd.prog 25 #[.slice A n c] w fun e w' => e = .returned (.tuple #[.agg (frC (dec l).2), I (dec l).1]) ∧ Below w.heap.size w w' := by
  by_cases h : n < 7 ∨ 80 < n
  · have hd : dec l = (3, zeroF) := by unfold dec; rw [if_pos (by rw [hl]; exact h)]
    rw [hd]
    exact refDecode_size A n c w h
  · obtain ⟨b, o, rfl, _, _⟩ := hr (by rintro h0; have := congrArg List.length h0; rw [bytes_length, hl] at this; simp at this; omega)
    obtain ⟨m, rfl⟩ : ∃ m, n = m + 4 := ⟨n - 4, by omega⟩
    exact refDecode_in b o m c l w (Lib.hid hl) (by omega) (by omega) hc hr
end Go.Proofs.YtdhekhlmdefcnaaDoor
