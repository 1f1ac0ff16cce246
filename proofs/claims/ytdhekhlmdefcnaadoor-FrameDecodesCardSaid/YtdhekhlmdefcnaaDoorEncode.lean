/- The walk over frame.Encode. -/
import Derived.Test.YtdhekhlmdefcnaaDoorSum
namespace Go.Proofs.YtdhekhlmdefcnaaDoor
open Go.RowKit
/-- a number's three bytes; a sum's four -/
def three (x : Int) : List UInt8 := [UInt8.ofNat (x.toNat / 65536), UInt8.ofNat (x.toNat / 256), UInt8.ofNat x.toNat]
def four (s : Crc.B32) : List UInt8 := [UInt8.ofNat (s.toNat / 16777216), UInt8.ofNat (s.toNat / 65536), UInt8.ofNat (s.toNat / 256), UInt8.ofNat s.toNat]
def bodyTo (f : List Int) (n : Nat) : List UInt8 := ((idx (f.getD 0 0)).take n).flatMap fun i => three (f.getD i 0)
def body (f : List Int) : List UInt8 := bodyTo f (idx (f.getD 0 0)).length
def encB (f : List Int) : List UInt8 := body f ++ four (Crc.sum (body f))
theorem bodyTo_succ (f : List Int) (n i : Nat) (h : (idx (f.getD 0 0))[n]? = some i) : bodyTo f (n + 1) = bodyTo f n ++ three (f.getD i 0) := by
  have hn := (List.getElem?_eq_some_iff.1 h).1
  have he := (List.getElem?_eq_some_iff.1 h).2
  unfold bodyTo
  rw [List.take_succ_eq_append_getElem hn, List.flatMap_append, he]
  simp
theorem bodyTo_length (f : List Int) : ∀ n, n ≤ (idx (f.getD 0 0)).length → (bodyTo f n).length = 3 * n
  | 0, _ => rfl
  | n + 1, h => by
    obtain ⟨i, hi⟩ := some_at (idx (f.getD 0 0)) n (by omega)
    rw [bodyTo_succ f n i hi, List.length_append, bodyTo_length f n (by omega)]
    simp [three]; omega
theorem infoU8 : (Tryd.prog.info? 5).map (fun i => (i.zero, i.size, i.bytes)) = some (some (.int .u8 0), 1, 1) := by kernel_rfl
theorem own_own {w w' : World} {base base' : Nat} {e e' : TypeId} {size size' : Nat} {v v' : Value} {n n' : Nat} {xs xs' : List Value} (h : w.ownsRow base e size v n xs) (h' : w.ownsRow base' e' size' v' n' xs') (hne : e ≠ e') (hg : w.grownBy w' v'.ownBlock) :
    w'.ownsRow base e size v n xs := by
  refine h.kept hg ?_
  rcases h.2 with ⟨rfl, _⟩ | ⟨g, cap, cur, rfl, _, hh, _⟩
  · exact .inl rfl
  · refine .inr ?_
    intro he
    have := own_ne h' (g := g) (t := e) (cs := cur) hh hne
    exact this he
theorem three_vals (x : Int) (h0 : 0 ≤ x) (h1 : x ≤ 1048576) : [Value.int .u8 (IntKind.u8.wrap (x / 65536)), .int .u8 (IntKind.u8.wrap (x / 256)), .int .u8 (IntKind.u8.wrap x)] = bytes (three x) := by
  unfold three bytes
  simp only [List.map_cons, List.map_nil]
  have e : ∀ y : Int, 0 ≤ y → IntKind.u8.wrap y = ((UInt8.ofNat y.toNat).toNat : Int) := by
    intro y hy
    rw [UInt8.toNat_ofNat']
    show y % 256 = _
    omega
  have h2 : (x / 65536).toNat = x.toNat / 65536 := by omega
  have h3 : (x / 256).toNat = x.toNat / 256 := by omega
  rw [e _ (by omega), e _ (by omega), e _ h0, h2, h3]
theorem four_vals (s : Crc.B32) : (#[Value.int .u8 ((s.toNat : Int) / 16777216), .int .u8 ((s.toNat : Int) / 65536 % 256), .int .u8 ((s.toNat : Int) / 256 % 256), .int .u8 ((s.toNat : Int) % 256)] : Array Value).toList = bytes (four s) := by
  have h := s.isLt
  unfold four bytes
  simp only [List.map_cons, List.map_nil]
  have e : ∀ y : Nat, (((UInt8.ofNat y).toNat : Nat) : Int) = ((y % 256 : Nat) : Int) := by
    intro y
    rw [UInt8.toNat_ofNat']
  have e1 : s.toNat / 16777216 % 256 = s.toNat / 16777216 := by omega
  unfold U8
  rw [e, e, e, e, e1]
  rfl
set_option maxHeartbeats 2000000 in
set_option maxRecDepth 100000 in
theorem encode_no (f : List Int) (hf : Wf f) (hm : mayB f = false) (w : World) :
    Calls Tryd.prog 18 #[.agg (frC f)] w fun e w' => e = .returned (.tuple #[.slice none 0 0, .iface 42 (I 1)]) ∧ Below w.heap.size w w' := by
  have HF := Lib.hid hf
  have HM := Lib.hid hm
  clear hf hm
  have hs1 : Hid ((Tryd.prog.info? 40).map (·.size) = some (frC f).size) := Lib.hid (by rw [frC_size _ HF.out.1]; exact infoFrame)
  have k0 := Has.new w 40 (frC f)
  have hb : Below w.heap.size w (w.alloc (.cells (frC f) 40)) := (Below.refl _ _).alloc (Nat.le_refl _) _
  go_enter Tryd.func18, Tryd.ntmps18
  go_wp2_with (first
    | (refine wpList_load_row rfl 40 (.tmp 1) rfl w.heap.size rfl 40 (frC f) (0, 0) _ k0 Tryd.underlying40 rfl hs1.out ?_)
    | (go_at_call 74; refine (right_ok f HF.out _).mono ?_; rintro e w1 ⟨rfl, hb1⟩; rw [HM.out]))
  go_ret2
  exact ⟨rfl, hb.trans (hb1.mono (by simp))⟩
set_option maxHeartbeats 4000000 in
set_option maxRecDepth 100000 in
theorem encode_yes (f : List Int) (hf : Wf f) (hm : mayB f = true) (w : World) :
    Calls Tryd.prog 18 #[.agg (frC f)] w fun e w' => (∃ A c, e = .returned (.tuple #[.slice A (encB f).length c, .nilIface]) ∧ w'.ownsRow w.heap.size 5 1 (.slice A (encB f).length c) (encB f).length (bytes (encB f))) ∧ Below w.heap.size w w' := by
  obtain ⟨i0, hi0, hz0, hz1, hz2⟩ := info_parts infoU8
  obtain ⟨k, hk⟩ := some_at f 0 (by rw [hf.1]; decide)
  have HK : Hid (f.getD 0 0 = k) := Lib.hid (by rw [List.getD_eq_getElem?_getD, hk]; rfl)
  have HF := Lib.hid hf
  have HM := Lib.hid hm
  have hall : ∀ i, i ∈ idx k → 0 ≤ f.getD i 0 ∧ f.getD i 0 ≤ 1048576 := by
    intro i hi
    unfold mayB at hm
    simp only [Bool.and_eq_true, List.all_eq_true] at hm
    have := hm.1.2 i (by rw [HK.out]; exact hi)
    unfold inB at this
    simpa using this
  have HA := Lib.hid hall
  have hs1 : Hid ((Tryd.prog.info? 40).map (·.size) = some (frC f).size) := Lib.hid (by rw [frC_size _ HF.out.1]; exact infoFrame)
  have k0 := Has.new w 40 (frC f)
  have c0 := k0.cellv 0 _ (frC_get f 0 k hk)
  have hb : Below w.heap.size w (w.alloc (.cells (frC f) 40)) := (Below.refl _ _).alloc (Nat.le_refl _) _
  have Hk0 := Lib.hid (frC_get f 0 k hk)
  clear hf hm hk hall
  go_enter Tryd.func18, Tryd.ntmps18
  go_upto_region 1 with (fail)
  generalize w.alloc (.cells (frC f) 40) = w1 at *
  have hg0 := k0.lt
  generalize hG : w.heap.size = g0 at *
  have HG := Lib.hid hG
  clear hG
  go_wp2_with (first
    | (refine wpList_load_row rfl 40 (.tmp 1) rfl g0 rfl 40 (frC f) (0, 0) _ k0 Tryd.underlying40 rfl hs1.out ?_)
    | (go_at_call 74; refine (right_ok f HF.out _).mono ?_; rintro e w2 ⟨rfl, hb1⟩; rw [HM.out]; have k1 := k0.after hb1; have c1 := k1.cellv 0 _ Hk0.out; have hbw := hb.trans (hb1.mono (Nat.le_of_lt hg0)); clear k0 c0 hb hb1)
    | (go_at_call 75; refine (numbers_ok g0 (frC f) k _ k1 c1).mono ?_; rintro e w3 ⟨⟨A2, n2, rfl, own2⟩, hb3⟩))
  have k3 := k1.after hb3
  have hbw3 := hbw.trans (hb3.mono (Nat.le_of_lt k1.lt))
  have HO2 := Lib.hid (own_base own2 (Nat.zero_le _))
  have hid20 := idx_len k
  have hg3 : g0 ≤ w3.heap.size := Nat.le_of_lt k3.lt
  clear own2 hb3 hbw k1 c1
  go_loopw [4, 14] (fun v i wr => ∃ j : Nat, j ≤ (idx k).length ∧ i = I j ∧ Hid (wr.ownsRow g0 5 1 v (3 * j) (bytes (bodyTo f j))) ∧ Has wr g0 40 (frC f) ∧
    Hid (wr.ownsRow 0 146 1 (.slice A2 (idx k).length n2) (idx k).length (ptrs g0 (idx k))) ∧ Below g0 w wr) (fun _ i _ => (idx k).length - (intOf i).toNat)
  case atStart => exact ⟨0, by omega, rfl, Lib.hid (World.ownsRow_nil _ _ _ _), k3, HO2, hbw3⟩
  case round =>
    clear HO2 k3 hbw3 hg3
    obtain ⟨j, hj, rfl, HV, ka, HO2, hbr⟩ := hrel
    by_cases hlt : j < (idx k).length
    · obtain ⟨i, hi⟩ := some_at (idx k) j hlt
      have hi23 : i < 23 := idx_lt k i (List.mem_of_getElem? hi)
      obtain ⟨x, hx⟩ := some_at f i (by rw [HF.out.1]; exact hi23)
      obtain ⟨hc2, hr2⟩ := own_slice HO2.out
      obtain ⟨b2, o2, rfl, hb2, e2⟩ := ptr_at hr2 hi
      have a1 := ka.cellv i _ (frC_get f i x hx)
      have HX : Hid (f.getD i 0 = x) := Lib.hid (by rw [List.getD_eq_getElem?_getD, hx]; rfl)
      obtain ⟨q1, q2⟩ := HA.out i (List.mem_of_getElem? hi)
      rw [HX.out] at q1 q2
      have HB : Hid (bodyTo f (j + 1) = bodyTo f j ++ three x) := Lib.hid (by rw [bodyTo_succ f j i (by rw [HK.out]; exact hi), HX.out])
      have hsr := Nat.le_of_lt ka.lt
      have hga := ka.lt
      clear hi hx hr2 hc2
      go_wp2_with fail
      go_region_law ((refine step_append_own rfl _ _ 41 rfl g0 5 i0 (.int .u8 0) 1 1 Tryd.underlying41 hi0 hz0 hz1 hz2 rfl (by decide) _ (3 * j) _ rfl (World.ownsRow.alloc HV.out _) _ 3 3 _ rfl rfl (cells_new _ _ _) (by intro u hu; simp at hu; rcases hu with rfl | rfl | rfl <;> rfl) (by unfold maxLen; omega) (by omega) (by simp <;> omega) ?_; intro v4 w4 hown4 hgrow4))
      all_goals
        have HO4 : Hid (w4.ownsRow g0 5 1 v4 (3 * (j + 1)) (bytes (bodyTo f (j + 1)))) := Lib.hid (by
          have e : bytes (bodyTo f (j + 1)) = bytes (bodyTo f j) ++ bytes (three x) := by rw [HB.out]; simp [bytes]
          rw [e, ← three_vals x q1 q2]
          exact hown4)
        have hb4 : Below g0 w w4 := ((hbr.alloc hsr _).drew).grown hgrow4 (by simp <;> omega) (fun q hq => (HV.out.lt q hq).1)
        have ka4 : Has w4 g0 40 (frC f) := ((ka.alloc _).drew).grown hgrow4 (own_ne HV.out ka (by decide))
        have HO24 := Lib.hid (own_own (w := (wr.alloc _).drew) (HO2.out.alloc _) (HV.out.alloc _) (by decide) hgrow4)
        clear hown4 hgrow4 HV ka HO2 a1 e2
        go_wp2_with fail
        go_roundw
        case rel => exact ⟨j + 1, by omega, by go_num, HO4, ka4, HO24, hb4⟩
        case measure => simp [intOf]; omega
    · have hjn : j = (idx k).length := by omega
      have HB : Hid (bodyTo f j = body f) := Lib.hid (by unfold body; rw [HK.out, hjn])
      have hl3 : (body f).length = 3 * j := by rw [← HB.out]; exact bodyTo_length f j (by rw [HK.out]; exact hj)
      have HL3 := Lib.hid hl3
      clear hl3 hjn
      obtain ⟨A4, c4, rfl, hc4, -, hr4⟩ := own_reads HV.out
      rw [HB.out] at hr4
      go_wp2_with (first
        | (go_at_call 20; refine (sum_ok A4 (3 * j) c4 (body f) _ HL3 (by omega) hr4).mono ?_; rintro e w5 ⟨rfl, rfl⟩)
        | (at_builtin; refine wpList_append_own _ rfl _ _ 41 rfl g0 5 i0 (.int .u8 0) 1 1 Tryd.underlying41 hi0 hz0 hz1 hz2 rfl (by decide) _ _ _ rfl (World.ownsRow.alloc HV.out _) ⟨wr.heap.size, 0, none⟩ 4 4 (bytes (four (Crc.sum (body f)))) rfl rfl ?c1 ?c2 ?c3 ?c4 ?c5 ?_))
      case c1 => rw [← four_vals]; exact cells_new _ _ _
      case c2 => intro u hu; simp [bytes, four] at hu; rcases hu with rfl | rfl | rfl | rfl <;> rfl
      case c3 => unfold maxLen; omega
      case c4 => omega
      case c5 => have := ka.lt; simp <;> omega
      intro v5 w5 hown5 hgrow5 _
      have hsr := Nat.le_of_lt ka.lt
      have hb5 : Below g0 w w5 := (hbr.alloc hsr _).grown hgrow5 (by simp <;> omega) (fun q hq => (HV.out.lt q hq).1)
      have hlen : (encB f).length = 3 * j + 4 := by unfold encB; rw [List.length_append, HL3.out]; rfl
      have HO5 : Hid (w5.ownsRow g0 5 1 v5 (encB f).length (bytes (encB f))) := Lib.hid (by
        have e : bytes (encB f) = bytes (body f) ++ bytes (four (Crc.sum (body f))) := by unfold encB; simp [bytes]
        have h5 := hown5
        rw [HB.out] at h5
        rw [hlen, e]
        exact h5)
      clear hown5 hgrow5 hlen
      go_wp2
      obtain ⟨A5, c5, rfl, -⟩ := own_reads HO5.out
      go_ret2
      refine ⟨⟨A5, c5, rfl, ?_⟩, HG.out ▸ hb5⟩
      rw [HG.out]
      exact HO5.out
end Go.Proofs.YtdhekhlmdefcnaaDoor
