/- The walk over 'sent': a fact. -/
import Derived.Test.YtdhekhlmdefcnaaDoorDecode
import Derived.Test.YtdhekhlmdefcnaaDoorTell
namespace Go.Proofs.YtdhekhlmdefcnaaDoor
open Go.RowKit
/-- an owned row that has a cell: its block -/
theorem own_open {w : World} {base : Nat} {e : TypeId} {A : Option Addr} {n c : Nat} {xs : List Value} (h : w.ownsRow base e 1 (.slice A n c) n xs) (hn : 0 < n) :
    ∃ g cur, A = some ⟨g, 0, none⟩ ∧ base ≤ g ∧ Has w g e cur ∧ n ≤ c ∧ c ≤ maxLen ∧ cur.size = c ∧ cur.toList.take n = xs := by
  obtain ⟨_, h2⟩ := h
  rcases h2 with ⟨_, h0⟩ | ⟨g, cap, cur, he, hg, hh, h3, h4, h5, h6⟩
  · omega
  · injection he with e1 _ e3
    subst e3
    exact ⟨g, cur, e1, hg, hh, h3, h4, by omega, by simpa using h6⟩
theorem own_set {w : World} {base : Nat} {e : TypeId} {g n c : Nat} {xs : List Value} (h : w.ownsRow base e 1 (.slice (some ⟨g, 0, none⟩) n c) n xs) (i : Nat) (v : Value) :
    (w.setCell ⟨g, i, none⟩ v).ownsRow base e 1 (.slice (some ⟨g, 0, none⟩) n c) n (xs.set i v) := by
  obtain ⟨h1, h2⟩ := h
  refine ⟨by simpa using h1, ?_⟩
  rcases h2 with ⟨h0, _⟩ | ⟨g', cap, cur, he, hg, hh, h3, h4, h5, h6⟩
  · cases h0
  · injection he with e1 _ e3
    injection e1 with e1
    injection e1 with e1
    subst e1
    subst e3
    have hs : Has w g e cur := hh
    refine .inr ⟨g, c, cur.setIfInBounds i v, rfl, hg, hs.set i v, h3, h4, by simpa using h5, ?_⟩
    rw [← h6]
    simp only [Array.toList_setIfInBounds, Nat.mul_one]
    rw [List.take_set]
/-- a cell of an owned row of bytes -/
theorem own_byte {w : World} {base : Nat} {g n c : Nat} {l : List UInt8} (h : w.ownsRow base 5 1 (.slice (some ⟨g, 0, none⟩) n c) n (bytes l)) {i : Nat} {x : UInt8} (hx : l[i]? = some x) :
    w.cell? ⟨g, i, none⟩ = some (U8 x) ∧ w.frozen? ⟨g, i, none⟩ = false := by
  have hl : i < l.length := (List.getElem?_eq_some_iff.1 hx).1
  have hn : (bytes l).length = n * 1 := h.1
  rw [bytes_length] at hn
  obtain ⟨_, hr⟩ := own_slice h
  obtain ⟨b, o, e, _, hc⟩ := hr.byte_ hx
  cases e
  obtain ⟨g', cur, e', _, hh, _⟩ := own_open h (by omega)
  cases e'
  rw [Nat.zero_add] at hc
  exact ⟨hc, hh.free i⟩
theorem bytes_set (l : List UInt8) (i : Nat) (x : UInt8) : (bytes l).set i (U8 x) = bytes (l.set i x) := by simp [bytes, List.map_set]
def sentF : List Int := [2, 1, 300, 7, 2, 2, 0, 0, 0, 0, 0, 0, 0, 0, 0, 0, 0, 0, 0, 0, 0, 0, 0]
theorem sent_lit : frC sentF = #[I 2, I 1, I 300, I 7, I 2, I 2, I 0, I 0, I 0, I 0, I 0, I 0, I 0, I 0, I 0, I 0, I 0, I 0, I 0, I 0, I 0, I 0, I 0] := rfl
theorem sent_wf : Wf sentF := ⟨rfl, by decide⟩
theorem sent_may : mayB sentF = true := by decide +kernel
theorem sent_len : (encB sentF).length = 22 := by decide +kernel
theorem sent_dec : dec (encB sentF) = (0, sentF) := by decide +kernel
def sentX : UInt8 := (encB sentF).getD 3 0
theorem sent_3 : (encB sentF)[3]? = some sentX := by decide +kernel
theorem sent_bad : dec ((encB sentF).set 3 (sentX ^^^ 1)) = (15, zeroF) := by decide +kernel
theorem sentX_xor : bits .xor .u8 (sentX.toNat : Int) 1 = ((sentX ^^^ 1).toNat : Int) := by decide +kernel
theorem sent_size : (Tryd.prog.info? 40).map (·.size) = some (frC sentF).size := by rw [frC_size _ rfl]; exact infoFrame
theorem errV_zero : errV 0 = .nilIface := rfl
theorem errV_fifteen : errV 15 = .iface 42 (I 15) := rfl
/-- Encode, the row open -/
theorem encode_at (f : List Int) (n : Nat) (hf : Wf f) (hm : mayB f = true) (hn : Hid ((encB f).length = n)) (h0 : 0 < n) (w : World) :
    Calls Tryd.prog 18 #[.agg (frC f)] w fun e w' => ∃ g c, e = .returned (.tuple #[.slice (some ⟨g, 0, none⟩) n c, .nilIface]) ∧ w.heap.size ≤ g ∧ n ≤ c ∧ Hid (w'.ownsRow w.heap.size 5 1 (.slice (some ⟨g, 0, none⟩) n c) n (bytes (encB f))) ∧ Below w.heap.size w w' := by
  refine (encode_yes f hf hm w).mono ?_
  rintro e w' ⟨⟨A, c, rfl, own⟩, hb⟩
  rw [hn.out] at own ⊢
  obtain ⟨g, cur, rfl, h1, _, h2, _⟩ := own_open own h0
  exact ⟨g, c, rfl, h1, h2, own, hb⟩
set_option maxHeartbeats 4000000 in
set_option maxRecDepth 100000 in
theorem sent_any (w : World) (hg : Hid (EType w)) : Calls Tryd.prog 22 #[] w fun e w' => e = .returned (.bool true) ∧ Below w.heap.size w w' := by
  have kz : Has (w.alloc (.cells #[I 0, I 0, I 0, I 0, I 0, I 0, I 0, I 0, I 0, I 0, I 0, I 0, I 0, I 0, I 0, I 0, I 0, I 0, I 0, I 0, I 0, I 0, I 0] 40)) w.heap.size 40 (frC zeroF) := by rw [zeroFrame]; exact Has.new _ _ _
  have hbz : Below w.heap.size w (w.alloc (.cells #[I 0, I 0, I 0, I 0, I 0, I 0, I 0, I 0, I 0, I 0, I 0, I 0, I 0, I 0, I 0, I 0, I 0, I 0, I 0, I 0, I 0, I 0, I 0] 40)) := (Below.refl _ _).alloc (Nat.le_refl _) _
  have k1 := kz.setRow (frC sentF)
  have hb1 := below_setRow hbz (Nat.le_refl _) (frC sentF)
  have hsE : Hid ((encB sentF).length = 22) := Lib.hid sent_len
  go_enter Tryd.func22, Tryd.ntmps22
  go_upto_region 2 with (refine wpList_store_row rfl 40 (.tmp 1) _ rfl w.heap.size (frC sentF) rfl rfl 40 _ kz sent_size rfl (frC_one _) ?_)
  clear kz hbz
  generalize World.setRow _ w.heap.size (frC sentF) = w1 at *
  have hg1 := Lib.hid (hg.out.after hb1)
  have hl1 := k1.lt
  generalize hG : w.heap.size = g1 at *
  have HG := Lib.hid hG
  clear hG
  go_wp2_with (first
    | (refine wpList_load_row rfl 40 (.tmp 1) rfl g1 rfl 40 (frC sentF) (0, 0) _ k1 Tryd.underlying40 rfl sent_size ?_)
    | (go_at_call 18; refine (encode_at sentF 22 sent_wf sent_may hsE (by decide) w1).mono ?_; rintro e w2 ⟨gb, c, rfl, hgb, hc, HO, hb2⟩))
  have hl2 := Nat.lt_of_lt_of_le hl1 hb2.size
  have k2 := k1.after hb2
  have hg2 := Lib.hid (hg1.out.after hb2)
  have hbw2 := hb1.trans (hb2.mono (Nat.le_of_lt hl1))
  have HO2 := Lib.hid (own_base HO.out (Nat.le_of_lt hl1))
  have hgb1 : g1 < gb := by omega
  obtain ⟨_, hr2⟩ := own_slice HO.out
  clear HO k1 hg1 hb1 hb2 hl1 hgb
  refine (decode_ok (some ⟨gb, 0, none⟩) 22 c (encB sentF) w2 hsE.out hc hr2).mono ?_
  rintro e w3 ⟨rfl, hb3⟩
  rw [sent_dec, errV_zero]
  have hl3 := Nat.lt_of_lt_of_le hl2 hb3.size
  have k3 := k2.after hb3
  have hg3 := Lib.hid (hg2.out.after hb3)
  have hbw3 := hbw2.trans (hb3.mono (Nat.le_of_lt hl2))
  have HO3 := Lib.hid (own_after HO2.out hb3)
  have kz : Has (w3.alloc (.cells #[I 0, I 0, I 0, I 0, I 0, I 0, I 0, I 0, I 0, I 0, I 0, I 0, I 0, I 0, I 0, I 0, I 0, I 0, I 0, I 0, I 0, I 0, I 0] 40)) w3.heap.size 40 (frC zeroF) := by rw [zeroFrame]; exact Has.new _ _ _
  have hbz : Below w3.heap.size w3 (w3.alloc (.cells #[I 0, I 0, I 0, I 0, I 0, I 0, I 0, I 0, I 0, I 0, I 0, I 0, I 0, I 0, I 0, I 0, I 0, I 0, I 0, I 0, I 0, I 0, I 0] 40)) := (Below.refl _ _).alloc (Nat.le_refl _) _
  have k4 := kz.setRow (frC sentF)
  have hb4 := below_setRow hbz (Nat.le_refl _) (frC sentF)
  clear hbz hr2 k2 hg2 hbw2 HO2 hb3
  go_upto_region 6 with (refine wpList_store_row rfl 40 (.tmp 4) _ rfl w3.heap.size (frC sentF) rfl rfl 40 _ kz sent_size rfl (frC_one _) ?_)
  clear kz
  generalize World.setRow _ w3.heap.size (frC sentF) = w4 at *
  have hl4 := Nat.lt_of_lt_of_le hl3 hb4.size
  have k14 := k3.after hb4
  have hg4 := Lib.hid (hg3.out.after hb4)
  have hbw4 := hbw3.trans (hb4.mono (Nat.le_of_lt hl3))
  have HO4 := Lib.hid (own_after HO3.out hb4)
  have hg14 : g1 ≤ w3.heap.size := Nat.le_of_lt hl3
  clear k3 hg3 hbw3 HO3 hb4 hl3
  generalize w3.heap.size = g4 at *
  obtain ⟨b3, f3⟩ := own_byte HO4.out sent_3
  have tx := sentX_xor
  go_upto_region 7 with (fail)
  have hne1 : g1 ≠ gb := by omega
  have hne4 : g4 ≠ gb := by have := own_ne HO4.out k4 (by decide); simp [Value.ownBlock] at this; exact this
  have k15 : Has (w4.setCell ⟨gb, 3, none⟩ (U8 (sentX ^^^ 1))) g1 40 (frC sentF) := k14.far hne1 _
  have k45 : Has (w4.setCell ⟨gb, 3, none⟩ (U8 (sentX ^^^ 1))) g4 40 (frC sentF) := k4.far hne4 _
  have HO5 := own_set HO4.out 3 (U8 (sentX ^^^ 1))
  rw [bytes_set] at HO5
  obtain ⟨_, hr5⟩ := own_slice HO5
  have hb5 : Below g1 w (w4.setCell ⟨gb, 3, none⟩ (U8 (sentX ^^^ 1))) := hbw4.setCell (Nat.le_of_lt hgb1) _
  have hl5 : g1 < (w4.setCell ⟨gb, 3, none⟩ (U8 (sentX ^^^ 1))).heap.size := k15.lt
  clear HO4 HO5 k14 k4 hg4 hbw4 hl4 b3 f3
  go_wp2_with fail
  refine (decode_ok (some ⟨gb, 0, none⟩) 22 c ((encB sentF).set 3 (sentX ^^^ 1)) (w4.setCell ⟨gb, 3, none⟩ (U8 (sentX ^^^ 1))) (by rw [List.length_set]; exact hsE.out) hc hr5).mono ?_
  rintro e w6 ⟨rfl, hb6⟩
  rw [sent_bad, errV_fifteen]
  clear tx
  have k16 := k15.after hb6
  have k46 := k45.after hb6
  have hbw6 := hb5.trans (hb6.mono (Nat.le_of_lt hl5))
  have hl6 := Nat.lt_of_lt_of_le hl5 hb6.size
  have kz : Has (w6.alloc (.cells #[I 0, I 0, I 0, I 0, I 0, I 0, I 0, I 0, I 0, I 0, I 0, I 0, I 0, I 0, I 0, I 0, I 0, I 0, I 0, I 0, I 0, I 0, I 0] 40)) w6.heap.size 40 (frC zeroF) := by rw [zeroFrame]; exact Has.new _ _ _
  have hbz : Below w6.heap.size w6 (w6.alloc (.cells #[I 0, I 0, I 0, I 0, I 0, I 0, I 0, I 0, I 0, I 0, I 0, I 0, I 0, I 0, I 0, I 0, I 0, I 0, I 0, I 0, I 0, I 0, I 0] 40)) := (Below.refl _ _).alloc (Nat.le_refl _) _
  have hb7 := below_setRow hbz (Nat.le_refl _) (frC zeroF)
  clear hbz k15 k45 hr5 hb5 hl5 hb6
  go_upto_region 8 with (refine wpList_store_row rfl 40 (.tmp 5) _ rfl w6.heap.size (frC zeroF) rfl rfl 40 _ kz zeroSize rfl (frC_one _) ?_)
  clear kz
  generalize World.setRow _ w6.heap.size (frC zeroF) = w7 at *
  have k17 := k16.after hb7
  have k47 := k46.after hb7
  have hbw7 := hbw6.trans (hb7.mono (Nat.le_of_lt hl6))
  have hg2l : 2 < g1 := by have := hg.out.lt; have := HG.out; omega
  have hg7 : Hid (EType w7) := Lib.hid (hg.out.below hg2l hbw7)
  have hl7 := k17.lt
  clear k16 k46 hbw6 hl6 hb7
  go_wp2_with (first
    | (refine wpList_taken rfl (fun K hK => wp_load_row 40 (.tmp 4) rfl g4 rfl 40 (frC sentF) (0, 0) _ k47 Tryd.underlying40 rfl sent_size (hK _ _ ?_)))
    | (refine wpList_taken rfl (fun K hK => wp_load_row 40 (.tmp 1) rfl g1 rfl 40 (frC sentF) (0, 0) _ k17 Tryd.underlying40 rfl sent_size (hK _ _ ?_)))
    | (refine wpList_taken rfl (fun K hK => wp_eql_row 40 40 5 (frC sentF) (frC sentF) (List.replicate 23 (some .i64)) (.tmp 39) (.tmp 40) rfl rfl rfl (by decide) (by kernel_rfl) sigFrame (by kernel_rfl) (by kernel_rfl) (by kernel_rfl) (fit_frame sent_wf) (fit_frame sent_wf) true (by simp) (hK _ _ ?_)))
    | (go_at_call 76; refine (tell_errno 15 _ hg7).mono ?_; rintro e w9 ⟨rfl, hb9⟩))
  go_ret
  exact ⟨rfl, HG.out ▸ hbw7.trans (hb9.mono (Nat.le_of_lt hl7))⟩
end Go.Proofs.YtdhekhlmdefcnaaDoor
