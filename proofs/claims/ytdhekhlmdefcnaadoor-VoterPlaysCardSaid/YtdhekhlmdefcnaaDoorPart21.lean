/- Part 21 of the proof: Sent, Made, RefMay. -/
import Derived.Test.YtdhekhlmdefcnaaDoorPart9
import Derived.Test.YtdhekhlmdefcnaaDoorPart7
import Derived.Test.YtdhekhlmdefcnaaDoorPart3
import Derived.Test.YtdhekhlmdefcnaaDoorPart8
/- The walk over 'sent': a fact. -/
namespace Go.Proofs.YtdhekhlmdefcnaaDoor
open Go.RowKit
/-- an owned row that has a cell: its block -/
theorem own_open {w : World} {base : Nat} {e : TypeId} {A : Option Addr} {n c : Nat} {xs : List Value} (h : w.ownsRow base e 1 (.slice A n c) n xs) (hn : 0 < n) :
    ∃ g cur, A = some ⟨g, 0, none⟩ ∧ base ≤ g ∧ Has w g e cur ∧ n ≤ c ∧ c ≤ maxLen ∧ cur.size = c ∧ cur.toList.take n = xs := by
  obtain ⟨_, h2⟩ := h
  rcases h2 with ⟨_, h0⟩ | ⟨g, cap, cur, he, hg, hh, h3, h4, h5, h6⟩
  · omega
  · injection he with e1 _ e3
    subst e3
    exact ⟨g, cur, e1, hg, hh, h3, h4, by omega, by simpa using h6⟩
theorem own_set {w : World} {base : Nat} {e : TypeId} {g n c : Nat} {xs : List Value} (h : w.ownsRow base e 1 (.slice (some ⟨g, 0, none⟩) n c) n xs) (i : Nat) (v : Value) :
    (w.setCell ⟨g, i, none⟩ v).ownsRow base e 1 (.slice (some ⟨g, 0, none⟩) n c) n (xs.set i v) := by
  obtain ⟨h1, h2⟩ := h
  refine ⟨by simpa using h1, ?_⟩
  rcases h2 with ⟨h0, _⟩ | ⟨g', cap, cur, he, hg, hh, h3, h4, h5, h6⟩
  · cases h0
  · injection he with e1 _ e3
    injection e1 with e1
    injection e1 with e1
    subst e1
    subst e3
    have hs : Has w g e cur := hh
    refine .inr ⟨g, c, cur.setIfInBounds i v, rfl, hg, hs.set i v, h3, h4, by simpa using h5, ?_⟩
    rw [← h6]
    simp only [Array.toList_setIfInBounds, Nat.mul_one]
    rw [List.take_set]
/-- a cell of an owned row of bytes -/
theorem own_byte {w : World} {base : Nat} {g n c : Nat} {l : List UInt8} (h : w.ownsRow base 5 1 (.slice (some ⟨g, 0, none⟩) n c) n (bytes l)) {i : Nat} {x : UInt8} (hx : l[i]? = some x) :
    w.cell? ⟨g, i, none⟩ = some (U8 x) ∧ w.frozen? ⟨g, i, none⟩ = false := by
  have hl : i < l.length := (List.getElem?_eq_some_iff.1 hx).1
  have hn : (bytes l).length = n * 1 := h.1
  rw [bytes_length] at hn
  obtain ⟨_, hr⟩ := own_slice h
  obtain ⟨b, o, e, _, hc⟩ := hr.byte_ hx
  cases e
  obtain ⟨g', cur, e', _, hh, _⟩ := own_open h (by omega)
  cases e'
  rw [Nat.zero_add] at hc
  exact ⟨hc, hh.free i⟩
theorem bytes_set (l : List UInt8) (i : Nat) (x : UInt8) : (bytes l).set i (U8 x) = bytes (l.set i x) := by simp [bytes, List.map_set]
def sentF : List Int := [2, 1, 300, 7, 2, 2, 0, 0, 0, 0, 0, 0, 0, 0, 0, 0, 0, 0, 0, 0, 0, 0, 0]
theorem sent_lit : frC sentF = #[I 2, I 1, I 300, I 7, I 2, I 2, I 0, I 0, I 0, I 0, I 0, I 0, I 0, I 0, I 0, I 0, I 0, I 0, I 0, I 0, I 0, I 0, I 0] := rfl
theorem sent_wf : Wf sentF := ⟨rfl, by decide⟩
theorem sent_may : mayB sentF = true := by decide +kernel
theorem sent_len : (encB sentF).length = 22 := by decide +kernel
theorem sent_dec : dec (encB sentF) = (0, sentF) := by decide +kernel
def sentX : UInt8 := (encB sentF).getD 3 0
theorem sent_3 : (encB sentF)[3]? = some sentX := by decide +kernel
theorem sent_bad : dec ((encB sentF).set 3 (sentX ^^^ 1)) = (15, zeroF) := by decide +kernel
theorem sentX_xor : bits .xor .u8 (sentX.toNat : Int) 1 = ((sentX ^^^ 1).toNat : Int) := by decide +kernel
theorem sent_size : (Tryd.prog.info? 40).map (·.size) = some (frC sentF).size := by rw [frC_size _ rfl]; exact infoFrame
theorem errV_zero : errV 0 = .nilIface := rfl
theorem errV_fifteen : errV 15 = .iface 42 (I 15) := rfl
/-- Encode, the row open -/
theorem encode_at (f : List Int) (n : Nat) (hf : Wf f) (hm : mayB f = true) (hn : Hid ((encB f).length = n)) (h0 : 0 < n) (w : World) :
    Calls Tryd.prog 18 #[.agg (frC f)] w fun e w' => ∃ g c, e = .returned (.tuple #[.slice (some ⟨g, 0, none⟩) n c, .nilIface]) ∧ w.heap.size ≤ g ∧ n ≤ c ∧ Hid (w'.ownsRow w.heap.size 5 1 (.slice (some ⟨g, 0, none⟩) n c) n (bytes (encB f))) ∧ Below w.heap.size w w' := by
  refine (encode_yes f hf hm w).mono ?_
  rintro e w' ⟨⟨A, c, rfl, own⟩, hb⟩
  rw [hn.out] at own ⊢
  obtain ⟨g, cur, rfl, h1, _, h2, _⟩ := own_open own h0
  exact ⟨g, c, rfl, h1, h2, own, hb⟩
set_option maxHeartbeats 4000000 in
set_option maxRecDepth 100000 in
theorem sent_any (w : World) (hg : Hid (EType w)) : Calls Tryd.prog 22 #[] w fun e w' => e = .returned (.bool true) ∧ Below w.heap.size w w' := by
  have kz : Has (w.alloc (.cells #[I 0, I 0, I 0, I 0, I 0, I 0, I 0, I 0, I 0, I 0, I 0, I 0, I 0, I 0, I 0, I 0, I 0, I 0, I 0, I 0, I 0, I 0, I 0] 40)) w.heap.size 40 (frC zeroF) := by rw [zeroFrame]; exact Has.new _ _ _
  have hbz : Below w.heap.size w (w.alloc (.cells #[I 0, I 0, I 0, I 0, I 0, I 0, I 0, I 0, I 0, I 0, I 0, I 0, I 0, I 0, I 0, I 0, I 0, I 0, I 0, I 0, I 0, I 0, I 0] 40)) := (Below.refl _ _).alloc (Nat.le_refl _) _
  have k1 := kz.setRow (frC sentF)
  have hb1 := below_setRow hbz (Nat.le_refl _) (frC sentF)
  have hsE : Hid ((encB sentF).length = 22) := Lib.hid sent_len
  go_enter Tryd.func22, Tryd.ntmps22
  go_upto_region 2 with (refine wpList_store_row rfl 40 (.tmp 1) _ rfl w.heap.size (frC sentF) rfl rfl 40 _ kz sent_size rfl (frC_one _) ?_)
  clear kz hbz
  generalize World.setRow _ w.heap.size (frC sentF) = w1 at *
  have hg1 := Lib.hid (hg.out.after hb1)
  have hl1 := k1.lt
  generalize hG : w.heap.size = g1 at *
  have HG := Lib.hid hG
  clear hG
  go_wp2_with (first
    | (refine wpList_load_row rfl 40 (.tmp 1) rfl g1 rfl 40 (frC sentF) (0, 0) _ k1 Tryd.underlying40 rfl sent_size ?_)
    | (go_at_call 18; refine (encode_at sentF 22 sent_wf sent_may hsE (by decide) w1).mono ?_; rintro e w2 ⟨gb, c, rfl, hgb, hc, HO, hb2⟩))
  have hl2 := Nat.lt_of_lt_of_le hl1 hb2.size
  have k2 := k1.after hb2
  have hg2 := Lib.hid (hg1.out.after hb2)
  have hbw2 := hb1.trans (hb2.mono (Nat.le_of_lt hl1))
  have HO2 := Lib.hid (own_base HO.out (Nat.le_of_lt hl1))
  have hgb1 : g1 < gb := by omega
  obtain ⟨_, hr2⟩ := own_slice HO.out
  clear HO k1 hg1 hb1 hb2 hl1 hgb
  refine (decode_ok (some ⟨gb, 0, none⟩) 22 c (encB sentF) w2 hsE.out hc hr2).mono ?_
  rintro e w3 ⟨rfl, hb3⟩
  rw [sent_dec, errV_zero]
  have hl3 := Nat.lt_of_lt_of_le hl2 hb3.size
  have k3 := k2.after hb3
  have hg3 := Lib.hid (hg2.out.after hb3)
  have hbw3 := hbw2.trans (hb3.mono (Nat.le_of_lt hl2))
  have HO3 := Lib.hid (own_after HO2.out hb3)
  have kz : Has (w3.alloc (.cells #[I 0, I 0, I 0, I 0, I 0, I 0, I 0, I 0, I 0, I 0, I 0, I 0, I 0, I 0, I 0, I 0, I 0, I 0, I 0, I 0, I 0, I 0, I 0] 40)) w3.heap.size 40 (frC zeroF) := by rw [zeroFrame]; exact Has.new _ _ _
  have hbz : Below w3.heap.size w3 (w3.alloc (.cells #[I 0, I 0, I 0, I 0, I 0, I 0, I 0, I 0, I 0, I 0, I 0, I 0, I 0, I 0, I 0, I 0, I 0, I 0, I 0, I 0, I 0, I 0, I 0] 40)) := (Below.refl _ _).alloc (Nat.le_refl _) _
  have k4 := kz.setRow (frC sentF)
  have hb4 := below_setRow hbz (Nat.le_refl _) (frC sentF)
  clear hbz hr2 k2 hg2 hbw2 HO2 hb3
  go_upto_region 6 with (refine wpList_store_row rfl 40 (.tmp 4) _ rfl w3.heap.size (frC sentF) rfl rfl 40 _ kz sent_size rfl (frC_one _) ?_)
  clear kz
  generalize World.setRow _ w3.heap.size (frC sentF) = w4 at *
  have hl4 := Nat.lt_of_lt_of_le hl3 hb4.size
  have k14 := k3.after hb4
  have hg4 := Lib.hid (hg3.out.after hb4)
  have hbw4 := hbw3.trans (hb4.mono (Nat.le_of_lt hl3))
  have HO4 := Lib.hid (own_after HO3.out hb4)
  have hg14 : g1 ≤ w3.heap.size := Nat.le_of_lt hl3
  clear k3 hg3 hbw3 HO3 hb4 hl3
  generalize w3.heap.size = g4 at *
  obtain ⟨b3, f3⟩ := own_byte HO4.out sent_3
  have tx := sentX_xor
  go_upto_region 7 with (fail)
  have hne1 : g1 ≠ gb := by omega
  have hne4 : g4 ≠ gb := by have := own_ne HO4.out k4 (by decide); simp [Value.ownBlock] at this; exact this
  have k15 : Has (w4.setCell ⟨gb, 3, none⟩ (U8 (sentX ^^^ 1))) g1 40 (frC sentF) := k14.far hne1 _
  have k45 : Has (w4.setCell ⟨gb, 3, none⟩ (U8 (sentX ^^^ 1))) g4 40 (frC sentF) := k4.far hne4 _
  have HO5 := own_set HO4.out 3 (U8 (sentX ^^^ 1))
  rw [bytes_set] at HO5
  obtain ⟨_, hr5⟩ := own_slice HO5
  have hb5 : Below g1 w (w4.setCell ⟨gb, 3, none⟩ (U8 (sentX ^^^ 1))) := hbw4.setCell (Nat.le_of_lt hgb1) _
  have hl5 : g1 < (w4.setCell ⟨gb, 3, none⟩ (U8 (sentX ^^^ 1))).heap.size := k15.lt
  clear HO4 HO5 k14 k4 hg4 hbw4 hl4 b3 f3
  go_wp2_with fail
  refine (decode_ok (some ⟨gb, 0, none⟩) 22 c ((encB sentF).set 3 (sentX ^^^ 1)) (w4.setCell ⟨gb, 3, none⟩ (U8 (sentX ^^^ 1))) (by rw [List.length_set]; exact hsE.out) hc hr5).mono ?_
  rintro e w6 ⟨rfl, hb6⟩
  rw [sent_bad, errV_fifteen]
  clear tx
  have k16 := k15.after hb6
  have k46 := k45.after hb6
  have hbw6 := hb5.trans (hb6.mono (Nat.le_of_lt hl5))
  have hl6 := Nat.lt_of_lt_of_le hl5 hb6.size
  have kz : Has (w6.alloc (.cells #[I 0, I 0, I 0, I 0, I 0, I 0, I 0, I 0, I 0, I 0, I 0, I 0, I 0, I 0, I 0, I 0, I 0, I 0, I 0, I 0, I 0, I 0, I 0] 40)) w6.heap.size 40 (frC zeroF) := by rw [zeroFrame]; exact Has.new _ _ _
  have hbz : Below w6.heap.size w6 (w6.alloc (.cells #[I 0, I 0, I 0, I 0, I 0, I 0, I 0, I 0, I 0, I 0, I 0, I 0, I 0, I 0, I 0, I 0, I 0, I 0, I 0, I 0, I 0, I 0, I 0] 40)) := (Below.refl _ _).alloc (Nat.le_refl _) _
  have hb7 := below_setRow hbz (Nat.le_refl _) (frC zeroF)
  clear hbz k15 k45 hr5 hb5 hl5 hb6
  go_upto_region 8 with (refine wpList_store_row rfl 40 (.tmp 5) _ rfl w6.heap.size (frC zeroF) rfl rfl 40 _ kz zeroSize rfl (frC_one _) ?_)
  clear kz
  generalize World.setRow _ w6.heap.size (frC zeroF) = w7 at *
  have k17 := k16.after hb7
  have k47 := k46.after hb7
  have hbw7 := hbw6.trans (hb7.mono (Nat.le_of_lt hl6))
  have hg2l : 2 < g1 := by have := hg.out.lt; have := HG.out; omega
  have hg7 : Hid (EType w7) := Lib.hid (hg.out.below hg2l hbw7)
  have hl7 := k17.lt
  clear k16 k46 hbw6 hl6 hb7
  go_wp2_with (first
    | (refine wpList_taken rfl (fun K hK => wp_load_row 40 (.tmp 4) rfl g4 rfl 40 (frC sentF) (0, 0) _ k47 Tryd.underlying40 rfl sent_size (hK _ _ ?_)))
    | (refine wpList_taken rfl (fun K hK => wp_load_row 40 (.tmp 1) rfl g1 rfl 40 (frC sentF) (0, 0) _ k17 Tryd.underlying40 rfl sent_size (hK _ _ ?_)))
    | (refine wpList_taken rfl (fun K hK => wp_eql_row 40 40 5 (frC sentF) (frC sentF) (List.replicate 23 (some .i64)) (.tmp 39) (.tmp 40) rfl rfl rfl (by decide) (by kernel_rfl) sigFrame (by kernel_rfl) (by kernel_rfl) (by kernel_rfl) (fit_frame sent_wf) (fit_frame sent_wf) true (by simp) (hK _ _ ?_)))
    | (go_at_call 76; refine (tell_errno 15 _ hg7).mono ?_; rintro e w9 ⟨rfl, hb9⟩))
  go_ret
  exact ⟨rfl, HG.out ▸ hbw7.trans (hb9.mono (Nat.le_of_lt hl7))⟩
end Go.Proofs.YtdhekhlmdefcnaaDoor
/- The walk over the reference's made. -/
namespace Go.Proofs.YtdhekhlmdefcnaaDoor
open Go.RowKit
/-- a frame of numbers: the first n laid -/
def madeTo (ls : List Int) : Nat → List Int
  | 0 => zeroF
  | j + 1 => (madeTo ls j).set ((idx (ls.getD 0 0)).getD j 0) (ls.getD j 0)
def madeB (ls : List Int) : Bool := decide (3 ≤ ls.length) && (decide (1 ≤ ls.getD 0 0) && decide (ls.getD 0 0 ≤ 5)) && decide (ls.length = (idx (ls.getD 0 0)).length)
def made (ls : List Int) : List Int × Bool := if madeB ls then (madeTo ls ls.length, true) else (zeroF, false)
theorem madeTo_length (ls : List Int) : ∀ n, (madeTo ls n).length = 23
  | 0 => rfl
  | n + 1 => by rw [madeTo, List.length_set, madeTo_length ls n]
theorem idx_t3 (k : Int) : (idx k).getD 0 0 = 0 ∧ (idx k).getD 1 0 = 1 ∧ (idx k).getD 2 0 = 2 := by
  rcases idx_cases k with ⟨_, e⟩ | ⟨_, e⟩ | ⟨_, e⟩ | ⟨_, e⟩ | ⟨_, _, _, _, e⟩ <;> rw [e] <;> decide
theorem made_three {ls : List Int} {x0 x1 x2 : Int} (h0 : ls[0]? = some x0) (h1 : ls[1]? = some x1) (h2 : ls[2]? = some x2) : madeTo ls 3 = [x0, x1, x2, 0, 0, 0, 0, 0, 0, 0, 0, 0, 0, 0, 0, 0, 0, 0, 0, 0, 0, 0, 0] := by
  obtain ⟨e0, e1, e2⟩ := idx_t3 (ls.getD 0 0)
  rw [madeTo, madeTo, madeTo, madeTo, e0, e1, e2, getD_int h0, getD_int h1, getD_int h2]
  rfl
section
variable {ty : TypeId} {ps : String} {af : Array Edge} {g : Option (Nat × Bool)} {a : Act} {w : World} {K : Act → World → Prop} {Q : Exit → Act → World → Prop}
theorem wp_ixInt0 {b o n c d s : Nat} (hk : 0 < n) (e : a.tmps.getD s undef = .slice (some ⟨b, o, none⟩) n c) (h : K (a.put (some d) (.pointer (some ⟨b, o, none⟩))) w) :
    Oper.wp Tryd.prog { dst := some d, op := .indexAddr 22 (.tmp s) (.const (.int .i64 0)), type := ty, pos := ps, after := af, guard := g } a w K Q := by
  have e' : a.eval (.tmp s) = .slice (some ⟨b, o, none⟩) n c := e
  have hki : (0 : Int) < (n : Int) := by omega
  go_simp
  exact h
theorem wp_ixInt1 {b o n c d s : Nat} (hk : 1 < n) (e : a.tmps.getD s undef = .slice (some ⟨b, o, none⟩) n c) (h : K (a.put (some d) (.pointer (some ⟨b, o + 1, none⟩))) w) :
    Oper.wp Tryd.prog { dst := some d, op := .indexAddr 22 (.tmp s) (.const (.int .i64 1)), type := ty, pos := ps, after := af, guard := g } a w K Q := by
  have e' : a.eval (.tmp s) = .slice (some ⟨b, o, none⟩) n c := e
  have hki : (1 : Int) < (n : Int) := by omega
  go_simp
  exact h
theorem wp_ixInt2 {b o n c d s : Nat} (hk : 2 < n) (e : a.tmps.getD s undef = .slice (some ⟨b, o, none⟩) n c) (h : K (a.put (some d) (.pointer (some ⟨b, o + 2, none⟩))) w) :
    Oper.wp Tryd.prog { dst := some d, op := .indexAddr 22 (.tmp s) (.const (.int .i64 2)), type := ty, pos := ps, after := af, guard := g } a w K Q := by
  have e' : a.eval (.tmp s) = .slice (some ⟨b, o, none⟩) n c := e
  have hki : (2 : Int) < (n : Int) := by omega
  go_simp
  exact h
theorem wp_ldInt {p : Addr} {x : Int} {d s : Nat} (h0 : w.cell? p = some (I x)) (e : a.tmps.getD s undef = .pointer (some p)) (h : K (a.put (some d) (I x)) w) :
    Oper.wp Tryd.prog { dst := some d, op := .load 3 (.tmp s), type := ty, pos := ps, after := af, guard := g } a w K Q := by
  have e' : a.eval (.tmp s) = .pointer (some p) := e
  go_simp
  exact h
theorem wp_bdFrame {x0 x1 x2 : Int} {d s0 s1 s2 : Nat} (e0 : a.tmps.getD s0 undef = I x0) (e1 : a.tmps.getD s1 undef = I x1) (e2 : a.tmps.getD s2 undef = I x2)
    (h : K (a.put (some d) (.agg (frC [x0, x1, x2, 0, 0, 0, 0, 0, 0, 0, 0, 0, 0, 0, 0, 0, 0, 0, 0, 0, 0, 0, 0]))) w) :
    Oper.wp Tryd.prog { dst := some d, op := .build 45 #[(0, .tmp s0), (1, .tmp s1), (2, .tmp s2)], type := ty, pos := ps, after := af, guard := g } a w K Q := by
  have e0' : a.eval (.tmp s0) = I x0 := e0
  have e1' : a.eval (.tmp s1) = I x1 := e1
  have e2' : a.eval (.tmp s2) = I x2 := e2
  have f0 : a.tmps[s0]?.getD undef = I x0 := by rw [← Array.getD_eq_getD_getElem?]; exact e0
  have f1 : a.tmps[s1]?.getD undef = I x1 := by rw [← Array.getD_eq_getD_getElem?]; exact e1
  have f2 : a.tmps[s2]?.getD undef = I x2 := by rw [← Array.getD_eq_getD_getElem?]; exact e2
  go_simp
  exact h
theorem wp_alFrame {d : Nat} (h : K (a.put (some d) (.pointer (some ⟨w.heap.size, 0, none⟩))) (w.alloc (.cells (frC zeroF) 45))) :
    Oper.wp Tryd.prog { dst := some d, op := .alloc 45, type := ty, pos := ps, after := af, guard := g } a w K Q := by
  go_simp
  exact h
end
theorem infoRef : (Tryd.prog.info? 45).map (·.size) = some 23 := by kernel_rfl
theorem sigRef : sig Tryd.prog 5 45 = some (List.replicate 23 (some .i64)) := by kernel_rfl
theorem refSize (f : List Int) (h : f.length = 23) : (Tryd.prog.info? 45).map (·.size) = some (frC f).size := by rw [frC_size _ h]; exact infoRef
set_option maxHeartbeats 2000000 in
set_option maxRecDepth 100000 in
theorem made_small (A : Option Addr) (n c : Nat) (w : World) (h : n < 3) :
    Calls Tryd.prog 79 #[.slice A n c] w fun e w' => e = .returned (.tuple #[.agg (frC zeroF), .bool false]) ∧ Below w.heap.size w w' := by
  go_enter Tryd.func79, Tryd.ntmps79
  go_upto_region 1 with (fail)
  have k2 : Has (w.alloc (.cells #[I 0, I 0, I 0, I 0, I 0, I 0, I 0, I 0, I 0, I 0, I 0, I 0, I 0, I 0, I 0, I 0, I 0, I 0, I 0, I 0, I 0, I 0, I 0] 45)) w.heap.size 45 (frC zeroF) := by rw [zeroFrame]; exact Has.new _ _ _
  have hb : Below w.heap.size w (w.alloc (.cells #[I 0, I 0, I 0, I 0, I 0, I 0, I 0, I 0, I 0, I 0, I 0, I 0, I 0, I 0, I 0, I 0, I 0, I 0, I 0, I 0, I 0, I 0, I 0] 45)) := (Below.refl _ _).alloc (Nat.le_refl _) _
  generalize w.alloc (.cells #[I 0, I 0, I 0, I 0, I 0, I 0, I 0, I 0, I 0, I 0, I 0, I 0, I 0, I 0, I 0, I 0, I 0, I 0, I 0, I 0, I 0, I 0, I 0] 45) = w1 at *
  generalize hG : w.heap.size = g2 at *
  have HG := Lib.hid hG
  clear hG
  go_wp2_with (refine wpList_store_row rfl 45 (.tmp 2) _ rfl g2 (frC zeroF) rfl rfl 45 _ k2 (refSize _ rfl) rfl (frC_one _) ?_)
  exact bodyPost_ret (ret_cell_tmp rfl _ _ _ _ (frC zeroF) _ rfl (k2.setRow _) Tryd.underlying45 rfl (refSize _ rfl)) rfl ⟨rfl, HG.out ▸ below_setRow hb (Nat.le_refl _) _⟩
set_option maxHeartbeats 4000000 in
set_option maxRecDepth 100000 in
theorem made_in (bb oo n c : Nat) (ls : List Int) (w : World) (hl : Hid (ls.length = n)) (h3 : 3 ≤ n) (hn : n ≤ 1000) (hr : Reads w w.heap.size (some ⟨bb, oo, none⟩) (ints ls)) :
    Calls Tryd.prog 79 #[.slice (some ⟨bb, oo, none⟩) n c] w fun e w' => e = .returned (.tuple #[.agg (frC (made ls).1), .bool (made ls).2]) ∧ Below w.heap.size w w' := by
  have HR := Lib.hid hr
  clear hr
  obtain ⟨x0, hx0⟩ := some_at ls 0 (by rw [hl.out]; omega)
  obtain ⟨x1, hx1⟩ := some_at ls 1 (by rw [hl.out]; omega)
  obtain ⟨x2, hx2⟩ := some_at ls 2 (by rw [hl.out]; omega)
  have HX0 : Hid (ls.getD 0 0 = x0) := Lib.hid (getD_int hx0)
  have H3 : Hid (madeTo ls 3 = [x0, x1, x2, 0, 0, 0, 0, 0, 0, 0, 0, 0, 0, 0, 0, 0, 0, 0, 0, 0, 0, 0, 0]) := Lib.hid (made_three hx0 hx1 hx2)
  have F0 := Lib.hid hx0
  have F1 := Lib.hid hx1
  have F2 := Lib.hid hx2
  clear hx0 hx1 hx2
  go_enter Tryd.func79, Tryd.ntmps79
  go_upto_region 1 with (fail)
  have k2 : Has (w.alloc (.cells #[I 0, I 0, I 0, I 0, I 0, I 0, I 0, I 0, I 0, I 0, I 0, I 0, I 0, I 0, I 0, I 0, I 0, I 0, I 0, I 0, I 0, I 0, I 0] 45)) w.heap.size 45 (frC zeroF) := by rw [zeroFrame]; exact Has.new _ _ _
  have hb : Below w.heap.size w (w.alloc (.cells #[I 0, I 0, I 0, I 0, I 0, I 0, I 0, I 0, I 0, I 0, I 0, I 0, I 0, I 0, I 0, I 0, I 0, I 0, I 0, I 0, I 0, I 0, I 0] 45)) := (Below.refl _ _).alloc (Nat.le_refl _) _
  have HR1 : Hid (Reads (w.alloc (.cells #[I 0, I 0, I 0, I 0, I 0, I 0, I 0, I 0, I 0, I 0, I 0, I 0, I 0, I 0, I 0, I 0, I 0, I 0, I 0, I 0, I 0, I 0, I 0] 45)) w.heap.size (some ⟨bb, oo, none⟩) (ints ls)) := Lib.hid (HR.out.below hb)
  generalize w.alloc (.cells #[I 0, I 0, I 0, I 0, I 0, I 0, I 0, I 0, I 0, I 0, I 0, I 0, I 0, I 0, I 0, I 0, I 0, I 0, I 0, I 0, I 0, I 0, I 0] 45) = w1 at *
  generalize hG : w.heap.size = g2 at *
  have HG := Lib.hid hG
  clear hG HR
  go_upto_region 3 with (fail)
  have hl1 := k2.lt
  go_cut [4] (fun s4 wx => s4 = .pointer (some ⟨w1.heap.size, 0, none⟩) ∧ Has wx w1.heap.size 45 (frC (madeTo ls 3)) ∧ Has wx g2 45 (frC zeroF) ∧ Hid (Reads wx g2 (some ⟨bb, oo, none⟩) (ints ls)) ∧ Below g2 w wx)
  case first =>
    rename_i J0 K0 hJ0 hK0
    rw [H3.out] at *
    generalize hff : [x0, x1, x2, 0, 0, 0, 0, 0, 0, 0, 0, 0, 0, 0, 0, 0, 0, 0, 0, 0, 0, 0, (0 : Int)] = f3 at *
    have hf3 : Hid (f3.length = 23) := Lib.hid (by rw [← hff]; rfl)
    have k4 : Hid (Has (w1.drew.alloc (.cells (frC zeroF) 45)) w1.heap.size 45 (frC zeroF)) := Lib.hid (Has.new _ _ _)
    have b0 : Below g2 w w1.drew := hb.drew
    have b1 : Below g2 w (w1.drew.alloc (.cells (frC zeroF) 45)) := b0.alloc (Nat.le_of_lt hl1) _
    have b2 : Below g2 w ((w1.drew.alloc (.cells (frC zeroF) 45)).setRow w1.heap.size (frC f3)) := below_setRow b1 (Nat.le_of_lt hl1) _
    have bR : ∀ wx, Below g2 w wx → Reads wx g2 (some ⟨bb, oo, none⟩) (ints ls) := fun wx h => by
      have : Reads w g2 (some ⟨bb, oo, none⟩) (ints ls) := HR1.out.keep (fun b o hb' => (hb.cell (p := ⟨b, o, none⟩) hb').symm)
      exact this.below h
    have HC0 : Hid (∀ wx, Below g2 w wx → wx.cell? ⟨bb, oo, none⟩ = some (I x0)) := Lib.hid (fun wx h => by obtain ⟨_, _, e, _, h⟩ := (bR wx h).at_ F0.out; cases e; exact h)
    have HC1 : Hid (∀ wx, Below g2 w wx → wx.cell? ⟨bb, oo + 1, none⟩ = some (I x1)) := Lib.hid (fun wx h => by obtain ⟨_, _, e, _, h⟩ := (bR wx h).at_ F1.out; cases e; exact h)
    have HC2 : Hid (∀ wx, Below g2 w wx → wx.cell? ⟨bb, oo + 2, none⟩ = some (I x2)) := Lib.hid (fun wx h => by obtain ⟨_, _, e, _, h⟩ := (bR wx h).at_ F2.out; cases e; exact h)
    have hWB : Hid (∀ li wx, W3 w1.drew (w1.drew.alloc (.cells (frC zeroF) 45)) ((w1.drew.alloc (.cells (frC zeroF) 45)).setRow w1.heap.size (frC f3)) 10 11 li wx → Below g2 w wx) := Lib.hid (fun li wx h => h.any (p := fun x => Below g2 w x) b0 b1 b2)
    refine region_tabF (by kernel_rfl) (fun b0 => b0.tmps.getD 0 undef = .slice (some ⟨bb, oo, none⟩) n c) rfl 107 rfl
      (fun i => ([.slice (some ⟨bb, oo, none⟩) n c, .pointer (some ⟨bb, oo, none⟩), I x0, .slice (some ⟨bb, oo, none⟩) n c, .pointer (some ⟨bb, oo + 1, none⟩), I x1, .slice (some ⟨bb, oo, none⟩) n c, .pointer (some ⟨bb, oo + 2, none⟩), I x2, .agg (frC f3), .pointer (some ⟨w1.heap.size, 0, none⟩)] : List Value).getD i undef)
      (W3 w1.drew (w1.drew.alloc (.cells (frC zeroF) 45)) ((w1.drew.alloc (.cells (frC zeroF) 45)).setRow w1.heap.size (frC f3)) 10 11)
      [10, 11, 12, 13, 14, 15, 16, 17, 18, 19, 4] (by kernel_rfl) (by kernel_rfl) ⟨fun h => absurd h (by decide), rfl⟩ ?_ ?_
    · intro b0 hb0 i o ho
      have hi : i < 12 := (Array.getElem?_eq_some_iff.1 ho).1
      subst hff
      have hcase : i = 0 ∨ i = 1 ∨ i = 2 ∨ i = 3 ∨ i = 4 ∨ i = 5 ∨ i = 6 ∨ i = 7 ∨ i = 8 ∨ i = 9 ∨ i = 10 ∨ i = 11 := by omega
      rcases hcase with rfl | rfl | rfl | rfl | rfl | rfl | rfl | rfl | rfl | rfl | rfl | rfl
      · cases ho
        exact does_quiet rfl (fun li w _ h => h.quiet (by decide) (by decide)) (fun li a w hF hed hK hW K hk => wp_move_at rfl (by rw [hF.slot (by decide)]; exact hb0) hk)
      · cases ho
        exact does_quiet rfl (fun li w _ h => h.quiet (by decide) (by decide)) (fun li a w hF hed hK hW K hk => wp_ixInt0 (by omega) (hK 0 _ rfl (hed ⟨0, .data⟩ (by simp) rfl) 10 rfl) hk)
      · cases ho
        exact does_quiet rfl (fun li w _ h => h.quiet (by decide) (by decide)) (fun li a w hF hed hK hW K hk => wp_ldInt (HC0.out _ (hWB.out _ _ hW)) (hK 1 _ rfl (hed ⟨1, .data⟩ (by simp) rfl) 11 rfl) hk)
      · cases ho
        exact does_quiet rfl (fun li w _ h => h.quiet (by decide) (by decide)) (fun li a w hF hed hK hW K hk => wp_move_at rfl (by rw [hF.slot (by decide)]; exact hb0) hk)
      · cases ho
        exact does_quiet rfl (fun li w _ h => h.quiet (by decide) (by decide)) (fun li a w hF hed hK hW K hk => wp_ixInt1 (by omega) (hK 3 _ rfl (hed ⟨3, .data⟩ (by simp) rfl) 13 rfl) hk)
      · cases ho
        exact does_quiet rfl (fun li w _ h => h.quiet (by decide) (by decide)) (fun li a w hF hed hK hW K hk => wp_ldInt (HC1.out _ (hWB.out _ _ hW)) (hK 4 _ rfl (hed ⟨4, .data⟩ (by simp) rfl) 14 rfl) hk)
      · cases ho
        exact does_quiet rfl (fun li w _ h => h.quiet (by decide) (by decide)) (fun li a w hF hed hK hW K hk => wp_move_at rfl (by rw [hF.slot (by decide)]; exact hb0) hk)
      · cases ho
        exact does_quiet rfl (fun li w _ h => h.quiet (by decide) (by decide)) (fun li a w hF hed hK hW K hk => wp_ixInt2 (by omega) (hK 6 _ rfl (hed ⟨6, .data⟩ (by simp) rfl) 16 rfl) hk)
      · cases ho
        exact does_quiet rfl (fun li w _ h => h.quiet (by decide) (by decide)) (fun li a w hF hed hK hW K hk => wp_ldInt (HC2.out _ (hWB.out _ _ hW)) (hK 7 _ rfl (hed ⟨7, .data⟩ (by simp) rfl) 17 rfl) hk)
      · cases ho
        exact does_quiet rfl (fun li w _ h => h.quiet (by decide) (by decide)) (fun li a w hF hed hK hW K hk => wp_bdFrame (hK 2 _ rfl (hed ⟨2, .data⟩ (by simp) rfl) 12 rfl) (hK 5 _ rfl (hed ⟨5, .data⟩ (by simp) rfl) 15 rfl) (hK 8 _ rfl (hed ⟨8, .data⟩ (by simp) rfl) 18 rfl) hk)
      · cases ho
        refine does_turn rfl (fun li a w hs hn hF hed hK hW K hk => ?_)
        have hw := hW.before hn
        subst hw
        exact wp_alFrame (hk _ (hW.allocd hn (by rw [hs]; decide) (by decide)))
      · cases ho
        refine does_turn rfl (fun li a w hs hn hF hed hK hW K hk => ?_)
        have h10 := hed ⟨10, .data⟩ (by simp) rfl
        have hw := hW.between h10 hn
        subst hw
        exact wp_store_row 45 (.tmp 4) (.tmp 19) rfl w1.heap.size (frC _) (hK 10 _ rfl h10 4 rfl) (hK 9 _ rfl (hed ⟨9, .data⟩ (by simp) rfl) 19 rfl) 45 (frC zeroF) k4.out (refSize _ hf3.out) (by rw [frC_size _ rfl, frC_size _ hf3.out]) (frC_one _) (hk _ (W3.stored h10 (by rw [hs]; decide) (by decide)))
    · intro li a w' hF hK hall hW
      have hw := hW.done (hall 11 (by decide))
      have e4 := hK 10 _ rfl (hall 10 (by decide)) 4 rfl
      have hM := hF.meet
      simp only [List.foldl_cons, List.foldl_nil, List.setIfInBounds_toArray, List.set_cons_succ, List.set_cons_zero, e4] at hM
      subst hw
      refine hK0 _ _ (Met.intro (hJ0 _ _ ?_))
      (repeat apply Exists.intro)
      exact ⟨⟨rfl, k4.out.setRow _, (k2.drew.alloc _).farRow (Nat.ne_of_lt hl1) _, bR _ b2, b2⟩, hM⟩
  case rest =>
    obtain ⟨rfl, ka, kb, HRr, hbr⟩ := hcut
    generalize w1.heap.size = g4 at *
    clear k2 hb HR1 H3 F1 F2 w1
    have hne : g2 ≠ g4 := Nat.ne_of_lt hl1
    have hle : g2 ≤ g4 := Nat.le_of_lt hl1
    have hgz : (frC (madeTo ls 3))[0]? = some (I x0) := by
      obtain ⟨e0, e1, e2⟩ := idx_t3 (ls.getD 0 0)
      refine frC_get _ 0 x0 ?_
      rw [madeTo, madeTo, madeTo, madeTo, e0, e1, e2, HX0.out]
      rfl
    have a0 := ka.cellv 0 _ hgz
    clear hgz
    by_cases hk1 : x0 = 1
    · subst hk1
      have r2 : inR 1 2 3 = false := rfl
      by_cases hn5 : n = 5
      · subst hn5
        clear r2
        obtain ⟨x3, hx3⟩ := some_at ls 3 (by rw [hl.out]; omega)
        obtain ⟨x4, hx4⟩ := some_at ls 4 (by rw [hl.out]; omega)
        have c3 : wc.cell? ⟨bb, oo + 3, none⟩ = some (I x3) := by obtain ⟨_, _, e, _, h⟩ := HRr.out.at_ hx3; cases e; exact h
        have c4 : wc.cell? ⟨bb, oo + 4, none⟩ = some (I x4) := by obtain ⟨_, _, e, _, h⟩ := HRr.out.at_ hx4; cases e; exact h
        have HE : Hid (madeTo ls 5 = ((madeTo ls 3).set 3 x3).set 4 x4) := Lib.hid (by rw [madeTo, madeTo, HX0.out, getD_int hx3, getD_int hx4]; rfl)
        obtain ⟨y3, hy3⟩ := some_at (madeTo ls 3) 3 (by rw [madeTo_length]; decide)
        obtain ⟨y4, hy4⟩ := some_at (madeTo ls 3) 4 (by rw [madeTo_length]; decide)
        have z3 := ka.cellv 3 _ (frC_get _ 3 y3 hy3)
        have z4 := ka.cellv 4 _ (frC_get _ 4 y4 hy4)
        have zf3 := ka.free 3
        have zf4 := ka.free 4
        clear hx3 hx4 hy3 hy4
        have HD : Hid (made ls = (madeTo ls 5, true)) := Lib.hid (by unfold made; rw [if_pos (by unfold madeB; rw [HX0.out, hl.out]; decide), hl.out])
        have hsz : Hid ((Tryd.prog.info? 45).map (·.size) = some (frC (madeTo ls 5)).size) := Lib.hid (refSize _ (madeTo_length _ _))
        have hsz2 : Hid ((frC zeroF).size = (frC (madeTo ls 5)).size) := Lib.hid (by rw [frC_size _ (madeTo_length _ _)]; rfl)
        go_upto_region 6 with (fail)
        go_region
        all_goals
          have h := (ka.set 3 (I x3)).set 4 (I x4)
          rw [frC_set, frC_set, ← HE.out] at h
          have k5 := Lib.hid h.drew
          have kb5 := Lib.hid ((kb.far (p := ⟨g4, 3, none⟩) hne (I x3)).far (p := ⟨g4, 4, none⟩) hne (I x4)).drew
          have hb5 := Lib.hid (((hbr.setCell (p := ⟨g4, 3, none⟩) hle (I x3)).setCell (p := ⟨g4, 4, none⟩) hle (I x4)).drew)
          clear h ka kb hbr z3 z4 zf3 zf4 HE c3 c4 a0
          go_wp2_with (first
            | (go_at_call 78; refine (in_any _ _ _ _).mono ?_; rintro e w9 ⟨rfl, rfl⟩)
            | (refine wpList_load_row rfl 45 (.tmp 4) rfl g4 rfl 45 (frC (madeTo ls 5)) (0, 0) _ k5.out Tryd.underlying45 rfl hsz.out ?_)
            | (refine wpList_store_row rfl 45 (.tmp 2) _ rfl g2 (frC (madeTo ls 5)) rfl rfl 45 _ kb5.out hsz.out hsz2.out (frC_one _) ?_))
          exact bodyPost_ret (ret_cell_tmp rfl _ _ _ _ (frC (madeTo ls 5)) _ rfl (kb5.out.setRow _) Tryd.underlying45 rfl hsz.out) rfl ⟨by rw [HD.out]; rfl, HG.out ▸ below_setRow hb5.out (Nat.le_refl _) _⟩
      · have tn : ((n : Int) == 5) = false := by simp; omega
        have HD : Hid (made ls = (zeroF, false)) := Lib.hid (by unfold made; rw [if_neg]; unfold madeB; rw [HX0.out, hl.out]; simp [idx]; try omega)
        go_wp2_with (first
          | (go_at_call 78; refine (in_any _ _ _ _).mono ?_; rintro e w9 ⟨rfl, rfl⟩)
          | (refine wpList_store_row rfl 45 (.tmp 2) _ rfl g2 (frC zeroF) rfl rfl 45 _ kb (refSize _ rfl) rfl (frC_one _) ?_))
        exact bodyPost_ret (ret_cell_tmp rfl _ _ _ _ (frC zeroF) _ rfl (kb.setRow _) Tryd.underlying45 rfl (refSize _ rfl)) rfl ⟨by rw [HD.out]; rfl, HG.out ▸ below_setRow hbr (Nat.le_refl _) _⟩
    · have t1 : (x0 == 1) = false := by simpa using hk1
      by_cases hk2 : inR x0 2 3 = true
      · have hx23 : x0 = 2 ∨ x0 = 3 := by unfold inR at hk2; simp at hk2; omega
        have hid6 : Hid (idx x0 = [0, 1, 2, 3, 4, 5]) := Lib.hid (by rcases hx23 with rfl | rfl <;> rfl)
        have t4 : (x0 == 4) = false := by simp; omega
        have t5 : (x0 == 5) = false := by simp; omega
        by_cases hn6 : n = 6
        · subst hn6
          clear t4 t5
          obtain ⟨x3, hx3⟩ := some_at ls 3 (by rw [hl.out]; omega)
          obtain ⟨x4, hx4⟩ := some_at ls 4 (by rw [hl.out]; omega)
          obtain ⟨x5, hx5⟩ := some_at ls 5 (by rw [hl.out]; omega)
          have c3 : wc.cell? ⟨bb, oo + 3, none⟩ = some (I x3) := by obtain ⟨_, _, e, _, h⟩ := HRr.out.at_ hx3; cases e; exact h
          have c4 : wc.cell? ⟨bb, oo + 4, none⟩ = some (I x4) := by obtain ⟨_, _, e, _, h⟩ := HRr.out.at_ hx4; cases e; exact h
          have c5 : wc.cell? ⟨bb, oo + 5, none⟩ = some (I x5) := by obtain ⟨_, _, e, _, h⟩ := HRr.out.at_ hx5; cases e; exact h
          have HE : Hid (madeTo ls 6 = (((madeTo ls 3).set 3 x3).set 4 x4).set 5 x5) := Lib.hid (by rw [madeTo, madeTo, madeTo, HX0.out, hid6.out, getD_int hx3, getD_int hx4, getD_int hx5]; rfl)
          obtain ⟨y3, hy3⟩ := some_at (madeTo ls 3) 3 (by rw [madeTo_length]; decide)
          obtain ⟨y4, hy4⟩ := some_at (madeTo ls 3) 4 (by rw [madeTo_length]; decide)
          obtain ⟨y5, hy5⟩ := some_at (madeTo ls 3) 5 (by rw [madeTo_length]; decide)
          have z3 := ka.cellv 3 _ (frC_get _ 3 y3 hy3)
          have z4 := ka.cellv 4 _ (frC_get _ 4 y4 hy4)
          have z5 := ka.cellv 5 _ (frC_get _ 5 y5 hy5)
          have zf3 := ka.free 3
          have zf4 := ka.free 4
          have zf5 := ka.free 5
          have HMB : Hid (madeB ls = true) := Lib.hid (by unfold madeB; rw [HX0.out, hl.out, hid6.out]; simp; omega)
          clear hx3 hx4 hx5 hy3 hy4 hy5 hx23
          have HD : Hid (made ls = (madeTo ls 6, true)) := Lib.hid (by unfold made; rw [if_pos HMB.out, hl.out])
          have hsz : Hid ((Tryd.prog.info? 45).map (·.size) = some (frC (madeTo ls 6)).size) := Lib.hid (refSize _ (madeTo_length _ _))
          have hsz2 : Hid ((frC zeroF).size = (frC (madeTo ls 6)).size) := Lib.hid (by rw [frC_size _ (madeTo_length _ _)]; rfl)
          go_upto_region 8 with (go_at_call 78; refine (in_any _ _ _ _).mono ?_; rintro e w9 ⟨rfl, rfl⟩)
          go_region
          all_goals
            have h := ((ka.set 3 (I x3)).set 4 (I x4)).set 5 (I x5)
            rw [frC_set, frC_set, frC_set, ← HE.out] at h
            have k5 := Lib.hid h.drew
            have kb5 := Lib.hid (((kb.far (p := ⟨g4, 3, none⟩) hne (I x3)).far (p := ⟨g4, 4, none⟩) hne (I x4)).far (p := ⟨g4, 5, none⟩) hne (I x5)).drew
            have hb5 := Lib.hid ((((hbr.setCell (p := ⟨g4, 3, none⟩) hle (I x3)).setCell (p := ⟨g4, 4, none⟩) hle (I x4)).setCell (p := ⟨g4, 5, none⟩) hle (I x5)).drew)
            clear h ka kb hbr z3 z4 z5 zf3 zf4 zf5 HE c3 c4 c5 a0
            go_wp2_with (first
              | (go_at_call 78; refine (in_any _ _ _ _).mono ?_; rintro e w9 ⟨rfl, rfl⟩)
              | (refine wpList_load_row rfl 45 (.tmp 4) rfl g4 rfl 45 (frC (madeTo ls 6)) (0, 0) _ k5.out Tryd.underlying45 rfl hsz.out ?_)
              | (refine wpList_store_row rfl 45 (.tmp 2) _ rfl g2 (frC (madeTo ls 6)) rfl rfl 45 _ kb5.out hsz.out hsz2.out (frC_one _) ?_))
            exact bodyPost_ret (ret_cell_tmp rfl _ _ _ _ (frC (madeTo ls 6)) _ rfl (kb5.out.setRow _) Tryd.underlying45 rfl hsz.out) rfl ⟨by rw [HD.out]; rfl, HG.out ▸ below_setRow hb5.out (Nat.le_refl _) _⟩
        · have tn : ((n : Int) == 6) = false := by simp; omega
          have HD : Hid (made ls = (zeroF, false)) := Lib.hid (by unfold made; rw [if_neg]; unfold madeB; rw [HX0.out, hl.out, hid6.out]; simp; omega)
          go_wp2_with (first
            | (go_at_call 78; refine (in_any _ _ _ _).mono ?_; rintro e w9 ⟨rfl, rfl⟩)
            | (refine wpList_store_row rfl 45 (.tmp 2) _ rfl g2 (frC zeroF) rfl rfl 45 _ kb (refSize _ rfl) rfl (frC_one _) ?_))
          exact bodyPost_ret (ret_cell_tmp rfl _ _ _ _ (frC zeroF) _ rfl (kb.setRow _) Tryd.underlying45 rfl (refSize _ rfl)) rfl ⟨by rw [HD.out]; rfl, HG.out ▸ below_setRow hbr (Nat.le_refl _) _⟩
      · have hk2' : inR x0 2 3 = false := by simpa using hk2
        by_cases hk4 : x0 = 4
        · subst hk4
          clear hk2
          by_cases hn3 : n = 3
          · subst hn3
            have HD : Hid (made ls = (madeTo ls 3, true)) := Lib.hid (by unfold made; rw [if_pos (by unfold madeB; rw [HX0.out, hl.out]; decide), hl.out])
            have hsz : Hid ((Tryd.prog.info? 45).map (·.size) = some (frC (madeTo ls 3)).size) := Lib.hid (refSize _ (madeTo_length _ _))
            have hsz2 : Hid ((frC zeroF).size = (frC (madeTo ls 3)).size) := Lib.hid (by rw [frC_size _ (madeTo_length _ _)]; rfl)
            go_wp2_with (first
              | (go_at_call 78; refine (in_any _ _ _ _).mono ?_; rintro e w9 ⟨rfl, rfl⟩)
              | (refine wpList_load_row rfl 45 (.tmp 4) rfl g4 rfl 45 (frC (madeTo ls 3)) (0, 0) _ ka Tryd.underlying45 rfl hsz.out ?_)
              | (refine wpList_store_row rfl 45 (.tmp 2) _ rfl g2 (frC (madeTo ls 3)) rfl rfl 45 _ kb hsz.out hsz2.out (frC_one _) ?_))
            exact bodyPost_ret (ret_cell_tmp rfl _ _ _ _ (frC (madeTo ls 3)) _ rfl (kb.setRow _) Tryd.underlying45 rfl hsz.out) rfl ⟨by rw [HD.out]; rfl, HG.out ▸ below_setRow hbr (Nat.le_refl _) _⟩
          · have tn : ((n : Int) == 3) = false := by simp; omega
            have HD : Hid (made ls = (zeroF, false)) := Lib.hid (by unfold made; rw [if_neg]; unfold madeB; rw [HX0.out, hl.out]; simp [idx]; try omega)
            go_wp2_with (first
              | (go_at_call 78; refine (in_any _ _ _ _).mono ?_; rintro e w9 ⟨rfl, rfl⟩)
              | (refine wpList_store_row rfl 45 (.tmp 2) _ rfl g2 (frC zeroF) rfl rfl 45 _ kb (refSize _ rfl) rfl (frC_one _) ?_))
            exact bodyPost_ret (ret_cell_tmp rfl _ _ _ _ (frC zeroF) _ rfl (kb.setRow _) Tryd.underlying45 rfl (refSize _ rfl)) rfl ⟨by rw [HD.out]; rfl, HG.out ▸ below_setRow hbr (Nat.le_refl _) _⟩
        · have t4 : (x0 == 4) = false := by simpa using hk4
          by_cases hk5 : x0 = 5
          · subst hk5
            clear hk2
            by_cases hn20 : n = 20
            · subst hn20
              obtain ⟨x3, hx3⟩ := some_at ls 3 (by rw [hl.out]; omega)
              have c3 : wc.cell? ⟨bb, oo + 3, none⟩ = some (I x3) := by obtain ⟨_, _, e, _, h⟩ := HRr.out.at_ hx3; cases e; exact h
              have hbb : bb ≠ g4 := by obtain ⟨_, _, e, h9, _⟩ := HRr.out.at_ hx3; cases e; omega
              have HE : Hid (madeTo ls 4 = (madeTo ls 3).set 6 x3) := Lib.hid (by rw [madeTo, HX0.out, getD_int hx3]; rfl)
              obtain ⟨y6, hy6⟩ := some_at (madeTo ls 3) 6 (by rw [madeTo_length]; decide)
              have z6 := ka.cellv 6 _ (frC_get _ 6 y6 hy6)
              have zf6 := ka.free 6
              clear hx3 hy6
              have HD : Hid (made ls = (madeTo ls 20, true)) := Lib.hid (by unfold made; rw [if_pos (by unfold madeB; rw [HX0.out, hl.out]; decide), hl.out])
              have hsz : Hid ((Tryd.prog.info? 45).map (·.size) = some (frC (madeTo ls 20)).size) := Lib.hid (refSize _ (madeTo_length _ _))
              have hsz2 : Hid ((frC zeroF).size = (frC (madeTo ls 20)).size) := Lib.hid (by rw [frC_size _ (madeTo_length _ _)]; rfl)
              have h := ka.set 6 (I x3)
              rw [frC_set, ← HE.out] at h
              have k5 := h
              have kb5 := kb.far (p := ⟨g4, 6, none⟩) hne (I x3)
              have hb5 := hbr.setCell (p := ⟨g4, 6, none⟩) hle (I x3)
              have HR5 : Hid (Reads (wc.setCell ⟨g4, 6, none⟩ (I x3)) g2 (some ⟨bb, oo, none⟩) (ints ls)) := Lib.hid (HRr.out.setCell hle _)
              have HJ : Hid (∀ j, j < 8 → ∀ x y, ls[4 + 2 * j]? = some x → ls[5 + 2 * j]? = some y → madeTo ls (4 + 2 * (j + 1)) = ((madeTo ls (4 + 2 * j)).set (7 + j) x).set (15 + j) y) := Lib.hid (by
                intro j hj x y hx hy
                have e1 : (idx 5).getD (4 + 2 * j) 0 = 7 + j ∧ (idx 5).getD (5 + 2 * j) 0 = 15 + j := by
                  have : j = 0 ∨ j = 1 ∨ j = 2 ∨ j = 3 ∨ j = 4 ∨ j = 5 ∨ j = 6 ∨ j = 7 := by omega
                  rcases this with rfl | rfl | rfl | rfl | rfl | rfl | rfl | rfl <;> exact ⟨rfl, rfl⟩
                rw [show 4 + 2 * (j + 1) = (4 + 2 * j) + 1 + 1 by omega, madeTo, madeTo, HX0.out, show 4 + 2 * j + 1 = 5 + 2 * j by omega, e1.1, e1.2, getD_int hx, getD_int hy])
              clear h
              obtain ⟨M, hM0, hMs, hM8, hMl⟩ : ∃ M : Nat → List Int, M 0 = madeTo ls 4 ∧ (∀ j, j < 8 → ∀ x y, ls[4 + 2 * j]? = some x → ls[5 + 2 * j]? = some y → M (j + 1) = ((M j).set (7 + j) x).set (15 + j) y) ∧ M 8 = madeTo ls 20 ∧ ∀ j, (M j).length = 23 := ⟨fun j => madeTo ls (4 + 2 * j), rfl, HJ.out, rfl, fun j => madeTo_length _ _⟩
              have HMs := Lib.hid hMs
              have HM8 := Lib.hid hM8
              have HMl := Lib.hid hMl
              rw [← hM0] at k5
              clear hM0 hMs hM8 hMl HJ
              generalize madeTo ls 20 = mf at *
              go_wp2_with (go_at_call 78; refine (in_any _ _ _ _).mono ?_; rintro e w9 ⟨rfl, rfl⟩)
              clear ka kb hbr HRr z6 zf6 HE c3 a0
              generalize wc.setCell ⟨g4, 6, none⟩ (I x3) = wd at *
              go_loopw [82] (fun i wr => ∃ j : Nat, j ≤ 8 ∧ i = I j ∧ Has wr g4 45 (frC (M j)) ∧ Has wr g2 45 (frC zeroF) ∧ Hid (Reads wr g2 (some ⟨bb, oo, none⟩) (ints ls)) ∧ Below g2 w wr) (fun i _ => 8 - (intOf i).toNat)
              case atStart => exact ⟨0, by omega, rfl, k5, kb5, HR5, hb5⟩
              case round =>
                clear k5 kb5 HR5 hb5
                obtain ⟨j, hj, rfl, ka, kb, HR, hbr⟩ := hrel
                by_cases hlt : j < 8
                · obtain ⟨x, hx⟩ := some_at ls (4 + 2 * j) (by rw [hl.out]; omega)
                  obtain ⟨y, hy⟩ := some_at ls (5 + 2 * j) (by rw [hl.out]; omega)
                  have c4 : wr.cell? ⟨bb, oo + (4 + 2 * j), none⟩ = some (I x) := by obtain ⟨_, _, e, _, h⟩ := HR.out.at_ hx; cases e; exact h
                  have c5 : wr.cell? ⟨bb, oo + (5 + 2 * j), none⟩ = some (I y) := by obtain ⟨_, _, e, _, h⟩ := HR.out.at_ hy; cases e; exact h
                  have HS := Lib.hid (HMs.out j hlt x y hx hy)
                  obtain ⟨u, hu⟩ := some_at (M j) (7 + j) (by rw [HMl.out]; omega)
                  obtain ⟨v, hv⟩ := some_at (M j) (15 + j) (by rw [HMl.out]; omega)
                  have z7 := ka.cellv (7 + j) _ (frC_get _ _ u hu)
                  have z15 := ka.cellv (15 + j) _ (frC_get _ _ v hv)
                  have zf7 := ka.free (7 + j)
                  have zf15 := ka.free (15 + j)
                  clear hx hy hu hv
                  go_wp2_with fail
                  go_region
                  all_goals
                    go_wp2_with fail
                    go_roundw
                    case rel =>
                      have h := (ka.set (7 + j) (I x)).set (15 + j) (I y)
                      rw [frC_set, frC_set, ← HS.out] at h
                      first
                        | exact ⟨j + 1, by omega, by go_num, h.drew, ((kb.far (p := ⟨g4, 7 + j, none⟩) hne (I x)).far (p := ⟨g4, 15 + j, none⟩) hne (I y)).drew, Lib.hid ((HR.out.setCell (p := ⟨g4, 7 + j, none⟩) hle (I x)).setCell (p := ⟨g4, 15 + j, none⟩) hle (I y)), ((hbr.setCell (p := ⟨g4, 7 + j, none⟩) hle (I x)).setCell (p := ⟨g4, 15 + j, none⟩) hle (I y)).drew⟩
                        | (have h2 := (ka.set (15 + j) (I y)).set (7 + j) (I x)
                           rw [frC_set, frC_set, List.set_comm _ _ (by omega), ← HS.out] at h2
                           exact ⟨j + 1, by omega, by go_num, h2.drew, ((kb.far (p := ⟨g4, 15 + j, none⟩) hne (I y)).far (p := ⟨g4, 7 + j, none⟩) hne (I x)).drew, Lib.hid ((HR.out.setCell (p := ⟨g4, 15 + j, none⟩) hle (I y)).setCell (p := ⟨g4, 7 + j, none⟩) hle (I x)), ((hbr.setCell (p := ⟨g4, 15 + j, none⟩) hle (I y)).setCell (p := ⟨g4, 7 + j, none⟩) hle (I x)).drew⟩)
                    case measure => simp [intOf]; omega
                · have hj8 : j = 8 := by omega
                  rw [hj8, HM8.out] at ka
                  clear hj8 HM8 HMs HMl
                  go_wp2_with (first
                    | (go_at_call 78; refine (in_any _ _ _ _).mono ?_; rintro e w9 ⟨rfl, rfl⟩)
                    | (refine wpList_load_row rfl 45 (.tmp 4) rfl g4 rfl 45 (frC (mf)) (0, 0) _ ka Tryd.underlying45 rfl hsz.out ?_)
                    | (refine wpList_store_row rfl 45 (.tmp 2) _ rfl g2 (frC (mf)) rfl rfl 45 _ kb hsz.out hsz2.out (frC_one _) ?_))
                  exact bodyPost_ret (ret_cell_tmp rfl _ _ _ _ (frC (mf)) _ rfl (kb.setRow _) Tryd.underlying45 rfl hsz.out) rfl ⟨by rw [HD.out]; rfl, HG.out ▸ below_setRow hbr (Nat.le_refl _) _⟩

            · have tn : ((n : Int) == 20) = false := by simp; omega
              have HD : Hid (made ls = (zeroF, false)) := Lib.hid (by unfold made; rw [if_neg]; unfold madeB; rw [HX0.out, hl.out]; simp [idx]; try omega)
              go_wp2_with (first
                | (go_at_call 78; refine (in_any _ _ _ _).mono ?_; rintro e w9 ⟨rfl, rfl⟩)
                | (refine wpList_store_row rfl 45 (.tmp 2) _ rfl g2 (frC zeroF) rfl rfl 45 _ kb (refSize _ rfl) rfl (frC_one _) ?_))
              exact bodyPost_ret (ret_cell_tmp rfl _ _ _ _ (frC zeroF) _ rfl (kb.setRow _) Tryd.underlying45 rfl (refSize _ rfl)) rfl ⟨by rw [HD.out]; rfl, HG.out ▸ below_setRow hbr (Nat.le_refl _) _⟩
          · have t5 : (x0 == 5) = false := by simpa using hk5
            have hout : ¬ (1 ≤ x0 ∧ x0 ≤ 5) := by unfold inR at hk2'; simp at hk2'; omega
            have HD : Hid (made ls = (zeroF, false)) := Lib.hid (by unfold made; rw [if_neg]; unfold madeB; rw [HX0.out, hl.out]; simp; omega)
            go_wp2_with (first
              | (go_at_call 78; refine (in_any _ _ _ _).mono ?_; rintro e w9 ⟨rfl, rfl⟩)
              | (refine wpList_store_row rfl 45 (.tmp 2) _ rfl g2 (frC zeroF) rfl rfl 45 _ kb (refSize _ rfl) rfl (frC_one _) ?_))
            exact bodyPost_ret (ret_cell_tmp rfl _ _ _ _ (frC zeroF) _ rfl (kb.setRow _) Tryd.underlying45 rfl (refSize _ rfl)) rfl ⟨by rw [HD.out]; rfl, HG.out ▸ below_setRow hbr (Nat.le_refl _) _⟩
end Go.Proofs.YtdhekhlmdefcnaaDoor
/- The walk over the reference's May. -/
namespace Go.Proofs.YtdhekhlmdefcnaaDoor
open Go.RowKit
theorem numsL_get (f : List Int) (j : Nat) : (numsL f)[j]? = ((idx (f.getD 0 0))[j]?).map fun i => f.getD i 0 := by simp [numsL]
theorem numsL_length (f : List Int) : (numsL f).length = (idx (f.getD 0 0)).length := by simp [numsL]
theorem idx_zero_m (k : Int) : (idx k)[0]? = some 0 := by
  rcases idx_cases k with ⟨_, e⟩ | ⟨_, e⟩ | ⟨_, e⟩ | ⟨_, e⟩ | ⟨_, _, _, _, e⟩ <;> rw [e] <;> rfl
theorem idx_three_m (k : Int) : 3 ≤ (idx k).length := by
  rcases idx_cases k with ⟨_, e⟩ | ⟨_, e⟩ | ⟨_, e⟩ | ⟨_, e⟩ | ⟨_, _, _, _, e⟩ <;> rw [e] <;> decide
theorem numsL_kind (f : List Int) : (numsL f).getD 0 0 = f.getD 0 0 := by
  refine getD_int (x := f.getD 0 0) ?_
  rw [numsL_get, idx_zero_m]; rfl
theorem madeTo_nums (f : List Int) : ∀ n, n ≤ (idx (f.getD 0 0)).length → 1 ≤ n → madeTo (numsL f) n = cpTo f n
  | 0, _, h => absurd h (by decide)
  | 1, h, _ => by
    have h0 := idx_zero_m (f.getD 0 0)
    rw [cpTo_succ f 0 0 h0, madeTo, madeTo, numsL_kind]
    rw [show (idx (f.getD 0 0)).getD 0 0 = 0 by rw [List.getD_eq_getElem?_getD, h0]; rfl]
    unfold cpTo
    simp [zeroF, List.replicate]
  | n + 2, h, _ => by
    obtain ⟨i, hi⟩ := some_at (idx (f.getD 0 0)) (n + 1) (by omega)
    rw [cpTo_succ f (n + 1) i hi, madeTo, madeTo_nums f (n + 1) (by omega) (by omega), numsL_kind]
    rw [show (idx (f.getD 0 0)).getD (n + 1) 0 = i by rw [List.getD_eq_getElem?_getD, hi]; rfl]
    rw [show (numsL f).getD (n + 1) 0 = f.getD i 0 from getD_int (by rw [numsL_get, hi]; rfl)]
theorem made_nums (f : List Int) (h : 1 ≤ f.getD 0 0) (h5 : f.getD 0 0 ≤ 5) : made (numsL f) = (cpTo f (idx (f.getD 0 0)).length, true) := by
  have h3 := idx_three_m (f.getD 0 0)
  unfold made
  rw [if_pos, numsL_length, madeTo_nums f _ (Nat.le_refl _) (by omega)]
  unfold madeB
  rw [numsL_length, numsL_kind]
  simp only [Bool.and_eq_true, decide_eq_true_eq]
  exact ⟨⟨h3, h, h5⟩, trivial⟩
theorem made_ok (A : Option Addr) (n c : Nat) (ls : List Int) (w : World) (hl : ls.length = n) (hn : n ≤ 1000) (hr : Reads w w.heap.size A (ints ls)) :
    Calls Tryd.prog 79 #[.slice A n c] w fun e w' => e = .returned (.tuple #[.agg (frC (made ls).1), .bool (made ls).2]) ∧ Below w.heap.size w w' := by
  by_cases h3 : 3 ≤ n
  · obtain ⟨x0, hx0⟩ := some_at ls 0 (by omega)
    obtain ⟨b, o, rfl, -, -⟩ := hr.at_ hx0
    exact made_in b o n c ls w (Lib.hid hl) h3 hn hr
  · have : made ls = (zeroF, false) := by unfold made; rw [if_neg]; unfold madeB; simp; omega
    rw [this]
    exact made_small A n c w (by omega)
theorem inR_inB (x : Int) : inR x 0 1048576 = inB x := rfl
set_option maxHeartbeats 4000000 in
set_option maxRecDepth 100000 in
theorem refMay_ok (f : List Int) (hf : Wf f) (w : World) :
    Calls Tryd.prog 63 #[.agg (frC f)] w fun e w' => e = .returned (.bool (mayB f)) ∧ Below w.heap.size w w' := by
  obtain ⟨x0, hx0⟩ := some_at f 0 (by rw [hf.1]; decide)
  obtain ⟨x1, hx1⟩ := some_at f 1 (by rw [hf.1]; decide)
  have HX0 : Hid (f.getD 0 0 = x0) := Lib.hid (getD_int hx0)
  have HX1 : Hid (f.getD 1 0 = x1) := Lib.hid (getD_int hx1)
  have HF := Lib.hid hf
  have k0 := Has.new w 45 (frC f)
  have hb : Below w.heap.size w (w.alloc (.cells (frC f) 45)) := (Below.refl _ _).alloc (Nat.le_refl _) _
  have c0 := k0.cellv 0 _ (frC_get f 0 x0 hx0)
  have c1 := k0.cellv 1 _ (frC_get f 1 x1 hx1)
  have hsz : Hid ((Tryd.prog.info? 45).map (·.size) = some (frC f).size) := Lib.hid (refSize _ hf.1)
  clear hx0 hx1 hf
  go_enter Tryd.func63, Tryd.ntmps63
  go_upto_region 1 with (fail)
  generalize w.alloc (.cells (frC f) 45) = w1 at *
  generalize hG : w.heap.size = g0 at *
  have HG := Lib.hid hG
  clear hG
  by_cases hk : inR x0 1 5 = true
  · by_cases hfr : inR x1 0 3 = true
    · have HH : Hid (headB f = true) := Lib.hid (by unfold headB; rw [HX0.out, HX1.out]; unfold inR at hk hfr; simp at hk hfr ⊢; omega)
      have HK : Hid (1 ≤ f.getD 0 0 ∧ f.getD 0 0 ≤ 5) := Lib.hid (by rw [HX0.out]; unfold inR at hk; simp at hk; omega)
      go_upto_region 3 with (go_at_call 78; refine (in_any _ _ _ _).mono ?_; rintro e w9 ⟨rfl, rfl⟩)
      obtain ⟨n, hn⟩ : ∃ n, (idx (f.getD 0 0)).length = n := ⟨_, rfl⟩
      have hn20 : n ≤ 20 := hn ▸ idx_len _
      have HN := Lib.hid hn
      clear hn
      go_upto_region 4 with (first
        | (refine wpList_load_row rfl 45 (.tmp 1) rfl g0 rfl 45 (frC f) (0, 0) _ k0 Tryd.underlying45 rfl hsz.out ?_)
        | (go_at_call 73; refine (list_ok f _ HF.out).mono ?_; rintro e w9 ⟨⟨A, c, rfl, hown⟩, hb9⟩; rw [HN.out] at hown ⊢))
      have ka := k0.after hb9
      have hbr := hb.trans (hb9.mono (Nat.le_of_lt k0.lt))
      obtain ⟨A', c', ev, -, hll, hR⟩ := own_reads hown
      cases ev
      have HL : Hid ((numsL f).length = n) := Lib.hid (by simpa [ints] using hll)
      have HMD : Hid (made (numsL f) = (cpTo f n, true)) := Lib.hid (by rw [made_nums f HK.out.1 HK.out.2, HN.out])
      have HNG : Hid (∀ j, (numsL f)[j]? = ((idx (f.getD 0 0))[j]?).map fun i => f.getD i 0) := Lib.hid (numsL_get f)
      clear hown hb9 k0 hb c0 c1 hll hk hfr
      generalize numsL f = ls at *
      go_wp2_with fail
      go_loopw [22] (fun i wr => wr = w9 ∧ ∃ j : Nat, j ≤ n ∧ i = I j ∧ Hid (∀ q, q < j → ∀ x, ls[q]? = some x → inB x = true)) (fun i _ => n - (intOf i).toNat)
      case atStart => exact ⟨rfl, 0, by omega, rfl, Lib.hid (fun q h => absurd h (by omega))⟩
      case round =>
        obtain ⟨rfl, j, hj, rfl, HQ⟩ := hrel
        by_cases hlt : j < n
        · obtain ⟨x, hx⟩ := some_at ls j (by rw [HL.out]; exact hlt)
          obtain ⟨b, o, rfl, hb, hcell⟩ := hR.at_ hx
          have HX := Lib.hid hx
          clear hx
          by_cases hin : inR x 0 1048576 = true
          · go_wp2_with (go_at_call 78; refine (in_any _ _ _ _).mono ?_; rintro e w9 ⟨rfl, rfl⟩)
            go_roundw
            case rel =>
              refine ⟨trivial, j + 1, by omega, by go_num, Lib.hid (fun q hq y hy => ?_)⟩
              rcases Nat.lt_or_ge q j with h | h
              · exact HQ.out q h y hy
              · have : q = j := by omega
                subst this
                rw [HX.out] at hy
                cases hy
                exact hin
            case measure => simp [intOf]; omega
          · have hin' : inR x 0 1048576 = false := by simpa using hin
            have HM : Hid (mayB f = false) := Lib.hid (by
              have h0 := HNG.out j
              rw [HX.out] at h0
              obtain ⟨i, hi, e⟩ := Option.map_eq_some_iff.1 h0.symm
              have h1 : (idx (f.getD 0 0)).all (fun i => inB (f.getD i 0)) = false := by
                rw [List.all_eq_false]
                refine ⟨i, List.mem_of_getElem? hi, ?_⟩
                rw [e, ← inR_inB, hin']; decide
              unfold mayB
              rw [h1, Bool.and_false, Bool.false_and])
            clear hin
            go_wp2_with (go_at_call 78; refine (in_any _ _ _ _).mono ?_; rintro e w9 ⟨rfl, rfl⟩)
            go_ret
            exact ⟨by rw [HM.out]; rfl, HG.out ▸ hbr⟩
        · have hjn : j = n := by omega
          subst hjn
          have HM : Hid (mayB f = decide (f = cpTo f j)) := Lib.hid (by
            have h1 : (idx (f.getD 0 0)).all (fun i => inB (f.getD i 0)) = true := by
              rw [List.all_eq_true]
              intro i hi
              obtain ⟨q, hq, rfl⟩ := List.getElem_of_mem hi
              have h0 := HNG.out q
              rw [List.getElem?_eq_getElem hq] at h0
              exact HQ.out q (by rw [HN.out] at hq; exact hq) _ h0
            unfold mayB
            rw [h1, HH.out, HN.out]
            rfl)
          have HWc : Hid (Wf (cpTo f j)) := Lib.hid (cpTo_wf HF.out j)
          have HD : Hid (decide (f = cpTo f j) = true ↔ frC (cpTo f j) = frC f) := Lib.hid (by rw [decide_eq_true_eq, frC_inj]; exact eq_comm)
          have hs2 : Hid ((Tryd.prog.info? 45).map (·.size) = some (frC (cpTo f j)).size) := Lib.hid (refSize _ (cpTo_length _ _))
          have hs3 : Hid ((frC zeroF).size = (frC (cpTo f j)).size) := Lib.hid (by rw [frC_size _ (cpTo_length _ _)]; rfl)
          clear HQ
          generalize cpTo f j = cf at *
          generalize hX : decide (f = cf) = dd at *
          clear hX
          go_upto_region 11 with (first
            | (go_at_call 79; refine (made_ok A j c ls _ HL.out (by omega) hR).mono ?_; rintro e w8 ⟨rfl, hb8⟩; rw [HMD.out]
               have k8 : Has (w8.alloc (.cells #[I 0, I 0, I 0, I 0, I 0, I 0, I 0, I 0, I 0, I 0, I 0, I 0, I 0, I 0, I 0, I 0, I 0, I 0, I 0, I 0, I 0, I 0, I 0] 45)) w8.heap.size 45 (frC zeroF) := by rw [zeroFrame]; exact Has.new _ _ _)
            | (refine wpList_store_row rfl 45 (.tmp 6) _ rfl w8.heap.size (frC cf) rfl rfl 45 _ k8 hs2.out hs3.out (frC_one _) ?_))
          have kf := (ka.after hb8).alloc (.cells #[I 0, I 0, I 0, I 0, I 0, I 0, I 0, I 0, I 0, I 0, I 0, I 0, I 0, I 0, I 0, I 0, I 0, I 0, I 0, I 0, I 0, I 0, I 0] 45)
          have hg8 : g0 < w8.heap.size := (ka.after hb8).lt
          have hbz := below_setRow ((hbr.trans (hb8.mono (Nat.le_of_lt ka.lt))).alloc (Nat.le_of_lt hg8) (.cells #[I 0, I 0, I 0, I 0, I 0, I 0, I 0, I 0, I 0, I 0, I 0, I 0, I 0, I 0, I 0, I 0, I 0, I 0, I 0, I 0, I 0, I 0, I 0] 45)) (Nat.le_of_lt hg8) (frC cf)
          have k6 := k8.setRow (frC cf)
          have kf2 := kf.farRow (Nat.ne_of_lt hg8) (frC cf)
          clear k8 kf ka hbr hb8 hR
          generalize (w8.alloc (.cells #[I 0, I 0, I 0, I 0, I 0, I 0, I 0, I 0, I 0, I 0, I 0, I 0, I 0, I 0, I 0, I 0, I 0, I 0, I 0, I 0, I 0, I 0, I 0] 45)).setRow w8.heap.size (frC cf) = wz at *
          generalize w8.heap.size = g8 at *
          go_wp2_with (first
            | (refine wpList_taken rfl (fun K hK => wp_load_row 45 (.tmp 6) rfl g8 rfl 45 (frC cf) (0, 0) _ k6 Tryd.underlying45 rfl hs2.out (hK _ _ ?_)))
            | (refine wpList_taken rfl (fun K hK => wp_load_row 45 (.tmp 1) rfl g0 rfl 45 (frC f) (0, 0) _ kf2 Tryd.underlying45 rfl hsz.out (hK _ _ ?_)))
            | (refine wpList_taken rfl (fun K hK => wp_eql_row 45 45 5 (frC cf) (frC f) (List.replicate 23 (some .i64)) (.tmp 37) (.tmp 38) rfl rfl rfl (by decide) (by kernel_rfl) sigRef (by kernel_rfl) (by kernel_rfl) (by kernel_rfl) (fit_frame HWc.out) (fit_frame HF.out) _ HD.out (hK _ _ ?_))))
          go_ret
          exact ⟨by rw [HM.out]; rfl, HG.out ▸ hbz⟩
    · have hfr' : inR x1 0 3 = false := by simpa using hfr
      have HM : Hid (mayB f = false) := Lib.hid (by
        have : headB f = false := by unfold headB; rw [HX0.out, HX1.out]; unfold inR at hfr'; simp at hfr' ⊢; omega
        unfold mayB; rw [this]; rfl)
      clear hfr
      go_wp2_with (go_at_call 78; refine (in_any _ _ _ _).mono ?_; rintro e w9 ⟨rfl, rfl⟩)
      go_ret
      exact ⟨by rw [HM.out]; rfl, HG.out ▸ hb⟩
  · have hk' : inR x0 1 5 = false := by simpa using hk
    have HM : Hid (mayB f = false) := Lib.hid (by
      have : headB f = false := by unfold headB; rw [HX0.out, HX1.out]; unfold inR at hk'; simp at hk' ⊢; omega
      unfold mayB; rw [this]; rfl)
    clear hk
    go_wp2_with (go_at_call 78; refine (in_any _ _ _ _).mono ?_; rintro e w9 ⟨rfl, rfl⟩)
    go_ret
    exact ⟨by rw [HM.out]; rfl, HG.out ▸ hb⟩
end Go.Proofs.YtdhekhlmdefcnaaDoor
