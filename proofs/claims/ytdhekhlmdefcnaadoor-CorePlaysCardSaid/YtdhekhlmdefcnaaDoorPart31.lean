/- Part 31 of the proof: RcLoad, RcLoadW. -/
import Derived.Test.YtdhekhlmdefcnaaDoorPart25
import Derived.Test.YtdhekhlmdefcnaaDoorPart28
import Derived.Test.YtdhekhlmdefcnaaDoorPart9
/- The reference's Load. -/
namespace Go.Proofs.YtdhekhlmdefcnaaDoor
open Go.RowKit
theorem conf_none {L : Lay} (hL : L.Ok) {set m : Nat} (hm : m < L.routes.length) : decide (set &&& conf L.routes m = 0) = noneTo L.secs L.routes set m L.routes.length := by
  rw [Bool.eq_iff_iff, decide_eq_true_eq, noneTo_iff, and_zero_iff]
  constructor
  · intro h j hj hb hne
    have h1 := h j hb
    unfold conf at h1
    rw [confTo_bit] at h1
    have h2 : rt L.routes m &&& rt L.routes j = 0 := by simpa [hj, hne] using h1
    exact (meet_and (rt_small hL hm).2).2 h2
  · intro h j hb
    unfold conf
    rw [confTo_bit]
    by_cases hj : j < L.routes.length
    · by_cases hne : j = m
      · simp [hne]
      · have h2 := (meet_and (rt_small hL hm).2).1 (h j hj hb hne)
        simp [h2]
    · simp [hj]
theorem noneTo_no {S : Nat} {rs : List Nat} {set m j n : Nat} (hj : j < n) (h1 : set.testBit j = true) (h2 : j ≠ m) (h3 : meetB S (rt rs m) (rt rs j) = true) : noneTo S rs set m n = false := by
  cases h : noneTo S rs set m n with
  | false => rfl
  | true => rw [(noneTo_iff S rs set m n).1 h j hj h1 h2] at h3; cases h3
theorem nb_zero_le {u r : Nat} (h : nb u r = 0) : u ≤ r := by
  have : u &&& r = u := by
    apply Nat.eq_of_testBit_eq
    intro i
    have := congrArg (fun x => x.testBit i) h
    simp only [testBit_nb, Nat.zero_testBit] at this
    rw [Nat.testBit_and]
    cases hu : u.testBit i <;> cases hr : r.testBit i <;> simp_all
  rw [← this]
  exact Nat.and_le_right
section
variable {w w' w1 : World} {B : Nat} {x x' : RcX} {A : Option Addr} {c : Nat} {L : Lay} {s s' : St}
/-- what a core is known by -/
theorem RcAt.congr (h : RcAt w B x A c L s) (he : ∀ i, i < L.routes.length → s'.set.testBit i = s.set.testBit i ∧ s'.used.getD i 0 = s.used.getD i 0 ∧ s'.idle.getD i 0 = s.idle.getD i 0) : RcAt w B x A c L s' := by
  obtain ⟨cs, hh, hsz, hc⟩ := h.rows
  refine ⟨h.has, h.lay, ⟨cs, hh, hsz, fun i hi => ?_⟩, fun i hi => ?_, h.inj, h.lowg, h.lowr, h.lowm, h.capn, h.base⟩
  · obtain ⟨a, b, d⟩ := hc i hi
    obtain ⟨e1, _, e3⟩ := he i hi
    exact ⟨by rw [e1]; exact a, b, by rw [e3]; exact d⟩
  · rw [(he i hi).2.1]; exact h.maps i hi
/-- a route is made anew -/
theorem RcAt.place (h : RcAt w B x A c L s) {i m : Nat} (hi : i < L.routes.length) (b0 : Bool) (u d : Nat) (hm : IMap Tryd.prog 3 w m 12 (usedM u)) (hne : ∀ j, j < L.routes.length → x.mb j ≠ m) (hlow : B ≤ m)
    (h0 : s'.set.testBit i = b0 ∧ s'.used.getD i 0 = u ∧ s'.idle.getD i 0 = d) (h1 : ∀ j, j < L.routes.length → j ≠ i → s'.set.testBit j = s.set.testBit j ∧ s'.used.getD j 0 = s.used.getD j 0 ∧ s'.idle.getD j 0 = s.idle.getD j 0) :
    RcAt (((w.setCell ⟨x.rb, i * 3, none⟩ (.bool b0)).setCell ⟨x.rb, i * 3 + 1, none⟩ (.map (some m))).setCell ⟨x.rb, i * 3 + 2, none⟩ (I (d : Nat))) B (x.renew i m) A c L s' := by
  obtain ⟨cs, hh, hsz, hc⟩ := h.rows
  have hgr : x.g ≠ x.rb := fun e => h.gNotF (.inl e)
  have hmr : m ≠ x.rb := imapC_ne hm hh
  have far : ∀ b, b ≠ x.rb → (((w.setCell ⟨x.rb, i * 3, none⟩ (.bool b0)).setCell ⟨x.rb, i * 3 + 1, none⟩ (.map (some m))).setCell ⟨x.rb, i * 3 + 2, none⟩ (I (d : Nat))).heap[b]? = w.heap[b]? := fun b hb => ((Below.heap_setCell _ _ _ _ hb).trans (Below.heap_setCell _ _ _ _ hb)).trans (Below.heap_setCell _ _ _ _ hb)
  refine ⟨(far _ hgr).trans h.has, h.lay.below ((((Below.refl _ _).setCell (p := ⟨x.rb, i * 3, none⟩) h.lowr _).setCell (p := ⟨x.rb, i * 3 + 1, none⟩) h.lowr _).setCell (p := ⟨x.rb, i * 3 + 2, none⟩) h.lowr _), ⟨_, ((hh.set (i * 3) (.bool b0)).set (i * 3 + 1) (.map (some m))).set (i * 3 + 2) (I (d : Nat)), by simpa using hsz, fun j hj => ?_⟩, fun j hj => ?_, fun j k hj hk e => ?_, h.lowg, h.lowr, fun j hj => ?_, h.capn, by simpa using h.base⟩
  · obtain ⟨a, b, d'⟩ := hc j hj
    unfold rcCells
    by_cases e : j = i
    · subst e
      refine ⟨?_, ?_, ?_⟩
      · rw [Array.getElem?_setIfInBounds_ne (by omega), Array.getElem?_setIfInBounds_ne (by omega), getI_same (by omega), h0.1]
      · rw [Array.getElem?_setIfInBounds_ne (by omega), getI_same (by simp; omega)]
        simp [RcX.renew]
      · rw [getI_same (by simp; omega), h0.2.2]
    · obtain ⟨e1, _, e3⟩ := h1 j hj e
      refine ⟨?_, ?_, ?_⟩
      · rw [Array.getElem?_setIfInBounds_ne (by omega), Array.getElem?_setIfInBounds_ne (by omega), Array.getElem?_setIfInBounds_ne (by omega), a, e1]
      · rw [Array.getElem?_setIfInBounds_ne (by omega), Array.getElem?_setIfInBounds_ne (by omega), Array.getElem?_setIfInBounds_ne (by omega), b]
        simp [RcX.renew, e]
      · rw [Array.getElem?_setIfInBounds_ne (by omega), Array.getElem?_setIfInBounds_ne (by omega), Array.getElem?_setIfInBounds_ne (by omega), d', e3]
  · by_cases e : j = i
    · subst e
      show IMap _ _ _ (if j = j then m else x.mb j) 12 _
      rw [if_pos rfl, h0.2.1]
      exact hm.at_heap (far _ hmr)
    · show IMap _ _ _ (if j = i then m else x.mb j) 12 _
      rw [if_neg e, (h1 j hj e).2.1]
      exact (h.maps j hj).at_heap (far _ (imapC_ne (h.maps j hj) hh))
  · have e2 : (if j = i then m else x.mb j) = (if k = i then m else x.mb k) := e
    by_cases e3 : j = i
    · by_cases e4 : k = i
      · rw [e3, e4]
      · rw [if_pos e3, if_neg e4] at e2
        exact absurd e2.symm (hne k hk)
    · by_cases e4 : k = i
      · rw [if_neg e3, if_pos e4] at e2
        exact absurd e2 (hne j hj)
      · rw [if_neg e3, if_neg e4] at e2
        exact h.inj j k hj hk e2
  · show B ≤ (if j = i then m else x.mb j)
    split
    · exact hlow
    · exact h.lowm j hj
end
/-- what is loaded so far -/
def loadOne (L : Lay) (l : List Int) (t : St) (i : Nat) : St :=
  if i < L.routes.length then
    if (l.getD 0 0).toNat.testBit i then ⟨t.set ||| 1 <<< i, t.used.set i (l.getD (1 + i) 0).toNat, t.idle.set i (l.getD (9 + i) 0).toNat⟩
    else ⟨nb t.set (1 <<< i), t.used.set i 0, t.idle.set i 0⟩
  else t
def loadTo (L : Lay) (l : List Int) (s : St) : Nat → St
  | 0 => s
  | i + 1 => loadOne L l (loadTo L l s i) i
theorem loadOne_len (L : Lay) (l : List Int) (t : St) (i : Nat) : (loadOne L l t i).used.length = t.used.length ∧ (loadOne L l t i).idle.length = t.idle.length := by
  unfold loadOne
  split
  · split
    · exact ⟨List.length_set .., List.length_set ..⟩
    · exact ⟨List.length_set .., List.length_set ..⟩
  · exact ⟨rfl, rfl⟩
theorem loadTo_len (L : Lay) (l : List Int) (s : St) : ∀ i, (loadTo L l s i).used.length = s.used.length ∧ (loadTo L l s i).idle.length = s.idle.length
  | 0 => ⟨rfl, rfl⟩
  | i + 1 => by
    obtain ⟨a, b⟩ := loadTo_len L l s i
    obtain ⟨c, d⟩ := loadOne_len L l (loadTo L l s i) i
    exact ⟨c.trans a, d.trans b⟩
theorem getD_set_eq {l : List Nat} {i v : Nat} (h : i < l.length) : (l.set i v).getD i 0 = v := by rw [List.getD_eq_getElem?_getD, List.getElem?_set_self h]; rfl
theorem getD_set_ne' {l : List Nat} {i j v : Nat} (h : i ≠ j) : (l.set i v).getD j 0 = l.getD j 0 := by rw [List.getD_eq_getElem?_getD, List.getElem?_set_ne h, ← List.getD_eq_getElem?_getD]
/-- what is loaded of route i -/
theorem loadOne_at {L : Lay} {l : List Int} {t : St} {i : Nat} (hi : i < L.routes.length) (h1 : i < t.used.length) (h2 : i < t.idle.length) :
    (loadOne L l t i).set.testBit i = (l.getD 0 0).toNat.testBit i ∧ (loadOne L l t i).used.getD i 0 = (if (l.getD 0 0).toNat.testBit i then (l.getD (1 + i) 0).toNat else 0) ∧ (loadOne L l t i).idle.getD i 0 = (if (l.getD 0 0).toNat.testBit i then (l.getD (9 + i) 0).toNat else 0) := by
  unfold loadOne
  rw [if_pos hi]
  cases hb : (l.getD 0 0).toNat.testBit i with
  | true =>
    rw [if_pos rfl]
    refine ⟨?_, getD_set_eq h1, getD_set_eq h2⟩
    show (t.set ||| 1 <<< i).testBit i = true
    rw [testBit_or1]; simp
  | false =>
    rw [if_neg (by simp)]
    refine ⟨?_, getD_set_eq h1, getD_set_eq h2⟩
    show (nb t.set (1 <<< i)).testBit i = false
    rw [testBit_nb1]; simp
theorem loadOne_far {L : Lay} {l : List Int} {t : St} {i j : Nat} (h : j ≠ i) :
    (loadOne L l t i).set.testBit j = t.set.testBit j ∧ (loadOne L l t i).used.getD j 0 = t.used.getD j 0 ∧ (loadOne L l t i).idle.getD j 0 = t.idle.getD j 0 := by
  have hd : decide (i = j) = false := by simpa using fun e => h e.symm
  unfold loadOne
  split
  · split
    · refine ⟨?_, getD_set_ne' (Ne.symm h), getD_set_ne' (Ne.symm h)⟩
      show (t.set ||| 1 <<< i).testBit j = _
      rw [testBit_or1, hd, Bool.or_false]
    · refine ⟨?_, getD_set_ne' (Ne.symm h), getD_set_ne' (Ne.symm h)⟩
      show (nb t.set (1 <<< i)).testBit j = _
      rw [testBit_nb1, hd]; simp
  · exact ⟨rfl, rfl, rfl⟩
theorem loadTo_at {L : Lay} {l : List Int} {s : St} {i : Nat} (hi : i < L.routes.length) (h1 : i < s.used.length) (h2 : i < s.idle.length) : ∀ m, i < m →
    (loadTo L l s m).set.testBit i = (l.getD 0 0).toNat.testBit i ∧ (loadTo L l s m).used.getD i 0 = (if (l.getD 0 0).toNat.testBit i then (l.getD (1 + i) 0).toNat else 0) ∧ (loadTo L l s m).idle.getD i 0 = (if (l.getD 0 0).toNat.testBit i then (l.getD (9 + i) 0).toNat else 0)
  | 0, h => by omega
  | m + 1, h => by
    obtain ⟨a, b⟩ := loadTo_len L l s m
    rw [loadTo]
    by_cases e : i = m
    · subst e
      exact loadOne_at hi (by omega) (by omega)
    · obtain ⟨c1, c2, c3⟩ := loadOne_far (L := L) (l := l) (t := loadTo L l s m) (i := m) (j := i) e
      rw [c1, c2, c3]
      exact loadTo_at hi h1 h2 m (by omega)
theorem stNat_parts {l : List Int} (hl : l.length = 17) {i : Nat} (hi : i < 8) : (stNat l).used.getD i 0 = (l.getD (1 + i) 0).toNat ∧ (stNat l).idle.getD i 0 = (l.getD (9 + i) 0).toNat := by
  have key : ∀ k, k + i < 17 → (((l.drop k).take 8).map Int.toNat).getD i 0 = (l.getD (k + i) 0).toNat := fun k hk => by
    rw [List.getD_eq_getElem?_getD, List.getElem?_map, List.getElem?_take, if_pos hi, List.getElem?_drop, List.getD_eq_getElem?_getD, List.getElem?_eq_getElem (by omega)]
    rfl
  exact ⟨key 1 (by omega), key 9 (by omega)⟩
/-- what is loaded in whole is what there was -/
theorem loadTo_all {L : Lay} {l : List Int} {s : St} (hL : L.Ok) (hl : l.length = 17) (h1 : s.used.length = 8) (h2 : s.idle.length = 8) (hr : rightB L l = true) {i : Nat} (hi : i < L.routes.length) :
    (stNat l).set.testBit i = (loadTo L l s 8).set.testBit i ∧ (stNat l).used.getD i 0 = (loadTo L l s 8).used.getD i 0 ∧ (stNat l).idle.getD i 0 = (loadTo L l s 8).idle.getD i 0 := by
  have hn8 := hL.many2
  obtain ⟨a, b, c⟩ := loadTo_at (l := l) (s := s) hi (by omega) (by omega) 8 (by omega)
  obtain ⟨p, q⟩ := stNat_parts hl (i := i) (by omega)
  rw [a, b, c, p, q]
  refine ⟨rfl, ?_⟩
  cases hb : (l.getD 0 0).toNat.testBit i with
  | true => exact ⟨rfl, rfl⟩
  | false =>
    unfold rightB at hr
    simp only [Bool.and_eq_true, List.all_eq_true, decide_eq_true_eq] at hr
    have h3 := hr.2 i (by simp; omega)
    rw [right_at (by omega), if_pos (.inr hb), Bool.and_eq_true, decide_eq_true_eq, decide_eq_true_eq] at h3
    rw [h3.1, h3.2]
    exact ⟨rfl, rfl⟩
/-- a core that is loaded -/
structure LdAt (w0 w : World) (B g0 : Nat) (l : List Int) (x0 x : RcX) (A : Option Addr) (c : Nat) (L : Lay) (s : St) : Prop where
  rc : RcAt w B x A c L s
  k0 : Has w g0 38 (ints l).toArray
  same : x.g = x0.g
  moved : Turned (FC x0 L.routes.length) w0 w
  blocks : ∀ b, FC x L.routes.length b → FC x0 L.routes.length b ∨ w0.heap.size ≤ b
section
variable {w0 w w' : World} {B g0 : Nat} {l : List Int} {x0 x x' : RcX} {A : Option Addr} {c : Nat} {L : Lay} {s s' : St}
theorem LdAt.turn (h : LdAt w0 w B g0 l x0 x A c L s) (ht : Turned (FC x L.routes.length) w w') (hr : RcAt w' B x' A c L s') (hg : x'.g = x.g) (hb : ∀ b, FC x' L.routes.length b → FC x L.routes.length b ∨ w.heap.size ≤ b) : LdAt w0 w' B g0 l x0 x' A c L s' := by
  refine ⟨hr, h.k0.turned ht (h.rc.notF h.k0 (by decide)), hg.trans h.same, h.moved.trans ht (fun k hk hf => ?_), fun b hf => ?_⟩
  · rcases h.blocks k hf with h1 | h1
    · exact h1
    · omega
  · rcases hb b hf with h1 | h1
    · exact h.blocks b h1
    · exact .inr (Nat.le_trans h.moved.size h1)
theorem LdAt.after (h : LdAt w0 w B g0 l x0 x A c L s) (hb : Below w.heap.size w w') : LdAt w0 w' B g0 l x0 x A c L s :=
  h.turn (Turned.of_below hb _) (h.rc.after hb) rfl (fun _ hf => .inl hf)
theorem LdAt.congr (h : LdAt w0 w B g0 l x0 x A c L s) (he : ∀ i, i < L.routes.length → s'.set.testBit i = s.set.testBit i ∧ s'.used.getD i 0 = s.used.getD i 0 ∧ s'.idle.getD i 0 = s.idle.getD i 0) : LdAt w0 w B g0 l x0 x A c L s' :=
  ⟨h.rc.congr he, h.k0, h.same, h.moved, h.blocks⟩
/-- a route is made anew, of a new map -/
theorem LdAt.place (h : LdAt w0 w B g0 l x0 x A c L s) {wm : World} (hbm : Below w.heap.size w wm) {i m : Nat} (hi : i < L.routes.length) (b0 : Bool) (u d : Nat) (hm : IMap Tryd.prog 3 wm m 12 (usedM u)) (hnew : w.heap.size ≤ m)
    (h0 : s'.set.testBit i = b0 ∧ s'.used.getD i 0 = u ∧ s'.idle.getD i 0 = d) (h1 : ∀ j, j < L.routes.length → j ≠ i → s'.set.testBit j = s.set.testBit j ∧ s'.used.getD j 0 = s.used.getD j 0 ∧ s'.idle.getD j 0 = s.idle.getD j 0) :
    LdAt w0 (((wm.setCell ⟨x.rb, i * 3, none⟩ (.bool b0)).setCell ⟨x.rb, i * 3 + 1, none⟩ (.map (some m))).setCell ⟨x.rb, i * 3 + 2, none⟩ (I (d : Nat))) B g0 l x0 (x.renew i m) A c L s' := by
  have hA := h.after hbm
  refine h.turn ((((Turned.of_below hbm _).setCell _ _ (.inl (.inl rfl))).setCell _ _ (.inl (.inl rfl))).setCell _ _ (.inl (.inl rfl))) (hA.rc.place hi b0 u d hm (fun j hj e => ?_) (Nat.le_trans h.rc.base hnew) h0 h1) rfl (fun b hf => ?_)
  · have := (h.rc.maps j hj).lt
    omega
  · rcases hf with rfl | ⟨j, hj, rfl⟩
    · exact .inl (.inl rfl)
    · show FC x _ (if j = i then m else x.mb j) ∨ _ ≤ (if j = i then m else x.mb j)
      split
      · exact .inr hnew
      · exact .inl (.inr ⟨j, hj, rfl⟩)
end
end Go.Proofs.YtdhekhlmdefcnaaDoor
/- The walk over the reference's Load. -/
namespace Go.Proofs.YtdhekhlmdefcnaaDoor
open Go.RowKit
/-- the sections of a state, so far -/
theorem usedM_low (u k : Nat) : u.testBit k = true → ∀ j, upd (usedM (u % 2 ^ k)) k (some (.bool true)) j = usedM (u % 2 ^ (k + 1)) j := by
  intro h j
  rw [usedM_upd]
  congr 1
  apply Nat.eq_of_testBit_eq
  intro i
  rw [testBit_or1, Nat.testBit_mod_two_pow, Nat.testBit_mod_two_pow]
  by_cases e : k = i
  · subst e
    simp [h]
  · have h1 : decide (k = i) = false := by simpa using e
    have h2 : decide (i < k + 1) = decide (i < k) := by
      have : (i < k + 1) ↔ (i < k) := by omega
      simp [this]
    rw [h1, h2, Bool.or_false]
theorem usedM_skip (u k : Nat) : u.testBit k = false → u % 2 ^ (k + 1) = u % 2 ^ k := by
  intro h
  rw [mod_next, h]
  rfl
theorem nb_low {u r S : Nat} (hu : u < 2 ^ S) (h : ∀ b, b < S → u.testBit b = true → r.testBit b = true) : nb u r = 0 := by
  apply Nat.eq_of_testBit_eq
  intro i
  rw [testBit_nb, Nat.zero_testBit]
  cases hb : u.testBit i with
  | false => rfl
  | true =>
    by_cases hi : i < S
    · rw [h i hi hb]; rfl
    · rw [Nat.testBit_lt_two_pow (Nat.lt_of_lt_of_le hu (Nat.pow_le_pow_right (by decide) (by omega)))] at hb
      cases hb
theorem nb_bit {u r b : Nat} (h1 : u.testBit b = true) (h2 : r.testBit b = false) : nb u r ≠ 0 := by
  intro h
  have := congrArg (fun x => x.testBit b) h
  simp only [testBit_nb, Nat.zero_testBit, h1, h2] at this
  cases this
theorem pow_wrap (k : Nat) (h : k ≤ 12) : wrap64 (2 ^ k) = ((2 ^ k : Nat) : Int) := by
  have : k = 0 ∨ k = 1 ∨ k = 2 ∨ k = 3 ∨ k = 4 ∨ k = 5 ∨ k = 6 ∨ k = 7 ∨ k = 8 ∨ k = 9 ∨ k = 10 ∨ k = 11 ∨ k = 12 := by omega
  rcases this with rfl | rfl | rfl | rfl | rfl | rfl | rfl | rfl | rfl | rfl | rfl | rfl | rfl <;> decide +kernel
theorem pow_wrap2 (k : Nat) (h : k ≤ 12) : IntKind.i64.wrap (2 ^ k) = ((2 ^ k : Nat) : Int) := by
  have : k = 0 ∨ k = 1 ∨ k = 2 ∨ k = 3 ∨ k = 4 ∨ k = 5 ∨ k = 6 ∨ k = 7 ∨ k = 8 ∨ k = 9 ∨ k = 10 ∨ k = 11 ∨ k = 12 := by omega
  rcases this with rfl | rfl | rfl | rfl | rfl | rfl | rfl | rfl | rfl | rfl | rfl | rfl | rfl <;> decide +kernel
set_option maxHeartbeats 40000000 in
set_option maxRecDepth 100000 in
theorem rc_load {w : World} {B : Nat} {x : RcX} {A : Option Addr} {c : Nat} {L : Lay} {s : St} (l : List Int) (h : RcAt w B x A c L s) (hL : L.Ok) (h8 : s.used.length = 8) (h9 : s.idle.length = 8) (hl : Hid (l.length = 17)) (hlo : Hid (∀ x ∈ l, -9223372036854775808 ≤ x ∧ x ≤ 9223372036854775807)) :
    Calls Tryd.prog 45 #[.pointer (some ⟨x.g, 0, none⟩), .agg (ints l).toArray] w fun e w' => e = .returned (.bool (rightB L l)) ∧ ∃ x' s', RcAt w' B x' A c L s' ∧ x'.g = x.g ∧ Turned (FC x L.routes.length) w w' ∧ (∀ b, FC x' L.routes.length b → FC x L.routes.length b ∨ w.heap.size ≤ b) ∧ (rightB L l = true → s' = stNat l) := by
  obtain ⟨br, or', rfl, _⟩ := h.route_ (i := 0) hL.many1
  have hn8 := hL.many2
  have hs12 := hL.secs2
  have hb1 : Below w.heap.size w (w.alloc (.cells (ints l).toArray 38)) := (Below.refl _ _).alloc (Nat.le_refl _) _
  have H0 : Hid (LdAt w (w.alloc (.cells (ints l).toArray 38)) B w.heap.size l x x (some ⟨br, or', none⟩) c L s) := Lib.hid ⟨h.after hb1, Has.new w 38 (ints l).toArray, rfl, Turned.of_below hb1 _, fun b hf => .inl hf⟩
  have HX := Lib.hid h
  have H8 := Lib.hid h8
  have H9 := Lib.hid h9
  have h256 := pow8 hn8
  have HP := Lib.hid (shl1 L.routes.length hn8)
  obtain ⟨x0, hx0⟩ := some_at l 0 (by rw [hl.out]; decide)
  have HX0 : Hid (l.getD 0 0 = x0) := Lib.hid (by rw [List.getD_eq_getElem?_getD, hx0]; rfl)
  obtain ⟨lo0, hi0⟩ := hlo.out x0 (List.mem_of_getElem? hx0)
  clear h h8 h9 hb1
  go_enter Tryd.func45, Tryd.ntmps45
  go_upto_region 1 with fail
  have HXL := Lib.hid hx0
  clear hx0
  generalize w.alloc (.cells (ints l).toArray 38) = w1 at *
  generalize hG : w.heap.size = g0 at *
  have HG := Lib.hid hG
  clear hG
  have FIN : Hid (∀ (wz : World) (xz : RcX) (sz : St), LdAt w wz B g0 l x xz (some ⟨br, or', none⟩) c L sz → rightB L l = false → ∃ x' s', RcAt wz B x' (some ⟨br, or', none⟩) c L s' ∧ x'.g = x.g ∧ Turned (FC x L.routes.length) w wz ∧ (∀ b, FC x' L.routes.length b → FC x L.routes.length b ∨ w.heap.size ≤ b) ∧ (rightB L l = true → s' = stNat l)) :=
    Lib.hid (fun wz xz sz H hf => ⟨_, _, H.rc, H.same, H.moved, H.blocks, fun ht => by rw [hf] at ht; cases ht⟩)
  have c00 := H0.out.k0.cellv 0 (I x0) (by have := HXL.out; simp [ints, this])
  have l0 := H0.out.k0.lt
  have c1 := H0.out.rc.has.cellv 1 (.slice (some ⟨br, or', none⟩) L.routes.length c) rfl
  have lg := H0.out.rc.has.lt
  by_cases h1 : x0 < 0
  · have HE := Lib.hid (crt_out (L := L) (l := l) (.inl (by rw [HX0.out]; exact h1)))
    have t1 : decide (x0 < 0) = true := decide_eq_true h1
    clear h1
    go_wp2_with fail
    go_quiet (fail)
    go_wp2_with fail
    go_ret
    exact ⟨by rw [HE.out]; rfl, FIN.out _ _ _ (H0.out.after (below_drewN (Below.refl _ _) _)) HE.out⟩
  · have t1 : decide (x0 < 0) = false := decide_eq_false h1
    have hle : 0 ≤ x0 := by omega
    have hpw : wrap64 (2 ^ L.routes.length) = ((2 ^ L.routes.length : Nat) : Int) := by rw [HP.out, Nat.shiftLeft_eq, Nat.one_mul]
    by_cases h2 : ((2 ^ L.routes.length : Nat) : Int) ≤ x0
    · have HE := Lib.hid (crt_out (L := L) (l := l) (.inr (by rw [HX0.out]; simpa using h2)))
      have t2 : decide (wrap64 (2 ^ L.routes.length) ≤ x0) = true := by rw [hpw]; exact decide_eq_true h2
      clear h1 h2 hpw
      go_wp2_with fail
      go_quiet (fail)
      go_wp2_with fail
      go_ret
      exact ⟨by rw [HE.out]; rfl, FIN.out _ _ _ (H0.out.after (below_drewN (Below.refl _ _) _)) HE.out⟩
    · have t2 : decide (wrap64 (2 ^ L.routes.length) ≤ x0) = false := by rw [hpw]; exact decide_eq_false h2
      have H2 := Lib.hid h2
      obtain ⟨sn, rfl⟩ : ∃ s : Nat, x0 = (s : Int) := ⟨x0.toNat, by omega⟩
      have hs256 : sn < 256 := by omega
      have HSN : Hid ((l.getD 0 0).toNat = sn) := Lib.hid (by rw [HX0.out, Int.toNat_natCast])
      clear h1 h2 hpw hle
      go_wp2_with fail
      go_quiet (fail)
      go_wp2_with fail
      clear t1 t2 c00 l0 c1 lg
      go_loopw [26] (fun i wr => ∃ (k : Nat) (x' : RcX), k ≤ 8 ∧ i = I k ∧ Hid (∀ j, j < k → rightAt L (l.getD 0 0) ((l.drop 1).take 8) ((l.drop 9).take 8) j = true) ∧ Hid (LdAt w wr B g0 l x x' (some ⟨br, or', none⟩) c L (loadTo L l s k))) (fun i _ => 8 - (intOf i).toNat)
      case atStart => exact ⟨0, x, by omega, rfl, Lib.hid (fun j hj => absurd hj (by omega)), Lib.hid (H0.out.after (below_drewN (Below.refl w1.heap.size w1) _))⟩
      case round =>
        clear H0
        obtain ⟨k, x', hk, rfl, hno, HS⟩ := hrel
        by_cases hlt : k < 8
        · have hki : (k : Int) < 8 := by omega
          have HAT := Lib.hid (right_at (L := L) (l := l) hlt)
          rw [HX0.out, Int.toNat_natCast] at HAT
          obtain ⟨u, hu⟩ := some_at l (1 + k) (by rw [hl.out]; omega)
          obtain ⟨d, hd⟩ := some_at l (9 + k) (by rw [hl.out]; omega)
          have HU : Hid (l.getD (1 + k) 0 = u) := Lib.hid (by rw [List.getD_eq_getElem?_getD, hu]; rfl)
          have HD : Hid (l.getD (9 + k) 0 = d) := Lib.hid (by rw [List.getD_eq_getElem?_getD, hd]; rfl)
          rw [HU.out, HD.out] at HAT
          have c0 := HS.out.k0.cellv 0 (I (sn : Int)) (by have := HXL.out; simp [ints, this])
          have cu := HS.out.k0.cellv (1 + k) (I u) (by simp [ints, hu])
          have cd := HS.out.k0.cellv (9 + k) (I d) (by simp [ints, hd])
          have lg0 := HS.out.k0.lt
          obtain ⟨lou, hiu⟩ := hlo.out u (List.mem_of_getElem? hu)
          obtain ⟨lod, hid⟩ := hlo.out d (List.mem_of_getElem? hd)
          have HLT := Lib.hid hlt
          have hk8 : k ≤ 64 := by omega
          have hb8 := hasB_nat sn k
          clear hu hd hlt hk
          have HNX : Hid (rightAt L ((sn : Int)) ((l.drop 1).take 8) ((l.drop 9).take 8) k = true → ∀ j, j < k + 1 → rightAt L (l.getD 0 0) ((l.drop 1).take 8) ((l.drop 9).take 8) j = true) := Lib.hid (fun h j hj => by
            by_cases e : j = k
            · subst e; rw [HX0.out]; exact h
            · exact hno.out j (by omega))
          have HNO : Hid (rightAt L ((sn : Int)) ((l.drop 1).take 8) ((l.drop 9).take 8) k = false → rightB L l = false) := Lib.hid (fun h => crt_no HLT.out (by rw [HX0.out]; exact h))
          have HLO : Hid (loadTo L l s (k + 1) = loadOne L l (loadTo L l s k) k) := Lib.hid rfl
          have HL8 := Lib.hid (loadTo_len L l s k)
          clear hno
          generalize loadTo L l s k = t at *
          by_cases hcase : L.routes.length ≤ k ∨ sn.testBit k = false
--<A
          · rw [if_pos hcase] at HAT
            have hcs : (L.routes.length ≤ k) ∨ (k < L.routes.length ∧ sn.testBit k = false) := by
              rcases hcase with h | h
              · exact .inl h
              · by_cases h2 : L.routes.length ≤ k
                · exact .inl h2
                · exact .inr ⟨by omega, h⟩
            clear hcase
            by_cases hu0 : u = 0
            · by_cases hd0 : d = 0
              · have HT := Lib.hid (HNX.out (by rw [HAT.out, hu0, hd0]; rfl))
                have tu : (u != 0) = false := by simpa using hu0
                have td : (d != 0) = false := by simpa using hd0
                rcases hcs with h | ⟨h, hbit⟩
                · have hnl : ¬ (k : Int) < (L.routes.length : Int) := by omega
                  have HLO2 : Hid (loadTo L l s (k + 1) = t) := Lib.hid (by rw [HLO.out]; unfold loadOne; rw [if_neg (by omega)])
                  clear hu0 hd0 HNO HAT HLO
                  go_wp2_with fail
                  go_roundw
                  case rel => exact ⟨k + 1, x', HLT.out, by go_num, Lib.hid HT.out, by rw [HLO2.out]; exact HS⟩
                  case measure => have := HLT.out; simp [intOf]; omega
                · have hnl : (k : Int) < (L.routes.length : Int) := by omega
                  rw [hbit] at hb8
                  obtain ⟨csr, hhr, hszr⟩ := HS.out.rc.route
                  obtain ⟨b0, b1, b2⟩ := HS.out.rc.cells h
                  have ha := hhr.alloc (.map #[] 0)
                  have fa0 := ha.free (k * 3)
                  have fa1 := ha.free (k * 3 + 1)
                  have fa2 := ha.free (k * 3 + 2)
                  have hmm := @run_makeMap Tryd.prog
                  have hlr := ha.lt
                  have al9 : ∀ i v, wr.cell? ⟨x'.rb, i, none⟩ = some v → (wr.alloc (.map #[] 0)).cell? ⟨x'.rb, i, none⟩ = some v := fun i v hv => by rw [ha.cell]; rw [hhr.cell] at hv; exact hv
                  have e0 := al9 _ _ b0
                  have e1 := al9 _ _ b1
                  have e2 := al9 _ _ b2
                  have lg := HS.out.rc.has.lt
                  have g3 := HS.out.rc.has.cellv 3 (.slice (some ⟨x'.rb, 0, none⟩) L.routes.length x'.cap) rfl
                  rw [HS.out.same] at g3 lg
                  obtain ⟨p1, p2, p3⟩ := loadOne_at (L := L) (l := l) (t := t) h (by rw [HL8.out.1, H8.out]; exact HLT.out) (by rw [HL8.out.2, H9.out]; exact HLT.out)
                  have HS9 := Lib.hid (HS.out.place (s' := loadOne L l t k) ((Below.refl wr.heap.size wr).alloc (Nat.le_refl _) (.map #[] 0)) h false 0 0 ((IMap.new Tryd.prog 3 wr 12).congr fun j _ => usedM_zero j) (Nat.le_refl _) ⟨by rw [p1, HSN.out, hbit], by rw [p2, HSN.out, hbit]; rfl, by rw [p3, HSN.out, hbit]; rfl⟩ (fun j _ hj => loadOne_far hj))
                  clear hu0 hd0 HNO HAT hhr ha b0 b1 b2 al9 hszr p1 p2 p3 hbit
                  go_wp2_with (go_at_call 84; refine (has_any _ (by omega) (by omega) k hk8 _).mono ?_; rintro e w9 ⟨rfl, rfl⟩; rw [hb8])
                  go_roundw
                  case rel => exact ⟨k + 1, _, HLT.out, by go_num, Lib.hid HT.out, by rw [HLO.out]; exact HS9⟩
                  case measure => have := HLT.out; simp [intOf]; omega
              · have HT := Lib.hid (HNO.out (by rw [HAT.out, decide_eq_false hd0, Bool.and_false]))
                have tu : (u != 0) = false := by simpa using hu0
                have td : (d != 0) = true := by simpa using hd0
                clear hu0 hd0 HNO HAT HNX
                rcases hcs with h | ⟨h, hbit⟩
                · have hnl : ¬ (k : Int) < (L.routes.length : Int) := by omega
                  go_wp2_with fail
                  go_ret
                  exact ⟨by rw [HT.out]; rfl, FIN.out _ _ _ HS.out HT.out⟩
                · have hnl : (k : Int) < (L.routes.length : Int) := by omega
                  rw [hbit] at hb8
                  clear hbit
                  go_wp2_with (go_at_call 84; refine (has_any _ (by omega) (by omega) k hk8 _).mono ?_; rintro e w9 ⟨rfl, rfl⟩; rw [hb8])
                  go_ret
                  exact ⟨by rw [HT.out]; rfl, FIN.out _ _ _ HS.out HT.out⟩
            · have HT := Lib.hid (HNO.out (by rw [HAT.out, decide_eq_false hu0, Bool.false_and]))
              have tu : (u != 0) = true := by simpa using hu0
              clear hu0 HNO HAT HNX
              rcases hcs with h | ⟨h, hbit⟩
              · have hnl : ¬ (k : Int) < (L.routes.length : Int) := by omega
                go_wp2_with fail
                go_ret
                exact ⟨by rw [HT.out]; rfl, FIN.out _ _ _ HS.out HT.out⟩
              · have hnl : (k : Int) < (L.routes.length : Int) := by omega
                rw [hbit] at hb8
                clear hbit
                go_wp2_with (go_at_call 84; refine (has_any _ (by omega) (by omega) k hk8 _).mono ?_; rintro e w9 ⟨rfl, rfl⟩; rw [hb8])
                go_ret
                exact ⟨by rw [HT.out]; rfl, FIN.out _ _ _ HS.out HT.out⟩
--A>
          · rw [if_neg hcase] at HAT
            have hkn : k < L.routes.length := by
              rcases Nat.lt_or_ge k L.routes.length with h | h
              · exact h
              · exact absurd (.inl h) hcase
            have hbit : sn.testBit k = true := by
              cases h : sn.testBit k with
              | true => rfl
              | false => exact absurd (.inr h) hcase
            rw [hbit] at hb8
            have HBT := Lib.hid hbit
            have HKN := Lib.hid hkn
            have hnl : (k : Int) < (L.routes.length : Int) := by omega
            have HCN := Lib.hid (conf_none hL (set := sn) hkn)
            have hnk2 : ¬ L.routes.length ≤ k := by omega
            clear hcase hbit hkn
            go_upto_region 12 with (go_at_call 84; refine (has_any _ (by omega) (by omega) k hk8 _).mono ?_; rintro e w9 ⟨rfl, rfl⟩; rw [hb8])
            go_wp2_with fail
            go_loopw [63] (fun i wx => ∃ j : Nat, j ≤ L.routes.length ∧ i = I j ∧ Hid (noneTo L.secs L.routes sn k j = true) ∧ Hid (LdAt w wx B g0 l x x' (some ⟨br, or', none⟩) c L t)) (fun i _ => L.routes.length - (intOf i).toNat)
            case atStart => exact ⟨0, Nat.zero_le _, rfl, Lib.hid rfl, HS⟩
            case round =>
              clear HS c0 cu cd lg0
              obtain ⟨j, hj, rfl, HN, HS⟩ := hrel
              by_cases hjn : j < L.routes.length
              · have hji : (j : Int) < (L.routes.length : Int) := by omega
                have HJ := Lib.hid hjn
                have c0 := HS.out.k0.cellv 0 (I (sn : Int)) (by have := HXL.out; simp [ints, this])
                have lg0 := HS.out.k0.lt
                have hbj := hasB_nat sn j
                have hj8 : j ≤ 64 := by omega
                have g0c := HS.out.rc.has.cellv 0 (I L.secs) rfl
                have g1c := HS.out.rc.has.cellv 1 (.slice (some ⟨br, or', none⟩) L.routes.length c) rfl
                have g2c := HS.out.rc.has.cellv 2 (I L.delay) rfl
                have lg := HS.out.rc.has.lt
                rw [HS.out.same] at g0c g1c g2c lg
                have HN1 : Hid (noneTo L.secs L.routes sn k (j + 1) = (noneTo L.secs L.routes sn k j && !(sn.testBit j && decide (j ≠ k) && meetB L.secs (rt L.routes k) (rt L.routes j)))) := Lib.hid rfl
                rw [HN.out] at HN1
                obtain ⟨ra, hra⟩ := some_at L.routes k HKN.out
                obtain ⟨rb, hrb⟩ := some_at L.routes j hjn
                have HM := Lib.hid (meet_ok L.secs L.routes.length c k j ra rb (some ⟨br, or', none⟩) L.delay L.routes wr B hs12 HS.out.rc.base (Lib.hid rfl) HS.out.rc.lay hra hrb (hL.small ra (List.mem_of_getElem? hra)) (hL.small rb (List.mem_of_getElem? hrb)))
                rw [← rt_of hra, ← rt_of hrb] at HM
                clear hra hrb hj hjn
                by_cases hjk : j = k
                · have t1 : ((j : Int) != (k : Int)) = false := by simp; omega
                  have HN2 : Hid (noneTo L.secs L.routes sn k (j + 1) = true) := Lib.hid (by rw [HN1.out, decide_eq_false (not_not_intro hjk)]; simp)
                  clear hjk HM HN1
                  go_wp2_with fail
                  go_roundw
                  case rel => exact ⟨j + 1, HJ.out, by go_num, HN2, HS⟩
                  case measure => have := HJ.out; simp [intOf]; omega
                · have t1 : ((j : Int) != (k : Int)) = true := by simp; omega
                  cases hb : sn.testBit j with
                  | false =>
                    rw [hb] at hbj
                    have HN2 : Hid (noneTo L.secs L.routes sn k (j + 1) = true) := Lib.hid (by rw [HN1.out, hb]; rfl)
                    clear hb hjk HM HN1
                    go_wp2_with (go_at_call 84; refine (has_any _ (by omega) (by omega) j hj8 _).mono ?_; rintro e w9 ⟨rfl, rfl⟩; rw [hbj])
                    go_roundw
                    case rel => exact ⟨j + 1, HJ.out, by go_num, HN2, HS⟩
                    case measure => have := HJ.out; simp [intOf]; omega
                  | true =>
                    rw [hb] at hbj
                    cases hm : meetB L.secs (rt L.routes k) (rt L.routes j) with
                    | false =>
                      rw [hm] at HM
                      have HN2 : Hid (noneTo L.secs L.routes sn k (j + 1) = true) := Lib.hid (by rw [HN1.out, hm]; simp)
                      clear hb hm hjk HN1
                      go_wp2_with (first
                        | (go_at_call 84; refine (has_any _ (by omega) (by omega) j hj8 _).mono ?_; rintro e w9 ⟨rfl, rfl⟩; rw [hbj])
                        | (go_at_call 85; refine HM.out.mono ?_; rintro e w9 ⟨rfl, hb9⟩))
                      have HS9 := Lib.hid (HS.out.after hb9)
                      go_roundw
                      case rel => exact ⟨j + 1, HJ.out, by go_num, HN2, HS9⟩
                      case measure => have := HJ.out; simp [intOf]; omega
                    | true =>
                      rw [hm] at HM
                      have HT := Lib.hid (HNO.out (by rw [HAT.out, HCN.out, noneTo_no HJ.out hb hjk hm]; rfl))
                      clear hb hm hjk HN1
                      go_wp2_with (first
                        | (go_at_call 84; refine (has_any _ (by omega) (by omega) j hj8 _).mono ?_; rintro e w9 ⟨rfl, rfl⟩; rw [hbj])
                        | (go_at_call 85; refine HM.out.mono ?_; rintro e w9 ⟨rfl, hb9⟩))
                      go_ret
                      exact ⟨by rw [HT.out]; rfl, FIN.out _ _ _ (HS.out.after hb9) HT.out⟩
              · have hjn2 : j = L.routes.length := by omega
                subst hjn2
                have hji : ¬ (L.routes.length : Int) < (L.routes.length : Int) := by omega
                rw [HCN.out, HN.out] at HAT
                clear hj hjn HN HCN
                have HRK := Lib.hid (rt_small hL HKN.out)
                have c0 := HS.out.k0.cellv 0 (I (sn : Int)) (by have := HXL.out; simp [ints, this])
                have cu : wr.cell? ⟨g0, 1 + k, none⟩ = some (I u) := HS.out.k0.cellv (1 + k) (I u) (by
                  obtain ⟨u', hu'⟩ := some_at l (1 + k) (by rw [hl.out]; have := HLT.out; omega)
                  have := HU.out
                  rw [List.getD_eq_getElem?_getD, hu'] at this
                  simp [ints, hu', show u' = u from this])
                have cd : wr.cell? ⟨g0, 9 + k, none⟩ = some (I d) := HS.out.k0.cellv (9 + k) (I d) (by
                  obtain ⟨d', hd'⟩ := some_at l (9 + k) (by rw [hl.out]; have := HLT.out; omega)
                  have := HD.out
                  rw [List.getD_eq_getElem?_getD, hd'] at this
                  simp [ints, hd', show d' = d from this])
                have lg0 := HS.out.k0.lt
                have g0c := HS.out.rc.has.cellv 0 (I L.secs) rfl
                have g1c := HS.out.rc.has.cellv 1 (.slice (some ⟨br, or', none⟩) L.routes.length c) rfl
                have g2c := HS.out.rc.has.cellv 2 (I L.delay) rfl
                have lg := HS.out.rc.has.lt
                rw [HS.out.same] at g0c g1c g2c lg
                have hrk : L.routes.getD k 0 = rt L.routes k := rfl
                rw [hrk] at HAT
                clear hrk
                generalize hrr : rt L.routes k = r at *
                have HRR := Lib.hid hrr
                clear hrr
                have h12 := two_pow_small L.secs hs12
                have hw12 : wrap64 (2 ^ L.secs) = ((2 ^ L.secs : Nat) : Int) := pow_wrap L.secs hs12
                by_cases q1 : u < 0
                · have HT := Lib.hid (HNO.out (by rw [HAT.out, decide_eq_false (show ¬ 0 ≤ u by omega)]; rfl))
                  have t1 : decide (u < 0) = true := decide_eq_true q1
                  clear q1 HAT HNO HNX
                  go_wp2_with fail
                  go_quiet (fail)
                  go_wp2_with fail
                  go_ret
                  exact ⟨by rw [HT.out]; rfl, FIN.out _ _ _ (HS.out.after (below_drewN (Below.refl _ _) _)) HT.out⟩
                have t1 : decide (u < 0) = false := decide_eq_false q1
                obtain ⟨un, rfl⟩ : ∃ un : Nat, u = (un : Int) := ⟨u.toNat, by omega⟩
                rw [Int.toNat_natCast] at HAT
                clear q1
                by_cases q2 : 2 ^ L.secs ≤ un
                · have HT := Lib.hid (HNO.out (by
                    rw [HAT.out, decide_eq_false (show ¬ nb un r = 0 from fun h => absurd (Nat.lt_of_le_of_lt (nb_zero_le h) HRK.out.2) (Nat.not_lt.2 q2))]
                    simp))
                  have t2 : decide (wrap64 (2 ^ L.secs) ≤ (un : Int)) = true := by rw [hw12]; exact decide_eq_true (Int.ofNat_le.2 q2)
                  clear q2 HAT HNO HNX h12 hw12
                  go_wp2_with fail
                  go_quiet (fail)
                  go_wp2_with fail
                  go_ret
                  exact ⟨by rw [HT.out]; rfl, FIN.out _ _ _ (HS.out.after (below_drewN (Below.refl _ _) _)) HT.out⟩
                have t2' : decide (IntKind.i64.wrap (2 ^ L.secs) ≤ (un : Int)) = false := by rw [pow_wrap2 L.secs hs12]; exact decide_eq_false (fun h => q2 (Int.ofNat_le.1 h))
                have t2 : decide (wrap64 (2 ^ L.secs) ≤ (un : Int)) = false := by rw [hw12]; exact decide_eq_false (fun h => q2 (Int.ofNat_le.1 h))
                have HU2 : Hid (un < 2 ^ L.secs) := Lib.hid (Nat.not_le.1 q2)
                clear q2 h12 hw12
                have hinA : ∀ W, Calls Tryd.prog 78 #[I d, I 0, I 1000] W fun e w' => e = .returned (.bool (inR d 0 1000)) ∧ w' = W := fun W => (in_any d 0 1000 W).mono (fun e w' h => ⟨h.1, h.2.symm⟩)
                cases hin : inR d 0 1000 with
                | false =>
                  rw [hin] at hinA
                  have HIN := Lib.hid hinA
                  clear hinA
                  have HT := Lib.hid (HNO.out (by
                    rw [HAT.out]
                    unfold inR at hin
                    by_cases h0 : 0 ≤ d
                    · have : ¬ d ≤ 1000 := by simpa [h0] using hin
                      rw [decide_eq_false this]
                      simp
                    · rw [decide_eq_false h0]
                      simp))
                  clear HAT HNO HNX
                  go_wp2_with fail
                  go_quiet ((go_at_call 78; exact Calls.quiet_of_same (HIN.out _)))
                  go_wp2_with fail
                  go_ret
                  exact ⟨by rw [HT.out]; rfl, FIN.out _ _ _ (HS.out.after (below_drewN (Below.refl _ _) _)) HT.out⟩
                | true =>
                  rw [hin] at hinA
                  obtain ⟨hd0, hd1⟩ : 0 ≤ d ∧ d ≤ 1000 := by unfold inR at hin; simpa using hin
                  obtain ⟨dn, rfl⟩ : ∃ dn : Nat, d = (dn : Int) := ⟨d.toNat, by omega⟩
                  have HIN := Lib.hid hinA
                  clear hinA
                  have HD1 : Hid (dn ≤ 1000) := Lib.hid (Int.ofNat_le.1 hd1)
                  have HAT2 : Hid (rightAt L (sn : Int) ((l.drop 1).take 8) ((l.drop 9).take 8) k = (decide (nb un r = 0) && !(decide (un = 0) && decide (L.delay < dn)))) := Lib.hid (by
                    rw [HAT.out, decide_eq_true (show (0 : Int) ≤ (un : Int) from Int.natCast_nonneg un), decide_eq_true hd0, decide_eq_true hd1]
                    have e1 : decide ((un : Int) = 0) = decide (un = 0) := by rw [Bool.eq_iff_iff, decide_eq_true_eq, decide_eq_true_eq]; exact Int.natCast_eq_zero
                    have e2 : decide ((L.delay : Int) < (dn : Int)) = decide (L.delay < dn) := by rw [Bool.eq_iff_iff, decide_eq_true_eq, decide_eq_true_eq]; exact Int.ofNat_lt
                    rw [e1, e2]
                    simp)
                  clear hd0 hd1 HAT
                  by_cases q3 : un = 0 ∧ L.delay < dn
                  · have HT := Lib.hid (HNO.out (by rw [HAT2.out, decide_eq_true q3.1, decide_eq_true q3.2]; simp))
                    have t3 : ((un : Int) == 0) = true := by rw [q3.1]; rfl
                    have t4 := q3.2
                    clear q3 HAT2 HNO HNX
                    go_wp2_with fail
                    go_quiet ((go_at_call 78; exact Calls.quiet_of_same (HIN.out _)))
                    go_wp2_with fail
                    go_ret
                    exact ⟨by rw [HT.out]; rfl, FIN.out _ _ _ (HS.out.after (below_drewN (Below.refl _ _) _)) HT.out⟩
                  have HAT3 : Hid (rightAt L (sn : Int) ((l.drop 1).take 8) ((l.drop 9).take 8) k = decide (nb un r = 0)) := Lib.hid (by
                    rw [HAT2.out]
                    by_cases h0 : un = 0
                    · rw [decide_eq_false (fun h => q3 ⟨h0, h⟩)]; simp
                    · rw [decide_eq_false h0]; simp)
                  go_upto_region 18 with fail
                  go_cut [129] (fun v wx => v = .bool false ∧ ∃ nq, wx = wr.drewN nq)
                  case first =>
                    by_cases h0 : un = 0
                    · have t3 : ((un : Int) == 0) = true := by rw [h0]; rfl
                      have t4 : ¬ L.delay < dn := fun h => q3 ⟨h0, h⟩
                      clear q3 HAT2 HAT3 HNO HNX h0
                      go_quiet ((go_at_call 78; exact Calls.quiet_of_same (HIN.out _)))
                      go_wp2_with fail
                      go_meet
                      case rel => exact ⟨rfl, _, rfl⟩
                    · have t3 : ((un : Int) == 0) = false := by simpa using h0
                      clear q3 HAT2 HAT3 HNO HNX h0
                      go_quiet ((go_at_call 78; exact Calls.quiet_of_same (HIN.out _)))
                      go_wp2_with fail
                      go_meet
                      case rel => exact ⟨rfl, _, rfl⟩
                  case rest =>
                    obtain ⟨rfl, nq, rfl⟩ := hcut
                    have HS2 := Lib.hid (HS.out.after (below_drewN (Below.refl wr.heap.size wr) nq))
                    clear HS c0 cu cd lg0 g0c g1c g2c lg t1 t2 t2' hin q3 HAT2
                    generalize wr.drewN nq = w8 at *
                    have hmm := @run_makeMap Tryd.prog
                    have hbm : Below w8.heap.size w8 (w8.alloc (.map #[] 0)) := (Below.refl _ _).alloc (Nat.le_refl _) _
                    have HM0 : Hid (IMap Tryd.prog 3 (w8.alloc (.map #[] 0)) w8.heap.size 12 (usedM (un % 2 ^ 0))) := Lib.hid ((IMap.new Tryd.prog 3 w8 12).congr fun j _ => by rw [Nat.pow_zero, Nat.mod_one]; exact usedM_zero j)
                    have HSA := HS2.out.after hbm
                    have g0c := HSA.rc.has.cellv 0 (I L.secs) rfl
                    have lg := HSA.rc.has.lt
                    rw [HSA.same] at g0c lg
                    have HBM := Lib.hid hbm
                    clear hbm HSA
                    go_wp2_with fail
                    clear g0c lg hmm
                    go_loopw [136] (fun i wx => ∃ j : Nat, j ≤ L.secs ∧ i = I j ∧ Hid (∀ b, b < j → un.testBit b = true → r.testBit b = true) ∧ Hid (IMap Tryd.prog 3 wx w8.heap.size 12 (usedM (un % 2 ^ j))) ∧ Hid (Below w8.heap.size w8 wx)) (fun i _ => L.secs - (intOf i).toNat)
                    case atStart => exact ⟨0, Nat.zero_le _, rfl, Lib.hid (fun b hb => absurd hb (by omega)), HM0, HBM⟩
                    case round =>
                      clear HM0 HBM
                      obtain ⟨j, hj, rfl, HN, HM, HB⟩ := hrel
                      have HSB := Lib.hid (HS2.out.after HB.out)
                      have cu : wr.cell? ⟨g0, 1 + k, none⟩ = some (I un) := HSB.out.k0.cellv (1 + k) (I un) (by
                        obtain ⟨u', hu'⟩ := some_at l (1 + k) (by rw [hl.out]; have := HLT.out; omega)
                        have := HU.out
                        rw [List.getD_eq_getElem?_getD, hu'] at this
                        simp [ints, hu', show u' = (un : Int) from this])
                      have cd : wr.cell? ⟨g0, 9 + k, none⟩ = some (I dn) := HSB.out.k0.cellv (9 + k) (I dn) (by
                        obtain ⟨d', hd'⟩ := some_at l (9 + k) (by rw [hl.out]; have := HLT.out; omega)
                        have := HD.out
                        rw [List.getD_eq_getElem?_getD, hd'] at this
                        simp [ints, hd', show d' = (dn : Int) from this])
                      have lg0 := HSB.out.k0.lt
                      have g1c := HSB.out.rc.has.cellv 1 (.slice (some ⟨br, or', none⟩) L.routes.length c) rfl
                      have g3c := HSB.out.rc.has.cellv 3 (.slice (some ⟨x'.rb, 0, none⟩) L.routes.length x'.cap) rfl
                      have lg := HSB.out.rc.has.lt
                      rw [HSB.out.same] at g1c g3c lg
                      by_cases hjn : j < L.secs
                      · have hji : (j : Int) < (L.secs : Int) := by omega
                        have HJ := Lib.hid hjn
                        obtain ⟨b2, o2, e2, hb2, hra⟩ := HSB.out.rc.route_ HKN.out
                        cases e2
                        rw [HRR.out] at hra
                        have hH1 := hasB_nat un j
                        have hH2 := hasB_nat r j
                        have hr4 := HRK.out.1
                        have hj12 : j < 12 := by omega
                        clear hjn hj
                        cases h1 : un.testBit j with
                        | false =>
                          rw [h1] at hH1
                          have HN2 : Hid (∀ b, b < j + 1 → un.testBit b = true → r.testBit b = true) := Lib.hid (fun b hb h => by
                            by_cases e : b = j
                            · subst e; rw [h1] at h; cases h
                            · exact HN.out b (by omega) h)
                          have HM2 : Hid (IMap Tryd.prog 3 wr w8.heap.size 12 (usedM (un % 2 ^ (j + 1)))) := Lib.hid (by rw [usedM_skip un j h1]; exact HM.out)
                          clear h1 hH2
                          go_wp2_with (go_at_call 84; refine (has_any _ (by omega) (by omega) j (by omega) _).mono ?_; rintro e w9 ⟨rfl, rfl⟩; rw [hH1])
                          go_roundw
                          case rel => exact ⟨j + 1, HJ.out, by go_num, HN2, HM2, HB⟩
                          case measure => have := HJ.out; simp [intOf]; omega
                        | true =>
                          rw [h1] at hH1
                          cases h2 : r.testBit j with
                          | false =>
                            rw [h2] at hH2
                            have HT := Lib.hid (HNO.out (by rw [HAT3.out, decide_eq_false (nb_bit h1 h2)]))
                            clear h1 h2
                            go_wp2_with (go_at_call 84; refine (has_any _ (by omega) (by omega) j (by omega) _).mono ?_; rintro e w9 ⟨rfl, rfl⟩; first | rw [hH1] | rw [hH2])
                            go_ret
                            exact ⟨by rw [HT.out]; rfl, FIN.out _ _ _ HSB.out HT.out⟩
                          | true =>
                            rw [h2] at hH2
                            have HN2 : Hid (∀ b, b < j + 1 → un.testBit b = true → r.testBit b = true) := Lib.hid (fun b hb h => by
                              by_cases e : b = j
                              · subst e; exact h2
                              · exact HN.out b (by omega) h)
                            have HUP := Lib.hid (usedM_low un j h1)
                            clear h1 h2
                            go_wp2_with (first
                              | (go_at_call 84; refine (has_any _ (by omega) (by omega) j (by omega) _).mono ?_; rintro e w9 ⟨rfl, rfl⟩; first | rw [hH1] | rw [hH2])
                              | (refine wpList_imap_store _ rfl _ _ _ 80 rfl 3 4 keyI mapB w8.heap.size 12 _ rfl HM.out (by decide) j rfl hj12 (.bool true) rfl ?_; intro w2 hm2 hg2))
                            have HM2 : Hid (IMap Tryd.prog 3 w2 w8.heap.size 12 (usedM (un % 2 ^ (j + 1)))) := Lib.hid (hm2.congr fun q _ => (HUP.out q).symm)
                            have HB2 : Hid (Below w8.heap.size w8 w2) := Lib.hid (HB.out.grown hg2 HB.out.size (fun q hq => by cases hq; exact Nat.le_refl _))
                            clear hm2 hg2 HM HB
                            go_wp2_with fail
                            go_roundw
                            case rel => exact ⟨j + 1, HJ.out, by go_num, HN2, HM2, HB2⟩
                            case measure => have := HJ.out; simp [intOf]; omega
                      · have hjn2 : j = L.secs := by omega
                        subst hjn2
                        have hji : ¬ (L.secs : Int) < (L.secs : Int) := by omega
                        rw [Nat.mod_eq_of_lt HU2.out] at HM
                        have HT := Lib.hid (HNX.out (by rw [HAT3.out]; exact decide_eq_true (nb_low HU2.out HN.out)))
                        obtain ⟨p1, p2, p3⟩ := loadOne_at (L := L) (l := l) (t := t) HKN.out (by rw [HL8.out.1, H8.out]; exact HLT.out) (by rw [HL8.out.2, H9.out]; exact HLT.out)
                        have HS9 := Lib.hid (HS2.out.place (s' := loadOne L l t k) HB.out HKN.out true un dn HM.out (Nat.le_refl _) ⟨by rw [p1, HSN.out, HBT.out], by rw [p2, HSN.out, HBT.out, if_pos rfl, HU.out, Int.toNat_natCast], by rw [p3, HSN.out, HBT.out, if_pos rfl, HD.out, Int.toNat_natCast]⟩ (fun j _ hj => loadOne_far hj))
                        obtain ⟨csr, hhr, hszr⟩ := HSB.out.rc.route
                        obtain ⟨b0, b1, b2⟩ := HSB.out.rc.cells HKN.out
                        have fa0 := hhr.free (k * 3)
                        have fa1 := hhr.free (k * 3 + 1)
                        have fa2 := hhr.free (k * 3 + 2)
                        have hlr := hhr.lt
                        clear p1 p2 p3 HNO HAT3 HNX hj hjn hhr hszr HSB HM HB HN cu g1c
                        generalize w8.heap.size = m8 at *
                        have HS10 := Lib.hid (HS9.out.after ((Below.refl _ _).drew))
                        go_wp2_with fail
                        go_region
                        all_goals
                          go_wp2_with fail
                          go_roundw
                          case rel => exact ⟨k + 1, _, HLT.out, by go_num, Lib.hid HT.out, by rw [HLO.out]; first | exact HS10 | exact HS9⟩
                          case measure => have := HLT.out; simp [intOf]; omega
        · have hk8 : k = 8 := by omega
          subst hk8
          have hki : ¬ (8 : Int) < 8 := by omega
          have HR : Hid (rightB L l = true) := Lib.hid (crt_yes (by rw [HX0.out]; omega) (by rw [HX0.out]; simpa using H2.out) hno.out)
          clear hk hlt
          go_wp2_with fail
          go_ret
          refine ⟨by rw [HR.out]; rfl, _, _, (HS.out.congr (fun i hi => loadTo_all hL hl.out H8.out H9.out HR.out hi)).rc, HS.out.same, HS.out.moved, HS.out.blocks, fun _ => rfl⟩
end Go.Proofs.YtdhekhlmdefcnaaDoor
