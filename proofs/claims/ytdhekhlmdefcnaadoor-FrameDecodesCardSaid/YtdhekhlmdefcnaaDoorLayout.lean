/- Walks over package layout. -/
import Derived.Test.YtdhekhlmdefcnaaDoorCoreSpec
import Derived.Test.YtdhekhlmdefcnaaDoorRows
import Derived.WalkSpells
import Derived.Laws.Pointers
import Derived.Deep.QuietTactic
import Derived.BigQuiet
import Derived.BigRegion
import Derived.Outline
import Derived.Lib.Hide
namespace Go.Proofs.YtdhekhlmdefcnaaDoor
open Go.RowKit

/-- slices.Index of ints: the first place, or -1: the first k are asked. -/
def ixTo (xs : List Int) (v : Int) : Int := match xs.findIdx? (· == v) with | some i => i | none => -1
theorem ixTo_hit (xs : List Int) (v : Int) (k : Nat) (h : xs[k]? = some v) (hn : ∀ j, j < k → xs[j]? ≠ some v) : ixTo xs v = k := by
  have : xs.findIdx? (· == v) = some k := by
    rw [List.findIdx?_eq_some_iff_getElem]
    obtain ⟨hk, hx⟩ := List.getElem?_eq_some_iff.1 h
    refine ⟨hk, by simpa using hx, fun j hj => ?_⟩
    have hj' : j < xs.length := by omega
    have := hn j hj
    simpa [hj'] using this
  simp [ixTo, this]
theorem ixTo_miss (xs : List Int) (v : Int) (hn : ∀ j, j < xs.length → xs[j]? ≠ some v) : ixTo xs v = -1 := by
  have : xs.findIdx? (· == v) = none := by
    rw [List.findIdx?_eq_none_iff]
    intro x hx
    obtain ⟨j, hj, rfl⟩ := List.getElem_of_mem hx
    have := hn j hj
    simpa [hj] using this
  simp [ixTo, this]
set_option maxHeartbeats 400000 in
set_option maxRecDepth 100000 in
theorem index_any (A : Option Addr) (c : Nat) (xs : List Int) (v : Int) (w : World) (B : Nat) (hn : xs.length ≤ 1000000) (hr : Reads w B A (ints xs)) :
    Calls Tryd.prog 105 #[.slice A xs.length c, I v] w fun e w' => e = .returned (I (ixTo xs v)) ∧ w = w' := by
  go_enter Tryd.func105, Tryd.ntmps105
  go_wp2
  go_loop [8] (fun i => ∃ k : Nat, k ≤ xs.length ∧ i = I k ∧ Hid (∀ j, j < k → xs[j]? ≠ some v)) (fun i => xs.length - (intOf i).toNat)
  case atStart => exact ⟨0, by omega, rfl, fun j hj => absurd hj (by omega)⟩
  case round =>
    obtain ⟨k, hk, rfl, hno⟩ := hrel
    by_cases hlt : k < xs.length
    · obtain ⟨x, hx⟩ := some_at xs k hlt
      obtain ⟨b, o, rfl, hb, hcell⟩ := hr.at_ hx
      have Hx := Lib.hid hx
      clear hx
      by_cases hv : x = v
      · have hIx := Lib.hid (ixTo_hit xs v k (by rw [Hx.out, hv]) hno.out)
        have ht : (v == x) = true := by simp [hv]
        clear hv
        go_wp2
        go_ret
        exact ⟨by rw [hIx.out]; rfl, rfl⟩
      · have ht : (v == x) = false := by simp; exact fun h => hv h.symm
        have hV := Lib.hid hv
        clear hv
        go_wp2
        go_round
        case rel => 
          refine ⟨k + 1, by omega, by go_num, fun j hj => ?_⟩
          by_cases e : j = k
          · subst e; rw [Hx.out]; intro h; injection h with h; exact hV.out h
          · exact hno.out j (by omega)
        case measure => simp [intOf]; omega
    · have hIx := Lib.hid (ixTo_miss xs v (fun j hj => hno.out j (by omega)))
      go_wp2
      go_ret
      exact ⟨by rw [hIx.out]; rfl, rfl⟩
theorem ixTo_contains (xs : List Int) (v : Int) : decide (0 ≤ ixTo xs v) = xs.contains v := by
  unfold ixTo
  cases h : xs.findIdx? (· == v) with
  | none =>
    rw [List.findIdx?_eq_none_iff] at h
    have : xs.contains v = false := by
      rw [List.contains_eq_any_beq, List.any_eq_false]
      intro x hx
      have := h x hx
      simp at this ⊢
      omega
    rw [this]; rfl
  | some i =>
    rw [List.findIdx?_eq_some_iff_getElem] at h
    obtain ⟨hi, hx, _⟩ := h
    have : xs.contains v = true := by
      rw [List.contains_eq_any_beq, List.any_eq_true]
      exact ⟨xs[i], List.getElem_mem hi, by simp at hx ⊢; omega⟩
    rw [this]
    simp
theorem contains_any (A : Option Addr) (n c : Nat) (xs : List Int) (v : Int) (w : World) (B : Nat) (hx : xs.length = n) (hn : xs.length ≤ 1000000) (hr : Reads w B A (ints xs)) (b : Bool) (hb : xs.contains v = b) :
    Calls Tryd.prog 91 #[.slice A n c, I v] w fun e w' => e = .returned (.bool b) ∧ w = w' := by
  subst hx
  go_enter Tryd.func91, Tryd.ntmps91
  go_wp2_with (go_at_call 105; refine (index_any _ _ _ _ _ _ hn hr).mono ?_; rintro e w' ⟨rfl, rfl⟩)
  go_ret
  refine ⟨?_, rfl⟩
  rw [← hb, ← ixTo_contains]
  rfl

/-- an error as a value: nil, a number, or a place in a block of its own -/
def ErrV (w w' : World) : Err → Value → Prop
  | .ok, v => v = .nilIface
  | .bare e, v => v = .iface 42 (I e)
  | .place e p, v => ∃ g, w.heap.size ≤ g ∧ v = .iface 175 (.pointer (some ⟨g, 0, none⟩)) ∧ Has w' g 176 #[I e, I p]
def ErrPost (w : World) (r : Err) (e : Ending) (w' : World) : Prop := ∃ v, e = .returned v ∧ ErrV w w' r v ∧ Below w.heap.size w w'
theorem chk_range {S : Int} {rs : List Int} {d : Int} (h : outOf S rs.length d) : chk S rs d = .bare 2 := by unfold chk; rw [if_pos h]
theorem badRoute_some {S : Int} {rs : List Int} {k : Nat} {x : Int} (hx : rs[k]? = some x) (hb : x ≤ 0 ∨ 2 ^ S.toNat ≤ x)
    (hg : ∀ j r, j < k → rs[j]? = some r → 0 < r ∧ r < 2 ^ S.toNat) : badRoute S rs = some k := by
  unfold badRoute
  rw [List.findIdx?_eq_some_iff_getElem]
  obtain ⟨hk, hx⟩ := List.getElem?_eq_some_iff.1 hx
  refine ⟨hk, by rw [hx]; simpa using hb, fun j hj => ?_⟩
  have hj' : j < rs.length := by omega
  have := hg j _ hj (List.getElem?_eq_getElem hj')
  simp
  omega
theorem badRoute_none {S : Int} {rs : List Int} (hg : ∀ j r, j < rs.length → rs[j]? = some r → 0 < r ∧ r < 2 ^ S.toNat) : badRoute S rs = none := by
  unfold badRoute
  rw [List.findIdx?_eq_none_iff]
  intro x hx
  obtain ⟨j, hj, rfl⟩ := List.getElem_of_mem hx
  have := hg j _ hj (List.getElem?_eq_getElem hj)
  simp
  omega
theorem twice_eq {rs : List Int} {k : Nat} {x : Int} (hx : rs[k]? = some x) : twice rs k = (rs.take k).contains x := by
  unfold twice
  rw [List.getD_eq_getElem?_getD, hx]
  rfl
theorem twiceAt_some {rs : List Int} {k : Nat} (hk : k < rs.length) (h : twice rs k = true) (hg : ∀ j, j < k → twice rs j = false) : twiceAt rs = some k := by
  unfold twiceAt
  rw [List.find?_range_eq_some]
  exact ⟨h, by simpa using hk, fun j hj => by simpa using hg j hj⟩
theorem twiceAt_none {rs : List Int} (hg : ∀ j, j < rs.length → twice rs j = false) : twiceAt rs = none := by
  unfold twiceAt
  rw [List.find?_eq_none]
  intro j hj
  simpa using hg j (by simpa using hj)
theorem chk_bad {S : Int} {rs : List Int} {d : Int} {k : Nat} (h : ¬ outOf S rs.length d) (hb : badRoute S rs = some k) : chk S rs d = .place 1 k := by
  unfold chk; rw [if_neg h, hb]
theorem chk_twice {S : Int} {rs : List Int} {d : Int} {k : Nat} (h : ¬ outOf S rs.length d) (hb : badRoute S rs = none) (ht : twiceAt rs = some k) : chk S rs d = .place 9 k := by
  unfold chk; rw [if_neg h, hb, ht]
theorem chk_ok {S : Int} {rs : List Int} {d : Int} (h : ¬ outOf S rs.length d) (hb : badRoute S rs = none) (ht : twiceAt rs = none) : chk S rs d = .ok := by
  unfold chk; rw [if_neg h, hb, ht]
theorem pow_in (S : Int) (h1 : 1 ≤ S) (h2 : S ≤ 12) : wrap64 (2 ^ S.toNat) = 2 ^ S.toNat := by
  have : S = 1 ∨ S = 2 ∨ S = 3 ∨ S = 4 ∨ S = 5 ∨ S = 6 ∨ S = 7 ∨ S = 8 ∨ S = 9 ∨ S = 10 ∨ S = 11 ∨ S = 12 := by omega
  rcases this with rfl | rfl | rfl | rfl | rfl | rfl | rfl | rfl | rfl | rfl | rfl | rfl <;> decide +kernel
set_option maxHeartbeats 1000000 in
set_option maxRecDepth 100000 in
theorem check_in (S d : Int) (A : Option Addr) (c : Nat) (xs : List Int) (w : World) (hr : Reads w w.heap.size A (ints xs))
    (hc : xs.length ≤ c) (h1 : 1 ≤ S) (h2 : S ≤ 12) (h3 : 1 ≤ xs.length) (h4 : xs.length ≤ 8) (h5 : 0 ≤ d) (h6 : d ≤ 20) :
    Calls Tryd.prog 54 #[.agg #[I S, .slice A xs.length c, I d]] w (ErrPost w (chk S xs d)) := by
  have HP := Lib.hid (pow_in S h1 h2)
  have HO : Hid (¬ outOf S xs.length d) := Lib.hid (by unfold outOf; omega)
  go_enter Tryd.func54, Tryd.ntmps54
  go_wp2
  go_loop [41] (fun i => ∃ k : Nat, k ≤ xs.length ∧ i = I k ∧ Hid (∀ j r, j < k → xs[j]? = some r → 0 < r ∧ r < 2 ^ S.toNat)) (fun i => xs.length - (intOf i).toNat)
  case atStart => exact ⟨0, by omega, rfl, fun j r hj => absurd hj (by omega)⟩
  case round =>
    obtain ⟨k, hk, rfl, hno⟩ := hrel
    by_cases hlt : k < xs.length
    · obtain ⟨x, hx⟩ := some_at xs k hlt
      obtain ⟨b, o, rfl, hb, hcell⟩ := hr.at_ hx
      have Hx := Lib.hid hx
      clear hx
      go_wp2
      · have hbad : x ≤ 0 ∨ wrap64 (2 ^ S.toNat) ≤ x := by assumption
        rw [HP.out] at hbad
        rw [chk_bad HO.out (badRoute_some Hx.out hbad hno.out)]
        go_ret
        exact ⟨_, rfl, ⟨_, by omega, rfl, Has.new' _ _ _ _ (by simp)⟩, ((Below.refl _ _).alloc (Nat.le_refl _) _).alloc (by simp) _⟩
      · go_round
        case rel =>
          have hgood : 0 < x ∧ x < wrap64 (2 ^ S.toNat) := by assumption
          rw [HP.out] at hgood
          refine ⟨k + 1, by omega, by go_num, fun j r hj hr => ?_⟩
          by_cases e : j = k
          · subst e; rw [Hx.out] at hr; injection hr with hr; subst hr; exact hgood
          · exact hno.out j r (by omega) hr
        case measure => simp [intOf]; omega
      · have hbad : x ≤ 0 := by assumption
        rw [chk_bad HO.out (badRoute_some Hx.out (.inl hbad) hno.out)]
        go_ret
        exact ⟨_, rfl, ⟨_, by omega, rfl, Has.new' _ _ _ _ (by simp)⟩, ((Below.refl _ _).alloc (Nat.le_refl _) _).alloc (by simp) _⟩
    · have HB := Lib.hid (badRoute_none (S := S) (rs := xs) (fun j r hj hr => hno.out j r (by omega) hr))
      clear hno
      go_wp2
      go_loop [63] (fun i => ∃ k : Nat, k ≤ xs.length ∧ i = I k ∧ Hid (∀ j, j < k → twice xs j = false)) (fun i => xs.length - (intOf i).toNat)
      case atStart => exact ⟨0, by omega, rfl, fun j hj => absurd hj (by omega)⟩
      case round =>
        obtain ⟨k, hk, rfl, hno⟩ := hrel
        by_cases hlt : k < xs.length
        · obtain ⟨x, hx⟩ := some_at xs k hlt
          obtain ⟨b, o, rfl, hb, hcell⟩ := hr.at_ hx
          have HT : Hid (twice xs k = (xs.take k).contains x) := Lib.hid (twice_eq hx)
          clear hx
          have htk : (xs.take k).length = k := by rw [List.length_take]; omega
          have hrt : Reads w w.heap.size (some ⟨b, o, none⟩) (ints (xs.take k)) := by unfold ints; rw [List.map_take]; exact hr.take k
          have HTK := Lib.hid htk
          clear htk
          cases htw : twice xs k with
          | false =>
            have HTW := Lib.hid htw
            clear htw
            go_wp2_with (go_at_call 91; refine (contains_any _ k _ (xs.take k) x _ w.heap.size HTK.out (by rw [HTK.out]; omega) (hrt.alloc (Nat.le_refl _) _) false (by rw [← HT.out, HTW.out])).mono ?_; rintro e w' ⟨rfl, rfl⟩)
            go_round
            case rel =>
              refine ⟨k + 1, by omega, by go_num, fun j hj => ?_⟩
              by_cases e : j = k
              · subst e; exact HTW.out
              · exact hno.out j (by omega)
            case measure => simp [intOf]; omega
          | true =>
            have HTW := Lib.hid htw
            clear htw
            go_wp2_with (go_at_call 91; refine (contains_any _ k _ (xs.take k) x _ w.heap.size HTK.out (by rw [HTK.out]; omega) (hrt.alloc (Nat.le_refl _) _) true (by rw [← HT.out, HTW.out])).mono ?_; rintro e w' ⟨rfl, rfl⟩)
            rw [chk_twice HO.out HB.out (twiceAt_some hlt HTW.out hno.out)]
            go_ret
            exact ⟨_, rfl, ⟨_, by omega, rfl, Has.new' _ _ _ _ (by simp)⟩, ((Below.refl _ _).alloc (Nat.le_refl _) _).alloc (by simp) _⟩
        · have HC := Lib.hid (chk_ok HO.out HB.out (twiceAt_none (fun j hj => hno.out j (by omega))))
          go_wp2
          rw [HC.out]
          go_ret
          exact ⟨_, rfl, rfl, (Below.refl _ _).alloc (Nat.le_refl _) _⟩
set_option maxHeartbeats 1000000 in
set_option maxRecDepth 100000 in
theorem check_any (S d : Int) (A : Option Addr) (c : Nat) (xs : List Int) (w : World) (hn : xs.length ≤ 9223372036854775807) (hc : xs.length ≤ c) (hr : Reads w w.heap.size A (ints xs)) :
    Calls Tryd.prog 54 #[.agg #[I S, .slice A xs.length c, I d]] w (ErrPost w (chk S xs d)) := by
  by_cases hout : outOf S xs.length d
  · rw [chk_range hout]
    have hx : S < 1 ∨ (1 ≤ S ∧ 12 < S) ∨ (1 ≤ S ∧ S ≤ 12 ∧ xs.length < 1) ∨ (1 ≤ S ∧ S ≤ 12 ∧ 1 ≤ xs.length ∧ 8 < xs.length) ∨
        (1 ≤ S ∧ S ≤ 12 ∧ 1 ≤ xs.length ∧ xs.length ≤ 8 ∧ d < 0) ∨ (1 ≤ S ∧ S ≤ 12 ∧ 1 ≤ xs.length ∧ xs.length ≤ 8 ∧ 0 ≤ d ∧ 20 < d) := by unfold outOf at hout; omega
    clear hout
    rcases hx with h | ⟨h1, h⟩ | ⟨h1, h2, h⟩ | ⟨h1, h2, h3, h⟩ | ⟨h1, h2, h3, h4, h⟩ | ⟨h1, h2, h3, h4, h5, h⟩
    all_goals
      go_enter Tryd.func54, Tryd.ntmps54
      go_wp2
      go_ret
      exact ⟨_, rfl, rfl, (Below.refl _ _).alloc (Nat.le_refl _) _⟩
  · unfold outOf at hout
    exact check_in S d A c xs w hr hc (by omega) (by omega) (by omega) (by omega) (by omega) (by omega)
end Go.Proofs.YtdhekhlmdefcnaaDoor
