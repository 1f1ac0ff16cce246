/- Part 19 of the proof: Layout, Fit, Conf, New, StepPlain, Safe, Ones, Most, MostWalk. -/
import Derived.Test.YtdhekhlmdefcnaaGreatDoorPart15
import Derived.Test.YtdhekhlmdefcnaaGreatDoorRows
import Derived.WalkSpells
import Derived.Laws.Pointers
import Derived.Deep.QuietTactic
import Derived.BigQuiet
import Derived.BigRegion
import Derived.Outline
import Derived.Lib.Hide
import Derived.RegionTactic
import Derived.ChangeAlike
namespace Go.Proofs.YtdhekhlmdefcnaaGreatDoor
open Go.RowKit
def ixTo (xs : List Int) (v : Int) : Int := match xs.findIdx? (· == v) with | some i => i | none => -1
theorem ixTo_hit (xs : List Int) (v : Int) (k : Nat) (h : xs[k]? = some v) (hn : ∀ j, j < k → xs[j]? ≠ some v) : ixTo xs v = k := by
 have : xs.findIdx? (· == v) = some k := by
  rw [List.findIdx?_eq_some_iff_getElem]
  obtain ⟨hk, hx⟩ := List.getElem?_eq_some_iff.1 h
  refine ⟨hk, by simpa using hx, fun j hj => ?_⟩
  have hj' : j < xs.length := by omega
  have := hn j hj
  simpa [hj'] using this
 simp [ixTo, this]
theorem ixTo_miss (xs : List Int) (v : Int) (hn : ∀ j, j < xs.length → xs[j]? ≠ some v) : ixTo xs v = -1 := by
 have : xs.findIdx? (· == v) = none := by
  rw [List.findIdx?_eq_none_iff]
  intro x hx
  obtain ⟨j, hj, rfl⟩ := List.getElem_of_mem hx
  have := hn j hj
  simpa [hj] using this
 simp [ixTo, this]
set_option maxHeartbeats 400000 in
set_option maxRecDepth 100000 in
theorem index_any (A : Option Addr) (c : Nat) (xs : List Int) (v : Int) (w : World) (B : Nat) (hn : xs.length ≤ 1000000) (hr : Reads w B A (ints xs)) :
  Calls Tryz.prog 121 #[.slice A xs.length c, I v] w fun e w' => e = .returned (I (ixTo xs v)) ∧ w = w' := by
 go_enter Tryz.func121, Tryz.ntmps121
 go_wp2
 go_loop [8] (fun i => ∃ k : Nat, k ≤ xs.length ∧ i = I k ∧ Hid (∀ j, j < k → xs[j]? ≠ some v)) (fun i => xs.length - (intOf i).toNat)
 case atStart => exact ⟨0, by omega, rfl, fun j hj => absurd hj (by omega)⟩
 case round =>
  obtain ⟨k, hk, rfl, hno⟩ := hrel
  by_cases hlt : k < xs.length
  ·obtain ⟨x, hx⟩ := some_at xs k hlt
   obtain ⟨b, o, rfl, hb, hcell⟩ := hr.at_ hx
   have Hx := Lib.hid hx
   clear hx
   by_cases hv : x = v
   ·have hIx := Lib.hid (ixTo_hit xs v k (by rw [Hx.out, hv]) hno.out)
    have ht : (v == x) = true := by simp [hv]
    clear hv
    go_wp2
    go_ret
    exact ⟨by rw [hIx.out]; rfl, rfl⟩
   ·have ht : (v == x) = false := by simp; exact fun h => hv h.symm
    have hV := Lib.hid hv
    clear hv
    go_wp2
    go_round
    case rel =>
     refine ⟨k + 1, by omega, by go_num, fun j hj => ?_⟩
     by_cases e : j = k
     ·subst e; rw [Hx.out]; intro h; injection h with h; exact hV.out h
     ·exact hno.out j (by omega)
    case measure => simp [intOf]; omega
  ·have hIx := Lib.hid (ixTo_miss xs v (fun j hj => hno.out j (by omega)))
   go_wp2
   go_ret
   exact ⟨by rw [hIx.out]; rfl, rfl⟩
theorem ixTo_contains (xs : List Int) (v : Int) : decide (0 ≤ ixTo xs v) = xs.contains v := by
 unfold ixTo
 cases h : xs.findIdx? (· == v) with
 | none =>
  rw [List.findIdx?_eq_none_iff] at h
  have : xs.contains v = false := by
   rw [List.contains_eq_any_beq, List.any_eq_false]
   intro x hx
   have := h x hx
   simp at this ⊢
   omega
  rw [this]; rfl
 | some i =>
  rw [List.findIdx?_eq_some_iff_getElem] at h
  obtain ⟨hi, hx, _⟩ := h
  have : xs.contains v = true := by
   rw [List.contains_eq_any_beq, List.any_eq_true]
   exact ⟨xs[i], List.getElem_mem hi, by simp at hx ⊢; omega⟩
  rw [this]
  simp
theorem contains_any (A : Option Addr) (n c : Nat) (xs : List Int) (v : Int) (w : World) (B : Nat) (hx : xs.length = n) (hn : xs.length ≤ 1000000) (hr : Reads w B A (ints xs)) (b : Bool) (hb : xs.contains v = b) :
  Calls Tryz.prog 90 #[.slice A n c, I v] w fun e w' => e = .returned (.bool b) ∧ w = w' := by
 subst hx
 go_enter Tryz.func90, Tryz.ntmps90
 go_wp2_with (go_at_call 121; refine (index_any _ _ _ _ _ _ hn hr).mono ?_; rintro e w' ⟨rfl, rfl⟩)
 go_ret
 refine ⟨?_, rfl⟩
 rw [← hb, ← ixTo_contains]
 rfl
def ErrV (w w' : World) : Err → Value → Prop
 | .ok, v => v = .nilIface
 | .bare e, v => v = .iface 31 (I e)
 | .place e p, v => ∃ g, w.heap.size ≤ g ∧ v = .iface 149 (.pointer (some ⟨g, 0, none⟩)) ∧ Has w' g 151 #[I e, I p]
def ErrPost (w : World) (r : Err) (e : Ending) (w' : World) : Prop := ∃ v, e = .returned v ∧ ErrV w w' r v ∧ Below w.heap.size w w'
theorem chk_range {S : Int} {rs : List Int} {d : Int} (h : outOf S rs.length d) : chk S rs d = .bare 2 := by unfold chk; rw [if_pos h]
theorem badRoute_some {S : Int} {rs : List Int} {k : Nat} {x : Int} (hx : rs[k]? = some x) (hb : x ≤ 0 ∨ 2 ^ S.toNat ≤ x)
  (hg : ∀ j r, j < k → rs[j]? = some r → 0 < r ∧ r < 2 ^ S.toNat) : badRoute S rs = some k := by
 unfold badRoute
 rw [List.findIdx?_eq_some_iff_getElem]
 obtain ⟨hk, hx⟩ := List.getElem?_eq_some_iff.1 hx
 refine ⟨hk, by rw [hx]; simpa using hb, fun j hj => ?_⟩
 have hj' : j < rs.length := by omega
 have := hg j _ hj (List.getElem?_eq_getElem hj')
 simp
 omega
theorem badRoute_none {S : Int} {rs : List Int} (hg : ∀ j r, j < rs.length → rs[j]? = some r → 0 < r ∧ r < 2 ^ S.toNat) : badRoute S rs = none := by
 unfold badRoute
 rw [List.findIdx?_eq_none_iff]
 intro x hx
 obtain ⟨j, hj, rfl⟩ := List.getElem_of_mem hx
 have := hg j _ hj (List.getElem?_eq_getElem hj)
 simp
 omega
theorem twice_eq {rs : List Int} {k : Nat} {x : Int} (hx : rs[k]? = some x) : twice rs k = (rs.take k).contains x := by
 unfold twice
 rw [List.getD_eq_getElem?_getD, hx]
 rfl
theorem twiceAt_some {rs : List Int} {k : Nat} (hk : k < rs.length) (h : twice rs k = true) (hg : ∀ j, j < k → twice rs j = false) : twiceAt rs = some k := by
 unfold twiceAt
 rw [List.find?_range_eq_some]
 exact ⟨h, by simpa using hk, fun j hj => by simpa using hg j hj⟩
theorem twiceAt_none {rs : List Int} (hg : ∀ j, j < rs.length → twice rs j = false) : twiceAt rs = none := by
 unfold twiceAt
 rw [List.find?_eq_none]
 intro j hj
 simpa using hg j (by simpa using hj)
theorem chk_bad {S : Int} {rs : List Int} {d : Int} {k : Nat} (h : ¬ outOf S rs.length d) (hb : badRoute S rs = some k) : chk S rs d = .place 1 k := by
 unfold chk; rw [if_neg h, hb]
theorem chk_twice {S : Int} {rs : List Int} {d : Int} {k : Nat} (h : ¬ outOf S rs.length d) (hb : badRoute S rs = none) (ht : twiceAt rs = some k) : chk S rs d = .place 9 k := by
 unfold chk; rw [if_neg h, hb, ht]
theorem chk_ok {S : Int} {rs : List Int} {d : Int} (h : ¬ outOf S rs.length d) (hb : badRoute S rs = none) (ht : twiceAt rs = none) : chk S rs d = .ok := by
 unfold chk; rw [if_neg h, hb, ht]
theorem pow_in (S : Int) (h1 : 1 ≤ S) (h2 : S ≤ 12) : wrap64 (2 ^ S.toNat) = 2 ^ S.toNat := by
 have : S = 1 ∨ S = 2 ∨ S = 3 ∨ S = 4 ∨ S = 5 ∨ S = 6 ∨ S = 7 ∨ S = 8 ∨ S = 9 ∨ S = 10 ∨ S = 11 ∨ S = 12 := by omega
 rcases this with rfl | rfl | rfl | rfl | rfl | rfl | rfl | rfl | rfl | rfl | rfl | rfl <;> decide +kernel
set_option maxHeartbeats 1000000 in
set_option maxRecDepth 100000 in
theorem check_in (S d : Int) (A : Option Addr) (c : Nat) (xs : List Int) (w : World) (hr : Reads w w.heap.size A (ints xs))
  (hc : xs.length ≤ c) (h1 : 1 ≤ S) (h2 : S ≤ 12) (h3 : 1 ≤ xs.length) (h4 : xs.length ≤ 8) (h5 : 0 ≤ d) (h6 : d ≤ 20) :
  Calls Tryz.prog 60 #[.agg #[I S, .slice A xs.length c, I d]] w (ErrPost w (chk S xs d)) := by
 have HP := Lib.hid (pow_in S h1 h2)
 have HO : Hid (¬ outOf S xs.length d) := Lib.hid (by unfold outOf; omega)
 go_enter Tryz.func60, Tryz.ntmps60
 go_wp2
 go_loop [41] (fun i => ∃ k : Nat, k ≤ xs.length ∧ i = I k ∧ Hid (∀ j r, j < k → xs[j]? = some r → 0 < r ∧ r < 2 ^ S.toNat)) (fun i => xs.length - (intOf i).toNat)
 case atStart => exact ⟨0, by omega, rfl, fun j r hj => absurd hj (by omega)⟩
 case round =>
  obtain ⟨k, hk, rfl, hno⟩ := hrel
  by_cases hlt : k < xs.length
  ·obtain ⟨x, hx⟩ := some_at xs k hlt
   obtain ⟨b, o, rfl, hb, hcell⟩ := hr.at_ hx
   have Hx := Lib.hid hx
   clear hx
   go_wp2
   ·have hbad : x ≤ 0 ∨ wrap64 (2 ^ S.toNat) ≤ x := by assumption
    rw [HP.out] at hbad
    rw [chk_bad HO.out (badRoute_some Hx.out hbad hno.out)]
    go_ret
    exact ⟨_, rfl, ⟨_, by omega, rfl, Has.new' _ _ _ _ (by simp)⟩, ((Below.refl _ _).alloc (Nat.le_refl _) _).alloc (by simp) _⟩
   ·go_round
    case rel =>
     have hgood : 0 < x ∧ x < wrap64 (2 ^ S.toNat) := by assumption
     rw [HP.out] at hgood
     refine ⟨k + 1, by omega, by go_num, fun j r hj hr => ?_⟩
     by_cases e : j = k
     ·subst e; rw [Hx.out] at hr; injection hr with hr; subst hr; exact hgood
     ·exact hno.out j r (by omega) hr
    case measure => simp [intOf]; omega
   ·have hbad : x ≤ 0 := by assumption
    rw [chk_bad HO.out (badRoute_some Hx.out (.inl hbad) hno.out)]
    go_ret
    exact ⟨_, rfl, ⟨_, by omega, rfl, Has.new' _ _ _ _ (by simp)⟩, ((Below.refl _ _).alloc (Nat.le_refl _) _).alloc (by simp) _⟩
  ·have HB := Lib.hid (badRoute_none (S := S) (rs := xs) (fun j r hj hr => hno.out j r (by omega) hr))
   clear hno
   go_wp2
   go_loop [63] (fun i => ∃ k : Nat, k ≤ xs.length ∧ i = I k ∧ Hid (∀ j, j < k → twice xs j = false)) (fun i => xs.length - (intOf i).toNat)
   case atStart => exact ⟨0, by omega, rfl, fun j hj => absurd hj (by omega)⟩
   case round =>
    obtain ⟨k, hk, rfl, hno⟩ := hrel
    by_cases hlt : k < xs.length
    ·obtain ⟨x, hx⟩ := some_at xs k hlt
     obtain ⟨b, o, rfl, hb, hcell⟩ := hr.at_ hx
     have HT : Hid (twice xs k = (xs.take k).contains x) := Lib.hid (twice_eq hx)
     clear hx
     have htk : (xs.take k).length = k := by rw [List.length_take]; omega
     have hrt : Reads w w.heap.size (some ⟨b, o, none⟩) (ints (xs.take k)) := by unfold ints; rw [List.map_take]; exact hr.take k
     have HTK := Lib.hid htk
     clear htk
     cases htw : twice xs k with
     | false =>
      have HTW := Lib.hid htw
      clear htw
      go_wp2_with (go_at_call 90; refine (contains_any _ k _ (xs.take k) x _ w.heap.size HTK.out (by rw [HTK.out]; omega) (hrt.alloc (Nat.le_refl _) _) false (by rw [← HT.out, HTW.out])).mono ?_; rintro e w' ⟨rfl, rfl⟩)
      go_round
      case rel =>
       refine ⟨k + 1, by omega, by go_num, fun j hj => ?_⟩
       by_cases e : j = k
       ·subst e; exact HTW.out
       ·exact hno.out j (by omega)
      case measure => simp [intOf]; omega
     | true =>
      have HTW := Lib.hid htw
      clear htw
      go_wp2_with (go_at_call 90; refine (contains_any _ k _ (xs.take k) x _ w.heap.size HTK.out (by rw [HTK.out]; omega) (hrt.alloc (Nat.le_refl _) _) true (by rw [← HT.out, HTW.out])).mono ?_; rintro e w' ⟨rfl, rfl⟩)
      rw [chk_twice HO.out HB.out (twiceAt_some hlt HTW.out hno.out)]
      go_ret
      exact ⟨_, rfl, ⟨_, by omega, rfl, Has.new' _ _ _ _ (by simp)⟩, ((Below.refl _ _).alloc (Nat.le_refl _) _).alloc (by simp) _⟩
    ·have HC := Lib.hid (chk_ok HO.out HB.out (twiceAt_none (fun j hj => hno.out j (by omega))))
     go_wp2
     rw [HC.out]
     go_ret
     exact ⟨_, rfl, rfl, (Below.refl _ _).alloc (Nat.le_refl _) _⟩
set_option maxHeartbeats 1000000 in
set_option maxRecDepth 100000 in
theorem check_any (S d : Int) (A : Option Addr) (c : Nat) (xs : List Int) (w : World) (hn : xs.length ≤ 9223372036854775807) (hc : xs.length ≤ c) (hr : Reads w w.heap.size A (ints xs)) :
  Calls Tryz.prog 60 #[.agg #[I S, .slice A xs.length c, I d]] w (ErrPost w (chk S xs d)) := by
 by_cases hout : outOf S xs.length d
 ·rw [chk_range hout]
  have hx : S < 1 ∨ (1 ≤ S ∧ 12 < S) ∨ (1 ≤ S ∧ S ≤ 12 ∧ xs.length < 1) ∨ (1 ≤ S ∧ S ≤ 12 ∧ 1 ≤ xs.length ∧ 8 < xs.length) ∨
    (1 ≤ S ∧ S ≤ 12 ∧ 1 ≤ xs.length ∧ xs.length ≤ 8 ∧ d < 0) ∨ (1 ≤ S ∧ S ≤ 12 ∧ 1 ≤ xs.length ∧ xs.length ≤ 8 ∧ 0 ≤ d ∧ 20 < d) := by unfold outOf at hout; omega
  clear hout
  rcases hx with h | ⟨h1, h⟩ | ⟨h1, h2, h⟩ | ⟨h1, h2, h3, h⟩ | ⟨h1, h2, h3, h4, h⟩ | ⟨h1, h2, h3, h4, h5, h⟩
  all_goals
   go_enter Tryz.func60, Tryz.ntmps60
   go_wp2
   go_ret
   exact ⟨_, rfl, rfl, (Below.refl _ _).alloc (Nat.le_refl _) _⟩
 ·unfold outOf at hout
  exact check_in S d A c xs w hr hc (by omega) (by omega) (by omega) (by omega) (by omega) (by omega)
end Go.Proofs.YtdhekhlmdefcnaaGreatDoor
namespace Go.Proofs.YtdhekhlmdefcnaaGreatDoor
open Go.RowKit
theorem check_ok (S d : Int) (A : Option Addr) (n c : Nat) (xs : List Int) (w : World) (B : Nat) (hxn : Hid (xs.length = n)) (hn : n ≤ 8) (hc : n ≤ c) (hB : B ≤ w.heap.size) (hr : Reads w B A (ints xs))
  (hok : Hid (chk S xs d = .ok)) :
  Calls Tryz.prog 60 #[.agg #[I S, .slice A n c, I d]] w fun e w' => e = .returned .nilIface ∧ Below w.heap.size w w' := by
 have h := hxn.out
 subst h
 refine (check_any S d A c xs w (by omega) hc (hr.more hB)).mono ?_
 rintro e w' ⟨v, rfl, hv, hb⟩
 rw [hok.out] at hv
 exact ⟨by rw [show v = .nilIface from hv], hb⟩
end Go.Proofs.YtdhekhlmdefcnaaGreatDoor
namespace Go.Proofs.YtdhekhlmdefcnaaGreatDoor
open Go.RowKit
theorem infoInt : (Tryz.prog.info? 3).map (fun i => (i.zero, i.size, i.bytes)) = some (some (.int .i64 0), 1, 8) := by kernel_rfl
theorem confTo_lt (rs : List Nat) (i : Nat) : ∀ k, k ≤ 8 → confTo rs i k < 2 ^ k
 | 0, _ => by simp [confTo]
 | k + 1, h => by
  have ih := confTo_lt rs i k (by omega)
  have h1 : confTo rs i k < 2 ^ (k + 1) := Nat.lt_of_lt_of_le ih (Nat.pow_le_pow_right (by decide) (by omega))
  rw [confTo]
  split
  ·refine Nat.or_lt_two_pow h1 ?_
   rw [Nat.shiftLeft_eq, Nat.one_mul]
   exact Nat.pow_lt_pow_right (by decide) (by omega)
  ·exact h1
theorem confTo_small (rs : List Nat) (i k : Nat) (hk : k ≤ 8) : confTo rs i k < 256 :=
 Nat.lt_of_lt_of_le (confTo_lt rs i k hk) (Nat.pow_le_pow_right (n := 2) (by decide) hk)
theorem shl1 (k : Nat) (h : k ≤ 8) : wrap64 (2 ^ k) = ((1 <<< k : Nat) : Int) := by
 have : k = 0 ∨ k = 1 ∨ k = 2 ∨ k = 3 ∨ k = 4 ∨ k = 5 ∨ k = 6 ∨ k = 7 ∨ k = 8 := by omega
 rcases this with rfl | rfl | rfl | rfl | rfl | rfl | rfl | rfl | rfl <;> decide +kernel
theorem shl1_lt (k : Nat) (h : k ≤ 8) : 1 <<< k < 2 ^ 63 := by
 have : k = 0 ∨ k = 1 ∨ k = 2 ∨ k = 3 ∨ k = 4 ∨ k = 5 ∨ k = 6 ∨ k = 7 ∨ k = 8 := by omega
 rcases this with rfl | rfl | rfl | rfl | rfl | rfl | rfl | rfl | rfl <;> decide
theorem getD_of {l : List Nat} {k x : Nat} (h : l[k]? = some x) : l.getD k 0 = x := by rw [List.getD_eq_getElem?_getD, h]; rfl
theorem confTo_yes {rs : List Nat} {i k r x : Nat} (hr : rs[i]? = some r) (hx : rs[k]? = some x) (hne : k ≠ i) (ha : r &&& x ≠ 0) : confTo rs i (k + 1) = confTo rs i k ||| 1 <<< k := by
 rw [confTo, getD_of hr, getD_of hx, if_pos ⟨hne, ha⟩]
theorem confTo_no {rs : List Nat} {i k r x : Nat} (hr : rs[i]? = some r) (hx : rs[k]? = some x) (h : k = i ∨ r &&& x = 0) : confTo rs i (k + 1) = confTo rs i k := by
 rw [confTo, getD_of hr, getD_of hx, if_neg (by rintro ⟨h1, h2⟩; exact h.elim h1 h2)]
theorem confs_take (rs : List Nat) (i : Nat) (h : i < rs.length) : (confs rs).take (i + 1) = (confs rs).take i ++ [conf rs i] := by
 have hl : i < (confs rs).length := by simpa [confs] using h
 rw [List.take_succ_eq_append_getElem hl]
 simp [confs]
theorem confs_length (rs : List Nat) : (confs rs).length = rs.length := by simp [confs]
set_option maxHeartbeats 2000000 in
set_option maxRecDepth 100000 in
theorem conflicts_ok (S d : Int) (A : Option Addr) (n c : Nat) (rs : List Nat) (w : World) (hxn : Hid (rs.length = n)) (h1 : 1 ≤ n) (hn : n ≤ 8) (hc : n ≤ c) (hr : Reads w w.heap.size A (ints (zs rs)))
  (hlt : Hid (∀ r ∈ rs, r < 4096)) (hok : Hid (chk S (zs rs) d = .ok)) :
  Calls Tryz.prog 97 #[.agg #[I S, .slice A n c, I d]] w fun e w' =>
   (∃ A c, e = .returned (.tuple #[.slice A n c, .nilIface]) ∧ w'.ownsRow w.heap.size 3 1 (.slice A n c) n (ints (zs (confs rs)))) ∧ Below w.heap.size w w' := by
 obtain ⟨i0, hi0, hz0, hz1, hz2⟩ := info_parts infoInt
 go_enter Tryz.func97, Tryz.ntmps97
 go_wp2_with (go_at_call 60; refine (check_ok _ _ _ _ _ (zs rs) _ w.heap.size (Lib.hid (by rw [zs_length]; exact hxn.out)) hn hc (by simp <;> omega) (hr.alloc (by simp) _) hok).mono ?_; rintro e w1 ⟨rfl, hb⟩; obtain ⟨hq, hf⟩ := bcell hb)
 have hw : Below w.heap.size w w1 := ((Below.refl _ _).alloc (Nat.le_refl _) _).trans (hb.mono (by simp))
 have k0 := (Has.new' w 51 #[I S, .slice A n c, I d] w.heap.size rfl).after hb
 clear hb hq hf
 go_loopw [5, 19] (fun v i wr => ∃ k : Nat, k ≤ n ∧ i = I k ∧ wr.ownsRow w1.heap.size 3 1 v k (ints (zs ((confs rs).take k))) ∧ Below w1.heap.size w1 wr) (fun _ i _ => n - (intOf i).toNat)
 case atStart => exact ⟨0, by omega, rfl, by simpa [ints, zs] using World.ownsRow_nil _ _ _ _, Below.refl _ _⟩
 case round =>
  obtain ⟨k, hk, rfl, hown, hwr⟩ := hrel
  have c1 := (k0.after hwr).cellv 1 _ rfl
  by_cases hlt1 : k < n
  ·obtain ⟨r, hx⟩ := some_at rs k (by rw [hxn.out]; exact hlt1)
   have hrw := (hr.below hw).below (hwr.mono hw.size)
   obtain ⟨b, o, rfl, hb, hcell⟩ := hrw.at_ (zs_some hx)
   have hr4 : r < 4096 := hlt.out r (List.mem_of_getElem? hx)
   have Hx := Lib.hid hx
   clear hx
   go_wp2_with fail
   go_loop [8, 27] (fun m j => ∃ l : Nat, l ≤ n ∧ j = I l ∧ m = I (confTo rs k l)) (fun _ j => n - (intOf j).toNat)
   case atStart => exact ⟨0, by omega, rfl, rfl⟩
   case round =>
    obtain ⟨l, hl, rfl, rfl⟩ := hrel
    by_cases hlt2 : l < n
    ·obtain ⟨x, hx⟩ := some_at rs l (by rw [hxn.out]; exact hlt2)
     obtain ⟨b', o', hA', hb', hcell'⟩ := hrw.at_ (zs_some hx)
     cases hA'
     have hx4 : x < 4096 := hlt.out x (List.mem_of_getElem? hx)
     have HX := Lib.hid hx
     clear hx
     have HM := Lib.hid (confTo_small rs k l (by omega))
     go_wp2_with fail
     ·have h0 : (l : Int) = k := by assumption
      go_round
      case rel => exact ⟨l + 1, by omega, I_eq (by omega), I_eq (by rw [confTo_no Hx.out HX.out (.inl (by omega))])⟩
      case measure => simp [intOf]; omega
     ·have h0 : ¬ (l : Int) = k := by assumption
      have h2 : ((l : Int) != (k : Int)) = true ∧ (bits .and .i64 (r : Int) (x : Int) != 0) = true := by assumption
      have h1 := h2.2
      go_round
      case rel =>
       refine ⟨l + 1, by omega, I_eq (by omega), I_eq ?_⟩
       rw [and_i64 r x (by omega) (by omega)] at h1
       have h3 : r &&& x ≠ 0 := by intro h; rw [h] at h1; simp at h1
       rw [confTo_yes Hx.out HX.out (by omega) h3, shl1 l (by omega), or_i64 _ _ (Nat.lt_trans HM.out (by decide)) (shl1_lt l (by omega))]
      case measure => simp [intOf]; omega
     ·have h0 : ¬ (l : Int) = k := by assumption
      have h2 : ((l : Int) != (k : Int)) = false ∨ (bits .and .i64 (r : Int) (x : Int) != 0) = false := by assumption
      have h1 : (bits .and .i64 (r : Int) (x : Int) != 0) = false := h2.resolve_left (by simp; omega)
      go_round
      case rel =>
       refine ⟨l + 1, by omega, I_eq (by omega), I_eq ?_⟩
       rw [and_i64 r x (by omega) (by omega)] at h1
       have h3 : r &&& x = 0 := by have := (bne_eq_false_iff_eq.1 h1); omega
       rw [confTo_no Hx.out HX.out (.inr h3)]
      case measure => simp [intOf]; omega
    ·have hln : l = n := by omega
     have HC : Hid (confTo rs k l = conf rs k) := Lib.hid (by unfold conf; rw [hxn.out, hln])
     clear hln
     go_wp2_with (at_builtin; refine wpList_append_own _ rfl _ _ 49 rfl w1.heap.size 3 i0 (.int .i64 0) 1 8 Tryz.underlying49 hi0 hz0 hz1 hz2 rfl (by decide) _ _ _ rfl (hown.alloc _) ⟨wr.heap.size, 0, none⟩ 1 1 [I (confTo rs k l)] rfl rfl ?c1 ?c2 ?c3 ?c4 ?c5 ?_)
     case c2 => rfl
     case c3 => unfold maxLen; omega
     case c4 => omega
     case c5 => have := hwr.size; omega
     intro v' w' hown' hgrow _
     have hwr' : Below w1.heap.size w1 w' := (hwr.alloc hwr.size _).grown hgrow (by have := hwr.size; simp; omega) (fun q hq => (hown.lt q hq).1)
     clear hcell hrw c1 hown
     go_wp2_with fail
     go_roundw
     case rel =>
      refine ⟨k + 1, by omega, by go_num, ?_, hwr'⟩
      have hrow : (ints (zs ((confs rs).take (k + 1)))) = ints (zs (List.take k (confs rs))) ++ [I (confTo rs k l)] := by
       rw [confs_take rs k (by rw [hxn.out]; exact hlt1), HC.out]; simp [ints, zs]
      rw [hrow]
      exact hown'
     case measure => simp [intOf]; omega
  ·have hkn : k = n := by omega
   subst hkn
   obtain ⟨A1, c1, rfl, _, -, _⟩ := own_reads hown
   go_wp2_with fail
   go_ret2
   refine ⟨⟨_, _, rfl, ?_⟩, hw.trans (hwr.mono hw.size)⟩
   have hrow : (confs rs).take k = confs rs := by rw [List.take_of_length_le (by rw [confs_length, hxn.out]; omega)]
   rw [hrow] at hown
   exact own_base hown hw.size
end Go.Proofs.YtdhekhlmdefcnaaGreatDoor
namespace Go.Proofs.YtdhekhlmdefcnaaGreatDoor
open Go.RowKit
def CoreAt (w : World) (g : Nat) (L : Lay) : Prop := ∃ vr vc, Has w g 198 #[I L.secs, vr, I L.delay, vc] ∧
 w.ownsRow 0 3 1 vr L.routes.length (ints (zs L.routes)) ∧ w.ownsRow 0 3 1 vc L.routes.length (ints (zs (confs L.routes)))
theorem CoreAt.after {w w' : World} {g : Nat} {L : Lay} (h : CoreAt w g L) (hb : Below w.heap.size w w') : CoreAt w' g L := by
 obtain ⟨vr, vc, h1, h2, h3⟩ := h
 exact ⟨vr, vc, h1.after hb, own_after h2 hb, own_after h3 hb⟩
theorem Lay.Ok.small {L : Lay} (h : L.Ok) : ∀ r ∈ L.routes, r < 4096 := fun r hr =>
 Nat.lt_of_lt_of_le (h.high r hr) (Nat.pow_le_pow_right (n := 2) (by decide) h.secs2)
theorem chk_lay {L : Lay} (h : L.Ok) : chk L.secs (zs L.routes) L.delay = .ok := by
 have h1 := h.secs1; have h2 := h.secs2; have h3 := h.many1; have h4 := h.many2; have h5 := h.delay
 refine chk_ok (by unfold outOf; rw [zs_length]; omega) (badRoute_none ?_) (twiceAt_none ?_)
 ·intro j r _ hr
  rw [zs_get] at hr
  obtain ⟨x, hx, rfl⟩ := Option.map_eq_some_iff.1 hr
  have hm := List.mem_of_getElem? hx
  have a := h.low x hm
  have b := h.high x hm
  have : ((2 ^ L.secs : Nat) : Int) = 2 ^ ((L.secs : Int).toNat) := by simp
  omega
 ·intro j hj
  rw [zs_length] at hj
  obtain ⟨x, hx⟩ := some_at L.routes j hj
  rw [twice_eq (zs_some hx), Bool.eq_false_iff]
  intro hc
  have hm : (x : Int) ∈ (zs L.routes).take j := by simpa using hc
  rw [zs, ← List.map_take, List.mem_map] at hm
  obtain ⟨y, hy, he⟩ := hm
  have hyx : y = x := by omega
  subst hyx
  obtain ⟨i, hi, hyi⟩ := List.getElem_of_mem hy
  rw [List.length_take] at hi
  rw [List.getElem_take] at hyi
  obtain ⟨_, hxj⟩ := List.getElem?_eq_some_iff.1 hx
  have := (List.getElem_inj h.apart (h₀ := by omega) (h₁ := hj)).1 (hyi.trans hxj.symm)
  omega
set_option maxHeartbeats 2000000 in
set_option maxRecDepth 100000 in
theorem new_ok (A : Option Addr) (n c : Nat) (L : Lay) (w : World) (hL : L.Ok) (hxn : Hid (L.routes.length = n)) (hc : n ≤ c) (hr : Reads w w.heap.size A (ints (zs L.routes))) :
  Calls Tryz.prog 91 #[.agg #[I L.secs, .slice A n c, I L.delay]] w fun e w' =>
   (∃ g, w.heap.size ≤ g ∧ e = .returned (.tuple #[.pointer (some ⟨g, 0, none⟩), .nilIface]) ∧ CoreAt w' g L) ∧ Below w.heap.size w w' := by
 obtain ⟨i0, hi0, hz0, hz1, hz2⟩ := info_parts infoInt
 have hn1 : 1 ≤ n := by rw [← hxn.out]; exact hL.many1
 have hn8 : n ≤ 8 := by rw [← hxn.out]; exact hL.many2
 obtain ⟨b, o, rfl, hb, hcells⟩ := hr (by intro h; have := congrArg List.length h; rw [ints_length, zs_length, hxn.out] at this; simp at this; omega)
 go_enter Tryz.func91, Tryz.ntmps91
 go_wp2_with (first | (go_at_call 97; refine (conflicts_ok _ _ _ _ _ L.routes _ hxn hn1 hn8 hc ((hr.alloc (Nat.le_refl _) _).more (by simp)) (Lib.hid hL.small) (Lib.hid (chk_lay hL))).mono ?_; rintro e w1 ⟨⟨Ac, nc, rfl, hownC⟩, hb1⟩; obtain ⟨hq, hf⟩ := bcell hb1; have hz : w.heap.size < w1.heap.size := (by have := hb1.size; simp at this; omega)) | (at_builtin; refine wpList_append_own _ rfl _ _ 49 rfl w.heap.size 3 i0 (.int .i64 0) 1 8 Tryz.underlying49 hi0 hz0 hz1 hz2 rfl (by decide) _ _ _ rfl (World.ownsRow_lit w1 #[] 0 (Nat.le_of_lt hz) (Nat.zero_le _) rfl) ⟨b, o, none⟩ n c (ints (zs L.routes)) rfl ?c1 ?c2 ?c3 ?c4 ?c5 ?c6 ?_))
 case c1 => rw [ints_length, zs_length, hxn.out, Nat.mul_one]
 case c2 => intro j u hu; rw [add_at, World.cell?_alloc_lt _ _ _ (by show b < _; omega), hq _ _ (by simp; omega), World.cell?_alloc_lt _ _ _ hb]; exact hcells j u hu
 case c3 => intro u hu; simp only [ints, List.mem_map] at hu; obtain ⟨x, _, rfl⟩ := hu; rfl
 case c4 => unfold maxLen; omega
 case c5 => omega
 case c6 => simp; omega
 intro v' w2 hown2 hg2 _
 obtain ⟨A2, d2, rfl, hnd2, -, _⟩ := own_reads hown2
 have k0 : Has w2 w.heap.size 51 #[I L.secs, .slice (some ⟨b, o, none⟩) n c, I L.delay] :=
  (((Has.new' w 51 #[I L.secs, .slice (some ⟨b, o, none⟩) n c, I L.delay] w.heap.size rfl).after hb1).alloc _).grown hg2 (by simp [Value.ownBlock]; omega)
 have hw2 : Below w1.heap.size w1 w2 := ((Below.refl _ _).alloc (Nat.le_refl _) _).grown hg2 (by simp) (fun q hq => by simp [Value.ownBlock] at hq; omega)
 have hw02 : Below w.heap.size w w2 := (((Below.refl _ _).alloc (Nat.le_refl _) _).trans (hb1.mono (by simp))).trans (hw2.mono (by omega))
 have hownC2 := own_after hownC hw2
 have c00 := k0.cellv 0 _ rfl
 have c01 := k0.cellv 1 _ rfl
 have c02 := k0.cellv 2 _ rfl
 have f01 := k0.free 1
 have hz2 : w.heap.size < w2.heap.size := k0.lt
 clear hq hf
 go_wp2_with fail
 go_ret2
 have e0 := hxn.out
 refine ⟨⟨_, ?_, rfl, .slice A2 n d2, .slice Ac n nc, Has.new' _ _ _ _ (by simp), ?_, ?_⟩, (hw02.setCell (Nat.le_refl _) _).alloc (by simp; omega) _⟩
 ·exact Nat.le_of_lt hz2
 ·rw [e0]; exact own_base ((own_far hown2 k0 (by decide) 1 _).alloc _) (Nat.zero_le _)
 ·rw [e0]; exact own_base ((own_far hownC2 k0 (by decide) 1 _).alloc _) (Nat.zero_le _)
end Go.Proofs.YtdhekhlmdefcnaaGreatDoor
namespace Go.Proofs.YtdhekhlmdefcnaaGreatDoor
open Go.RowKit
theorem ints_one (l : List Int) : ∀ u ∈ ints l, u.oneCell' = true := by
 intro u hu
 simp only [ints, List.mem_map] at hu
 obtain ⟨x, _, rfl⟩ := hu
 rfl
end Go.Proofs.YtdhekhlmdefcnaaGreatDoor
namespace Go.Proofs.YtdhekhlmdefcnaaGreatDoor
end Go.Proofs.YtdhekhlmdefcnaaGreatDoor
namespace Go.Proofs.YtdhekhlmdefcnaaGreatDoor
open Go.RowKit
def pop (x : Nat) : Nat := ((List.range 8).filter fun i => x.testBit i).length
set_option maxHeartbeats 1000000 in
theorem ones_any (x : Nat) (hx : x < 256) (w : World) : Calls Tryz.prog 180 #[.int .u64 x] w fun e w' => e = .returned (I (pop x)) ∧ w = w' := by
 go_enter Tryz.func180, Tryz.ntmps180
 go_wp2
 go_ret
 refine ⟨congrArg (fun z => Ending.returned (.int .i64 z)) ?_, rfl⟩
 clear w
 revert x
 decide +kernel
theorem onesCount_any (x : Nat) (hx : x < 256) (w : World) : Calls Tryz.prog 141 #[.int .u64 x] w fun e w' => e = .returned (I (pop x)) ∧ w = w' := by
 go_enter Tryz.func141, Tryz.ntmps141
 go_wp2_with (go_at_call 180; refine (ones_any x hx _).mono ?_; rintro e w' ⟨rfl, rfl⟩)
 go_ret
 exact ⟨rfl, rfl⟩
end Go.Proofs.YtdhekhlmdefcnaaGreatDoor
namespace Go.Proofs.YtdhekhlmdefcnaaGreatDoor
open Go.RowKit
def dbTab : List Nat := [0, 1, 56, 2, 57, 49, 28, 3, 61, 58, 42, 50, 38, 29, 17, 4, 62, 47, 59, 36, 45, 43, 51, 22, 53, 39, 33, 30, 24, 18, 12, 5, 63, 55, 48, 27, 60, 41, 37, 16, 46, 35, 44, 21, 52, 32, 23, 11, 54, 26, 40, 15, 34, 20, 31, 10, 25, 14, 19, 9, 13, 8, 7, 6]
def TabIs (w : World) : Prop := ∀ (j v : Nat), dbTab[j]? = some v → w.cell? ⟨8, j, none⟩ = some (.int .u8 v)
def ctz (x : Nat) : Nat := ((List.range 8).find? fun i => x.testBit i).getD 8
theorem dbIdx : ∀ x : Nat, x < 256 → 0 < x → 0 ≤ IntKind.u64.wrap (bits .and .u64 (x : Int) (IntKind.u64.wrap (-(x : Int))) * 285870213051353865) / 288230376151711744 ∧ IntKind.u64.wrap (bits .and .u64 (x : Int) (IntKind.u64.wrap (-(x : Int))) * 285870213051353865) / 288230376151711744 < 64 ∧ dbTab[(IntKind.u64.wrap (bits .and .u64 (x : Int) (IntKind.u64.wrap (-(x : Int))) * 285870213051353865) / 288230376151711744).toNat]? = some (ctz x) := by decide +kernel
theorem ctz_lt : ∀ x : Nat, x < 256 → 0 < x → ctz x < 8 := by decide +kernel
set_option maxHeartbeats 1000000 in
theorem ctz64_any (x : Nat) (h0 : 0 < x) (hx : x < 256) (w : World) (hT : TabIs w) : Calls Tryz.prog 178 #[.int .u64 x] w fun e w' => e = .returned (I (ctz x)) ∧ w = w' := by
 have t0 : ((x : Int) == 0) = false := by simp; omega
 obtain ⟨i1, i2, i3⟩ := dbIdx x hx h0
 have hc := hT _ _ i3
 have hz : wrap64 ((ctz x : Nat) : Int) = ctz x := IntWalk.wrap64_in _ (by have := ctz_lt x hx h0; omega)
 have HZ := Lib.hid hz
 clear i3 hT hz
 go_enter Tryz.func178, Tryz.ntmps178
 go_wp2
 go_ret
 exact ⟨congrArg (fun z => Ending.returned (.int .i64 z)) HZ.out, rfl⟩
theorem trailing_any (x : Nat) (h0 : 0 < x) (hx : x < 256) (w : World) (hT : TabIs w) : Calls Tryz.prog 140 #[.int .u64 x] w fun e w' => e = .returned (I (ctz x)) ∧ w = w' := by
 go_enter Tryz.func140, Tryz.ntmps140
 go_wp2_with (go_at_call 178; refine (ctz64_any x h0 hx _ hT).mono ?_; rintro e w' ⟨rfl, rfl⟩)
 go_ret
 exact ⟨rfl, rfl⟩
def okSet (cs : List Nat) (set : Nat) : Bool := (List.range 8).all fun i => !set.testBit i || decide (cs.getD i 0 &&& set = 0)
def okBut (cs : List Nat) (set m : Nat) : Bool := (List.range 8).all fun i => !(set.testBit i && !m.testBit i) || decide (cs.getD i 0 &&& set = 0)
def bestTo (cs : List Nat) : Nat → Nat
 | 0 => 0
 | k + 1 => if okSet cs k then max (bestTo cs k) (pop k) else bestTo cs k
theorem clr_bit : ∀ m : Nat, m < 256 → 0 < m → ∀ i, i < 8 → (m &&& (m - 1)).testBit i = (m.testBit i && decide (i ≠ ctz m)) := by decide +kernel
theorem ctz_bit : ∀ m : Nat, m < 256 → 0 < m → m.testBit (ctz m) = true := by decide +kernel
theorem clr_less (m : Nat) (h : 0 < m) : m &&& (m - 1) < m := Nat.lt_of_le_of_lt Nat.and_le_right (by omega)
theorem okBut_self (cs : List Nat) (set : Nat) : okBut cs set set = true := by
 unfold okBut
 rw [List.all_eq_true]
 intro i _
 cases set.testBit i <;> rfl
theorem okBut_zero (cs : List Nat) (set : Nat) : okBut cs set 0 = okSet cs set := by
 unfold okBut okSet
 congr 1
 funext i
 simp
theorem okBut_step {cs : List Nat} {set m : Nat} (hm : m < 256) (h0 : 0 < m) (hs : ∀ i, m.testBit i = true → set.testBit i = true) :
  okBut cs set (m &&& (m - 1)) = (okBut cs set m && decide (cs.getD (ctz m) 0 &&& set = 0)) := by
 have hz := ctz_lt m hm h0
 rw [Bool.eq_iff_iff]
 unfold okBut
 simp only [List.all_eq_true, List.mem_range, Bool.and_eq_true, decide_eq_true_eq]
 constructor
 ·intro h
  refine ⟨fun i hi => ?_, ?_⟩
  ·have := h i hi
   rw [clr_bit m hm h0 i hi] at this
   cases hsb : set.testBit i <;> cases hmb : m.testBit i <;> simp_all
  ·have := h (ctz m) hz
   rw [clr_bit m hm h0 _ hz, hs _ (ctz_bit m hm h0)] at this
   simpa using this
 ·rintro ⟨h1, h2⟩ i hi
  have := h1 i hi
  rw [clr_bit m hm h0 i hi]
  by_cases e : i = ctz m
  ·subst e
   rw [decide_eq_true h2, Bool.or_true]
  ·simpa [e] using this
theorem bestTo_le (cs : List Nat) (k : Nat) : bestTo cs k ≤ 8 := by
 induction k with
 | zero => simp [bestTo]
 | succ k ih =>
  rw [bestTo]
  have : pop k ≤ 8 := by
   unfold pop
   exact Nat.le_trans (List.length_filter_le _ _) (by simp)
  split
  ·omega
  ·exact ih
theorem and_pred (m : Nat) (h : 0 < m) (hm : m < 256) : bits .and .i64 (m : Int) ((m : Int) - 1) = ((m &&& (m - 1) : Nat) : Int) := by
 have : (m : Int) - 1 = ((m - 1 : Nat) : Int) := by omega
 rw [this, and_i64 _ _ (by omega) (by omega)]
end Go.Proofs.YtdhekhlmdefcnaaGreatDoor
namespace Go.Proofs.YtdhekhlmdefcnaaGreatDoor
open Go.RowKit
set_option maxHeartbeats 4000000 in
set_option maxRecDepth 100000 in
theorem most_ok (S d : Int) (A : Option Addr) (n c : Nat) (rs : List Nat) (w : World) (hxn : Hid (rs.length = n)) (h1 : 1 ≤ n) (hn : n ≤ 8) (hc : n ≤ c) (hr : Reads w w.heap.size A (ints (zs rs)))
  (hlt : Hid (∀ r ∈ rs, r < 4096)) (hok : Hid (chk S (zs rs) d = .ok)) (hT : Hid (TabIs w)) (hg : 8 < w.heap.size) :
  Calls Tryz.prog 105 #[.agg #[I S, .slice A n c, I d]] w fun e w' => e = .returned (.tuple #[I (bestTo (confs rs) (2 ^ n)), .nilIface]) ∧ Below w.heap.size w w' := by
 have hp := Lib.hid (shl1 n hn)
 go_enter Tryz.func105, Tryz.ntmps105
 go_wp2_with (go_at_call 97; refine (conflicts_ok _ _ _ _ _ rs _ hxn h1 hn hc ((hr.alloc (Nat.le_refl _) _).more (by simp)) hlt hok).mono ?_; rintro e w1 ⟨⟨Ac, nc, rfl, hown⟩, hb1⟩; obtain ⟨hq, hf⟩ := bcell hb1)
 have hw : Below w.heap.size w w1 := ((Below.refl _ _).alloc (Nat.le_refl _) _).trans (hb1.mono (by simp))
 have HT : Hid (TabIs w1) := Lib.hid (fun j v h => (hw.cell (p := ⟨8, j, none⟩) hg).trans (hT.out j v h))
 obtain ⟨_, _, he, hcc, -, hrc⟩ := own_reads hown
 injection he with e1 _ e3
 subst e1
 subst e3
 have hP : Hid ((2 : Nat) ^ n ≤ 256) := Lib.hid (Nat.pow_le_pow_right (n := 2) (by decide) hn)
 clear hq hf hb1 hown
 have e : wrap64 (2 ^ n) = ((2 ^ n : Nat) : Int) := by rw [shl1 n hn, Nat.shiftLeft_eq, Nat.one_mul]
 generalize wrap64 (2 ^ n) = z at *
 subst e
 clear hp
 generalize hNe : (2 : Nat) ^ n = N at *
 have hN2 : Hid ((2 : Nat) ^ n = N) := Lib.hid hNe
 clear hNe
 have hN := hP.out
 go_loop [6, 22] (fun b i => ∃ k : Nat, k ≤ N ∧ i = I k ∧ b = I (bestTo (confs rs) k)) (fun _ i => N - (intOf i).toNat)
 case atStart => exact ⟨0, by omega, rfl, rfl⟩
 case round =>
  obtain ⟨k, hk, rfl, rfl⟩ := hrel
  by_cases hlt1 : k < N
  ·go_wp2_with fail
   go_loop [8, 9] (fun o m => ∃ q : Nat, q ≤ k ∧ m = I q ∧ o = .bool (okBut (confs rs) k q) ∧ Hid (∀ i, q.testBit i = true → k.testBit i = true)) (fun _ m => (intOf m).toNat)
   case atStart => exact ⟨k, Nat.le_refl _, rfl, by rw [okBut_self], fun _ h => h⟩
   case round =>
    obtain ⟨q, hq, rfl, rfl, hsub⟩ := hrel
    by_cases h0 : 0 < q
    ·have hz := ctz_lt q (by omega) h0
     have HS := Lib.hid (okBut_step (cs := confs rs) (set := k) (m := q) (by omega) h0 hsub.out)
     have HA := Lib.hid (and_pred q h0 (by omega))
     have hcl := clr_less q h0
     have HB : Hid (∀ i, (q &&& (q - 1)).testBit i = true → k.testBit i = true) := Lib.hid (fun i hi => hsub.out i (by rw [Nat.testBit_and] at hi; simp at hi; exact hi.1))
     have tq : ((q : Int) != 0) = true := by simp; omega
     cases hok : okBut (confs rs) k q with
     | false =>
      go_wp2_with fail
      go_round
      case rel => exact ⟨q &&& (q - 1), by omega, I_eq HA.out, by rw [HS.out, hok]; rfl, HB⟩
      case measure =>
       have e := HA.out
       simp only [intOf, e]
       omega
     | true =>
      have hcn : ctz q < n := by
       have hb := ctz_bit q (by omega) h0
       rcases Nat.lt_or_ge (ctz q) n with h | h
       ·exact h
       ·have : q < 2 ^ ctz q := Nat.lt_of_lt_of_le (by omega : q < N) (by rw [← hN2.out]; exact Nat.pow_le_pow_right (by decide) h)
        rw [Nat.testBit_lt_two_pow this] at hb
        cases hb
      obtain ⟨x, hx⟩ := some_at (confs rs) (ctz q) (by rw [confs_length, hxn.out]; exact hcn)
      have hx256 : x < 256 := by
       have hx' := hx
       unfold confs at hx'
       rw [List.getElem?_map] at hx'
       obtain ⟨j, _, rfl⟩ := Option.map_eq_some_iff.1 hx'
       exact confTo_small _ _ _ (by rw [hxn.out]; exact hn)
      obtain ⟨bb, oo, rfl, hbb, hcell⟩ := hrc.at_ (zs_some hx)
      have HX := Lib.hid (getD_of hx)
      have tA : (bits .and .i64 (x : Int) (k : Int) == 0) = decide (x &&& k = 0) := by
       rw [and_i64 x k (by omega) (by omega)]
       by_cases h : x &&& k = 0
       ·simp [h]
       ·simp [h]
      have TA := Lib.hid tA
      clear hx tA
      go_wp2_with (go_at_call 140; refine (trailing_any q h0 (by omega) _ HT.out).mono ?_; rintro e w' ⟨rfl, rfl⟩)
      go_round
      case rel =>
       refine ⟨q &&& (q - 1), by omega, I_eq HA.out, ?_, HB⟩
       have e := TA.out
       rw [HS.out, hok, HX.out, Bool.true_and, ← e]
      case measure =>
       have e := HA.out
       simp only [intOf, e]
       omega
    ·have hq0 : q = 0 := by omega
     subst hq0
     have HO : Hid (okBut (confs rs) k 0 = okSet (confs rs) k) := Lib.hid (okBut_zero _ _)
     have e := HO.out
     rw [e]
     clear e
     have hpop : pop k ≤ 8 := by unfold pop; exact Nat.le_trans (List.length_filter_le _ _) (by simp)
     have hbl := bestTo_le (confs rs) k
     have HL : Hid (bestTo (confs rs) (k + 1) = if okSet (confs rs) k then max (bestTo (confs rs) k) (pop k) else bestTo (confs rs) k) := rfl
     cases hos : okSet (confs rs) k with
     | false =>
      go_wp2_with fail
      go_round
      case rel => exact ⟨k + 1, by omega, by go_num, by rw [HL.out, hos]; rfl⟩
      case measure => simp [intOf]; omega
     | true =>
      go_wp2_with (go_at_call 141; refine (onesCount_any k (by omega) _).mono ?_; rintro e w' ⟨rfl, rfl⟩)
      go_round
      case rel =>
       refine ⟨k + 1, by omega, by go_num, I_eq ?_⟩
       rw [HL.out, hos, if_pos rfl]
       split <;> omega
      case measure => simp [intOf]; omega
  ·go_wp2_with fail
   go_ret2
   have hkN : k = N := by omega
   exact ⟨by rw [hkN, ← hN2.out]; rfl, hw⟩
end Go.Proofs.YtdhekhlmdefcnaaGreatDoor
