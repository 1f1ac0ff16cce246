/- Part 17 of the proof: RefCheck, RefFit, RefConf, RefMost, IsAt. -/
import Derived.Test.YtdhekhlmdefcnaaDoorPart9
import Derived.Test.YtdhekhlmdefcnaaDoorPart15
import Derived.Test.YtdhekhlmdefcnaaDoorPart16
import Derived.Test.YtdhekhlmdefcnaaDoorPart12
import Derived.Test.YtdhekhlmdefcnaaDoorPart3
import Derived.Test.YtdhekhlmdefcnaaDoorPart13
import Derived.Test.YtdhekhlmdefcnaaDoorPart7
/- The reference's Check. -/
namespace Go.Proofs.YtdhekhlmdefcnaaDoor
open Go.RowKit
/-- a fault as a value -/
def faultC : Err → Array Value
  | .ok => #[I 0, I (-1)]
  | .bare e => #[I e, I (-1)]
  | .place e p => #[I e, I (p : Int)]
theorem inR_true {n a b : Int} (h1 : a ≤ n) (h2 : n ≤ b) : inR n a b = true := by unfold inR; simp [h1, h2]
theorem inR_false {n a b : Int} (h : n < a ∨ b < n) : inR n a b = false := by unfold inR; simp; omega
theorem infoFault : (Tryd.prog.info? 95).map (·.size) = some 2 := by kernel_rfl
theorem ret_fault {fn : Func} {p : Tmp} (h : fn.results = #[.cell p 95]) (tmps : Array Value) (w : World) (g : Nat) (cs : Array Value) (hp : tmps.getD p undef = .pointer (some ⟨g, 0, none⟩)) (hg : Has w g 95 cs) (hs : cs.size = 2) :
    (results fn tmps).run Tryd.prog w = .ok (.agg cs) w := by
  exact results_cell_row h _ _ g _ cs _ _ hp hg Tryd.underlying95 rfl (by rw [hs]; exact infoFault)
theorem fault_size (r : Err) : (faultC r).size = 2 := by cases r <;> rfl
set_option maxHeartbeats 2000000 in
theorem refCheck_out (S d : Int) (A : Option Addr) (n c : Nat) (w : World) (h : outOf S n d) :
    Calls Tryd.prog 42 #[.agg #[I S, .slice A n c, I d]] w fun e w' => e = .returned (.agg #[I 2, I (-1)]) ∧ Below w.heap.size w w' := by
  have hb : Below w.heap.size w ((w.alloc (.cells #[I S, .slice A n c, I d] 25)).alloc (.cells #[I 0, I 0] 95)) := ((Below.refl _ _).alloc (Nat.le_refl _) _).alloc (by simp) _
  have k0 := (Has.new w 25 #[I S, .slice A n c, I d]).alloc (.cells #[I 0, I 0] 95)
  have k1 := Has.new' (w.alloc (.cells #[I S, .slice A n c, I d] 25)) 95 #[I 0, I 0] (w.heap.size + 1) (by simp)
  have hx : inR S 1 12 = false ∨ (inR S 1 12 = true ∧ inR n 1 8 = false) ∨ (inR S 1 12 = true ∧ inR n 1 8 = true ∧ inR d 0 20 = false) := by
    unfold outOf at h
    by_cases h1 : 1 ≤ S ∧ S ≤ 12
    · by_cases h2 : 1 ≤ n ∧ n ≤ 8
      · exact .inr (.inr ⟨inR_true h1.1 h1.2, inR_true (by omega) (by omega), inR_false (by omega)⟩)
      · exact .inr (.inl ⟨inR_true h1.1 h1.2, inR_false (by omega)⟩)
    · exact .inl (inR_false (by omega))
  clear h
  rcases hx with h1 | ⟨h1, h2⟩ | ⟨h1, h2, h3⟩
  all_goals
    go_enter Tryd.func42, Tryd.ntmps42
    go_upto_region 1 with fail
    generalize (w.alloc (.cells #[I S, .slice A n c, I d] 25)).alloc (.cells #[I 0, I 0] 95) = w1 at *
    have hl := k1.lt
    generalize hG : w.heap.size = g0 at *
    have HG := Lib.hid hG
    clear hG
    have c0 := k0.cellv 0 _ rfl
    have c1 := k0.cellv 1 _ rfl
    have c2 := k0.cellv 2 _ rfl
    go_upto_region 2 with (go_at_call 78; refine (in_any _ _ _ _).mono ?_; rintro e w9 ⟨rfl, rfl⟩)
    clear c0 c1 c2
    go_wp2_with (go_at_call 58; refine (bare_ref 2 _).mono ?_; rintro e w2 ⟨rfl, hb2⟩; have k2 := k1.after hb2; have f0 := k2.free 0; have f1 := k2.free 1; have e0 := k2.cellv 0 _ rfl; have e1 := k2.cellv 1 _ rfl)
    have hb9 : Below g0 w _ := ((hb.trans (hb2.mono (by omega))).setCell (p := ⟨g0 + 1, 0, none⟩) (Nat.le_succ _) (I 2)).setCell (p := ⟨g0 + 1, 1, none⟩) (Nat.le_succ _) (I (-1))
    exact bodyPost_ret (ret_fault rfl _ _ (g0 + 1) #[I 2, I (-1)] rfl ((k2.set 0 (I 2)).set 1 (I (-1))) rfl) rfl ⟨rfl, HG.out ▸ hb9⟩
theorem badRoute_some2 {S : Int} {rs : List Int} {k : Nat} {x : Int} (hx : rs[k]? = some x) (hb : ¬ (1 ≤ x ∧ x ≤ 2 ^ S.toNat - 1)) (hg : ∀ j r, j < k → rs[j]? = some r → 0 < r ∧ r < 2 ^ S.toNat) : badRoute S rs = some k :=
  badRoute_some hx (by omega) hg
theorem twice_some {rs : List Int} {i k : Nat} {x : Int} (h1 : rs[i]? = some x) (h2 : rs[k]? = some x) (hk : k < i) : twice rs i = true := by
  rw [twice_eq h1, List.contains_iff_mem]
  have : (rs.take i)[k]? = some x := by rw [List.getElem?_take, if_pos hk, h2]
  exact List.mem_of_getElem? this
theorem twice_none {rs : List Int} {i : Nat} {x : Int} (h1 : rs[i]? = some x) (h : ∀ j, j < i → rs[j]? ≠ some x) : twice rs i = false := by
  rw [twice_eq h1]
  rw [Bool.eq_false_iff]
  intro hc
  rw [List.contains_iff_mem] at hc
  obtain ⟨j, hj, hjx⟩ := List.getElem_of_mem hc
  have hj2 : j < i := by rw [List.length_take] at hj; omega
  refine h j hj2 ?_
  rw [List.getElem_take] at hjx
  rw [← hjx]
  exact List.getElem?_eq_getElem _
set_option maxHeartbeats 4000000 in
set_option maxRecDepth 100000 in
theorem refCheck_in (S d : Int) (A : Option Addr) (n c : Nat) (xs : List Int) (w : World) (hn : Hid (xs.length = n)) (hr : Reads w w.heap.size A (ints xs))
    (h1 : 1 ≤ S) (h2 : S ≤ 12) (h3 : 1 ≤ n) (h4 : n ≤ 8) (h5 : 0 ≤ d) (h6 : d ≤ 20) :
    Calls Tryd.prog 42 #[.agg #[I S, .slice A n c, I d]] w fun e w' => e = .returned (.agg (faultC (chk S xs d))) ∧ Below w.heap.size w w' := by
  have HO : Hid (¬ outOf S xs.length d) := Lib.hid (by unfold outOf; rw [hn.out]; omega)
  have hb : Below w.heap.size w ((w.alloc (.cells #[I S, .slice A n c, I d] 25)).alloc (.cells #[I 0, I 0] 95)) := ((Below.refl _ _).alloc (Nat.le_refl _) _).alloc (by simp) _
  have k0 := (Has.new w 25 #[I S, .slice A n c, I d]).alloc (.cells #[I 0, I 0] 95)
  have k1 := Has.new' (w.alloc (.cells #[I S, .slice A n c, I d] 25)) 95 #[I 0, I 0] (w.heap.size + 1) (by simp)
  have hr1 := hr.below hb
  have i1 : inR S 1 12 = true := inR_true h1 h2
  have i2 : inR (n : Int) 1 8 = true := inR_true (by omega) (by omega)
  have i3 : inR d 0 20 = true := inR_true h5 h6
  clear hr
  go_enter Tryd.func42, Tryd.ntmps42
  go_upto_region 1 with fail
  generalize (w.alloc (.cells #[I S, .slice A n c, I d] 25)).alloc (.cells #[I 0, I 0] 95) = w1 at *
  have hl := k1.lt
  generalize hG : w.heap.size = g0 at *
  have HG := Lib.hid hG
  clear hG
  have c0 := k0.cellv 0 _ rfl
  have c1 := k0.cellv 1 _ rfl
  have c2 := k0.cellv 2 _ rfl
  go_upto_region 3 with (go_at_call 78; refine (in_any _ _ _ _).mono ?_; rintro e w9 ⟨rfl, rfl⟩)
  clear i1 i2 i3 c2
  obtain ⟨s, hs⟩ : ∃ s : Nat, S = (s : Int) := ⟨S.toNat, by omega⟩
  subst hs
  have hs12 : s ≤ 12 := by omega
  go_wp2_with fail
  go_loop [3, 28] (fun t i => ∃ k : Nat, k ≤ s ∧ i = I k ∧ ∃ p : Nat, p ≤ 4096 ∧ t = I (p : Int) ∧ Hid (p = 2 ^ k)) (fun _ i => s - (intOf i).toNat)
  case atStart => exact ⟨0, by omega, rfl, 1, by omega, rfl, Lib.hid rfl⟩
  case round =>
    obtain ⟨k, hk, rfl, p, hp, rfl, HP⟩ := hrel
    by_cases hlt : k < s
    · have HPP : Hid (p * 2 = 2 ^ (k + 1)) := Lib.hid (by rw [HP.out, Nat.pow_succ])
      have hp2 : p * 2 ≤ 4096 := by rw [HPP.out]; exact two_pow_small (k + 1) (by omega)
      go_wp2_with fail
      go_round
      case rel => exact ⟨k + 1, by omega, by go_num, p * 2, hp2, I_eq (by omega), HPP⟩
      case measure => simp [intOf]; omega
    · have hks : k = s := by omega
      subst hks
      have HP2 : Hid (((p : Nat) : Int) = 2 ^ (k : Int).toNat) := Lib.hid (by rw [HP.out]; simp)
      have hp0 : 1 ≤ p := by rw [HP.out]; exact Nat.one_le_two_pow
      clear hlt
      go_wp2_with fail
      go_loop [36] (fun i => ∃ k1 : Nat, k1 ≤ n ∧ i = I k1 ∧ Hid (∀ j r, j < k1 → xs[j]? = some r → 0 < r ∧ r < 2 ^ (k : Int).toNat)) (fun i => n - (intOf i).toNat)
      case atStart => exact ⟨0, by omega, rfl, Lib.hid (fun j r hj => absurd hj (by omega))⟩
      case round =>
        obtain ⟨j, hj, rfl, hno⟩ := hrel
        by_cases hlt : j < n
        · obtain ⟨x, hx⟩ := some_at xs j (by rw [hn.out]; exact hlt)
          obtain ⟨b, o, rfl, hbb, hcell⟩ := hr1.at_ hx
          have Hx := Lib.hid hx
          clear hx
          by_cases hgd : 1 ≤ x ∧ x ≤ 2 ^ (k : Int).toNat - 1
          · have HGD := Lib.hid hgd
            have i4 : inR x 1 ((p : Int) - 1) = true := inR_true hgd.1 (by have := HP2.out; omega)
            clear hgd
            go_wp2_with (go_at_call 78; refine (in_any _ _ _ _).mono ?_; rintro e w9 ⟨rfl, rfl⟩)
            go_round
            case rel =>
              refine ⟨j + 1, by omega, by go_num, Lib.hid (fun i r hi hr => ?_)⟩
              by_cases e : i = j
              · subst e; rw [Hx.out] at hr; injection hr with hr; subst hr; have := HGD.out; omega
              · exact hno.out i r (by omega) hr
            case measure => simp [intOf]; omega
          · have i4 : inR x 1 ((p : Int) - 1) = false := inR_false (by have := HP2.out; omega)
            have HB := Lib.hid (chk_bad HO.out (badRoute_some2 Hx.out hgd hno.out))
            have f0 := k1.free 0
            have f1 := k1.free 1
            have e0 := k1.cellv 0 _ rfl
            have e1 := k1.cellv 1 _ rfl
            clear hgd
            go_wp2_with (go_at_call 78; refine (in_any _ _ _ _).mono ?_; rintro e w9 ⟨rfl, rfl⟩)
            have hb9 : Below g0 w _ := (hb.setCell (p := ⟨g0 + 1, 0, none⟩) (Nat.le_succ _) (I 1)).setCell (p := ⟨g0 + 1, 1, none⟩) (Nat.le_succ _) (I (j : Int))
            exact bodyPost_ret (ret_fault rfl _ _ (g0 + 1) #[I 1, I (j : Int)] rfl ((k1.set 0 (I 1)).set 1 (I (j : Int))) rfl) rfl ⟨by rw [HB.out]; rfl, HG.out ▸ hb9⟩
        · have HB := Lib.hid (badRoute_none (S := (k : Int)) (rs := xs) (fun i r hi hr => hno.out i r (by rw [hn.out] at hi; omega) hr))
          have hjn : j = n := by omega
          subst hjn
          clear hno hlt
          go_wp2_with fail
          go_loopw [52] (fun i wx => ∃ k1 : Nat, k1 ≤ j ∧ i = I k1 ∧ Hid (∀ j, j < k1 → twice xs j = false) ∧ ∃ q, w1.drewN q = wx) (fun i _ => j - (intOf i).toNat)
          case atStart => exact ⟨0, by omega, rfl, Lib.hid (fun j hj => absurd hj (by omega)), 0, rfl⟩
          case round =>
            obtain ⟨i, hi, rfl, hno, q0, rfl⟩ := hrel
            by_cases hlt : i < j
            · obtain ⟨x, hx⟩ := some_at xs i (by rw [hn.out]; exact hlt)
              obtain ⟨b, o, rfl, hbb, hcell⟩ := hr1.at_ hx
              have Hx := Lib.hid hx
              clear hx
              go_wp2_with fail
              go_loopw [56] (fun v wx => ∃ m : Nat, m ≤ i ∧ v = I m ∧ Hid (∀ j, j < m → xs[j]? ≠ some x) ∧ ∃ q, w1.drewN q = wx) (fun v _ => i - (intOf v).toNat)
              case atStart => exact ⟨0, by omega, rfl, Lib.hid (fun j hj => absurd hj (by omega)), q0, rfl⟩
              case round =>
                obtain ⟨m, hm, rfl, hne, q, rfl⟩ := hrel
                by_cases hlt2 : m < i
                · obtain ⟨y, hy⟩ := some_at xs m (by rw [hn.out]; omega)
                  have hcell2 : w1.cell? ⟨b, o + m, none⟩ = some (I y) := by
                    obtain ⟨b2, o2, e2, _, h2⟩ := hr1.at_ hy
                    injection e2 with e2
                    injection e2 with e3 e4
                    subst e3 e4
                    exact h2
                  have Hy := Lib.hid hy
                  clear hy
                  by_cases hxy : x = y
                  · subst hxy
                    have ht : (x == x) = true := by simp
                    have HT := Lib.hid (chk_twice HO.out HB.out (twiceAt_some (by rw [hn.out]; exact hlt) (twice_some Hx.out Hy.out hlt2) hno.out))
                    have f0 := k1.free 0
                    have f1 := k1.free 1
                    have e0 := k1.cellv 0 _ rfl
                    have e1 := k1.cellv 1 _ rfl
                    go_upto_region 20 with fail
                    go_quiet (fail)
                    go_wp2_with fail
                    refine bodyPost_ret (ret_fault rfl _ _ (g0 + 1) #[I 9, I (i : Int)] rfl (((k1.drewN _).set 0 (I 9)).set 1 (I (i : Int))) rfl) rfl ⟨by rw [HT.out]; rfl, ?_⟩
                    rw [HG.out]
                    exact ((below_drewN hb _).setCell (p := ⟨g0 + 1, 0, none⟩) (Nat.le_succ _) (I 9)).setCell (p := ⟨g0 + 1, 1, none⟩) (Nat.le_succ _) (I (i : Int))
                  · have ht : (x == y) = false := by simpa using hxy
                    have HXY := Lib.hid hxy
                    clear hxy
                    go_upto_region 20 with fail
                    go_quiet (fail)
                    go_wp2_with fail
                    go_roundw
                    case rel =>
                      refine ⟨m + 1, by omega, by go_num, Lib.hid (fun a ha => ?_), _, rfl⟩
                      by_cases e : a = m
                      · subst e; rw [Hy.out]; intro h; injection h with h; exact HXY.out h.symm
                      · exact hne.out a (by omega)
                    case measure => simp [intOf]; omega
                · have hmi : m = i := by omega
                  subst hmi
                  have HTW := Lib.hid (twice_none Hx.out hne.out)
                  go_wp2_with fail
                  go_roundw
                  case rel =>
                    refine ⟨m + 1, by omega, by go_num, Lib.hid (fun a ha => ?_), _, rfl⟩
                    by_cases e : a = m
                    · subst e; exact HTW.out
                    · exact hno.out a (by omega)
                  case measure => simp [intOf]; omega
            · have hij : i = j := by omega
              subst hij
              have HC := Lib.hid (chk_ok HO.out HB.out (twiceAt_none (fun j hj => hno.out j (by rw [hn.out] at hj; omega))))
              clear hno hlt
              go_wp2_with (go_at_call 58; refine (bare_ref 0 _).mono ?_; rintro e w2 ⟨rfl, hb2⟩; have k2 := (k1.drewN q0).after hb2; have f0 := k2.free 0; have f1 := k2.free 1; have e0 := k2.cellv 0 _ rfl; have e1 := k2.cellv 1 _ rfl)
              have hb9 : Below g0 w _ := (((below_drewN hb q0).trans (hb2.mono (by show g0 ≤ w1.heap.size; omega))).setCell (p := ⟨g0 + 1, 0, none⟩) (Nat.le_succ _) (I 0)).setCell (p := ⟨g0 + 1, 1, none⟩) (Nat.le_succ _) (I (-1))
              exact bodyPost_ret (ret_fault rfl _ _ (g0 + 1) #[I 0, I (-1)] rfl ((k2.set 0 (I 0)).set 1 (I (-1))) rfl) rfl ⟨by rw [HC.out]; rfl, HG.out ▸ hb9⟩
end Go.Proofs.YtdhekhlmdefcnaaDoor
/- The reference's Fit. -/
namespace Go.Proofs.YtdhekhlmdefcnaaDoor
open Go.RowKit
def In64 (a : Int) : Prop := -9223372036854775808 ≤ a ∧ a < 9223372036854775808
theorem fit1_ok (a b : Int) (g i : Nat) (w : World) (h : Has w g 35 #[I a, I b]) (ha : In64 a) (hi : i ≤ 64) :
    Calls Tryd.prog 88 #[I (i : Int), .pointer (some ⟨g, 0, none⟩)] w fun e w' => e = .returned (.bool (hasB a i)) ∧ w = w' := by
  have c0 := h.cellv 0 _ rfl
  obtain ⟨h1, h2⟩ := ha
  go_enter Tryd.func88, Tryd.ntmps88
  go_wp2_with (go_at_call 84; refine (has_any a h1 h2 i hi _).mono ?_; rintro e w9 ⟨rfl, rfl⟩)
  go_ret
  exact ⟨rfl, rfl⟩
theorem fit2_ok (a b : Int) (g i : Nat) (w : World) (h : Has w g 35 #[I a, I b]) (ha : In64 b) (hi : i ≤ 64) :
    Calls Tryd.prog 89 #[I (i : Int), .pointer (some ⟨g, 0, none⟩)] w fun e w' => e = .returned (.bool (hasB b i)) ∧ w = w' := by
  have c0 := h.cellv 1 _ rfl
  obtain ⟨h1, h2⟩ := ha
  go_enter Tryd.func89, Tryd.ntmps89
  go_wp2_with (go_at_call 84; refine (has_any b h1 h2 i hi _).mono ?_; rintro e w9 ⟨rfl, rfl⟩)
  go_ret
  exact ⟨rfl, rfl⟩
theorem tells_fit1 {a b : Int} {g n : Nat} {w : World} (h : Has w g 35 #[I a, I b]) (ha : In64 a) (hn : n ≤ 64) : Tells 88 #[.pointer (some ⟨g, 0, none⟩)] n (hasB a) w := by
  intro W i hi hb
  refine (fit1_ok a b g i W (h.after hb) ha (by omega)).mono ?_
  rintro e w' ⟨rfl, rfl⟩
  exact ⟨rfl, Below.refl _ _⟩
theorem tells_fit2 {a b : Int} {g n : Nat} {w : World} (h : Has w g 35 #[I a, I b]) (ha : In64 b) (hn : n ≤ 64) : Tells 89 #[.pointer (some ⟨g, 0, none⟩)] n (hasB b) w := by
  intro W i hi hb
  refine (fit2_ok a b g i W (h.after hb) ha (by omega)).mono ?_
  rintro e w' ⟨rfl, rfl⟩
  exact ⟨rfl, Below.refl _ _⟩
theorem enters_fit1 : Enters Tryd.prog 88 := enters_of Tryd.func88 (by kernel_rfl) rfl
theorem enters_fit2 : Enters Tryd.prog 89 := enters_of Tryd.func89 (by kernel_rfl) rfl
theorem infoInput : (Tryd.prog.info? 35).map (·.size) = some 2 := by kernel_rfl
set_option maxHeartbeats 4000000 in
set_option maxRecDepth 100000 in
theorem refFit_ok (S n c : Nat) (A : Option Addr) (a b d : Int) (w : World) (hS : S ≤ 12) (hn : n ≤ 12) (ha : In64 a) (hb : In64 b) :
    Calls Tryd.prog 48 #[.agg #[I (S : Int), .slice A n c, I d], .agg #[I a, I b]] w fun e w' => e = .returned (.agg #[I ((msk a S : Nat) : Int), I ((msk b n : Nat) : Int)]) ∧ Below w.heap.size w w' := by
  have hb1 : Below w.heap.size w (((w.alloc (.cells #[I (S : Int), .slice A n c, I d] 25)).alloc (.cells #[I a, I b] 35)).alloc (.cells #[I 0, I 0] 35)) := (((Below.refl _ _).alloc (Nat.le_refl _) _).alloc (by simp) _).alloc (by simp; omega) _
  have k0 := ((Has.new w 25 #[I (S : Int), .slice A n c, I d]).alloc (.cells #[I a, I b] 35)).alloc (.cells #[I 0, I 0] 35)
  have k1 := (Has.new' (w.alloc (.cells #[I (S : Int), .slice A n c, I d] 25)) 35 #[I a, I b] (w.heap.size + 1) (by simp)).alloc (.cells #[I 0, I 0] 35)
  have k2 := Has.new' ((w.alloc (.cells #[I (S : Int), .slice A n c, I d] 25)).alloc (.cells #[I a, I b] 35)) 35 #[I 0, I 0] (w.heap.size + 2) (by simp)
  go_enter Tryd.func48, Tryd.ntmps48
  go_upto_region 1 with fail
  generalize (((w.alloc (.cells #[I (S : Int), .slice A n c, I d] 25)).alloc (.cells #[I a, I b] 35)).alloc (.cells #[I 0, I 0] 35)) = w1 at *
  have hl := k2.lt
  generalize hG : w.heap.size = g0 at *
  have HG := Lib.hid hG
  clear hG
  have HT1 := Lib.hid (tells_fit1 k1 ha (Nat.le_trans hS (by decide)) : Tells 88 #[.pointer (some ⟨g0 + 1, 0, none⟩)] S (hasB a) w1)
  have HT2 := Lib.hid (tells_fit2 k1 hb (Nat.le_trans hn (by decide)) : Tells 89 #[.pointer (some ⟨g0 + 1, 0, none⟩)] n (hasB b) w1)
  have HS1 : Hid (∀ wa, Below w1.heap.size w1 wa → Calls Tryd.prog 34 #[I (S : Int), .func (.func 88) #[] #[.pointer (some ⟨g0 + 1, 0, none⟩)]] wa fun e w' => e = .returned (I ((msk a S : Nat) : Int)) ∧ Below wa.heap.size wa w') := Lib.hid (fun wa hba => by
    refine (set_ok S _ _ (hasB a) enters_fit1 hS wa (Lib.hid fun W i hi hbW => HT1.out W i hi (hba.trans (hbW.mono hba.size)))).mono ?_
    rintro e w' ⟨rfl, hbb⟩
    exact ⟨by rw [setB_msk], hbb⟩)
  have HS2 : Hid (∀ wa, Below w1.heap.size w1 wa → Calls Tryd.prog 34 #[I (n : Int), .func (.func 89) #[] #[.pointer (some ⟨g0 + 1, 0, none⟩)]] wa fun e w' => e = .returned (I ((msk b n : Nat) : Int)) ∧ Below wa.heap.size wa w') := Lib.hid (fun wa hba => by
    refine (set_ok n _ _ (hasB b) enters_fit2 hn wa (Lib.hid fun W i hi hbW => HT2.out W i hi (hba.trans (hbW.mono hba.size)))).mono ?_
    rintro e w' ⟨rfl, hbb⟩
    exact ⟨by rw [setB_msk], hbb⟩)
  clear HT1 HT2
--<R
  refine region_last (by kernel_rfl) (fun b0 => b0.tmps.getD 2 undef = .pointer (some ⟨g0, 0, none⟩) ∧ b0.tmps.getD 3 undef = .pointer (some ⟨g0 + 1, 0, none⟩) ∧ b0.tmps.getD 4 undef = .pointer (some ⟨g0 + 2, 0, none⟩)) ⟨rfl, rfl, rfl⟩ 15 rfl (fun i => ([.pointer (some ⟨g0, 0, none⟩), I (S : Int), .func (.func 88) #[] #[.pointer (some ⟨g0 + 1, 0, none⟩)], I ((msk a S : Nat) : Int), .pointer (some ⟨g0, 1, none⟩), .slice A n c, I (n : Int), .func (.func 89) #[] #[.pointer (some ⟨g0 + 1, 0, none⟩)], I ((msk b n : Nat) : Int), .agg #[I ((msk a S : Nat) : Int), I ((msk b n : Nat) : Int)], undef] : List Value).getD i undef) 10 [5, 6, 7, 8, 9, 10, 11, 12, 13, 14] (by kernel_rfl) rfl (fun wx => Below w1.heap.size w1 wx) (fun wx => Below g0 w wx ∧ Has wx (g0 + 2) 35 #[I ((msk a S : Nat) : Int), I ((msk b n : Nat) : Int)]) [5, 6, 7, 8, 9, 10, 11, 12, 13, 14] (by kernel_rfl) (by kernel_rfl) ((Below.refl _ _).drew) ?_ ?_ ?_
  · intro b0 hb0 i o hi ho
    obtain ⟨f2, f3, f4⟩ := hb0
    have hcase : i = 0 ∨ i = 1 ∨ i = 2 ∨ i = 3 ∨ i = 4 ∨ i = 5 ∨ i = 6 ∨ i = 7 ∨ i = 8 ∨ i = 9 := by omega
    clear hi
    rcases hcase with rfl | rfl | rfl | rfl | rfl | rfl | rfl | rfl | rfl | rfl
    · simp only [List.getElem?_toArray, List.getElem?_cons_zero] at ho
      cases ho
      refine stepW rfl (fun li ac wx hF hed hK hM K hk => ?_)
      have e2 : ac.tmps[2]?.getD undef = .pointer (some ⟨g0, 0, none⟩) := slot_at ((hF.slot (by decide)).trans f2)
      clear hK hed hF
      go_simp
      exact hk _ hM
    · simp only [List.getElem?_toArray, List.getElem?_cons_zero, List.getElem?_cons_succ] at ho
      cases ho
      refine stepW rfl (fun li ac wx hF hed hK hM K hk => ?_)
      have e5 : ac.tmps[5]?.getD undef = .pointer (some ⟨g0, 0, none⟩) := slot_at (hK 0 _ rfl (hed ⟨0, .data⟩ (by simp) rfl) 5 rfl)
      have c0 := (k0.after hM).cellv 0 _ rfl
      clear hK hed hF
      go_simp
      exact hk _ hM
    · simp only [List.getElem?_toArray, List.getElem?_cons_zero, List.getElem?_cons_succ] at ho
      cases ho
      refine stepW rfl (fun li ac wx hF hed hK hM K hk => ?_)
      have e3 : ac.tmps[3]?.getD undef = .pointer (some ⟨g0 + 1, 0, none⟩) := slot_at ((hF.slot (by decide)).trans f3)
      clear hK hed hF
      go_simp
      exact hk _ hM
    · simp only [List.getElem?_toArray, List.getElem?_cons_zero, List.getElem?_cons_succ] at ho
      cases ho
      refine stepW rfl (fun li ac wx hF hed hK hM K hk => ?_)
      have e6 : ac.tmps[6]?.getD undef = I (S : Int) := slot_at (hK 1 _ rfl (hed ⟨1, .data⟩ (by simp) rfl) 6 rfl)
      have e7 : ac.tmps[7]?.getD undef = .func (.func 88) #[] #[.pointer (some ⟨g0 + 1, 0, none⟩)] := slot_at (hK 2 _ rfl (hed ⟨2, .data⟩ (by simp) rfl) 7 rfl)
      clear hK hed hF
      go_simp
      refine (HS1.out wx hM).mono ?_
      rintro e w9 ⟨rfl, hb9⟩
      exact hk _ (hM.trans (hb9.mono hM.size))
    · simp only [List.getElem?_toArray, List.getElem?_cons_zero, List.getElem?_cons_succ] at ho
      cases ho
      refine stepW rfl (fun li ac wx hF hed hK hM K hk => ?_)
      have e2 : ac.tmps[2]?.getD undef = .pointer (some ⟨g0, 0, none⟩) := slot_at ((hF.slot (by decide)).trans f2)
      clear hK hed hF
      go_simp
      exact hk _ hM
    · simp only [List.getElem?_toArray, List.getElem?_cons_zero, List.getElem?_cons_succ] at ho
      cases ho
      refine stepW rfl (fun li ac wx hF hed hK hM K hk => ?_)
      have e9 : ac.tmps[9]?.getD undef = .pointer (some ⟨g0, 1, none⟩) := slot_at (hK 4 _ rfl (hed ⟨4, .data⟩ (by simp) rfl) 9 rfl)
      have c0 := (k0.after hM).cellv 1 _ rfl
      clear hK hed hF
      go_simp
      exact hk _ hM
    · simp only [List.getElem?_toArray, List.getElem?_cons_zero, List.getElem?_cons_succ] at ho
      cases ho
      refine stepW rfl (fun li ac wx hF hed hK hM K hk => ?_)
      have e10 : ac.tmps[10]?.getD undef = .slice A n c := slot_at (hK 5 _ rfl (hed ⟨5, .data⟩ (by simp) rfl) 10 rfl)
      clear hK hed hF
      go_simp
      exact hk _ hM
    · simp only [List.getElem?_toArray, List.getElem?_cons_zero, List.getElem?_cons_succ] at ho
      cases ho
      refine stepW rfl (fun li ac wx hF hed hK hM K hk => ?_)
      have e3 : ac.tmps[3]?.getD undef = .pointer (some ⟨g0 + 1, 0, none⟩) := slot_at ((hF.slot (by decide)).trans f3)
      clear hK hed hF
      go_simp
      exact hk _ hM
    · simp only [List.getElem?_toArray, List.getElem?_cons_zero, List.getElem?_cons_succ] at ho
      cases ho
      refine stepW rfl (fun li ac wx hF hed hK hM K hk => ?_)
      have e11 : ac.tmps[11]?.getD undef = I (n : Int) := slot_at (hK 6 _ rfl (hed ⟨6, .data⟩ (by simp) rfl) 11 rfl)
      have e12 : ac.tmps[12]?.getD undef = .func (.func 89) #[] #[.pointer (some ⟨g0 + 1, 0, none⟩)] := slot_at (hK 7 _ rfl (hed ⟨7, .data⟩ (by simp) rfl) 12 rfl)
      clear hK hed hF
      go_simp
      refine (HS2.out wx hM).mono ?_
      rintro e w9 ⟨rfl, hb9⟩
      exact hk _ (hM.trans (hb9.mono hM.size))
    · simp only [List.getElem?_toArray, List.getElem?_cons_zero, List.getElem?_cons_succ] at ho
      cases ho
      refine stepW rfl (fun li ac wx hF hed hK hM K hk => ?_)
      have e8 : ac.tmps[8]?.getD undef = I ((msk a S : Nat) : Int) := slot_at (hK 3 _ rfl (hed ⟨3, .data⟩ (by simp) rfl) 8 rfl)
      have e13 : ac.tmps[13]?.getD undef = I ((msk b n : Nat) : Int) := slot_at (hK 8 _ rfl (hed ⟨8, .data⟩ (by simp) rfl) 13 rfl)
      clear hK hed hF
      go_simp
      exact hk _ hM
  · intro b0 hb0 o ho
    obtain ⟨f2, f3, f4⟩ := hb0
    simp only [List.getElem?_toArray, List.getElem?_cons_zero, List.getElem?_cons_succ] at ho
    cases ho
    refine stepW rfl (fun li ac wx hF hed hK hM K hk => ?_)
    have e4 : ac.tmps[4]?.getD undef = .pointer (some ⟨g0 + 2, 0, none⟩) := slot_at ((hF.slot (by decide)).trans f4)
    have e14 : ac.tmps[14]?.getD undef = .agg #[I ((msk a S : Nat) : Int), I ((msk b n : Nat) : Int)] := slot_at (hK 9 _ rfl (hed ⟨9, .data⟩ (by simp) rfl) 14 rfl)
    have k9 := k2.after hM
    have c0 := k9.cellv 0 _ rfl
    have c1 := k9.cellv 1 _ rfl
    have f0 := k9.free 0
    have f1 := k9.free 1
    clear hK hed hF
    go_simp
    exact hk _ ⟨((hb1.trans (hM.mono (by omega))).setCell (p := ⟨g0 + 2, 0, none⟩) (Nat.le_add_right _ _) _).setCell (p := ⟨g0 + 2, 1, none⟩) (Nat.le_add_right _ _) _, (k9.set 0 _).set 1 _⟩
  · intro ac wx hF hK hM
    obtain ⟨hM1, hM2⟩ := hM
    have e4 : ac.tmps.getD 4 undef = .pointer (some ⟨g0 + 2, 0, none⟩) := hF.slot (by decide)
    go_wp2
    exact bodyPost_ret (results_cell_row rfl _ _ (g0 + 2) _ #[I ((msk a S : Nat) : Int), I ((msk b n : Nat) : Int)] _ _ e4 hM2 Tryd.underlying35 rfl infoInput) (hF.defers.trans rfl) ⟨rfl, HG.out ▸ hM1⟩
  --R>
end Go.Proofs.YtdhekhlmdefcnaaDoor
/- The reference's Meet and Conflicts. -/
namespace Go.Proofs.YtdhekhlmdefcnaaDoor
open Go.RowKit
theorem meet_hit {S a b s : Nat} (hs : s < S) (ha : a.testBit s = true) (hb : b.testBit s = true) : meetB S a b = true := by
  unfold meetB
  rw [List.any_eq_true]
  exact ⟨s, List.mem_range.2 hs, by rw [ha, hb]; rfl⟩
theorem meet_miss {S a b : Nat} (h : ∀ s, s < S → (a.testBit s && b.testBit s) = false) : meetB S a b = false := by
  unfold meetB
  rw [List.any_eq_false]
  intro s hs
  rw [h s (List.mem_range.1 hs)]
  decide
set_option maxHeartbeats 2000000 in
set_option maxRecDepth 100000 in
theorem meet_ok (S n c i k a b : Nat) (A : Option Addr) (d : Int) (rs : List Nat) (w : World) (B : Nat) (hS : S ≤ 12) (hB : B ≤ w.heap.size) (hxn : Hid (rs.length = n)) (hr : Reads w B A (ints (zs rs))) (ha : rs[i]? = some a) (hb : rs[k]? = some b) (ha4 : a < 4096) (hb4 : b < 4096) :
    Calls Tryd.prog 85 #[.agg #[I (S : Int), .slice A n c, I d], I (i : Int), I (k : Int)] w fun e w' => e = .returned (.bool (meetB S a b)) ∧ Below w.heap.size w w' := by
  have hb1 : Below w.heap.size w (w.alloc (.cells #[I (S : Int), .slice A n c, I d] 25)) := (Below.refl _ _).alloc (Nat.le_refl _) _
  have k0 := Has.new w 25 #[I (S : Int), .slice A n c, I d]
  have hin : i < n := by rw [← hxn.out]; exact (List.getElem?_eq_some_iff.1 ha).1
  have hkn : k < n := by rw [← hxn.out]; exact (List.getElem?_eq_some_iff.1 hb).1
  obtain ⟨bb, oo, rfl, hbb, hci⟩ := (hr.below (hb1.mono hB)).at_ (zs_some ha)
  have hck : (w.alloc (.cells #[I (S : Int), .slice (some ⟨bb, oo, none⟩) n c, I d] 25)).cell? ⟨bb, oo + k, none⟩ = some (I (b : Int)) := by
    obtain ⟨b2, o2, e2, _, h2⟩ := (hr.below (hb1.mono hB)).at_ (zs_some hb)
    injection e2 with e2
    injection e2 with e3 e4
    subst e3 e4
    exact h2
  clear hr ha hb
  go_enter Tryd.func85, Tryd.ntmps85
  go_upto_region 1 with fail
  generalize w.alloc (.cells #[I (S : Int), .slice (some ⟨bb, oo, none⟩) n c, I d] 25) = w1 at *
  have hl := k0.lt
  generalize hG : w.heap.size = g0 at *
  have HG := Lib.hid hG
  clear hG
  have c0 := k0.cellv 0 _ rfl
  have c1 := k0.cellv 1 _ rfl
  go_wp2_with fail
  go_loop [10] (fun v => ∃ s : Nat, s ≤ S ∧ v = I s ∧ Hid (∀ j, j < s → (a.testBit j && b.testBit j) = false)) (fun v => S - (intOf v).toNat)
  case atStart => exact ⟨0, by omega, rfl, Lib.hid (fun j hj => absurd hj (by omega))⟩
  case round =>
    obtain ⟨s, hs, rfl, hno⟩ := hrel
    by_cases hlt : s < S
    · have H1 := Lib.hid (hasB_nat a s)
      have H2 := Lib.hid (hasB_nat b s)
      cases ea : hasB (a : Int) s with
      | false =>
        have EA := Lib.hid ea
        go_wp2_with (go_at_call 84; refine (has_any _ (by omega) (by omega) s (by omega) _).mono ?_; rintro e w9 ⟨rfl, rfl⟩)
        go_round
        case rel =>
          refine ⟨s + 1, by omega, by go_num, Lib.hid (fun j hj => ?_)⟩
          by_cases e : j = s
          · subst e; rw [← H1.out, EA.out]; rfl
          · exact hno.out j (by omega)
        case measure => simp [intOf]; omega
      | true =>
        have EA := Lib.hid ea
        cases eb : hasB (b : Int) s with
        | false =>
          have EB := Lib.hid eb
          go_wp2_with (go_at_call 84; refine (has_any _ (by omega) (by omega) s (by omega) _).mono ?_; rintro e w9 ⟨rfl, rfl⟩)
          go_round
          case rel =>
            refine ⟨s + 1, by omega, by go_num, Lib.hid (fun j hj => ?_)⟩
            by_cases e : j = s
            · subst e; rw [← H2.out, EB.out, Bool.and_false]
            · exact hno.out j (by omega)
          case measure => simp [intOf]; omega
        | true =>
          have HM := Lib.hid (meet_hit hlt (by rw [← H1.out, ea]) (by rw [← H2.out, eb]))
          go_wp2_with (go_at_call 84; refine (has_any _ (by omega) (by omega) s (by omega) _).mono ?_; rintro e w9 ⟨rfl, rfl⟩)
          go_ret
          exact ⟨by rw [HM.out]; rfl, HG.out ▸ hb1⟩
    · have hss : s = S := by omega
      subst hss
      have HM := Lib.hid (meet_miss (fun j hj => hno.out j hj))
      clear hno
      go_wp2_with fail
      go_ret
      exact ⟨by rw [HM.out]; rfl, HG.out ▸ hb1⟩
/-- what Conflicts asks of another route -/
def confP (S : Nat) (rs : List Nat) (i k : Nat) : Bool := decide (k ≠ i) && meetB S (rt rs i) (rt rs k)
theorem rt_of {rs : List Nat} {k x : Nat} (h : rs[k]? = some x) : rt rs k = x := by unfold rt; exact getD_of h
set_option maxHeartbeats 2000000 in
theorem conf1_ok (S n c i k gi gl : Nat) (A : Option Addr) (d : Int) (rs : List Nat) (w : World) (B : Nat) (hS : S ≤ 12) (hB : B ≤ w.heap.size) (hxn : Hid (rs.length = n)) (hr : Reads w B A (ints (zs rs))) (hlt : Hid (∀ r ∈ rs, r < 4096))
    (hi : i < n) (hk : k < n) (hgi : Has w gi 3 #[I (i : Int)]) (hgl : Has w gl 25 #[I (S : Int), .slice A n c, I d]) :
    Calls Tryd.prog 92 #[I (k : Int), .pointer (some ⟨gi, 0, none⟩), .pointer (some ⟨gl, 0, none⟩)] w fun e w' => e = .returned (.bool (confP S rs i k)) ∧ Below w.heap.size w w' := by
  obtain ⟨a, ha⟩ := some_at rs i (by rw [hxn.out]; exact hi)
  obtain ⟨b, hb⟩ := some_at rs k (by rw [hxn.out]; exact hk)
  have ha4 := hlt.out a (List.mem_of_getElem? ha)
  have hb4 := hlt.out b (List.mem_of_getElem? hb)
  have HM : Hid (Calls Tryd.prog 85 #[.agg #[I (S : Int), .slice A n c, I d], I (i : Int), I (k : Int)] w fun e w' => e = .returned (.bool (meetB S a b)) ∧ Below w.heap.size w w') := Lib.hid (meet_ok S n c i k a b A d rs w B hS hB hxn hr ha hb ha4 hb4)
  have ci := hgi.cellv 0 _ rfl
  have c0 := hgl.cellv 0 _ rfl
  have c1 := hgl.cellv 1 _ rfl
  have c2 := hgl.cellv 2 _ rfl
  by_cases hki : k = i
  · have HE : Hid (confP S rs i k = false) := Lib.hid (by unfold confP; simp [hki])
    have t1 : ((k : Int) != (i : Int)) = false := by simp; omega
    clear hki ha hb ha4 hb4
    go_enter Tryd.func92, Tryd.ntmps92
    go_wp2_with fail
    go_ret
    exact ⟨by rw [HE.out]; rfl, Below.refl _ _⟩
  · have HE : Hid (confP S rs i k = meetB S a b) := Lib.hid (by unfold confP; rw [rt_of ha, rt_of hb]; simp [hki])
    have t1 : ((k : Int) != (i : Int)) = true := by simp; omega
    clear hki ha hb ha4 hb4
    go_enter Tryd.func92, Tryd.ntmps92
    go_wp2_with (go_at_call 85; refine HM.out.mono ?_; rintro e w9 ⟨rfl, hb9⟩)
    go_ret
    exact ⟨by rw [HE.out]; rfl, hb9⟩
theorem enters_conf1 : Enters Tryd.prog 92 := enters_of Tryd.func92 (by kernel_rfl) rfl
theorem conf1_set {S n c i gi gl : Nat} {A : Option Addr} {d : Int} {rs : List Nat} {w : World} {B : Nat} (hS : S ≤ 12) (hB : B ≤ w.heap.size) (hxn : Hid (rs.length = n)) (hn : n ≤ 8) (hr : Reads w B A (ints (zs rs))) (hlt : Hid (∀ r ∈ rs, r < 4096)) (hS2 : Hid (∀ r ∈ rs, r < 2 ^ S))
    (hi : i < n) (hgi : Has w gi 3 #[I (i : Int)]) (hgl : Has w gl 25 #[I (S : Int), .slice A n c, I d]) :
    Calls Tryd.prog 34 #[I (n : Int), .func (.func 92) #[] #[.pointer (some ⟨gi, 0, none⟩), .pointer (some ⟨gl, 0, none⟩)]] w fun e w' => e = .returned (I ((conf rs i : Nat) : Int)) ∧ Below w.heap.size w w' := by
  refine (set_ok n _ _ (confP S rs i) enters_conf1 (by omega) w (Lib.hid fun W k hk hb => ?_)).mono ?_
  · exact conf1_ok S n c i k gi gl A d rs W B hS (Nat.le_trans hB hb.size) hxn (hr.below (hb.mono hB)) hlt hi hk (hgi.after hb) (hgl.after hb)
  · rintro e w' ⟨rfl, hb⟩
    have := conf_set hS2.out (by rw [hxn.out]; exact hn) (i := i) (by rw [hxn.out]; exact hi)
    rw [hxn.out] at this
    refine ⟨?_, hb⟩
    have h2 : setB (confP S rs i) n = conf rs i := this
    rw [h2]
set_option maxHeartbeats 4000000 in
set_option maxRecDepth 100000 in
theorem refConflicts_ok (S n c : Nat) (A : Option Addr) (d : Int) (rs : List Nat) (w : World) (hS : S ≤ 12) (hxn : Hid (rs.length = n)) (hn : n ≤ 8) (hr : Reads w w.heap.size A (ints (zs rs))) (hlt : Hid (∀ r ∈ rs, r < 4096)) (hS2 : Hid (∀ r ∈ rs, r < 2 ^ S)) :
    Calls Tryd.prog 55 #[.agg #[I (S : Int), .slice A n c, I d]] w fun e w' =>
      (∃ A c, e = .returned (.slice A n c) ∧ w'.ownsRow w.heap.size 3 1 (.slice A n c) n (ints (zs (confs rs)))) ∧ Below w.heap.size w w' := by
  obtain ⟨i0, hi0, hz0, hz1, hz2⟩ := info_parts infoInt
  have hb1 : Below w.heap.size w (w.alloc (.cells #[I (S : Int), .slice A n c, I d] 25)) := (Below.refl _ _).alloc (Nat.le_refl _) _
  have k0 := Has.new w 25 #[I (S : Int), .slice A n c, I d]
  have hr1 := hr.below hb1
  clear hr
  go_enter Tryd.func55, Tryd.ntmps55
  go_upto_region 1 with fail
  generalize w.alloc (.cells #[I (S : Int), .slice A n c, I d] 25) = w1 at *
  have hl := k0.lt
  generalize hG : w.heap.size = g0 at *
  have HG := Lib.hid hG
  clear hG
  have c1 := k0.cellv 1 _ rfl
  go_wp2_with fail
  clear c1
  go_loopw [3, 8] (fun v i wr => ∃ k : Nat, k ≤ n ∧ i = I k ∧ wr.ownsRow w1.heap.size 3 1 v k (ints (zs ((confs rs).take k))) ∧ Below w1.heap.size w1 wr) (fun _ i _ => n - (intOf i).toNat)
  case atStart => exact ⟨0, by omega, rfl, by simpa [ints, zs] using World.ownsRow_nil _ _ _ _, Below.refl _ _⟩
  case round =>
    obtain ⟨k, hk, rfl, hown, hwr⟩ := hrel
    by_cases hlt1 : k < n
    · have hba : Below wr.heap.size wr (wr.alloc (.cells #[I (k : Int)] 3)) := (Below.refl _ _).alloc (Nat.le_refl _) _
      have ka := Has.new wr 3 #[I (k : Int)]
      have kl := (k0.after hwr).after hba
      have hra := (hr1.below (hwr.mono (by omega))).below (hba.mono (Nat.le_trans (Nat.le_of_lt hl) hwr.size))
      have hown2 := own_after hown hba
      have cl := kl.cellv 1 _ rfl
      have hgw : g0 ≤ wr.heap.size := Nat.le_trans (Nat.le_of_lt hl) hwr.size
      have HSZ := Lib.hid (show (wr.alloc (.cells #[I (k : Int)] 3)).heap.size = wr.heap.size + 1 by simp)
      clear hown
      go_upto_region 5 with fail
      generalize wr.alloc (.cells #[I (k : Int)] 3) = wa at *
      have HB2 : Hid (Below w1.heap.size w1 wa) := Lib.hid (hwr.trans (hba.mono hwr.size))
      have HC : Hid (Calls Tryd.prog 34 #[I (n : Int), .func (.func 92) #[] #[.pointer (some ⟨wr.heap.size, 0, none⟩), .pointer (some ⟨g0, 0, none⟩)]] wa fun e w' => e = .returned (I ((conf rs k : Nat) : Int)) ∧ Below wa.heap.size wa w') :=
        Lib.hid (conf1_set hS (by have := HSZ.out; omega) hxn hn hra hlt hS2 hlt1 ka kl)
      clear hwr hba
      go_wp2_with (first
        | (go_at_call 34; refine HC.out.mono ?_; rintro e wb ⟨rfl, hbb⟩; have hown3 := own_after hown2 hbb)
        | (at_builtin; refine wpList_append_own _ rfl _ _ 22 rfl w1.heap.size 3 i0 (.int .i64 0) 1 8 Tryd.underlying22 hi0 hz0 hz1 hz2 rfl (by decide) _ _ _ rfl (hown3.alloc _) ⟨wb.heap.size, 0, none⟩ 1 1 [I (conf rs k : Nat)] rfl rfl ?c1 ?c2 ?c3 ?c4 ?c5 ?_))
      case c1 =>
        intro j u hu
        have hkk := Has.new wb 3 #[I (conf rs k : Nat)]
        rw [add_at, Nat.zero_add, hkk.cell]
        simpa using hu
      case c2 => intro u hu; rw [List.mem_singleton.1 hu]; rfl
      case c3 => unfold maxLen; omega
      case c4 => omega
      case c5 => have := HB2.out.size; have := hbb.size; simp; omega
      intro v' w' hown' hgrow _
      have hz : w1.heap.size ≤ wb.heap.size := Nat.le_trans HB2.out.size hbb.size
      have hwr' : Below w1.heap.size w1 w' := ((HB2.out.trans (hbb.mono HB2.out.size)).alloc hz _).grown hgrow (by simp; omega) (fun q hq => (hown3.lt q hq).1)
      have HR : Hid ((ints (zs ((confs rs).take (k + 1)))) = ints (zs (List.take k (confs rs))) ++ [I (conf rs k : Nat)]) := Lib.hid (by rw [confs_take rs k (by rw [hxn.out]; exact hlt1)]; simp [ints, zs])
      clear hown2 hown3 cl hbb hra ka kl hgrow hz
      go_wp2_with fail
      go_roundw
      case rel => exact ⟨k + 1, by omega, by go_num, by rw [HR.out]; exact hown', hwr'⟩
      case measure => simp [intOf]; omega
    · have hkn : k = n := by omega
      subst hkn
      obtain ⟨A1, c1, rfl, _, -, _⟩ := own_reads hown
      go_wp2_with fail
      go_ret
      have h9 : Below g0 w _ := hb1.trans (hwr.mono (Nat.le_of_lt hl))
      refine ⟨⟨_, _, rfl, ?_⟩, HG.out ▸ h9⟩
      have hrow : (confs rs).take k = confs rs := by rw [List.take_of_length_le (by rw [confs_length, hxn.out]; omega)]
      rw [hrow] at hown
      exact own_base hown (HG.out ▸ Nat.le_of_lt hl)
end Go.Proofs.YtdhekhlmdefcnaaDoor
/- The reference's Most. -/
namespace Go.Proofs.YtdhekhlmdefcnaaDoor
open Go.RowKit
theorem rMost_cons (r : Nat) (rs : List Nat) (u : Nat) : rMost (r :: rs) u = if u &&& r = 0 then max (rMost rs u) (1 + rMost rs (u ||| r)) else rMost rs u := rfl
theorem drop_at {rs : List Nat} {k x : Nat} (h : rs[k]? = some x) : rs.drop k = x :: rs.drop (k + 1) := by
  obtain ⟨hk, hx⟩ := List.getElem?_eq_some_iff.1 h
  rw [List.drop_eq_getElem_cons hk, hx]
set_option maxHeartbeats 4000000 in
set_option maxRecDepth 100000 in
theorem refMost_ok (S n c : Nat) (A : Option Addr) (d : Int) (rs : List Nat) (B : Nat) (hxn : Hid (rs.length = n)) (hn : n ≤ 8) (hlt : Hid (∀ r ∈ rs, r < 4096)) :
    ∀ (m fr used : Nat) (w : World), fr + m = n → used < 4096 → B ≤ w.heap.size → Reads w B A (ints (zs rs)) →
    Calls Tryd.prog 56 #[.agg #[I (S : Int), .slice A n c, I d], I (fr : Int), I (used : Int)] w fun e w' => e = .returned (I ((rMost (rs.drop fr) used : Nat) : Int)) ∧ Below w.heap.size w w'
  | 0, fr, used, w, hfr, hu, hB, hr => by
    have hb1 : Below w.heap.size w (w.alloc (.cells #[I (S : Int), .slice A n c, I d] 25)) := (Below.refl _ _).alloc (Nat.le_refl _) _
    have hff : fr = n := by omega
    have HE : Hid (rMost (rs.drop fr) used = 0) := Lib.hid (by rw [List.drop_of_length_le (by rw [hxn.out]; omega)]; rfl)
    have hfe : ((fr : Int) == (n : Int)) = true := by simp; omega
    clear hff
    go_enter Tryd.func56, Tryd.ntmps56
    go_wp2_with fail
    go_ret
    exact ⟨by rw [HE.out]; rfl, hb1⟩
  | m + 1, fr, used, w, hfr, hu, hB, hr => by
    have hb1 : Below w.heap.size w (w.alloc (.cells #[I (S : Int), .slice A n c, I d] 25)) := (Below.refl _ _).alloc (Nat.le_refl _) _
    have k0 := Has.new w 25 #[I (S : Int), .slice A n c, I d]
    have hfn : fr < n := by omega
    have hfe : ((fr : Int) == (n : Int)) = false := by simp; omega
    obtain ⟨x, hx⟩ := some_at rs fr (by rw [hxn.out]; exact hfn)
    have hx4 : x < 4096 := hlt.out x (List.mem_of_getElem? hx)
    obtain ⟨bb, oo, hA, hbb, hcell0⟩ := hr.at_ (zs_some hx)
    have HD : Hid (rMost (rs.drop fr) used = if used &&& x = 0 then max (rMost (rs.drop (fr + 1)) used) (1 + rMost (rs.drop (fr + 1)) (used ||| x)) else rMost (rs.drop (fr + 1)) used) := Lib.hid (by rw [drop_at hx, rMost_cons])
    have hr1 := hr.below (hb1.mono hB)
    have hcell : (w.alloc (.cells #[I (S : Int), .slice A n c, I d] 25)).cell? ⟨bb, oo + fr, none⟩ = some (I (x : Int)) := (hb1.cell (p := ⟨bb, oo + fr, none⟩) (Nat.lt_of_lt_of_le hbb hB)).trans hcell0
    have hm1 := rMost_le (rs.drop (fr + 1)) used
    have hm2 := rMost_le (rs.drop (fr + 1)) (used ||| x)
    have hdl : (rs.drop (fr + 1)).length ≤ 8 := by rw [List.length_drop, hxn.out]; omega
    have hm1' : rMost (rs.drop (fr + 1)) used ≤ 8 := Nat.le_trans hm1 hdl
    have hm2' : rMost (rs.drop (fr + 1)) (used ||| x) ≤ 8 := Nat.le_trans hm2 hdl
    have hux : used ||| x < 4096 := Nat.or_lt_two_pow (n := 12) hu hx4
    have IH1 : Hid (∀ wa, B ≤ wa.heap.size → Reads wa B A (ints (zs rs)) → Calls Tryd.prog 56 #[.agg #[I (S : Int), .slice A n c, I d], I ((fr : Int) + 1), I (used : Int)] wa fun e w' => e = .returned (I ((rMost (rs.drop (fr + 1)) used : Nat) : Int)) ∧ Below wa.heap.size wa w') :=
      Lib.hid (fun wa h1 h2 => refMost_ok S n c A d rs B hxn hn hlt m (fr + 1) used wa (by omega) hu h1 h2)
    have IH2 : Hid (∀ wa, B ≤ wa.heap.size → Reads wa B A (ints (zs rs)) → Calls Tryd.prog 56 #[.agg #[I (S : Int), .slice A n c, I d], I ((fr : Int) + 1), I ((used ||| x : Nat) : Int)] wa fun e w' => e = .returned (I ((rMost (rs.drop (fr + 1)) (used ||| x) : Nat) : Int)) ∧ Below wa.heap.size wa w') :=
      Lib.hid (fun wa h1 h2 => refMost_ok S n c A d rs B hxn hn hlt m (fr + 1) (used ||| x) wa (by omega) hux h1 h2)
    have HOR := Lib.hid (or_i64 used x (by omega) (by omega))
    have tA : (bits .and .i64 (used : Int) (x : Int) == 0) = decide (used &&& x = 0) := by
      rw [and_i64 used x (by omega) (by omega)]
      by_cases h : used &&& x = 0
      · simp [h]
      · simp [h]
    have HA := Lib.hid hA
    clear hm1 hm2 hdl hx hr hcell0 hA
    by_cases h0 : used &&& x = 0
    · rw [if_pos h0] at HD
      have t0 : (bits .and .i64 (used : Int) (x : Int) == 0) = true := by rw [tA, h0]; rfl
      clear tA h0
      generalize rMost (rs.drop (fr + 1)) used = M1 at *
      generalize rMost (rs.drop (fr + 1)) (used ||| x) = M2 at *
      go_enter Tryd.func56, Tryd.ntmps56
      go_upto_region 1 with fail
      generalize w.alloc (.cells #[I (S : Int), .slice A n c, I d] 25) = w1 at *
      have hl := k0.lt
      generalize hG : w.heap.size = g0 at *
      have HG := Lib.hid hG
      clear hG
      have c0 := k0.cellv 0 _ rfl
      have c1 := k0.cellv 1 _ rfl
      have c2 := k0.cellv 2 _ rfl
      go_upto_region 4 with (go_at_call 56; refine (IH1.out _ (by omega) hr1).mono ?_; rintro e w2 ⟨rfl, hb2⟩)
      clear c0 c1 c2
      have k2 := k0.after hb2
      have hr2 := hr1.below (hb2.mono (by omega))
      have hc2 := (hb2.cell (p := ⟨bb, oo + fr, none⟩) (show bb < w1.heap.size by omega)).trans hcell
      have HB2 : Hid (Below g0 w w2) := Lib.hid (hb1.trans (hb2.mono (by omega)))
      have hl2 := hb2.size
      have e1 := k2.cellv 1 _ rfl
      clear hcell hb2 hr1 k0 hb1
      have e : A = some ⟨bb, oo, none⟩ := HA.out
      subst e
      go_upto_region 5 with fail
      clear e1 t0
      --<R
      go_cut [7] (fun s7 wx => s7 = I ((max M1 (1 + M2) : Nat) : Int) ∧ (fun wx => Below w2.heap.size w2 wx) wx)
      case first =>
        rename_i J0 K0 hJ0 hK0
        have HK0 := Lib.hid hK0
        clear hK0
        refine region_tail (by kernel_rfl) (fun b0 => b0.tmps.getD 1 undef = I (fr : Int) ∧ b0.tmps.getD 2 undef = I (used : Int) ∧ b0.tmps.getD 3 undef = .pointer (some ⟨g0, 0, none⟩) ∧ b0.tmps.getD 7 undef = I (M1 : Int)) ⟨rfl, rfl, rfl, rfl⟩ 41 rfl (fun i => ([I (M1 : Int), .agg #[I (S : Int), .slice (some ⟨bb, oo, none⟩) n c, I d], I (fr : Int), I ((fr : Int) + 1), I (used : Int), .pointer (some ⟨g0, 1, none⟩), .slice (some ⟨bb, oo, none⟩) n c, I (fr : Int), .pointer (some ⟨bb, oo + fr, none⟩), I (x : Int), I ((used ||| x : Nat) : Int), I (M2 : Int), I (1 + (M2 : Int)), I ((max M1 (1 + M2) : Nat) : Int), I ((max M1 (1 + M2) : Nat) : Int)] : List Value).getD i undef) 14 [26, 27, 28, 29, 30, 31, 32, 33, 34, 35, 36, 37, 38, 39] (by kernel_rfl) (fun wx => Below w2.heap.size w2 wx) [26, 27, 28, 29, 30, 31, 32, 33, 34, 35, 36, 37, 38, 39, 7] (by kernel_rfl) (by kernel_rfl) ((Below.refl _ _).drew) ?_ ?_ ?_
        · intro b0 hb0 i o hi ho
          obtain ⟨f1, f2, f3, f7⟩ := hb0
          have hcase : i = 0 ∨ i = 1 ∨ i = 2 ∨ i = 3 ∨ i = 4 ∨ i = 5 ∨ i = 6 ∨ i = 7 ∨ i = 8 ∨ i = 9 ∨ i = 10 ∨ i = 11 ∨ i = 12 ∨ i = 13 := by omega
          clear hi
          rcases hcase with rfl | rfl | rfl | rfl | rfl | rfl | rfl | rfl | rfl | rfl | rfl | rfl | rfl | rfl
          · simp only [List.getElem?_toArray, List.getElem?_cons_zero] at ho
            cases ho
            refine stepW rfl (fun li ac wx hF hed hK hM K hk => ?_)
            have e7 : ac.tmps[7]?.getD undef = I (M1 : Int) := slot_at ((hF.slot (by decide)).trans f7)
            clear hK hed hF
            go_simp
            exact hk _ hM
          · simp only [List.getElem?_toArray, List.getElem?_cons_zero, List.getElem?_cons_succ] at ho
            cases ho
            refine stepW rfl (fun li ac wx hF hed hK hM K hk => ?_)
            have e3 : ac.tmps[3]?.getD undef = .pointer (some ⟨g0, 0, none⟩) := slot_at ((hF.slot (by decide)).trans f3)
            have k9 := k2.after hM
            have c0 := k9.cellv 0 _ rfl
            have c1 := k9.cellv 1 _ rfl
            have c2 := k9.cellv 2 _ rfl
            clear hK hed hF
            go_simp
            exact hk _ hM
          · simp only [List.getElem?_toArray, List.getElem?_cons_zero, List.getElem?_cons_succ] at ho
            cases ho
            refine stepW rfl (fun li ac wx hF hed hK hM K hk => ?_)
            have e1 : ac.tmps[1]?.getD undef = I (fr : Int) := slot_at ((hF.slot (by decide)).trans f1)
            clear hK hed hF
            go_simp
            exact hk _ hM
          · simp only [List.getElem?_toArray, List.getElem?_cons_zero, List.getElem?_cons_succ] at ho
            cases ho
            refine stepW rfl (fun li ac wx hF hed hK hM K hk => ?_)
            have e28 : ac.tmps[28]?.getD undef = I (fr : Int) := slot_at (hK 2 _ rfl (hed ⟨2, .data⟩ (by simp) rfl) 28 rfl)
            have hw3 : IntKind.i64.wrap ((fr : Int) + 1) = (fr : Int) + 1 := wr64 (by omega) (by omega)
            clear hK hed hF
            go_simp
            exact hk _ hM
          · simp only [List.getElem?_toArray, List.getElem?_cons_zero, List.getElem?_cons_succ] at ho
            cases ho
            refine stepW rfl (fun li ac wx hF hed hK hM K hk => ?_)
            have e2 : ac.tmps[2]?.getD undef = I (used : Int) := slot_at ((hF.slot (by decide)).trans f2)
            clear hK hed hF
            go_simp
            exact hk _ hM
          · simp only [List.getElem?_toArray, List.getElem?_cons_zero, List.getElem?_cons_succ] at ho
            cases ho
            refine stepW rfl (fun li ac wx hF hed hK hM K hk => ?_)
            have e3 : ac.tmps[3]?.getD undef = .pointer (some ⟨g0, 0, none⟩) := slot_at ((hF.slot (by decide)).trans f3)
            clear hK hed hF
            go_simp
            exact hk _ hM
          · simp only [List.getElem?_toArray, List.getElem?_cons_zero, List.getElem?_cons_succ] at ho
            cases ho
            refine stepW rfl (fun li ac wx hF hed hK hM K hk => ?_)
            have e31 : ac.tmps[31]?.getD undef = .pointer (some ⟨g0, 1, none⟩) := slot_at (hK 5 _ rfl (hed ⟨5, .data⟩ (by simp) rfl) 31 rfl)
            have c1 := (k2.after hM).cellv 1 _ rfl
            clear hK hed hF
            go_simp
            exact hk _ hM
          · simp only [List.getElem?_toArray, List.getElem?_cons_zero, List.getElem?_cons_succ] at ho
            cases ho
            refine stepW rfl (fun li ac wx hF hed hK hM K hk => ?_)
            have e1 : ac.tmps[1]?.getD undef = I (fr : Int) := slot_at ((hF.slot (by decide)).trans f1)
            clear hK hed hF
            go_simp
            exact hk _ hM
          · simp only [List.getElem?_toArray, List.getElem?_cons_zero, List.getElem?_cons_succ] at ho
            cases ho
            refine stepW rfl (fun li ac wx hF hed hK hM K hk => ?_)
            have e32 : ac.tmps[32]?.getD undef = .slice (some ⟨bb, oo, none⟩) n c := slot_at (hK 6 _ rfl (hed ⟨6, .data⟩ (by simp) rfl) 32 rfl)
            have e33 : ac.tmps[33]?.getD undef = I (fr : Int) := slot_at (hK 7 _ rfl (hed ⟨7, .data⟩ (by simp) rfl) 33 rfl)
            have hfi : (fr : Int) < (n : Int) := by omega
            clear hK hed hF
            go_simp
            exact hk _ hM
          · simp only [List.getElem?_toArray, List.getElem?_cons_zero, List.getElem?_cons_succ] at ho
            cases ho
            refine stepW rfl (fun li ac wx hF hed hK hM K hk => ?_)
            have e34 : ac.tmps[34]?.getD undef = .pointer (some ⟨bb, oo + fr, none⟩) := slot_at (hK 8 _ rfl (hed ⟨8, .data⟩ (by simp) rfl) 34 rfl)
            have c1 := (hM.cell (p := ⟨bb, oo + fr, none⟩) (show bb < w2.heap.size by omega)).trans hc2
            clear hK hed hF
            go_simp
            exact hk _ hM
          · simp only [List.getElem?_toArray, List.getElem?_cons_zero, List.getElem?_cons_succ] at ho
            cases ho
            refine stepW rfl (fun li ac wx hF hed hK hM K hk => ?_)
            have e30 : ac.tmps[30]?.getD undef = I (used : Int) := slot_at (hK 4 _ rfl (hed ⟨4, .data⟩ (by simp) rfl) 30 rfl)
            have e35 : ac.tmps[35]?.getD undef = I (x : Int) := slot_at (hK 9 _ rfl (hed ⟨9, .data⟩ (by simp) rfl) 35 rfl)
            have hor := HOR.out
            clear hK hed hF
            go_simp
            exact hk _ hM
          · simp only [List.getElem?_toArray, List.getElem?_cons_zero, List.getElem?_cons_succ] at ho
            cases ho
            refine stepW rfl (fun li ac wx hF hed hK hM K hk => ?_)
            have e27 : ac.tmps[27]?.getD undef = .agg #[I (S : Int), .slice (some ⟨bb, oo, none⟩) n c, I d] := slot_at (hK 1 _ rfl (hed ⟨1, .data⟩ (by simp) rfl) 27 rfl)
            have e29 : ac.tmps[29]?.getD undef = I ((fr : Int) + 1) := slot_at (hK 3 _ rfl (hed ⟨3, .data⟩ (by simp) rfl) 29 rfl)
            have e36 : ac.tmps[36]?.getD undef = I ((used ||| x : Nat) : Int) := slot_at (hK 10 _ rfl (hed ⟨10, .data⟩ (by simp) rfl) 36 rfl)
            clear hK hed hF
            go_simp
            refine (IH2.out wx (by have := hM.size; omega) (hr2.below (hM.mono (by omega)))).mono ?_
            rintro e w9 ⟨rfl, hb9⟩
            exact hk _ (hM.trans (hb9.mono hM.size))
          · simp only [List.getElem?_toArray, List.getElem?_cons_zero, List.getElem?_cons_succ] at ho
            cases ho
            refine stepW rfl (fun li ac wx hF hed hK hM K hk => ?_)
            have e37 : ac.tmps[37]?.getD undef = I (M2 : Int) := slot_at (hK 11 _ rfl (hed ⟨11, .data⟩ (by simp) rfl) 37 rfl)
            have hw3 : IntKind.i64.wrap (1 + (M2 : Int)) = 1 + (M2 : Int) := wr64 (by omega) (by omega)
            clear hK hed hF
            go_simp
            exact hk _ hM
          · simp only [List.getElem?_toArray, List.getElem?_cons_zero, List.getElem?_cons_succ] at ho
            cases ho
            refine stepW rfl (fun li ac wx hF hed hK hM K hk => ?_)
            have e26 : ac.tmps[26]?.getD undef = I (M1 : Int) := slot_at (hK 0 _ rfl (hed ⟨0, .data⟩ (by simp) rfl) 26 rfl)
            have e38 : ac.tmps[38]?.getD undef = I (1 + (M2 : Int)) := slot_at (hK 12 _ rfl (hed ⟨12, .data⟩ (by simp) rfl) 38 rfl)
            clear hK hed hF
            go_simp
            have e9 : (if (M1 : Int) < 1 + (M2 : Int) then 1 + (M2 : Int) else (M1 : Int)) = ((max M1 (1 + M2) : Nat) : Int) := by split <;> omega
            rw [e9]
            exact hk _ hM
        · intro b0 hb0 i o hi ho
          obtain ⟨f1, f2, f3, f7⟩ := hb0
          have hi2 : i < 15 := (Array.getElem?_eq_some_iff.1 ho).1
          have hcase : i = 14 := by omega
          clear hi hi2
          subst hcase
          · simp only [List.getElem?_toArray, List.getElem?_cons_zero, List.getElem?_cons_succ] at ho
            cases ho
            refine stepW rfl (fun li ac wx hF hed hK hM K hk => ?_)
            have e39 : ac.tmps[39]?.getD undef = I ((max M1 (1 + M2) : Nat) : Int) := slot_at (hK 13 _ rfl (hed ⟨13, .data⟩ (by simp) rfl) 39 rfl)
            clear hK hed hF
            go_simp
            exact hk _ hM
        · intro ac wx hF hK hM
          have E7 := hK 14 _ rfl 7 rfl
          have hMet := hF.meet
          simp only [List.foldl_cons, List.foldl_nil, List.setIfInBounds_toArray, List.set_cons_succ, List.set_cons_zero, E7] at hMet
          refine HK0.out _ _ (Met.intro (hJ0 _ _ ?_))
          (repeat apply Exists.intro)
          exact ⟨⟨rfl, hM⟩, hMet⟩
      case rest =>
        obtain ⟨rfl, hbc⟩ := hcut
        have hbc2 : Below g0 w _ := HB2.out.trans (hbc.mono (by omega))
        go_wp2_with fail
        go_ret
        exact ⟨by rw [HD.out]; rfl, HG.out ▸ hbc2⟩
      --R>
    · rw [if_neg h0] at HD
      have t0 : (bits .and .i64 (used : Int) (x : Int) == 0) = false := by rw [tA]; simpa using h0
      clear tA h0
      generalize rMost (rs.drop (fr + 1)) used = M1 at *
      generalize rMost (rs.drop (fr + 1)) (used ||| x) = M2 at *
      go_enter Tryd.func56, Tryd.ntmps56
      go_upto_region 1 with fail
      generalize w.alloc (.cells #[I (S : Int), .slice A n c, I d] 25) = w1 at *
      have hl := k0.lt
      generalize hG : w.heap.size = g0 at *
      have HG := Lib.hid hG
      clear hG
      have c0 := k0.cellv 0 _ rfl
      have c1 := k0.cellv 1 _ rfl
      have c2 := k0.cellv 2 _ rfl
      go_upto_region 4 with (go_at_call 56; refine (IH1.out _ (by omega) hr1).mono ?_; rintro e w2 ⟨rfl, hb2⟩)
      clear c0 c1 c2
      have k2 := k0.after hb2
      have hc2 := (hb2.cell (p := ⟨bb, oo + fr, none⟩) (show bb < w1.heap.size by omega)).trans hcell
      have HB2 : Hid (Below g0 w w2) := Lib.hid (hb1.trans (hb2.mono (by omega)))
      have e1 := k2.cellv 1 _ rfl
      clear hcell hb2 hr1 k0 hb1
      have e : A = some ⟨bb, oo, none⟩ := HA.out
      subst e
      go_wp2_with fail
      go_ret
      exact ⟨by rw [HD.out]; rfl, HG.out ▸ HB2.out⟩
end Go.Proofs.YtdhekhlmdefcnaaDoor
/- plain.Place and is, at any error that layout.Check gives. -/
namespace Go.Proofs.YtdhekhlmdefcnaaDoor
open Go.RowKit
theorem as_ok_at (n p : Int) (b g : Nat) (w : World) (hg : Hid (EType w)) (ka : Has w b 176 #[I n, I p]) (k : Has w g 42 #[I 0]) :
    Calls Tryd.prog 104 #[.iface 175 (.pointer (some ⟨b, 0, none⟩)), .iface 194 (.pointer (some ⟨g, 0, none⟩))] w fun e w' => e = .returned (.bool true) ∧ Has w' g 42 #[I n] ∧ Below g w w' := by
  refine (as_at n ⟨b, 0, none⟩ ⟨g, 0, none⟩ (I 0) w (ka.cellv 0 _ rfl) hg.out (k.cellv 0 _ rfl) (k.free 0)).mono ?_
  rintro e w' ⟨rfl, rfl⟩
  have hsz := Nat.le_of_lt k.lt
  refine ⟨rfl, ?_, ((((Below.refl _ _).alloc hsz _).alloc (by simp; omega) _).alloc (by simp; omega) _ |>.alloc (by simp; omega) _).setCell (Nat.le_refl _) _⟩
  exact ((((k.alloc _).alloc _).alloc _).alloc _).set 0 (I n)
set_option maxHeartbeats 2000000 in
theorem tell_at (n p : Int) (b : Nat) (w : World) (hg : Hid (EType w)) (ka : Has w b 176 #[I n, I p]) :
    Calls Tryd.prog 76 #[.iface 175 (.pointer (some ⟨b, 0, none⟩))] w fun e w' => e = .returned (I n) ∧ Below w.heap.size w w' := by
  have hb : Below w.heap.size w (w.alloc (.cells #[I 0] 42)) := (Below.refl _ _).alloc (Nat.le_refl _) _
  have hg1 := Lib.hid (hg.out.after hb)
  have k0 := Has.new w 42 #[I 0]
  have ka1 := Lib.hid (ka.after hb)
  clear ka
  go_enter Tryd.func76, Tryd.ntmps76
  go_upto_region 4 with (fail)
  generalize w.alloc (.cells #[I 0] 42) = w1 at *
  have hl := k0.lt
  generalize hG : w.heap.size = g0 at *
  have HG := Lib.hid hG
  clear hG
  go_wp2_with (go_at_call 104; refine (as_ok_at n p b g0 w1 hg1 ka1.out k0).mono ?_; rintro e w2 ⟨rfl, k2, hb2⟩; have c2 := k2.cellv 0 _ rfl)
  go_ret
  exact ⟨rfl, HG.out ▸ hb.trans hb2⟩
theorem ta_atA (v : Value) (w : World) : (Instr.typeAssert (.iface 175 v) 28 175 true).run Tryd.prog w = .ok (.tuple #[v, .bool true]) w := by kernel_rfl
set_option maxHeartbeats 2000000 in
set_option maxRecDepth 100000 in
theorem place_at (n p : Int) (b : Nat) (w : World) (hg : Hid (EType w)) (ka : Has w b 176 #[I n, I p]) :
    Calls Tryd.prog 83 #[.iface 175 (.pointer (some ⟨b, 0, none⟩))] w fun e w' => e = .returned (.tuple #[I n, I p]) ∧ Below w.heap.size w w' := by
  go_enter Tryd.func83, Tryd.ntmps83
  go_wp2_with (go_at_call 76; refine (tell_at n p b _ hg ka).mono ?_; rintro e w9 ⟨rfl, hb9⟩)
  have ka9 := ka.after hb9
  have c1 := ka9.cellv 1 _ rfl
  clear ka ka9
  go_loop [0] (fun v => v = .iface 175 (.pointer (some ⟨b, 0, none⟩))) (fun _ => 0)
  case atStart => exact rfl
  case round =>
    subst hrel
    have ht1 := ta_atA (.pointer (some ⟨b, 0, none⟩)) w9
    go_upto_region 5 with fail
    go_quiet (fail)
    go_wp2
    go_ret2
    exact ⟨rfl, below_drewN hb9 _⟩
set_option maxHeartbeats 2000000 in
theorem is_at (n p : Int) (b : Nat) (w : World) (hg : Hid (EType w)) (ka : Has w b 176 #[I n, I p]) :
    Calls Tryd.prog 43 #[.iface 175 (.pointer (some ⟨b, 0, none⟩)), .agg #[I n, I p]] w fun r w' => r = .returned (.bool true) ∧ Below w.heap.size w w' := by
  have hb : Below w.heap.size w (w.alloc (.cells #[I n, I p] 95)) := (Below.refl _ _).alloc (Nat.le_refl _) _
  have hg1 := Lib.hid (hg.out.after hb)
  have k0 := Has.new w 95 #[I n, I p]
  have ka1 := Lib.hid (ka.after hb)
  clear ka
  go_enter Tryd.func43, Tryd.ntmps43
  go_upto_region 1 with fail
  generalize w.alloc (.cells #[I n, I p] 95) = w1 at *
  have hl := k0.lt
  generalize hG : w.heap.size = g0 at *
  have HG := Lib.hid hG
  clear hG
  go_wp2_with (go_at_call 83; refine (place_at n p b w1 hg1 ka1.out).mono ?_; rintro r w2 ⟨rfl, hb2⟩; have k2 := k0.after hb2; have c2 := k2.cellv 0 _ rfl; have c3 := k2.cellv 1 _ rfl)
  go_ret
  exact ⟨by simp, HG.out ▸ hb.trans (hb2.mono (Nat.le_of_lt hl))⟩
/-- an error is the fault that it should be -/
theorem is_err (r : Err) (v : Value) (w0 w : World) (hv : ErrV w0 w r v) (h0 : ∀ e, r = .bare e → e ≠ 0) (hg : Hid (EType w)) :
    Calls Tryd.prog 43 #[v, .agg (faultC r)] w fun e w' => e = .returned (.bool true) ∧ Below w.heap.size w w' := by
  cases r with
  | ok =>
    have : v = errOf 0 := hv
    subst this
    exact is_ok 0 0 w hg
  | bare e =>
    have : v = errOf e := by
      have h1 : v = .iface 42 (I e) := hv
      rw [h1]
      unfold errOf
      rw [if_neg (h0 e rfl)]
    subst this
    refine (is_ok e e w hg).mono ?_
    rintro r w' ⟨rfl, hb⟩
    exact ⟨by simp, hb⟩
  | place e p =>
    obtain ⟨g, _, rfl, k⟩ := hv
    exact is_at e p g w hg k
end Go.Proofs.YtdhekhlmdefcnaaDoor
