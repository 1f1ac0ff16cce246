/- Step of core: what its rounds do, in plain Lean. -/
import Derived.Test.YtdhekhlmdefcnaaDoorNew
namespace Go.Proofs.YtdhekhlmdefcnaaDoor
open Go.RowKit
theorem stC_size (s : St) (h1 : s.used.length = 8) (h2 : s.idle.length = 8) : (stC s).size = 17 := by
  simp [stC, stL, ints_length, zs_length, h1, h2]
theorem stC_used {t : St} {k x : Nat} (h : t.used[k]? = some x) : (stC t)[1 + k]? = some (I x) := by
  have hk : k < t.used.length := (List.getElem?_eq_some_iff.1 h).1
  rw [Nat.add_comm]
  show (I t.set :: (ints (zs t.used) ++ ints (zs t.idle))).toArray[k + 1]? = _
  rw [List.getElem?_toArray, List.getElem?_cons_succ, List.getElem?_append_left (by rw [ints_length, zs_length]; exact hk), ints_get, zs_get, h]
  rfl
theorem stC_idle {t : St} {k y : Nat} (h8 : t.used.length = 8) (h : t.idle[k]? = some y) : (stC t)[9 + k]? = some (I y) := by
  rw [show 9 + k = (8 + k) + 1 by omega]
  show (I t.set :: (ints (zs t.used) ++ ints (zs t.idle))).toArray[8 + k + 1]? = _
  rw [List.getElem?_toArray, List.getElem?_cons_succ, List.getElem?_append_right (by rw [ints_length, zs_length]; omega), ints_length, zs_length, h8, Nat.add_sub_cancel_left, ints_get, zs_get, h]
  rfl
theorem stC_setSet (t : St) (v : Nat) : (stC t).setIfInBounds 0 (I v) = stC { t with set := v } := by
  simp [stC, stL]
theorem zs_set (l : List Nat) (k v : Nat) : zs (l.set k v) = (zs l).set k v := by simp [zs, List.map_set]
theorem ints_set (l : List Int) (k : Nat) (v : Int) : ints (l.set k v) = (ints l).set k (I v) := by simp [ints, List.map_set]
theorem stC_setUsed (t : St) (k v : Nat) (hk : k < t.used.length) : (stC t).setIfInBounds (1 + k) (I v) = stC { t with used := t.used.set k v } := by
  rw [Nat.add_comm]
  simp [stC, stL, zs_set, ints_set, ints_length, zs_length, hk]
theorem stC_setIdle (t : St) (k v : Nat) (h8 : t.used.length = 8) : (stC t).setIfInBounds (9 + k) (I v) = stC { t with idle := t.idle.set k v } := by
  rw [show 9 + k = (8 + k) + 1 by omega]
  simp [stC, stL, zs_set, ints_set, ints_length, zs_length, h8]
theorem mem_set_le {l : List Nat} {k v M : Nat} (hl : ∀ x ∈ l, x ≤ M) (hv : v ≤ M) : ∀ x ∈ l.set k v, x ≤ M := by
  intro x hx
  rcases List.mem_or_eq_of_mem_set hx with h | h
  · exact hl x h
  · omega
theorem getD_le {l : List Nat} {k M : Nat} (hl : ∀ x ∈ l, x ≤ M) : l.getD k 0 ≤ M := by
  rw [List.getD_eq_getElem?_getD]
  cases h : l[k]? with
  | none => simp
  | some x => exact hl x (List.mem_of_getElem? h)
theorem one_fits {d cl wa k r M : Nat} {t : St} (ht : t.Fits M) (hr : r < 4096) : (one d cl wa t k r).Fits (M + 1) := by
  obtain ⟨h1, h2, h3, h4, h5⟩ := ht
  have h4' : ∀ x ∈ t.used, x ≤ 4095 := fun x hx => by have := h4 x hx; omega
  have hM : ∀ x ∈ t.idle, x ≤ M + 1 := fun x hx => Nat.le_succ_of_le (h5 x hx)
  unfold one
  by_cases hb : t.set.testBit k = true
  · rw [if_pos hb]
    dsimp only
    generalize hi : (if wa.testBit k = true then 0 else t.idle.getD k 0 + 1) = i
    have hi' : i ≤ M + 1 := by
      rw [← hi]
      split
      · omega
      · have := getD_le (k := k) h5; omega
    by_cases hc : t.used.getD k 0 ||| nb r cl = r ∧ nb r cl = 0 ∨ t.used.getD k 0 ||| nb r cl = 0 ∧ d < i
    · rw [if_pos hc]
      refine ⟨nb_lt h1, by simpa using h2, by simpa using h3, fun x hx => ?_, mem_set_le hM (by omega)⟩
      have := mem_set_le h4' (by omega) x hx
      omega
    · rw [if_neg hc]
      refine ⟨h1, by simpa using h2, by simpa using h3, fun x hx => ?_, mem_set_le hM hi'⟩
      · have hu : t.used.getD k 0 ||| nb r cl < 4096 := Nat.or_lt_two_pow (n := 12) (by have := getD_le (k := k) h4'; omega) (nb_lt hr)
        have := mem_set_le h4' (v := t.used.getD k 0 ||| nb r cl) (by omega) x hx
        omega
  · rw [if_neg hb]
    exact ⟨h1, h2, h3, h4, hM⟩
theorem letGo_fits {L : Lay} {cl wa M : Nat} {s : St} (hL : L.Ok) (hs : s.Fits M) : ∀ k, k ≤ L.routes.length → (letGo L cl wa s k).Fits (M + k)
  | 0, _ => hs
  | k + 1, hk => by
    obtain ⟨r, hr⟩ := some_at L.routes k hk
    have h := letGo_fits (cl := cl) (wa := wa) hL hs k (by omega)
    rw [letGo, getD_of hr]
    exact one_fits h (hL.small r (List.mem_of_getElem? hr))
theorem one_skip {d cl wa k r : Nat} {t : St} (h : t.set.testBit k = false) : one d cl wa t k r = t := by unfold one; rw [if_neg (by simp [h])]
theorem one_keep {d cl wa k r x y : Nat} {t : St} (h : t.set.testBit k = true) (hx : t.used[k]? = some x) (hy : t.idle[k]? = some y)
    (hn : ¬ (x ||| nb r cl = r ∧ nb r cl = 0 ∨ x ||| nb r cl = 0 ∧ d < if wa.testBit k then 0 else y + 1)) :
    one d cl wa t k r = ⟨t.set, t.used.set k (x ||| nb r cl), t.idle.set k (if wa.testBit k then 0 else y + 1)⟩ := by
  unfold one
  rw [if_pos h]
  dsimp only
  rw [getD_of hx, getD_of hy, if_neg hn]
theorem one_go {d cl wa k r x y : Nat} {t : St} (h : t.set.testBit k = true) (hx : t.used[k]? = some x) (hy : t.idle[k]? = some y)
    (hn : x ||| nb r cl = r ∧ nb r cl = 0 ∨ x ||| nb r cl = 0 ∧ d < if wa.testBit k then 0 else y + 1) :
    one d cl wa t k r = ⟨nb t.set (1 <<< k), t.used.set k 0, t.idle.set k 0⟩ := by
  unfold one
  rw [if_pos h]
  dsimp only
  rw [getD_of hx, getD_of hy, if_pos hn]
theorem or_shl_lt {a k : Nat} (ha : a < 256) (hk : k < 8) : a ||| 1 <<< k < 256 :=
  Nat.or_lt_two_pow (n := 8) ha (by rw [Nat.shiftLeft_eq, Nat.one_mul]; exact Nat.pow_lt_pow_right (by decide) hk)
theorem setTo_lt (rs : List Nat) (cl wa set : Nat) (h : set < 256) : ∀ k, k ≤ 8 → setTo rs cl wa set k < 256
  | 0, _ => h
  | k + 1, hk => by
    have ih := setTo_lt rs cl wa set h k (by omega)
    rw [setTo]
    split
    · exact or_shl_lt ih (by omega)
    · exact ih
theorem outTo_lt (rs : List Nat) (cl wa : Nat) (s : St) : ∀ k, k ≤ 8 → outTo rs cl wa s k < 256
  | 0, _ => by simp [outTo]
  | k + 1, hk => by
    have ih := outTo_lt rs cl wa s k (by omega)
    rw [outTo]
    split
    · exact or_shl_lt ih (by omega)
    · exact ih
theorem step_fits {L : Lay} {c d : Int} {s : St} {M : Nat} (hL : L.Ok) (hs : s.Fits M) : (step L c d s).1.Fits (M + 8) := by
  have h := letGo_fits (cl := msk c L.secs) (wa := msk d L.routes.length) hL hs L.routes.length (Nat.le_refl _)
  obtain ⟨h1, h2, h3, h4, h5⟩ := h
  exact ⟨setTo_lt _ _ _ _ h1 _ hL.many2, h2, h3, h4, fun x hx => Nat.le_trans (h5 x hx) (by have := hL.many2; omega)⟩
theorem bit_eq1 (a k : Nat) (h : a < 4096) : (bits .and .i64 ((a : Int) / 2 ^ k) 1 == 1) = a.testBit k := by
  rw [bit_i64 _ _ (by omega)]
  cases a.testBit k <;> rfl
theorem bit_eq0 (a k : Nat) (h : a < 4096) : (bits .and .i64 ((a : Int) / 2 ^ k) 1 == 0) = !a.testBit k := by
  rw [bit_i64 _ _ (by omega)]
  cases a.testBit k <;> rfl
theorem and_eq0 (a b : Nat) (ha : a < 4096) (hb : b < 4096) : (bits .and .i64 (a : Int) (b : Int) == 0) = decide (a &&& b = 0) := by
  rw [and_i64 _ _ (by omega) (by omega)]
  by_cases h : a &&& b = 0
  · simp [h]
  · simp [h]
theorem busy_eq0 (r cl : Nat) (h : r < 4096) : (bits .and .i64 (r : Int) (bits .xor .i64 (-1) (cl : Int)) == 0) = decide (nb r cl = 0) := by
  rw [and_not_i64 _ _ (by omega)]
  by_cases h : nb r cl = 0
  · simp [h]
  · simp [h]
theorem newOne_eq {rs : List Nat} {cl wa u j r : Nat} (hr : rs[j]? = some r) :
    newOne rs cl wa u j = (wa.testBit j && !u.testBit j && decide (u &&& conf rs j = 0) && decide (nb r cl = 0)) := by
  unfold newOne; rw [getD_of hr]
theorem shows_eq {rs : List Nat} {cl wa j r x : Nat} {t : St} (hr : rs[j]? = some r) (hx : t.used[j]? = some x) :
    shows rs cl wa t j = (t.set.testBit j && decide (x = 0) && decide (nb r cl = 0) && wa.testBit j) := by
  unfold shows; rw [getD_of hr, getD_of hx]
theorem ints_one (l : List Int) : ∀ u ∈ ints l, u.oneCell' = true := by
  intro u hu
  simp only [ints, List.mem_map] at hu
  obtain ⟨x, _, rfl⟩ := hu
  rfl
theorem stC_one (t : St) : (stC t).all (·.oneCell') = true := by
  rw [Array.all_eq_true_iff_forall_mem]
  intro u hu
  simp only [stC, stL, List.mem_toArray, List.mem_cons, List.mem_append] at hu
  rcases hu with rfl | hu | hu
  · rfl
  · exact ints_one _ u hu
  · exact ints_one _ u hu
theorem gone_at {w : World} {B k u i : Nat} {t : St} {T : TypeId} (h : Has w B T (stC ⟨t.set, t.used.set k u, t.idle.set k i⟩)) (h1 : t.used.length = 8) (hk : k < 8) (hs : t.set < 256) (n : Nat) :
    Has ((((w.drewN n).setCell ⟨B, 0, none⟩ (.int .i64 (bits .andNot .i64 (t.set : Int) (wrap64 (2 ^ k))))).setCell ⟨B, 1 + k, none⟩ (.int .i64 0)).setCell ⟨B, 9 + k, none⟩ (.int .i64 0)) B T
      (stC ⟨nb t.set (1 <<< k), t.used.set k 0, t.idle.set k 0⟩) := by
  have h2 := (((h.drewN n).set 0 (I (nb t.set (1 <<< k) : Nat))).set (1 + k) (I (0 : Nat))).set (9 + k) (I (0 : Nat))
  rw [stC_setSet, stC_setUsed _ _ _ (by simp [h1, hk]), stC_setIdle _ _ _ (by simp [h1])] at h2
  simp only [List.set_set] at h2
  rw [shl1 k (by omega), andNot_i64 _ _ (by omega)]
  exact h2
end Go.Proofs.YtdhekhlmdefcnaaDoor
