/- Part 13 of the proof: StepPlain, Safe, MostLaw, LayoutMost, LayLaw. -/
import Derived.Test.YtdhekhlmdefcnaaDoorPart12
import Derived.Test.YtdhekhlmdefcnaaDoorPart3
/- Step of core: what its rounds do, in plain Lean. -/
namespace Go.Proofs.YtdhekhlmdefcnaaDoor
open Go.RowKit
theorem stC_size (s : St) (h1 : s.used.length = 8) (h2 : s.idle.length = 8) : (stC s).size = 17 := by
  simp [stC, stL, ints_length, zs_length, h1, h2]
theorem stC_used {t : St} {k x : Nat} (h : t.used[k]? = some x) : (stC t)[1 + k]? = some (I x) := by
  have hk : k < t.used.length := (List.getElem?_eq_some_iff.1 h).1
  rw [Nat.add_comm]
  show (I t.set :: (ints (zs t.used) ++ ints (zs t.idle))).toArray[k + 1]? = _
  rw [List.getElem?_toArray, List.getElem?_cons_succ, List.getElem?_append_left (by rw [ints_length, zs_length]; exact hk), ints_get, zs_get, h]
  rfl
theorem stC_idle {t : St} {k y : Nat} (h8 : t.used.length = 8) (h : t.idle[k]? = some y) : (stC t)[9 + k]? = some (I y) := by
  rw [show 9 + k = (8 + k) + 1 by omega]
  show (I t.set :: (ints (zs t.used) ++ ints (zs t.idle))).toArray[8 + k + 1]? = _
  rw [List.getElem?_toArray, List.getElem?_cons_succ, List.getElem?_append_right (by rw [ints_length, zs_length]; omega), ints_length, zs_length, h8, Nat.add_sub_cancel_left, ints_get, zs_get, h]
  rfl
theorem stC_setSet (t : St) (v : Nat) : (stC t).setIfInBounds 0 (I v) = stC { t with set := v } := by
  simp [stC, stL]
theorem zs_set (l : List Nat) (k v : Nat) : zs (l.set k v) = (zs l).set k v := by simp [zs, List.map_set]
theorem ints_set (l : List Int) (k : Nat) (v : Int) : ints (l.set k v) = (ints l).set k (I v) := by simp [ints, List.map_set]
theorem stC_setUsed (t : St) (k v : Nat) (hk : k < t.used.length) : (stC t).setIfInBounds (1 + k) (I v) = stC { t with used := t.used.set k v } := by
  rw [Nat.add_comm]
  simp [stC, stL, zs_set, ints_set, ints_length, zs_length, hk]
theorem stC_setIdle (t : St) (k v : Nat) (h8 : t.used.length = 8) : (stC t).setIfInBounds (9 + k) (I v) = stC { t with idle := t.idle.set k v } := by
  rw [show 9 + k = (8 + k) + 1 by omega]
  simp [stC, stL, zs_set, ints_set, ints_length, zs_length, h8]
theorem mem_set_le {l : List Nat} {k v M : Nat} (hl : ∀ x ∈ l, x ≤ M) (hv : v ≤ M) : ∀ x ∈ l.set k v, x ≤ M := by
  intro x hx
  rcases List.mem_or_eq_of_mem_set hx with h | h
  · exact hl x h
  · omega
theorem getD_le {l : List Nat} {k M : Nat} (hl : ∀ x ∈ l, x ≤ M) : l.getD k 0 ≤ M := by
  rw [List.getD_eq_getElem?_getD]
  cases h : l[k]? with
  | none => simp
  | some x => exact hl x (List.mem_of_getElem? h)
theorem one_fits {d cl wa k r M : Nat} {t : St} (ht : t.Fits M) (hr : r < 4096) : (one d cl wa t k r).Fits (M + 1) := by
  obtain ⟨h1, h2, h3, h4, h5⟩ := ht
  have h4' : ∀ x ∈ t.used, x ≤ 4095 := fun x hx => by have := h4 x hx; omega
  have hM : ∀ x ∈ t.idle, x ≤ M + 1 := fun x hx => Nat.le_succ_of_le (h5 x hx)
  unfold one
  by_cases hb : t.set.testBit k = true
  · rw [if_pos hb]
    dsimp only
    generalize hi : (if wa.testBit k = true then 0 else t.idle.getD k 0 + 1) = i
    have hi' : i ≤ M + 1 := by
      rw [← hi]
      split
      · omega
      · have := getD_le (k := k) h5; omega
    by_cases hc : t.used.getD k 0 ||| nb r cl = r ∧ nb r cl = 0 ∨ t.used.getD k 0 ||| nb r cl = 0 ∧ d < i
    · rw [if_pos hc]
      refine ⟨nb_lt h1, by simpa using h2, by simpa using h3, fun x hx => ?_, mem_set_le hM (by omega)⟩
      have := mem_set_le h4' (by omega) x hx
      omega
    · rw [if_neg hc]
      refine ⟨h1, by simpa using h2, by simpa using h3, fun x hx => ?_, mem_set_le hM hi'⟩
      · have hu : t.used.getD k 0 ||| nb r cl < 4096 := Nat.or_lt_two_pow (n := 12) (by have := getD_le (k := k) h4'; omega) (nb_lt hr)
        have := mem_set_le h4' (v := t.used.getD k 0 ||| nb r cl) (by omega) x hx
        omega
  · rw [if_neg hb]
    exact ⟨h1, h2, h3, h4, hM⟩
theorem letGo_fits {L : Lay} {cl wa M : Nat} {s : St} (hL : L.Ok) (hs : s.Fits M) : ∀ k, k ≤ L.routes.length → (letGo L cl wa s k).Fits (M + k)
  | 0, _ => hs
  | k + 1, hk => by
    obtain ⟨r, hr⟩ := some_at L.routes k hk
    have h := letGo_fits (cl := cl) (wa := wa) hL hs k (by omega)
    rw [letGo, getD_of hr]
    exact one_fits h (hL.small r (List.mem_of_getElem? hr))
theorem one_skip {d cl wa k r : Nat} {t : St} (h : t.set.testBit k = false) : one d cl wa t k r = t := by unfold one; rw [if_neg (by simp [h])]
theorem one_keep {d cl wa k r x y : Nat} {t : St} (h : t.set.testBit k = true) (hx : t.used[k]? = some x) (hy : t.idle[k]? = some y)
    (hn : ¬ (x ||| nb r cl = r ∧ nb r cl = 0 ∨ x ||| nb r cl = 0 ∧ d < if wa.testBit k then 0 else y + 1)) :
    one d cl wa t k r = ⟨t.set, t.used.set k (x ||| nb r cl), t.idle.set k (if wa.testBit k then 0 else y + 1)⟩ := by
  unfold one
  rw [if_pos h]
  dsimp only
  rw [getD_of hx, getD_of hy, if_neg hn]
theorem one_go {d cl wa k r x y : Nat} {t : St} (h : t.set.testBit k = true) (hx : t.used[k]? = some x) (hy : t.idle[k]? = some y)
    (hn : x ||| nb r cl = r ∧ nb r cl = 0 ∨ x ||| nb r cl = 0 ∧ d < if wa.testBit k then 0 else y + 1) :
    one d cl wa t k r = ⟨nb t.set (1 <<< k), t.used.set k 0, t.idle.set k 0⟩ := by
  unfold one
  rw [if_pos h]
  dsimp only
  rw [getD_of hx, getD_of hy, if_pos hn]
theorem or_shl_lt {a k : Nat} (ha : a < 256) (hk : k < 8) : a ||| 1 <<< k < 256 :=
  Nat.or_lt_two_pow (n := 8) ha (by rw [Nat.shiftLeft_eq, Nat.one_mul]; exact Nat.pow_lt_pow_right (by decide) hk)
theorem setTo_lt (rs : List Nat) (cl wa set : Nat) (h : set < 256) : ∀ k, k ≤ 8 → setTo rs cl wa set k < 256
  | 0, _ => h
  | k + 1, hk => by
    have ih := setTo_lt rs cl wa set h k (by omega)
    rw [setTo]
    split
    · exact or_shl_lt ih (by omega)
    · exact ih
theorem outTo_lt (rs : List Nat) (cl wa : Nat) (s : St) : ∀ k, k ≤ 8 → outTo rs cl wa s k < 256
  | 0, _ => by simp [outTo]
  | k + 1, hk => by
    have ih := outTo_lt rs cl wa s k (by omega)
    rw [outTo]
    split
    · exact or_shl_lt ih (by omega)
    · exact ih
theorem step_fits {L : Lay} {c d : Int} {s : St} {M : Nat} (hL : L.Ok) (hs : s.Fits M) : (step L c d s).1.Fits (M + 8) := by
  have h := letGo_fits (cl := msk c L.secs) (wa := msk d L.routes.length) hL hs L.routes.length (Nat.le_refl _)
  obtain ⟨h1, h2, h3, h4, h5⟩ := h
  exact ⟨setTo_lt _ _ _ _ h1 _ hL.many2, h2, h3, h4, fun x hx => Nat.le_trans (h5 x hx) (by have := hL.many2; omega)⟩
theorem bit_eq1 (a k : Nat) (h : a < 4096) : (bits .and .i64 ((a : Int) / 2 ^ k) 1 == 1) = a.testBit k := by
  rw [bit_i64 _ _ (by omega)]
  cases a.testBit k <;> rfl
theorem bit_eq0 (a k : Nat) (h : a < 4096) : (bits .and .i64 ((a : Int) / 2 ^ k) 1 == 0) = !a.testBit k := by
  rw [bit_i64 _ _ (by omega)]
  cases a.testBit k <;> rfl
theorem and_eq0 (a b : Nat) (ha : a < 4096) (hb : b < 4096) : (bits .and .i64 (a : Int) (b : Int) == 0) = decide (a &&& b = 0) := by
  rw [and_i64 _ _ (by omega) (by omega)]
  by_cases h : a &&& b = 0
  · simp [h]
  · simp [h]
theorem busy_eq0 (r cl : Nat) (h : r < 4096) : (bits .and .i64 (r : Int) (bits .xor .i64 (-1) (cl : Int)) == 0) = decide (nb r cl = 0) := by
  rw [and_not_i64 _ _ (by omega)]
  by_cases h : nb r cl = 0
  · simp [h]
  · simp [h]
theorem newOne_eq {rs : List Nat} {cl wa u j r : Nat} (hr : rs[j]? = some r) :
    newOne rs cl wa u j = (wa.testBit j && !u.testBit j && decide (u &&& conf rs j = 0) && decide (nb r cl = 0)) := by
  unfold newOne; rw [getD_of hr]
theorem shows_eq {rs : List Nat} {cl wa j r x : Nat} {t : St} (hr : rs[j]? = some r) (hx : t.used[j]? = some x) :
    shows rs cl wa t j = (t.set.testBit j && decide (x = 0) && decide (nb r cl = 0) && wa.testBit j) := by
  unfold shows; rw [getD_of hr, getD_of hx]
theorem ints_one (l : List Int) : ∀ u ∈ ints l, u.oneCell' = true := by
  intro u hu
  simp only [ints, List.mem_map] at hu
  obtain ⟨x, _, rfl⟩ := hu
  rfl
theorem stC_one (t : St) : (stC t).all (·.oneCell') = true := by
  rw [Array.all_eq_true_iff_forall_mem]
  intro u hu
  simp only [stC, stL, List.mem_toArray, List.mem_cons, List.mem_append] at hu
  rcases hu with rfl | hu | hu
  · rfl
  · exact ints_one _ u hu
  · exact ints_one _ u hu
theorem gone_at {w : World} {B k u i : Nat} {t : St} {T : TypeId} (h : Has w B T (stC ⟨t.set, t.used.set k u, t.idle.set k i⟩)) (h1 : t.used.length = 8) (hk : k < 8) (hs : t.set < 256) (n : Nat) :
    Has ((((w.drewN n).setCell ⟨B, 0, none⟩ (.int .i64 (bits .andNot .i64 (t.set : Int) (wrap64 (2 ^ k))))).setCell ⟨B, 1 + k, none⟩ (.int .i64 0)).setCell ⟨B, 9 + k, none⟩ (.int .i64 0)) B T
      (stC ⟨nb t.set (1 <<< k), t.used.set k 0, t.idle.set k 0⟩) := by
  have h2 := (((h.drewN n).set 0 (I (nb t.set (1 <<< k) : Nat))).set (1 + k) (I (0 : Nat))).set (9 + k) (I (0 : Nat))
  rw [stC_setSet, stC_setUsed _ _ _ (by simp [h1, hk]), stC_setIdle _ _ _ (by simp [h1])] at h2
  simp only [List.set_set] at h2
  rw [shl1 k (by omega), andNot_i64 _ _ (by omega)]
  exact h2
end Go.Proofs.YtdhekhlmdefcnaaDoor
/- NO TWO MEET: the plain law of Step. -/
namespace Go.Proofs.YtdhekhlmdefcnaaDoor

theorem testBit_shl1 (k i : Nat) : (1 <<< k).testBit i = decide (k = i) := by
  rw [Nat.shiftLeft_eq, Nat.one_mul, Nat.testBit_two_pow]
theorem testBit_or1 (a k i : Nat) : (a ||| 1 <<< k).testBit i = (a.testBit i || decide (k = i)) := by rw [Nat.testBit_or, testBit_shl1]
theorem testBit_nb1 (a k i : Nat) : (nb a (1 <<< k)).testBit i = (a.testBit i && !decide (k = i)) := by rw [testBit_nb, testBit_shl1]
theorem and_zero_iff (a b : Nat) : a &&& b = 0 ↔ ∀ i, a.testBit i = true → b.testBit i = false := by
  constructor
  · intro h i hi
    have := congrArg (fun x => x.testBit i) h
    simp only [Nat.testBit_and, Nat.zero_testBit, hi, Bool.true_and] at this
    exact this
  · intro h
    apply Nat.eq_of_testBit_eq
    intro i
    rw [Nat.testBit_and, Nat.zero_testBit]
    cases hi : a.testBit i with
    | false => rfl
    | true => rw [h i hi]; rfl
/-- the k-th route -/
def rt (rs : List Nat) (k : Nat) : Nat := rs.getD k 0
theorem confTo_bit (rs : List Nat) (i m k : Nat) : (confTo rs i m).testBit k = (decide (k < m) && decide (k ≠ i) && decide (rt rs i &&& rt rs k ≠ 0)) := by
  induction m with
  | zero => simp [confTo]
  | succ m ih =>
    rw [confTo]
    by_cases h : m ≠ i ∧ rs.getD i 0 &&& rs.getD m 0 ≠ 0
    · rw [if_pos h, testBit_or1, ih]
      by_cases hk : m = k
      · subst hk; simp [rt, h.1]; exact h.2
      · have : (k < m + 1) ↔ (k < m) := by omega
        simp [hk, this]
    · rw [if_neg h, ih]
      by_cases hk : m = k
      · subst hk
        have : (decide (m ≠ i) && decide (rt rs i &&& rt rs m ≠ 0)) = false := by
          rw [Bool.and_eq_false_iff]
          by_cases h1 : m = i
          · left; simp [h1]
          · right; simp; exact Decidable.byContradiction fun h2 => h ⟨h1, h2⟩
        simp only [Bool.and_assoc, this, Bool.and_false]
      · have : (k < m + 1) ↔ (k < m) := by omega
        simp [this]
/-- routes that are set have no section in common -/
def Inv (rs : List Nat) (set : Nat) : Prop := ∀ i j, i < rs.length → j < rs.length → i ≠ j → set.testBit i = true → set.testBit j = true → rt rs i &&& rt rs j = 0
theorem inv_sub {rs : List Nat} {a b : Nat} (h : Inv rs a) (hs : ∀ i, b.testBit i = true → a.testBit i = true) : Inv rs b :=
  fun i j hi hj hne h1 h2 => h i j hi hj hne (hs i h1) (hs j h2)
theorem one_cases {P : St → Prop} (d cl wa k r : Nat) (s : St) (h0 : s.set.testBit k = false → P s)
    (h1 : ∀ i, s.set.testBit k = true → (s.used.getD k 0 ||| nb r cl = r ∧ nb r cl = 0 ∨ s.used.getD k 0 ||| nb r cl = 0 ∧ d < i) → P ⟨nb s.set (1 <<< k), s.used.set k 0, s.idle.set k 0⟩)
    (h2 : ∀ i, s.set.testBit k = true → P ⟨s.set, s.used.set k (s.used.getD k 0 ||| nb r cl), s.idle.set k i⟩) : P (one d cl wa s k r) := by
  unfold one
  by_cases hb : s.set.testBit k = true
  · rw [if_pos hb]
    dsimp only
    generalize (if wa.testBit k = true then 0 else s.idle.getD k 0 + 1) = i
    by_cases hc : s.used.getD k 0 ||| nb r cl = r ∧ nb r cl = 0 ∨ s.used.getD k 0 ||| nb r cl = 0 ∧ d < i
    · rw [if_pos hc]; exact h1 i hb hc
    · rw [if_neg hc]; exact h2 i hb
  · rw [if_neg hb]; exact h0 (by simpa using hb)
theorem one_sub (d cl wa k r : Nat) (s : St) (i : Nat) : (one d cl wa s k r).set.testBit i = true → s.set.testBit i = true := by
  refine one_cases (P := fun x => x.set.testBit i = true → s.set.testBit i = true) d cl wa k r s (fun _ h => h) (fun _ _ _ h => ?_) (fun _ _ h => h)
  dsimp only at h
  rw [testBit_nb1] at h
  simp at h
  exact h.1
theorem letGo_sub (L : Lay) (cl wa : Nat) (s : St) (i : Nat) : ∀ m, (letGo L cl wa s m).set.testBit i = true → s.set.testBit i = true
  | 0, h => h
  | m + 1, h => letGo_sub L cl wa s i m (one_sub _ _ _ _ _ _ _ h)
theorem setTo_inv (rs : List Nat) (cl wa set : Nat) (h : Inv rs set) (hb : set < 2 ^ rs.length) : ∀ m, m ≤ rs.length → Inv rs (setTo rs cl wa set m)
  | 0, _ => h
  | m + 1, hm => by
    have ih := setTo_inv rs cl wa set h hb m (by omega)
    rw [setTo]
    split
    · rename_i hn
      unfold newOne at hn
      simp only [Bool.and_eq_true, decide_eq_true_eq] at hn
      obtain ⟨⟨⟨_, _⟩, hc⟩, _⟩ := hn
      rw [and_zero_iff] at hc
      have key : ∀ j, j < rs.length → j ≠ m → (setTo rs cl wa set m).testBit j = true → rt rs m &&& rt rs j = 0 := by
        intro j hj hjm hb
        have := hc j hb
        unfold conf at this
        rw [confTo_bit] at this
        simp [hj, hjm] at this
        exact this
      intro i j hi hj hne h1 h2
      rw [testBit_or1] at h1 h2
      by_cases him : m = i
      · subst him
        have h2' : (setTo rs cl wa set m).testBit j = true := by simpa [hne] using h2
        exact key j hj (Ne.symm hne) h2'
      · have h1' : (setTo rs cl wa set m).testBit i = true := by simpa [him] using h1
        by_cases hjm : m = j
        · subst hjm
          rw [Nat.and_comm]
          exact key i hi (Ne.symm him) h1'
        · have h2' : (setTo rs cl wa set m).testBit j = true := by simpa [hjm] using h2
          exact ih i j hi hj hne h1' h2'
    · exact ih
theorem setTo_sup (rs : List Nat) (cl wa set : Nat) (i : Nat) (h : set.testBit i = true) : ∀ m, (setTo rs cl wa set m).testBit i = true
  | 0 => h
  | m + 1 => by
    rw [setTo]
    split
    · rw [testBit_or1, setTo_sup rs cl wa set i h m]; rfl
    · exact setTo_sup rs cl wa set i h m
theorem setTo_pow (rs : List Nat) (cl wa set n : Nat) (h : set < 2 ^ n) : ∀ m, m ≤ n → setTo rs cl wa set m < 2 ^ n
  | 0, _ => h
  | m + 1, hm => by
    have ih := setTo_pow rs cl wa set n h m (by omega)
    rw [setTo]
    split
    · refine Nat.or_lt_two_pow ih ?_
      rw [Nat.shiftLeft_eq, Nat.one_mul]
      exact Nat.pow_lt_pow_right (by decide) (by omega)
    · exact ih
theorem one_set_le (d cl wa k r : Nat) (s : St) : (one d cl wa s k r).set ≤ s.set :=
  one_cases (P := fun x => x.set ≤ s.set) d cl wa k r s (fun _ => Nat.le_refl _) (fun _ _ _ => nb_le _ _) (fun _ _ => Nat.le_refl _)
theorem letGo_set_le (L : Lay) (cl wa : Nat) (s : St) : ∀ m, (letGo L cl wa s m).set ≤ s.set
  | 0 => Nat.le_refl _
  | m + 1 => Nat.le_trans (one_set_le _ _ _ _ _ _) (letGo_set_le L cl wa s m)
theorem step_inv {L : Lay} {cl wa : Nat} {s : St} (h : Inv L.routes s.set) (hb : s.set < 2 ^ L.routes.length) :
    Inv L.routes (stepS L cl wa s).set ∧ (stepS L cl wa s).set < 2 ^ L.routes.length := by
  have h1 : (letGo L cl wa s L.routes.length).set < 2 ^ L.routes.length := Nat.lt_of_le_of_lt (letGo_set_le _ _ _ _ _) hb
  exact ⟨setTo_inv _ _ _ _ (inv_sub h fun i hi => letGo_sub L cl wa s i _ hi) h1 _ (Nat.le_refl _), setTo_pow _ _ _ _ _ h1 _ (Nat.le_refl _)⟩
theorem outTo_bit (rs : List Nat) (cl wa : Nat) (s : St) (k m : Nat) : (outTo rs cl wa s m).testBit k = (decide (k < m) && shows rs cl wa s k) := by
  induction m with
  | zero => simp [outTo]
  | succ m ih =>
    rw [outTo]
    by_cases h : shows rs cl wa s m = true
    · rw [if_pos h, testBit_or1, ih]
      by_cases hk : m = k
      · subst hk; simp [h]
      · have : (k < m + 1) ↔ (k < m) := by omega
        simp [hk, this]
    · rw [if_neg h, ih]
      by_cases hk : m = k
      · subst hk; simp [h]
      · have : (k < m + 1) ↔ (k < m) := by omega
        simp [this]
theorem outTo_pow (rs : List Nat) (cl wa : Nat) (s : St) (m : Nat) : outTo rs cl wa s m < 2 ^ m :=
  Nat.lt_pow_two_of_testBit _ fun i hi => by rw [outTo_bit]; simp; omega
theorem getD_setN_ne (l : List Nat) (m k v : Nat) (h : m ≠ k) : (l.set m v).getD k 0 = l.getD k 0 := by
  simp [List.getD_eq_getElem?_getD, h]
/-- What is at other places is as it was. -/
theorem one_rest (d cl wa m r : Nat) (s : St) (k : Nat) (h : m ≠ k) : (one d cl wa s m r).set.testBit k = s.set.testBit k ∧ (one d cl wa s m r).used.getD k 0 = s.used.getD k 0 ∧ (one d cl wa s m r).idle.getD k 0 = s.idle.getD k 0 := by
  refine one_cases (P := fun x => x.set.testBit k = s.set.testBit k ∧ x.used.getD k 0 = s.used.getD k 0 ∧ x.idle.getD k 0 = s.idle.getD k 0) d cl wa m r s (fun _ => ⟨rfl, rfl, rfl⟩) (fun _ _ _ => ?_) (fun _ _ => ?_)
  · exact ⟨by rw [testBit_nb1]; simp [h], getD_setN_ne _ _ _ _ h, getD_setN_ne _ _ _ _ h⟩
  · exact ⟨rfl, getD_setN_ne _ _ _ _ h, getD_setN_ne _ _ _ _ h⟩
theorem letGo_rest (L : Lay) (cl wa : Nat) (s : St) (k : Nat) : ∀ m, m ≤ k → (letGo L cl wa s m).set.testBit k = s.set.testBit k ∧ (letGo L cl wa s m).used.getD k 0 = s.used.getD k 0 ∧ (letGo L cl wa s m).idle.getD k 0 = s.idle.getD k 0
  | 0, _ => ⟨rfl, rfl, rfl⟩
  | m + 1, hm => by
    obtain ⟨h1, h2, h3⟩ := letGo_rest L cl wa s k m (by omega)
    obtain ⟨g1, g2, g3⟩ := one_rest L.delay cl wa m (L.routes.getD m 0) (letGo L cl wa s m) k (by omega)
    exact ⟨g1.trans h1, g2.trans h2, g3.trans h3⟩
theorem letGo_done (L : Lay) (cl wa : Nat) (s : St) (k : Nat) : ∀ m, k < m → (letGo L cl wa s m).set.testBit k = (letGo L cl wa s (k + 1)).set.testBit k
  | 0, h => by omega
  | m + 1, h => by
    by_cases hk : k = m
    · subst hk; rfl
    · rw [← letGo_done L cl wa s k m (by omega)]
      exact (one_rest L.delay cl wa m (L.routes.getD m 0) (letGo L cl wa s m) k (by omega)).1
/-- A route that is let go: nothing is in it, and, if it was used, all of it was. -/
theorem let_go {L : Lay} {cl wa : Nat} {s : St} {k : Nat} (hk : k < L.routes.length) (h1 : s.set.testBit k = true) (h2 : (stepS L cl wa s).set.testBit k = false) :
    nb (rt L.routes k) cl = 0 ∧ (s.used.getD k 0 ≠ 0 → s.used.getD k 0 ||| nb (rt L.routes k) cl = rt L.routes k) := by
  have h3 : (letGo L cl wa s L.routes.length).set.testBit k = false := by
    cases h : (letGo L cl wa s L.routes.length).set.testBit k with
    | false => rfl
    | true => rw [show (stepS L cl wa s).set = setTo L.routes cl wa (letGo L cl wa s L.routes.length).set L.routes.length from rfl, setTo_sup _ _ _ _ _ h] at h2; cases h2
  rw [letGo_done _ _ _ _ _ _ hk] at h3
  obtain ⟨r1, r2, _⟩ := letGo_rest L cl wa s k k (Nat.le_refl _)
  rw [h1] at r1
  rw [letGo] at h3
  unfold rt
  revert h3
  refine one_cases (P := fun x => x.set.testBit k = false → nb (L.routes.getD k 0) cl = 0 ∧ (s.used.getD k 0 ≠ 0 → s.used.getD k 0 ||| nb (L.routes.getD k 0) cl = L.routes.getD k 0)) _ _ _ _ _ _ ?_ ?_ ?_
  · intro h; rw [r1] at h; cases h
  · intro i _ hc _
    rw [r2] at hc
    rcases hc with ⟨hc1, hc2⟩ | ⟨hc1, _⟩
    · exact ⟨hc2, fun _ => hc1⟩
    · have hz : s.used.getD k 0 = 0 ∧ nb (L.routes.getD k 0) cl = 0 := Nat.or_eq_zero_iff.1 hc1
      exact ⟨hz.2, fun hu => absurd hz.1 hu⟩
  · intro i _ h; dsimp only at h; rw [r1] at h; cases h
/-- the sections of routes that are set: of the first k -/
def heldTo (rs : List Nat) (set : Nat) : Nat → Nat
  | 0 => 0
  | k + 1 => if set.testBit k then heldTo rs set k ||| rt rs k else heldTo rs set k
theorem heldTo_lt (rs : List Nat) (set M : Nat) (h : ∀ r ∈ rs, r < 2 ^ M) : ∀ k, k ≤ rs.length → heldTo rs set k < 2 ^ M
  | 0, _ => Nat.two_pow_pos _
  | k + 1, hk => by
    have ih := heldTo_lt rs set M h k (by omega)
    rw [heldTo]
    split
    · refine Nat.or_lt_two_pow ih (h _ ?_)
      unfold rt
      rw [List.getD_eq_getElem?_getD, List.getElem?_eq_getElem (by omega : k < rs.length)]
      exact List.getElem_mem _
    · exact ih
theorem held_free {rs : List Nat} {set : Nat} (h : Inv rs set) (k : Nat) (hk : k < rs.length) (hs : set.testBit k = true) : ∀ m, m ≤ k → heldTo rs set m &&& rt rs k = 0
  | 0, _ => by simp [heldTo]
  | m + 1, hm => by
    have ih := held_free h k hk hs m (by omega)
    rw [heldTo]
    split
    · rename_i hb
      rw [Nat.and_or_distrib_right, ih, Nat.zero_or]
      exact h m k (by omega) hk (by omega) hb hs
    · exact ih
/-- What a step's end owes at route j. -/
structure Safe (L : Lay) (cl wa : Nat) (s nx : St) (out j r : Nat) : Prop where
  held : nx.set.testBit j = true → heldTo L.routes nx.set j &&& r = 0
  out1 : out.testBit j = true → nx.set.testBit j = true
  out2 : out.testBit j = true → wa.testBit j = true
  out3 : out.testBit j = true → nb r cl = 0
  gone : s.set.testBit j = true → nx.set.testBit j = false → nb r cl = 0
  all : s.set.testBit j = true → nx.set.testBit j = false → ∀ x, s.used[j]? = some x → x ≠ 0 → x ||| nb r cl = r
theorem step_safe {L : Lay} {c w : Int} {s : St} (hI : Inv L.routes s.set) (hb : s.set < 2 ^ L.routes.length) {j r : Nat} (hr : L.routes[j]? = some r) :
    Safe L (msk c L.secs) (msk w L.routes.length) s (step L c w s).1 (step L c w s).2 j r := by
  have hj : j < L.routes.length := (List.getElem?_eq_some_iff.1 hr).1
  have hrt : rt L.routes j = r := by unfold rt; exact getD_of hr
  have hI' := (step_inv (cl := msk c L.secs) (wa := msk w L.routes.length) hI hb).1
  have ho : (step L c w s).2.testBit j = true → shows L.routes (msk c L.secs) (msk w L.routes.length) (step L c w s).1 j = true := by
    intro h
    have h' : (outTo L.routes (msk c L.secs) (msk w L.routes.length) (step L c w s).1 L.routes.length).testBit j = true := h
    rw [outTo_bit] at h'
    simp at h'
    exact h'.2
  unfold shows at ho
  simp only [Bool.and_eq_true, decide_eq_true_eq, getD_of hr] at ho
  exact ⟨fun h => by rw [← hrt]; exact held_free hI' j hj h j (Nat.le_refl _), fun h => (ho h).1.1.1, fun h => (ho h).2, fun h => (ho h).1.2,
    fun h1 h2 => by rw [← hrt]; exact (let_go hj h1 h2).1, fun h1 h2 x hx hx0 => by rw [← hrt, ← getD_of hx]; exact (let_go hj h1 h2).2 (by rw [getD_of hx]; exact hx0)⟩
end Go.Proofs.YtdhekhlmdefcnaaDoor
/- A ROUTE IS ITS OWN: the plain law of conflicts and Most. -/
namespace Go.Proofs.YtdhekhlmdefcnaaDoor
theorem raw_and (x : Nat) (p : Int) (n : Nat) (hx : x < 2 ^ n) (hn : n ≤ 62) : bits .and .i64 (x : Int) p = ((x &&& msk p n : Nat) : Int) := by
  have h2 : (2 : Nat) ^ n ≤ 2 ^ 62 := Nat.pow_le_pow_right (by decide) hn
  show IntKind.i64.wrap (((BitVec.ofInt 64 (x : Int) &&& BitVec.ofInt 64 p).toNat : Nat) : Int) = _
  rw [ofInt_msk p, BitVec.ofInt_natCast, BitVec.toNat_and, BitVec.toNat_ofNat, BitVec.toNat_ofNat, Nat.mod_eq_of_lt (a := x) (by omega), Nat.mod_eq_of_lt (msk_lt p 64)]
  have he : x &&& msk p 64 = x &&& msk p n := by
    apply Nat.eq_of_testBit_eq
    intro i
    rw [Nat.testBit_and, Nat.testBit_and]
    by_cases hi : i < n
    · rw [msk_bit p 64 n i hi (by omega)]
    · rw [Nat.testBit_lt_two_pow (Nat.lt_of_lt_of_le hx (Nat.pow_le_pow_right (by decide) (by omega)))]
      rfl
  rw [he]
  have : x &&& msk p n ≤ x := Nat.and_le_left
  exact IntWalk.i64_in _ (by omega)
theorem conf_bit (rs : List Nat) (i k : Nat) : (conf rs i).testBit k = (decide (k < rs.length) && decide (k ≠ i) && decide (rt rs i &&& rt rs k ≠ 0)) := confTo_bit rs i rs.length k
theorem conf_sym (rs : List Nat) (i k : Nat) (hi : i < rs.length) (hk : k < rs.length) : (conf rs i).testBit k = (conf rs k).testBit i := by
  rw [conf_bit, conf_bit, Nat.and_comm]
  simp [hi, hk, eq_comm]
theorem conf_self (rs : List Nat) (i : Nat) : (conf rs i).testBit i = false := by rw [conf_bit]; simp
theorem conf_pow (rs : List Nat) (i : Nat) (h : rs.length ≤ 8) : conf rs i < 2 ^ rs.length := confTo_lt rs i rs.length h
/-- how many of the first i bits -/
def cntTo (set : Nat) : Nat → Nat
  | 0 => 0
  | i + 1 => if set.testBit i then cntTo set i + 1 else cntTo set i
def freeTo (cs : List Nat) (set : Nat) : Nat → Bool
  | 0 => true
  | i + 1 => if set.testBit i then freeTo cs set i && decide (cs.getD i 0 &&& set = 0) else freeTo cs set i
theorem cntTo_eq (set : Nat) : ∀ n, cntTo set n = ((List.range n).filter fun i => set.testBit i).length
  | 0 => rfl
  | n + 1 => by
    rw [cntTo, cntTo_eq set n, List.range_succ, List.filter_append, List.length_append]
    cases h : set.testBit n <;> simp [h]
theorem cntTo_le (set : Nat) : ∀ n, cntTo set n ≤ n
  | 0 => Nat.le_refl _
  | n + 1 => by
    have := cntTo_le set n
    rw [cntTo]
    split <;> omega
theorem cntTo_pop (set n : Nat) (hn : n ≤ 8) (hs : set < 2 ^ n) : cntTo set n = pop set := by
  have key : ∀ m, n ≤ m → cntTo set m = cntTo set n := by
    intro m hm
    induction m with
    | zero => have : n = 0 := by omega
              subst this; rfl
    | succ m ih =>
      by_cases e : n = m + 1
      · rw [e]
      · have hb : set.testBit m = false := Nat.testBit_lt_two_pow (Nat.lt_of_lt_of_le hs (Nat.pow_le_pow_right (by decide) (by omega)))
        rw [cntTo, hb]
        exact ih (by omega)
  rw [← key 8 hn, cntTo_eq]
  rfl
theorem freeTo_all (cs : List Nat) (set : Nat) : ∀ n, freeTo cs set n = true → ∀ i, i < n → set.testBit i = true → cs.getD i 0 &&& set = 0
  | 0, _, i, hi, _ => by omega
  | n + 1, h, i, hi, hb => by
    rw [freeTo] at h
    by_cases e : i = n
    · subst e
      rw [if_pos hb] at h
      simp at h
      simpa using h.2
    · refine freeTo_all cs set n ?_ i (by omega) hb
      split at h
      · simp at h; exact h.1
      · exact h
theorem best_ge (cs : List Nat) (N k : Nat) (hk : k < N) (h : okSet cs k = true) : pop k ≤ bestTo cs N := by
  induction N with
  | zero => omega
  | succ N ih =>
    rw [bestTo]
    by_cases e : k = N
    · subst e; rw [if_pos h]; omega
    · have := ih (by omega)
      split <;> omega
theorem best_le (cs : List Nat) (n : Nat) (hn : n ≤ 8) : ∀ N, N ≤ 2 ^ n → bestTo cs N ≤ n
  | 0, _ => Nat.zero_le _
  | N + 1, hN => by
    have ih := best_le cs n hn N (by omega)
    have hp : pop N ≤ n := by rw [← cntTo_pop N n hn (by omega)]; exact cntTo_le _ _
    rw [bestTo]
    split <;> omega
theorem ok_of_free {cs : List Nat} {set n : Nat} (hs : set < 2 ^ n) (h : ∀ i, i < n → set.testBit i = true → cs.getD i 0 &&& set = 0) : okSet cs set = true := by
  unfold okSet
  rw [List.all_eq_true]
  intro i _
  by_cases hb : set.testBit i = true
  · have hi : i < n := by
      rcases Nat.lt_or_ge i n with h | h
      · exact h
      · rw [Nat.testBit_lt_two_pow (Nat.lt_of_lt_of_le hs (Nat.pow_le_pow_right (by decide) h))] at hb; cases hb
    rw [decide_eq_true (h i hi hb), Bool.or_true]
  · simp [hb]
/-- as many as may be set at once: no more are without conflicts -/
theorem most_law {cs : List Nat} {set n : Nat} (hn : n ≤ 8) (hs : set < 2 ^ n) (h : freeTo cs set n = true) : cntTo set n ≤ bestTo cs (2 ^ n) := by
  rw [cntTo_pop set n hn hs]
  exact best_ge _ _ _ hs (ok_of_free hs (freeTo_all cs set n h))
theorem best_one {rs : List Nat} (h1 : 1 ≤ rs.length) : 1 ≤ bestTo (confs rs) (2 ^ rs.length) := by
  have h2 : 1 < 2 ^ rs.length := Nat.lt_of_lt_of_le (by decide : 1 < 2 ^ 1) (Nat.pow_le_pow_right (by decide) h1)
  have hp : pop 1 = 1 := by decide
  have := best_ge (confs rs) (2 ^ rs.length) 1 h2 (ok_of_free (n := 1) (by decide) (fun i hi _ => by
    have : i = 0 := by omega
    subst this
    have hc : (confs rs).getD 0 0 = conf rs 0 := by simp [confs, List.getD_eq_getElem?_getD, show 0 < rs.length from h1]
    rw [hc]
    apply Nat.eq_of_testBit_eq
    intro j
    rw [Nat.testBit_and, Nat.zero_testBit]
    by_cases hj : j = 0
    · subst hj; rw [conf_self]; rfl
    · have : Nat.testBit 1 j = false := by
        have := Nat.testBit_two_pow (n := 0) (m := j)
        simp at this
        rw [this]
        simp
        omega
      rw [this, Bool.and_false]))
  omega
end Go.Proofs.YtdhekhlmdefcnaaDoor
/- The walk over LayoutMost. -/
namespace Go.Proofs.YtdhekhlmdefcnaaDoor
open Go.RowKit
theorem own_slice {w : World} {base : Nat} {e : TypeId} {A : Option Addr} {n c : Nat} {xs : List Value} (h : w.ownsRow base e 1 (.slice A n c) n xs) : n ≤ c ∧ Reads w w.heap.size A xs := by
  obtain ⟨A', c', he, h1, _, h2⟩ := own_reads h
  injection he with e1 _ e3
  subst e1
  subst e3
  exact ⟨h1, h2⟩
theorem TabIs.after {w w' : World} (h : TabIs w) (hg : 1 < w.heap.size) (hb : Below w.heap.size w w') : TabIs w' :=
  fun j v hv => (hb.cell (p := ⟨1, j, none⟩) hg).trans (h j v hv)
set_option maxHeartbeats 8000000 in
set_option maxRecDepth 100000 in
theorem layoutMost_in (a set : Int) (A : Option Addr) (c : Nat) (xs : List Int) (w : World) (hx : xs.length ≤ 30) (hr : Reads w w.heap.size A (ints xs)) (hT : Hid (TabIs w)) (hg : 1 < w.heap.size) :
    Calls Tryd.prog 3 #[I a, .slice A xs.length c, I set] w fun e w' => e = .returned (.bool true) ∧ Below w.heap.size w w' := by
  go_enter Tryd.func3, Tryd.ntmps3
  go_wp2_with fail
  refine (laid_any _ hT hg).mono ?_
  rintro e w1 ⟨rfl, hb1⟩
  have HT1 : Hid (TabIs w1) := Lib.hid (hT.out.after hg hb1)
  have hg1 : 1 < w1.heap.size := Nat.lt_of_lt_of_le hg hb1.size
  have hr1 := (hr.below hb1).more hb1.size
  clear hT hg
  go_wp2_with fail
  refine (line_any a 0 A c xs w1 hx hr1).mono ?_
  rintro e w2 ⟨⟨L, hL, AL, cL, rfl, hown⟩, hb2⟩
  obtain ⟨hcl, hrl⟩ := own_slice hown
  have HT2 : Hid (TabIs w2) := Lib.hid (HT1.out.after hg1 hb2)
  have hg2 : 1 < w2.heap.size := Nat.lt_of_lt_of_le hg1 hb2.size
  have hbw2 : Below w.heap.size w w2 := hb1.trans (hb2.mono hb1.size)
  clear HT1 hg1 hr1 hb1 hb2 hown
  have hn1 := hL.many1
  have hn8 := hL.many2
  go_wp2_with fail
  have k0 : Has (w2.alloc (.cells #[I L.secs, .slice AL L.routes.length cL, I L.delay] 25)) w2.heap.size 25 #[I L.secs, .slice AL L.routes.length cL, I L.delay] := Has.new _ _ _
  have hr3 : Reads (w2.alloc (.cells #[I L.secs, .slice AL L.routes.length cL, I L.delay] 25)) (w2.alloc (.cells #[I L.secs, .slice AL L.routes.length cL, I L.delay] 25)).heap.size AL (ints (zs L.routes)) := (hrl.alloc (Nat.le_refl _) _).more (by simp)
  have hb3 : Below w2.heap.size w2 (w2.alloc (.cells #[I L.secs, .slice AL L.routes.length cL, I L.delay] 25)) := (Below.refl _ _).alloc (Nat.le_refl _) _
  generalize w2.alloc (.cells #[I L.secs, .slice AL L.routes.length cL, I L.delay] 25) = w3 at *
  have HT3 : Hid (TabIs w3) := Lib.hid (HT2.out.after hg2 hb3)
  have hg3 : 1 < w3.heap.size := Nat.lt_of_lt_of_le hg2 hb3.size
  have hbw3 := hbw2.trans (hb3.mono hbw2.size)
  have hB : w.heap.size ≤ w2.heap.size := hbw2.size
  clear HT2 hg2 hb3 hbw2 hrl
  generalize w2.heap.size = B at *
  refine (conflicts_ok L.secs L.delay AL L.routes.length cL L.routes w3 (Lib.hid rfl) hn1 hn8 hcl hr3 (Lib.hid hL.small) (Lib.hid (chk_lay hL))).mono ?_
  rintro e w4 ⟨⟨Ac, nc, rfl, hown⟩, hb4⟩
  have k4 := k0.after hb4
  have l0 := k4.cellv 0 _ rfl
  have l1 := k4.cellv 1 _ rfl
  have l2 := k4.cellv 2 _ rfl
  have HT4 : Hid (TabIs w4) := Lib.hid (HT3.out.after hg3 hb4)
  have hg4 : 1 < w4.heap.size := Nat.lt_of_lt_of_le hg3 hb4.size
  have hr4 := (hr3.below hb4).more hb4.size
  have hbw4 := hbw3.trans (hb4.mono hbw3.size)
  clear HT3 hg3 hbw3 hb4 hr3
  go_wp2_with fail
  refine (most_ok L.secs L.delay AL L.routes.length cL L.routes w4 (Lib.hid rfl) hn1 hn8 hcl hr4 (Lib.hid hL.small) (Lib.hid (chk_lay hL)) HT4 hg4).mono ?_
  rintro e w5 ⟨rfl, hb5⟩
  have k5 := k4.after hb5
  obtain ⟨hcc, hrc⟩ := own_slice (own_after hown hb5)
  have hbw5 := hbw4.trans (hb5.mono hbw4.size)
  have l0 := k5.cellv 0 _ rfl
  have l1 := k5.cellv 1 _ rfl
  have l2 := k5.cellv 2 _ rfl
  clear k0 k4 HT4 hg4 hbw4 hb5 hr4 hown
  have hm1 := best_one hn1
  have hm2 := best_le (confs L.routes) L.routes.length hn8 (2 ^ L.routes.length) (Nat.le_refl _)
  have HLaw := fun h => Lib.hid (most_law (cs := confs L.routes) hn8 (msk_lt set L.routes.length) h)
  generalize bestTo (confs L.routes) (2 ^ L.routes.length) = best at *
  go_wp2_with fail
  have HS : Hid (∀ i, i < L.routes.length → bits .and .i64 (set / 2 ^ i) 1 = if (msk set L.routes.length).testBit i then 1 else 0) := Lib.hid (fun i hi => raw_bit set i _ hi)
  have HA : Hid (∀ x : Nat, x < 2 ^ L.routes.length → bits .and .i64 (x : Int) set = ((x &&& msk set L.routes.length : Nat) : Int)) := Lib.hid (fun x hx => raw_and x set _ hx (by omega))
  generalize msk set L.routes.length = st at *
  go_loopw [12, 13, 14] (fun f ct i wr => ∃ l nq : Nat, l ≤ L.routes.length ∧ i = I l ∧ f = .bool (freeTo (confs L.routes) st l) ∧ ct = I (cntTo st l) ∧ wr = w5.drewN nq) (fun _ _ i _ => L.routes.length - (intOf i).toNat)
  case atStart => exact ⟨0, 0, by omega, rfl, rfl, rfl, rfl⟩
  case round =>
    obtain ⟨l, nq, hl, rfl, rfl, rfl, rfl⟩ := hrel
    by_cases hlt : l < L.routes.length
    · have hci : (confs L.routes)[l]? = some (conf L.routes l) := by simp [confs, hlt]
      have hc256 : conf L.routes l < 256 := confTo_small _ _ _ hn8
      have hcp := conf_pow L.routes l hn8
      obtain ⟨bc, oc, rfl, hbc, hcell⟩ := hrc.at_ (zs_some hci)
      have HX := Lib.hid (getD_of hci)
      have hcl2 := cntTo_le st l
      have HC1 : Hid (cntTo st (l + 1) = if st.testBit l then cntTo st l + 1 else cntTo st l) := rfl
      have HF1 : Hid (freeTo (confs L.routes) st (l + 1) = if st.testBit l then freeTo (confs L.routes) st l && decide ((confs L.routes).getD l 0 &&& st = 0) else freeTo (confs L.routes) st l) := rfl
      have tS := HS.out l hlt
      have tA := HA.out (conf L.routes l) hcp
      have HTA := Lib.hid tA
      have HTS := Lib.hid tS
      clear hci tS tA
      go_wp2_with fail
      go_loopw [15] (fun k w' => ∃ (m nr : Nat), m ≤ L.routes.length ∧ k = I m ∧ w' = w5.drewN nr) (fun k _ => L.routes.length - (intOf k).toNat)
      case atStart => exact ⟨0, nq, by omega, rfl, rfl⟩
      case round =>
        obtain ⟨m, nr, hm, rfl, rfl⟩ := hrel
        by_cases hlt2 : m < L.routes.length
        · have hck : (confs L.routes)[m]? = some (conf L.routes m) := by simp [confs, hlt2]
          have hk256 : conf L.routes m < 256 := confTo_small _ _ _ hn8
          obtain ⟨bk, ok, hAe, _, hcellk⟩ := hrc.at_ (zs_some hck)
          cases hAe
          have tE : (bits .and .i64 ((conf L.routes l : Int) / 2 ^ m) 1 != bits .and .i64 ((conf L.routes m : Int) / 2 ^ l) 1) = false := by
            rw [bit_i64 _ _ (by omega), bit_i64 _ _ (by omega), conf_sym L.routes l m hlt hlt2]
            simp
          clear hck
          by_cases e : l = m
          · have t1 : ((l : Int) == (m : Int)) = true := by simp [e]
            have t2 : (bits .and .i64 ((conf L.routes l : Int) / 2 ^ m) 1 == 1) = false := by
              rw [bit_eq1 _ _ (by omega), ← e, conf_self]
            clear e
            go_wp2_with fail
            go_quiet (fail)
            go_wp2_with fail
            go_roundw
            case rel => exact ⟨m + 1, _, by omega, by go_num, rfl⟩
            case measure => simp [intOf]; omega
          · have t1 : ((l : Int) == (m : Int)) = false := by simp; omega
            clear e
            go_wp2_with fail
            go_quiet (fail)
            go_wp2_with fail
            go_roundw
            case rel => exact ⟨m + 1, _, by omega, by go_num, rfl⟩
            case measure => simp [intOf]; omega
        · have hAnd : (bits .and .i64 (conf L.routes l : Int) set == 0) = decide (conf L.routes l &&& st = 0) := by
            rw [HTA.out]
            by_cases h : conf L.routes l &&& st = 0
            · simp [h]
            · simp [h]
          have HAnd := Lib.hid hAnd
          clear hAnd
          cases hb : st.testBit l with
          | true =>
            have t1 : (bits .and .i64 (set / 2 ^ l) 1 == 1) = true := by rw [HTS.out, hb]; rfl
            rw [hb] at HC1 HF1
            clear hb
            cases hf : freeTo (confs L.routes) st l with
            | true =>
              rw [hf] at HF1
              clear hf
              go_wp2_with fail
              go_roundw
              case rel =>
                have e := HAnd.out
                refine ⟨l + 1, _, by omega, by go_num, ?_, I_eq (by rw [HC1.out]; simp), rfl⟩
                rw [HF1.out, HX.out, e]
                rfl
              case measure => simp [intOf]; omega
            | false =>
              rw [hf] at HF1
              clear hf
              go_wp2_with fail
              go_roundw
              case rel => exact ⟨l + 1, _, by omega, by go_num, by rw [HF1.out]; rfl, I_eq (by rw [HC1.out]; simp), rfl⟩
              case measure => simp [intOf]; omega
          | false =>
            have t1 : (bits .and .i64 (set / 2 ^ l) 1 == 1) = false := by rw [HTS.out, hb]; rfl
            rw [hb] at HC1 HF1
            clear hb
            cases hf : freeTo (confs L.routes) st l with
            | true =>
              rw [hf] at HF1
              clear hf
              go_wp2_with fail
              go_roundw
              case rel =>
                exact ⟨l + 1, _, by omega, by go_num, by rw [HF1.out]; rfl, I_eq (by rw [HC1.out]; simp), rfl⟩
              case measure => simp [intOf]; omega
            | false =>
              rw [hf] at HF1
              clear hf
              go_wp2_with fail
              go_roundw
              case rel => exact ⟨l + 1, _, by omega, by go_num, by rw [HF1.out]; rfl, I_eq (by rw [HC1.out]; simp), rfl⟩
              case measure => simp [intOf]; omega
    · have hln : l = L.routes.length := by omega
      subst hln
      cases hf : freeTo (confs L.routes) st L.routes.length with
      | true =>
        have hcb := (HLaw hf).out
        clear hf
        go_wp2_with fail
        go_ret
        exact ⟨rfl, below_drewN hbw5 _⟩
      | false =>
        clear hf
        go_wp2_with fail
        go_ret
        exact ⟨rfl, below_drewN hbw5 _⟩
end Go.Proofs.YtdhekhlmdefcnaaDoor
/- The plain law of LayoutChecks: how many routes there can be at most, whichever way it is asked. -/
namespace Go.Proofs.YtdhekhlmdefcnaaDoor
theorem best_at (cs : List Nat) : ∀ N, bestTo cs N = 0 ∨ ∃ k, k < N ∧ okSet cs k = true ∧ pop k = bestTo cs N
  | 0 => .inl rfl
  | N + 1 => by
    rw [bestTo]
    by_cases h : okSet cs N = true
    · rw [if_pos h]
      by_cases hm : bestTo cs N ≤ pop N
      · exact .inr ⟨N, by omega, h, by omega⟩
      · rcases best_at cs N with h0 | ⟨k, h1, h2, h3⟩
        · omega
        · exact .inr ⟨k, by omega, h2, by omega⟩
    · rw [if_neg h]
      rcases best_at cs N with h0 | ⟨k, h1, h2, h3⟩
      · exact .inl h0
      · exact .inr ⟨k, by omega, h2, h3⟩
theorem cntB_cntTo (k : Nat) : ∀ n, cntB (fun i => k.testBit i) n = cntTo k n
  | 0 => rfl
  | n + 1 => by rw [cntB, cntTo, cntB_cntTo k n]; split <;> rfl
theorem confs_at (rs : List Nat) (i : Nat) (h : i < rs.length) : (confs rs).getD i 0 = conf rs i := by
  simp [confs, List.getD_eq_getElem?_getD, h]
theorem okSet_at {cs : List Nat} {k i : Nat} (h : okSet cs k = true) (hi : i < 8) (hb : k.testBit i = true) : cs.getD i 0 &&& k = 0 := by
  unfold okSet at h
  rw [List.all_eq_true] at h
  have := h i (List.mem_range.2 hi)
  rw [hb] at this
  simpa using this
theorem most_eq {rs : List Nat} (h8 : rs.length ≤ 8) : bestTo (confs rs) (2 ^ rs.length) = rMost rs 0 := by
  refine Nat.le_antisymm ?_ ?_
  · rcases best_at (confs rs) (2 ^ rs.length) with h0 | ⟨k, h1, h2, h3⟩
    · omega
    · rw [← h3, ← cntTo_pop k rs.length h8 h1, ← cntB_cntTo]
      refine rMost_ge rs 0 _ ⟨fun i _ _ => Nat.zero_and _, fun i j hi hj hne hp hq => ?_⟩
      have ha := okSet_at h2 (by omega) hp
      rw [confs_at rs i hi, and_zero_iff] at ha
      have hc : (conf rs i).testBit j = false := by
        cases hb : (conf rs i).testBit j with
        | false => rfl
        | true => exact absurd (ha j hb) (by rw [hq]; decide)
      rw [conf_bit] at hc
      simp only [hj, decide_true, Bool.true_and] at hc
      have hji : j ≠ i := Ne.symm hne
      simp only [hji, ne_eq, not_false_eq_true, decide_true, Bool.true_and, decide_eq_false_iff_not, Decidable.not_not] at hc
      exact hc
  · obtain ⟨p, hf, hc⟩ := rMost_at rs 0
    have hlt := setB_lt p rs.length
    have hk : cntTo (setB p rs.length) rs.length = rMost rs 0 := by
      rw [← cntB_cntTo, ← hc]
      refine cntB_congr fun i hi => ?_
      rw [setB_bit]
      simp [hi]
    rw [← hk, cntTo_pop _ _ h8 hlt]
    refine best_ge _ _ _ hlt (ok_of_free hlt fun i hi hb => ?_)
    rw [setB_bit] at hb
    simp only [hi, decide_true, Bool.true_and] at hb
    rw [confs_at rs i hi, and_zero_iff]
    intro j hj
    rw [conf_bit] at hj
    simp only [Bool.and_eq_true, decide_eq_true_eq] at hj
    obtain ⟨⟨h1, h2⟩, h3⟩ := hj
    rw [setB_bit]
    cases hp : p j with
    | false => simp
    | true => exact absurd (hf.two i j hi h1 (Ne.symm h2) hb hp) h3
/-- two routes meet, section by section -/
def meetB (S : Nat) (a b : Nat) : Bool := (List.range S).any fun s => a.testBit s && b.testBit s
theorem meetB_eq {S a b : Nat} (ha : a < 2 ^ S) : meetB S a b = decide (a &&& b ≠ 0) := by
  unfold meetB
  rw [Bool.eq_iff_iff, List.any_eq_true]
  simp only [List.mem_range, Bool.and_eq_true, decide_eq_true_eq]
  constructor
  · rintro ⟨s, _, h1, h2⟩ h
    have := (and_zero_iff a b).1 h s h1
    rw [h2] at this
    cases this
  · intro h
    false_or_by_contra
    rename_i hn
    refine h ((and_zero_iff a b).2 fun i hi => ?_)
    cases hb : b.testBit i with
    | false => rfl
    | true =>
      refine absurd ⟨i, ?_, hi, hb⟩ hn
      rcases Nat.lt_or_ge i S with h' | h'
      · exact h'
      · rw [Nat.testBit_lt_two_pow (Nat.lt_of_lt_of_le ha (Nat.pow_le_pow_right (by decide) h'))] at hi
        cases hi
theorem conf_set {S : Nat} {rs : List Nat} (hS : ∀ r ∈ rs, r < 2 ^ S) (h8 : rs.length ≤ 8) {i : Nat} (hi : i < rs.length) : setB (fun k => decide (k ≠ i) && meetB S (rt rs i) (rt rs k)) rs.length = conf rs i := by
  refine eq_of_bits (setB_lt _ _) (conf_pow rs i h8) fun k hk => ?_
  rw [setB_bit, conf_bit]
  have hr : rt rs i < 2 ^ S := by
    refine hS _ ?_
    unfold rt
    rw [List.getD_eq_getElem?_getD, List.getElem?_eq_getElem hi]
    exact List.getElem_mem hi
  rw [meetB_eq hr]
  simp [hk]
end Go.Proofs.YtdhekhlmdefcnaaDoor
