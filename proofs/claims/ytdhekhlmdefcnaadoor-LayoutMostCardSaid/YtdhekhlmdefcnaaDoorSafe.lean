/- NO TWO MEET: the plain law of Step. -/
import Derived.Test.YtdhekhlmdefcnaaDoorStepPlain
namespace Go.Proofs.YtdhekhlmdefcnaaDoor

theorem testBit_shl1 (k i : Nat) : (1 <<< k).testBit i = decide (k = i) := by
  rw [Nat.shiftLeft_eq, Nat.one_mul, Nat.testBit_two_pow]
theorem testBit_or1 (a k i : Nat) : (a ||| 1 <<< k).testBit i = (a.testBit i || decide (k = i)) := by rw [Nat.testBit_or, testBit_shl1]
theorem testBit_nb1 (a k i : Nat) : (nb a (1 <<< k)).testBit i = (a.testBit i && !decide (k = i)) := by rw [testBit_nb, testBit_shl1]
theorem and_zero_iff (a b : Nat) : a &&& b = 0 ↔ ∀ i, a.testBit i = true → b.testBit i = false := by
  constructor
  · intro h i hi
    have := congrArg (fun x => x.testBit i) h
    simp only [Nat.testBit_and, Nat.zero_testBit, hi, Bool.true_and] at this
    exact this
  · intro h
    apply Nat.eq_of_testBit_eq
    intro i
    rw [Nat.testBit_and, Nat.zero_testBit]
    cases hi : a.testBit i with
    | false => rfl
    | true => rw [h i hi]; rfl
/-- the k-th route -/
def rt (rs : List Nat) (k : Nat) : Nat := rs.getD k 0
theorem confTo_bit (rs : List Nat) (i m k : Nat) : (confTo rs i m).testBit k = (decide (k < m) && decide (k ≠ i) && decide (rt rs i &&& rt rs k ≠ 0)) := by
  induction m with
  | zero => simp [confTo]
  | succ m ih =>
    rw [confTo]
    by_cases h : m ≠ i ∧ rs.getD i 0 &&& rs.getD m 0 ≠ 0
    · rw [if_pos h, testBit_or1, ih]
      by_cases hk : m = k
      · subst hk; simp [rt, h.1]; exact h.2
      · have : (k < m + 1) ↔ (k < m) := by omega
        simp [hk, this]
    · rw [if_neg h, ih]
      by_cases hk : m = k
      · subst hk
        have : (decide (m ≠ i) && decide (rt rs i &&& rt rs m ≠ 0)) = false := by
          rw [Bool.and_eq_false_iff]
          by_cases h1 : m = i
          · left; simp [h1]
          · right; simp; exact Decidable.byContradiction fun h2 => h ⟨h1, h2⟩
        simp only [Bool.and_assoc, this, Bool.and_false]
      · have : (k < m + 1) ↔ (k < m) := by omega
        simp [this]
/-- routes that are set have no section in common -/
def Inv (rs : List Nat) (set : Nat) : Prop := ∀ i j, i < rs.length → j < rs.length → i ≠ j → set.testBit i = true → set.testBit j = true → rt rs i &&& rt rs j = 0
theorem inv_sub {rs : List Nat} {a b : Nat} (h : Inv rs a) (hs : ∀ i, b.testBit i = true → a.testBit i = true) : Inv rs b :=
  fun i j hi hj hne h1 h2 => h i j hi hj hne (hs i h1) (hs j h2)
theorem one_cases {P : St → Prop} (d cl wa k r : Nat) (s : St) (h0 : s.set.testBit k = false → P s)
    (h1 : ∀ i, s.set.testBit k = true → (s.used.getD k 0 ||| nb r cl = r ∧ nb r cl = 0 ∨ s.used.getD k 0 ||| nb r cl = 0 ∧ d < i) → P ⟨nb s.set (1 <<< k), s.used.set k 0, s.idle.set k 0⟩)
    (h2 : ∀ i, s.set.testBit k = true → P ⟨s.set, s.used.set k (s.used.getD k 0 ||| nb r cl), s.idle.set k i⟩) : P (one d cl wa s k r) := by
  unfold one
  by_cases hb : s.set.testBit k = true
  · rw [if_pos hb]
    dsimp only
    generalize (if wa.testBit k = true then 0 else s.idle.getD k 0 + 1) = i
    by_cases hc : s.used.getD k 0 ||| nb r cl = r ∧ nb r cl = 0 ∨ s.used.getD k 0 ||| nb r cl = 0 ∧ d < i
    · rw [if_pos hc]; exact h1 i hb hc
    · rw [if_neg hc]; exact h2 i hb
  · rw [if_neg hb]; exact h0 (by simpa using hb)
theorem one_sub (d cl wa k r : Nat) (s : St) (i : Nat) : (one d cl wa s k r).set.testBit i = true → s.set.testBit i = true := by
  refine one_cases (P := fun x => x.set.testBit i = true → s.set.testBit i = true) d cl wa k r s (fun _ h => h) (fun _ _ _ h => ?_) (fun _ _ h => h)
  dsimp only at h
  rw [testBit_nb1] at h
  simp at h
  exact h.1
theorem letGo_sub (L : Lay) (cl wa : Nat) (s : St) (i : Nat) : ∀ m, (letGo L cl wa s m).set.testBit i = true → s.set.testBit i = true
  | 0, h => h
  | m + 1, h => letGo_sub L cl wa s i m (one_sub _ _ _ _ _ _ _ h)
theorem setTo_inv (rs : List Nat) (cl wa set : Nat) (h : Inv rs set) (hb : set < 2 ^ rs.length) : ∀ m, m ≤ rs.length → Inv rs (setTo rs cl wa set m)
  | 0, _ => h
  | m + 1, hm => by
    have ih := setTo_inv rs cl wa set h hb m (by omega)
    rw [setTo]
    split
    · rename_i hn
      unfold newOne at hn
      simp only [Bool.and_eq_true, decide_eq_true_eq] at hn
      obtain ⟨⟨⟨_, _⟩, hc⟩, _⟩ := hn
      rw [and_zero_iff] at hc
      have key : ∀ j, j < rs.length → j ≠ m → (setTo rs cl wa set m).testBit j = true → rt rs m &&& rt rs j = 0 := by
        intro j hj hjm hb
        have := hc j hb
        unfold conf at this
        rw [confTo_bit] at this
        simp [hj, hjm] at this
        exact this
      intro i j hi hj hne h1 h2
      rw [testBit_or1] at h1 h2
      by_cases him : m = i
      · subst him
        have h2' : (setTo rs cl wa set m).testBit j = true := by simpa [hne] using h2
        exact key j hj (Ne.symm hne) h2'
      · have h1' : (setTo rs cl wa set m).testBit i = true := by simpa [him] using h1
        by_cases hjm : m = j
        · subst hjm
          rw [Nat.and_comm]
          exact key i hi (Ne.symm him) h1'
        · have h2' : (setTo rs cl wa set m).testBit j = true := by simpa [hjm] using h2
          exact ih i j hi hj hne h1' h2'
    · exact ih
theorem setTo_sup (rs : List Nat) (cl wa set : Nat) (i : Nat) (h : set.testBit i = true) : ∀ m, (setTo rs cl wa set m).testBit i = true
  | 0 => h
  | m + 1 => by
    rw [setTo]
    split
    · rw [testBit_or1, setTo_sup rs cl wa set i h m]; rfl
    · exact setTo_sup rs cl wa set i h m
theorem setTo_pow (rs : List Nat) (cl wa set n : Nat) (h : set < 2 ^ n) : ∀ m, m ≤ n → setTo rs cl wa set m < 2 ^ n
  | 0, _ => h
  | m + 1, hm => by
    have ih := setTo_pow rs cl wa set n h m (by omega)
    rw [setTo]
    split
    · refine Nat.or_lt_two_pow ih ?_
      rw [Nat.shiftLeft_eq, Nat.one_mul]
      exact Nat.pow_lt_pow_right (by decide) (by omega)
    · exact ih
theorem one_set_le (d cl wa k r : Nat) (s : St) : (one d cl wa s k r).set ≤ s.set :=
  one_cases (P := fun x => x.set ≤ s.set) d cl wa k r s (fun _ => Nat.le_refl _) (fun _ _ _ => nb_le _ _) (fun _ _ => Nat.le_refl _)
theorem letGo_set_le (L : Lay) (cl wa : Nat) (s : St) : ∀ m, (letGo L cl wa s m).set ≤ s.set
  | 0 => Nat.le_refl _
  | m + 1 => Nat.le_trans (one_set_le _ _ _ _ _ _) (letGo_set_le L cl wa s m)
theorem step_inv {L : Lay} {cl wa : Nat} {s : St} (h : Inv L.routes s.set) (hb : s.set < 2 ^ L.routes.length) :
    Inv L.routes (stepS L cl wa s).set ∧ (stepS L cl wa s).set < 2 ^ L.routes.length := by
  have h1 : (letGo L cl wa s L.routes.length).set < 2 ^ L.routes.length := Nat.lt_of_le_of_lt (letGo_set_le _ _ _ _ _) hb
  exact ⟨setTo_inv _ _ _ _ (inv_sub h fun i hi => letGo_sub L cl wa s i _ hi) h1 _ (Nat.le_refl _), setTo_pow _ _ _ _ _ h1 _ (Nat.le_refl _)⟩
theorem outTo_bit (rs : List Nat) (cl wa : Nat) (s : St) (k m : Nat) : (outTo rs cl wa s m).testBit k = (decide (k < m) && shows rs cl wa s k) := by
  induction m with
  | zero => simp [outTo]
  | succ m ih =>
    rw [outTo]
    by_cases h : shows rs cl wa s m = true
    · rw [if_pos h, testBit_or1, ih]
      by_cases hk : m = k
      · subst hk; simp [h]
      · have : (k < m + 1) ↔ (k < m) := by omega
        simp [hk, this]
    · rw [if_neg h, ih]
      by_cases hk : m = k
      · subst hk; simp [h]
      · have : (k < m + 1) ↔ (k < m) := by omega
        simp [this]
theorem outTo_pow (rs : List Nat) (cl wa : Nat) (s : St) (m : Nat) : outTo rs cl wa s m < 2 ^ m :=
  Nat.lt_pow_two_of_testBit _ fun i hi => by rw [outTo_bit]; simp; omega
theorem getD_set_ne (l : List Nat) (m k v : Nat) (h : m ≠ k) : (l.set m v).getD k 0 = l.getD k 0 := by
  simp [List.getD_eq_getElem?_getD, h]
/-- What is at other places is as it was. -/
theorem one_rest (d cl wa m r : Nat) (s : St) (k : Nat) (h : m ≠ k) : (one d cl wa s m r).set.testBit k = s.set.testBit k ∧ (one d cl wa s m r).used.getD k 0 = s.used.getD k 0 ∧ (one d cl wa s m r).idle.getD k 0 = s.idle.getD k 0 := by
  refine one_cases (P := fun x => x.set.testBit k = s.set.testBit k ∧ x.used.getD k 0 = s.used.getD k 0 ∧ x.idle.getD k 0 = s.idle.getD k 0) d cl wa m r s (fun _ => ⟨rfl, rfl, rfl⟩) (fun _ _ _ => ?_) (fun _ _ => ?_)
  · exact ⟨by rw [testBit_nb1]; simp [h], getD_set_ne _ _ _ _ h, getD_set_ne _ _ _ _ h⟩
  · exact ⟨rfl, getD_set_ne _ _ _ _ h, getD_set_ne _ _ _ _ h⟩
theorem letGo_rest (L : Lay) (cl wa : Nat) (s : St) (k : Nat) : ∀ m, m ≤ k → (letGo L cl wa s m).set.testBit k = s.set.testBit k ∧ (letGo L cl wa s m).used.getD k 0 = s.used.getD k 0 ∧ (letGo L cl wa s m).idle.getD k 0 = s.idle.getD k 0
  | 0, _ => ⟨rfl, rfl, rfl⟩
  | m + 1, hm => by
    obtain ⟨h1, h2, h3⟩ := letGo_rest L cl wa s k m (by omega)
    obtain ⟨g1, g2, g3⟩ := one_rest L.delay cl wa m (L.routes.getD m 0) (letGo L cl wa s m) k (by omega)
    exact ⟨g1.trans h1, g2.trans h2, g3.trans h3⟩
theorem letGo_done (L : Lay) (cl wa : Nat) (s : St) (k : Nat) : ∀ m, k < m → (letGo L cl wa s m).set.testBit k = (letGo L cl wa s (k + 1)).set.testBit k
  | 0, h => by omega
  | m + 1, h => by
    by_cases hk : k = m
    · subst hk; rfl
    · rw [← letGo_done L cl wa s k m (by omega)]
      exact (one_rest L.delay cl wa m (L.routes.getD m 0) (letGo L cl wa s m) k (by omega)).1
/-- A route that is let go: nothing is in it, and, if it was used, all of it was. -/
theorem let_go {L : Lay} {cl wa : Nat} {s : St} {k : Nat} (hk : k < L.routes.length) (h1 : s.set.testBit k = true) (h2 : (stepS L cl wa s).set.testBit k = false) :
    nb (rt L.routes k) cl = 0 ∧ (s.used.getD k 0 ≠ 0 → s.used.getD k 0 ||| nb (rt L.routes k) cl = rt L.routes k) := by
  have h3 : (letGo L cl wa s L.routes.length).set.testBit k = false := by
    cases h : (letGo L cl wa s L.routes.length).set.testBit k with
    | false => rfl
    | true => rw [show (stepS L cl wa s).set = setTo L.routes cl wa (letGo L cl wa s L.routes.length).set L.routes.length from rfl, setTo_sup _ _ _ _ _ h] at h2; cases h2
  rw [letGo_done _ _ _ _ _ _ hk] at h3
  obtain ⟨r1, r2, _⟩ := letGo_rest L cl wa s k k (Nat.le_refl _)
  rw [h1] at r1
  rw [letGo] at h3
  unfold rt
  revert h3
  refine one_cases (P := fun x => x.set.testBit k = false → nb (L.routes.getD k 0) cl = 0 ∧ (s.used.getD k 0 ≠ 0 → s.used.getD k 0 ||| nb (L.routes.getD k 0) cl = L.routes.getD k 0)) _ _ _ _ _ _ ?_ ?_ ?_
  · intro h; rw [r1] at h; cases h
  · intro i _ hc _
    rw [r2] at hc
    rcases hc with ⟨hc1, hc2⟩ | ⟨hc1, _⟩
    · exact ⟨hc2, fun _ => hc1⟩
    · have hz : s.used.getD k 0 = 0 ∧ nb (L.routes.getD k 0) cl = 0 := Nat.or_eq_zero_iff.1 hc1
      exact ⟨hz.2, fun hu => absurd hz.1 hu⟩
  · intro i _ h; dsimp only at h; rw [r1] at h; cases h
/-- the sections of routes that are set: of the first k -/
def heldTo (rs : List Nat) (set : Nat) : Nat → Nat
  | 0 => 0
  | k + 1 => if set.testBit k then heldTo rs set k ||| rt rs k else heldTo rs set k
theorem heldTo_lt (rs : List Nat) (set M : Nat) (h : ∀ r ∈ rs, r < 2 ^ M) : ∀ k, k ≤ rs.length → heldTo rs set k < 2 ^ M
  | 0, _ => Nat.two_pow_pos _
  | k + 1, hk => by
    have ih := heldTo_lt rs set M h k (by omega)
    rw [heldTo]
    split
    · refine Nat.or_lt_two_pow ih (h _ ?_)
      unfold rt
      rw [List.getD_eq_getElem?_getD, List.getElem?_eq_getElem (by omega : k < rs.length)]
      exact List.getElem_mem _
    · exact ih
theorem held_free {rs : List Nat} {set : Nat} (h : Inv rs set) (k : Nat) (hk : k < rs.length) (hs : set.testBit k = true) : ∀ m, m ≤ k → heldTo rs set m &&& rt rs k = 0
  | 0, _ => by simp [heldTo]
  | m + 1, hm => by
    have ih := held_free h k hk hs m (by omega)
    rw [heldTo]
    split
    · rename_i hb
      rw [Nat.and_or_distrib_right, ih, Nat.zero_or]
      exact h m k (by omega) hk (by omega) hb hs
    · exact ih
/-- What a step's end owes at route j. -/
structure Safe (L : Lay) (cl wa : Nat) (s nx : St) (out j r : Nat) : Prop where
  held : nx.set.testBit j = true → heldTo L.routes nx.set j &&& r = 0
  out1 : out.testBit j = true → nx.set.testBit j = true
  out2 : out.testBit j = true → wa.testBit j = true
  out3 : out.testBit j = true → nb r cl = 0
  gone : s.set.testBit j = true → nx.set.testBit j = false → nb r cl = 0
  all : s.set.testBit j = true → nx.set.testBit j = false → ∀ x, s.used[j]? = some x → x ≠ 0 → x ||| nb r cl = r
theorem step_safe {L : Lay} {c w : Int} {s : St} (hI : Inv L.routes s.set) (hb : s.set < 2 ^ L.routes.length) {j r : Nat} (hr : L.routes[j]? = some r) :
    Safe L (msk c L.secs) (msk w L.routes.length) s (step L c w s).1 (step L c w s).2 j r := by
  have hj : j < L.routes.length := (List.getElem?_eq_some_iff.1 hr).1
  have hrt : rt L.routes j = r := by unfold rt; exact getD_of hr
  have hI' := (step_inv (cl := msk c L.secs) (wa := msk w L.routes.length) hI hb).1
  have ho : (step L c w s).2.testBit j = true → shows L.routes (msk c L.secs) (msk w L.routes.length) (step L c w s).1 j = true := by
    intro h
    have h' : (outTo L.routes (msk c L.secs) (msk w L.routes.length) (step L c w s).1 L.routes.length).testBit j = true := h
    rw [outTo_bit] at h'
    simp at h'
    exact h'.2
  unfold shows at ho
  simp only [Bool.and_eq_true, decide_eq_true_eq, getD_of hr] at ho
  exact ⟨fun h => by rw [← hrt]; exact held_free hI' j hj h j (Nat.le_refl _), fun h => (ho h).1.1.1, fun h => (ho h).2, fun h => (ho h).1.2,
    fun h1 h2 => by rw [← hrt]; exact (let_go hj h1 h2).1, fun h1 h2 x hx hx0 => by rw [← hrt, ← getD_of hx]; exact (let_go hj h1 h2).2 (by rw [getD_of hx]; exact hx0)⟩
end Go.Proofs.YtdhekhlmdefcnaaDoor
