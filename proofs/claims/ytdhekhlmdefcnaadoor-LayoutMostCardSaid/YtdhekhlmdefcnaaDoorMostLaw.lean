/- A ROUTE IS ITS OWN: the plain law of conflicts and Most. -/
import Derived.Test.YtdhekhlmdefcnaaDoorMost
import Derived.Test.YtdhekhlmdefcnaaDoorSafe
import Derived.Test.YtdhekhlmdefcnaaDoorRaw
namespace Go.Proofs.YtdhekhlmdefcnaaDoor
theorem raw_and (x : Nat) (p : Int) (n : Nat) (hx : x < 2 ^ n) (hn : n ≤ 62) : bits .and .i64 (x : Int) p = ((x &&& msk p n : Nat) : Int) := by
  have h2 : (2 : Nat) ^ n ≤ 2 ^ 62 := Nat.pow_le_pow_right (by decide) hn
  show IntKind.i64.wrap (((BitVec.ofInt 64 (x : Int) &&& BitVec.ofInt 64 p).toNat : Nat) : Int) = _
  rw [ofInt_msk p, BitVec.ofInt_natCast, BitVec.toNat_and, BitVec.toNat_ofNat, BitVec.toNat_ofNat, Nat.mod_eq_of_lt (a := x) (by omega), Nat.mod_eq_of_lt (msk_lt p 64)]
  have he : x &&& msk p 64 = x &&& msk p n := by
    apply Nat.eq_of_testBit_eq
    intro i
    rw [Nat.testBit_and, Nat.testBit_and]
    by_cases hi : i < n
    · rw [msk_bit p 64 n i hi (by omega)]
    · rw [Nat.testBit_lt_two_pow (Nat.lt_of_lt_of_le hx (Nat.pow_le_pow_right (by decide) (by omega)))]
      rfl
  rw [he]
  have : x &&& msk p n ≤ x := Nat.and_le_left
  exact IntWalk.i64_in _ (by omega)
theorem conf_bit (rs : List Nat) (i k : Nat) : (conf rs i).testBit k = (decide (k < rs.length) && decide (k ≠ i) && decide (rt rs i &&& rt rs k ≠ 0)) := confTo_bit rs i rs.length k
theorem conf_sym (rs : List Nat) (i k : Nat) (hi : i < rs.length) (hk : k < rs.length) : (conf rs i).testBit k = (conf rs k).testBit i := by
  rw [conf_bit, conf_bit, Nat.and_comm]
  simp [hi, hk, eq_comm]
theorem conf_self (rs : List Nat) (i : Nat) : (conf rs i).testBit i = false := by rw [conf_bit]; simp
theorem conf_pow (rs : List Nat) (i : Nat) (h : rs.length ≤ 8) : conf rs i < 2 ^ rs.length := confTo_lt rs i rs.length h
/-- how many of the first i bits -/
def cntTo (set : Nat) : Nat → Nat
  | 0 => 0
  | i + 1 => if set.testBit i then cntTo set i + 1 else cntTo set i
def freeTo (cs : List Nat) (set : Nat) : Nat → Bool
  | 0 => true
  | i + 1 => if set.testBit i then freeTo cs set i && decide (cs.getD i 0 &&& set = 0) else freeTo cs set i
theorem cntTo_eq (set : Nat) : ∀ n, cntTo set n = ((List.range n).filter fun i => set.testBit i).length
  | 0 => rfl
  | n + 1 => by
    rw [cntTo, cntTo_eq set n, List.range_succ, List.filter_append, List.length_append]
    cases h : set.testBit n <;> simp [h]
theorem cntTo_le (set : Nat) : ∀ n, cntTo set n ≤ n
  | 0 => Nat.le_refl _
  | n + 1 => by
    have := cntTo_le set n
    rw [cntTo]
    split <;> omega
theorem cntTo_pop (set n : Nat) (hn : n ≤ 8) (hs : set < 2 ^ n) : cntTo set n = pop set := by
  have key : ∀ m, n ≤ m → cntTo set m = cntTo set n := by
    intro m hm
    induction m with
    | zero => have : n = 0 := by omega
              subst this; rfl
    | succ m ih =>
      by_cases e : n = m + 1
      · rw [e]
      · have hb : set.testBit m = false := Nat.testBit_lt_two_pow (Nat.lt_of_lt_of_le hs (Nat.pow_le_pow_right (by decide) (by omega)))
        rw [cntTo, hb]
        exact ih (by omega)
  rw [← key 8 hn, cntTo_eq]
  rfl
theorem freeTo_all (cs : List Nat) (set : Nat) : ∀ n, freeTo cs set n = true → ∀ i, i < n → set.testBit i = true → cs.getD i 0 &&& set = 0
  | 0, _, i, hi, _ => by omega
  | n + 1, h, i, hi, hb => by
    rw [freeTo] at h
    by_cases e : i = n
    · subst e
      rw [if_pos hb] at h
      simp at h
      simpa using h.2
    · refine freeTo_all cs set n ?_ i (by omega) hb
      split at h
      · simp at h; exact h.1
      · exact h
theorem best_ge (cs : List Nat) (N k : Nat) (hk : k < N) (h : okSet cs k = true) : pop k ≤ bestTo cs N := by
  induction N with
  | zero => omega
  | succ N ih =>
    rw [bestTo]
    by_cases e : k = N
    · subst e; rw [if_pos h]; omega
    · have := ih (by omega)
      split <;> omega
theorem best_le (cs : List Nat) (n : Nat) (hn : n ≤ 8) : ∀ N, N ≤ 2 ^ n → bestTo cs N ≤ n
  | 0, _ => Nat.zero_le _
  | N + 1, hN => by
    have ih := best_le cs n hn N (by omega)
    have hp : pop N ≤ n := by rw [← cntTo_pop N n hn (by omega)]; exact cntTo_le _ _
    rw [bestTo]
    split <;> omega
theorem ok_of_free {cs : List Nat} {set n : Nat} (hs : set < 2 ^ n) (h : ∀ i, i < n → set.testBit i = true → cs.getD i 0 &&& set = 0) : okSet cs set = true := by
  unfold okSet
  rw [List.all_eq_true]
  intro i _
  by_cases hb : set.testBit i = true
  · have hi : i < n := by
      rcases Nat.lt_or_ge i n with h | h
      · exact h
      · rw [Nat.testBit_lt_two_pow (Nat.lt_of_lt_of_le hs (Nat.pow_le_pow_right (by decide) h))] at hb; cases hb
    rw [decide_eq_true (h i hi hb), Bool.or_true]
  · simp [hb]
/-- as many as may be set at once: no more are without conflicts -/
theorem most_law {cs : List Nat} {set n : Nat} (hn : n ≤ 8) (hs : set < 2 ^ n) (h : freeTo cs set n = true) : cntTo set n ≤ bestTo cs (2 ^ n) := by
  rw [cntTo_pop set n hn hs]
  exact best_ge _ _ _ hs (ok_of_free hs (freeTo_all cs set n h))
theorem best_one {rs : List Nat} (h1 : 1 ≤ rs.length) : 1 ≤ bestTo (confs rs) (2 ^ rs.length) := by
  have h2 : 1 < 2 ^ rs.length := Nat.lt_of_lt_of_le (by decide : 1 < 2 ^ 1) (Nat.pow_le_pow_right (by decide) h1)
  have hp : pop 1 = 1 := by decide
  have := best_ge (confs rs) (2 ^ rs.length) 1 h2 (ok_of_free (n := 1) (by decide) (fun i hi _ => by
    have : i = 0 := by omega
    subst this
    have hc : (confs rs).getD 0 0 = conf rs 0 := by simp [confs, List.getD_eq_getElem?_getD, show 0 < rs.length from h1]
    rw [hc]
    apply Nat.eq_of_testBit_eq
    intro j
    rw [Nat.testBit_and, Nat.zero_testBit]
    by_cases hj : j = 0
    · subst hj; rw [conf_self]; rfl
    · have : Nat.testBit 1 j = false := by
        have := Nat.testBit_two_pow (n := 0) (m := j)
        simp at this
        rw [this]
        simp
        omega
      rw [this, Bool.and_false]))
  omega
end Go.Proofs.YtdhekhlmdefcnaaDoor
