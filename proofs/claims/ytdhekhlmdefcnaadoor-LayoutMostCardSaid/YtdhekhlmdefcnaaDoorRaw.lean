/- Bits of what is seen, as it stands: an int of whatever sign. -/
import Derived.Test.YtdhekhlmdefcnaaDoorBits
namespace Go.Proofs.YtdhekhlmdefcnaaDoor
theorem msk_msk (x : Int) (m n : Nat) (h : n ≤ m) : msk x m % 2 ^ n = msk x n := by
  unfold msk
  have h0 : (0 : Int) < 2 ^ m := Int.pow_pos (by decide)
  have hdvd : (2 : Int) ^ n ∣ 2 ^ m := ⟨2 ^ (m - n), by rw [← Int.pow_add]; congr 1; omega⟩
  have h1 : ((((x % 2 ^ m).toNat % 2 ^ n : Nat)) : Int) = x % 2 ^ n := by
    rw [Int.natCast_emod, Int.toNat_of_nonneg (Int.emod_nonneg _ (Int.ne_of_gt h0))]
    simp only [Int.natCast_pow]
    exact Int.emod_emod_of_dvd x hdvd
  rw [← h1]
  rfl
theorem msk_bit (x : Int) (m n i : Nat) (hi : i < n) (h : n ≤ m) : (msk x m).testBit i = (msk x n).testBit i := by
  rw [← msk_msk x m n h, Nat.testBit_mod_two_pow]
  simp [hi]
theorem nb_congr {r a b n : Nat} (hr : r < 2 ^ n) (h : ∀ i, i < n → a.testBit i = b.testBit i) : nb r a = nb r b := by
  apply Nat.eq_of_testBit_eq
  intro i
  rw [testBit_nb, testBit_nb]
  by_cases hi : i < n
  · rw [h i hi]
  · rw [Nat.testBit_lt_two_pow (Nat.lt_of_lt_of_le hr (Nat.pow_le_pow_right (by decide) (by omega)))]
    rfl
theorem ofInt_msk (x : Int) : BitVec.ofInt 64 x = BitVec.ofNat 64 (msk x 64) := by
  apply BitVec.eq_of_toNat_eq
  rw [BitVec.toNat_ofInt, BitVec.toNat_ofNat, Nat.mod_eq_of_lt (msk_lt x 64)]
  rfl
theorem raw_nb (r : Nat) (p : Int) (n : Nat) (hr : r < 2 ^ n) (hn : n ≤ 62) : bits .andNot .i64 (r : Int) p = ((nb r (msk p n) : Nat) : Int) := by
  have h2 : (2 : Nat) ^ n ≤ 2 ^ 62 := Nat.pow_le_pow_right (by decide) hn
  show IntKind.i64.wrap (((BitVec.ofInt 64 (r : Int) &&& ~~~ BitVec.ofInt 64 p).toNat : Nat) : Int) = _
  rw [ofInt_msk p, BitVec.ofInt_natCast, toNat_and_not _ _ _ (by omega), nb_congr hr (fun i hi => msk_bit p 64 n i hi (by omega))]
  have : nb r (msk p n) ≤ r := nb_le _ _
  exact IntWalk.i64_in _ (by omega)
theorem msk_div (x : Int) (j n : Nat) (hj : j < n) : msk (x / 2 ^ j) 1 = msk x n / 2 ^ j % 2 := by
  unfold msk
  have h0 : (0 : Int) < 2 ^ n := Int.pow_pos (by decide)
  have hj0 : (0 : Int) < 2 ^ j := Int.pow_pos (by decide)
  have hn0 := Int.emod_nonneg x (Int.ne_of_gt h0)
  obtain ⟨m, hm⟩ : ∃ m : Nat, x % 2 ^ n = m := ⟨(x % 2 ^ n).toNat, by omega⟩
  have hx : x = 2 ^ j * (2 ^ (n - j) * (x / 2 ^ n)) + m := by
    have h1 := Int.mul_ediv_add_emod x (2 ^ n)
    rw [hm] at h1
    rw [← Int.mul_assoc, ← Int.pow_add, show j + (n - j) = n by omega]
    exact h1.symm
  have hd : x / 2 ^ j = 2 ^ (n - j) * (x / 2 ^ n) + ((m / 2 ^ j : Nat) : Int) := by
    have := Int.add_mul_ediv_left (m : Int) (2 ^ (n - j) * (x / 2 ^ n)) (Int.ne_of_gt hj0)
    rw [Int.add_comm] at this
    rw [← hx] at this
    rw [this, Int.add_comm]
    congr 1
  obtain ⟨k, hk⟩ : ∃ k, n - j = k + 1 := ⟨n - j - 1, by omega⟩
  rw [hm, hd, hk, Int.pow_succ, Int.toNat_natCast]
  generalize x / 2 ^ n = t
  generalize m / 2 ^ j = u
  have : (2 : Int) ^ k * 2 * t = 2 * (2 ^ k * t) := by rw [Int.mul_comm (2 ^ k) 2, Int.mul_assoc]
  rw [this]
  generalize (2 : Int) ^ k * t = v
  omega
theorem raw_bit (q : Int) (j n : Nat) (hj : j < n) : bits .and .i64 (q / 2 ^ j) 1 = if (msk q n).testBit j then 1 else 0 := by
  have h := msk_i64 (q / 2 ^ j) 1 (by decide)
  have h1 : ((2 ^ 1 - 1 : Nat) : Int) = 1 := rfl
  rw [h1] at h
  rw [h, msk_div q j n hj]
  have hb : (msk q n).testBit j = decide (msk q n / 2 ^ j % 2 = 1) := Nat.testBit_eq_decide_div_mod_eq
  rw [hb]
  have : msk q n / 2 ^ j % 2 = 0 ∨ msk q n / 2 ^ j % 2 = 1 := by omega
  rcases this with h | h <;> simp [h]
end Go.Proofs.YtdhekhlmdefcnaaDoor
