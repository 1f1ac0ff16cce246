/- The model's operations on bits of int, over natural numbers below 2^63. -/
import Derived.WalkKit
namespace Go.Proofs.YtdhekhlmdefcnaaDoor

/-- the bits of a that b has not -/
def nb (a b : Nat) : Nat := a ^^^ (a &&& b)
theorem testBit_nb (a b i : Nat) : (nb a b).testBit i = (a.testBit i && !b.testBit i) := by
  unfold nb
  rw [Nat.testBit_xor, Nat.testBit_and]
  cases a.testBit i <;> cases b.testBit i <;> rfl
theorem nb_eq (a b : Nat) : nb a b = a &&& (a ^^^ (a &&& b)) := by
  apply Nat.eq_of_testBit_eq
  intro i
  rw [testBit_nb, Nat.testBit_and, Nat.testBit_xor, Nat.testBit_and]
  cases a.testBit i <;> cases b.testBit i <;> rfl
theorem nb_le (a b : Nat) : nb a b ≤ a := by rw [nb_eq]; exact Nat.and_le_left
theorem nb_lt {a b k : Nat} (h : a < k) : nb a b < k := Nat.lt_of_le_of_lt (nb_le a b) h

theorem mod63 (a : Nat) (h : a < 2 ^ 63) : a % 2 ^ IntKind.i64.bits = a := Nat.mod_eq_of_lt (by simp only [IntKind.bits]; omega)
theorem and_i64 (a b : Nat) (ha : a < 2 ^ 63) (hb : b < 2 ^ 63) : bits .and .i64 (a : Int) (b : Int) = ((a &&& b : Nat) : Int) := by
  unfold bits
  simp only [BitVec.ofInt_natCast, BitVec.toNat_and, BitVec.toNat_ofNat]
  rw [mod63 a ha, mod63 b hb]
  have : a &&& b ≤ a := Nat.and_le_left
  exact IntWalk.i64_in _ (by omega)
theorem or_i64 (a b : Nat) (ha : a < 2 ^ 63) (hb : b < 2 ^ 63) : bits .or .i64 (a : Int) (b : Int) = ((a ||| b : Nat) : Int) := by
  unfold bits
  simp only [BitVec.ofInt_natCast, BitVec.toNat_or, BitVec.toNat_ofNat]
  rw [mod63 a ha, mod63 b hb]
  have : a ||| b < 2 ^ 63 := Nat.or_lt_two_pow ha hb
  exact IntWalk.i64_in _ (by omega)
theorem toNat_and_not (n a b : Nat) (ha : a < 2 ^ n) : (BitVec.ofNat n a &&& ~~~ BitVec.ofNat n b).toNat = nb a b := by
  apply Nat.eq_of_testBit_eq
  intro i
  rw [testBit_nb, BitVec.toNat_and, Nat.testBit_and]
  have h1 : (BitVec.ofNat n a).toNat = a := by rw [BitVec.toNat_ofNat]; exact Nat.mod_eq_of_lt ha
  rw [h1]
  by_cases hi : i < n
  · have h2 : (~~~ BitVec.ofNat n b).toNat.testBit i = !b.testBit i := by
      rw [BitVec.testBit_toNat, BitVec.getLsbD_not, BitVec.getLsbD_ofNat]
      simp [hi]
    rw [h2]
  · have h3 : a.testBit i = false := Nat.testBit_lt_two_pow (Nat.lt_of_lt_of_le ha (Nat.pow_le_pow_right (by decide) (by omega)))
    simp [h3]
theorem andNot_i64 (a b : Nat) (ha : a < 2 ^ 63) : bits .andNot .i64 (a : Int) (b : Int) = ((nb a b : Nat) : Int) := by
  unfold bits
  simp only [BitVec.ofInt_natCast]
  rw [toNat_and_not _ a b (by simp only [IntKind.bits]; omega)]
  have : nb a b ≤ a := nb_le a b
  exact IntWalk.i64_in _ (by omega)
theorem ofInt_wrap64 (n : Int) : BitVec.ofInt 64 (IntKind.i64.wrap n) = BitVec.ofInt 64 n := by
  apply BitVec.eq_of_toNat_eq
  rw [BitVec.toNat_ofInt, BitVec.toNat_ofInt, IntKind.wrap_i64]
  congr 1
  show _ % (18446744073709551616 : Int) = _ % 18446744073709551616
  omega
theorem ofInt_xor_not (x : Int) : BitVec.ofInt 64 (bits .xor .i64 (-1) x) = ~~~ BitVec.ofInt 64 x := by
  have h1 : BitVec.ofInt 64 (-1) = BitVec.allOnes 64 := by decide
  show BitVec.ofInt 64 (IntKind.i64.wrap (((BitVec.ofInt 64 (-1) ^^^ BitVec.ofInt 64 x).toNat : Nat) : Int)) = _
  rw [ofInt_wrap64, h1, BitVec.allOnes_xor, BitVec.ofInt_natCast, BitVec.ofNat_toNat, BitVec.setWidth_eq]
/-- 'r & busy', where 'busy := ^clear' -/
theorem and_not_i64 (a b : Nat) (ha : a < 2 ^ 63) : bits .and .i64 (a : Int) (bits .xor .i64 (-1) (b : Int)) = ((nb a b : Nat) : Int) := by
  show IntKind.i64.wrap (((BitVec.ofInt 64 (a : Int) &&& BitVec.ofInt 64 (bits .xor .i64 (-1) (b : Int))).toNat : Nat) : Int) = _
  rw [ofInt_xor_not, BitVec.ofInt_natCast, BitVec.ofInt_natCast, toNat_and_not _ a b (by omega)]
  have : nb a b ≤ a := nb_le a b
  exact IntWalk.i64_in _ (by omega)
theorem shr_cast (a k : Nat) : (a : Int) / 2 ^ k = ((a >>> k : Nat) : Int) := by
  rw [Nat.shiftRight_eq_div_pow]; simp
theorem bit_i64 (a k : Nat) (ha : a < 2 ^ 63) : bits .and .i64 ((a : Int) / 2 ^ k) 1 = if a.testBit k then 1 else 0 := by
  rw [shr_cast]
  have h1 : a >>> k < 2 ^ 63 := Nat.lt_of_le_of_lt (by rw [Nat.shiftRight_eq_div_pow]; exact Nat.div_le_self _ _) ha
  have := and_i64 (a >>> k) 1 h1 (by decide)
  rw [show ((1 : Nat) : Int) = 1 from rfl] at this
  rw [this, Nat.and_one_is_mod]
  have : a.testBit k = decide ((a >>> k) % 2 = 1) := by
    rw [Nat.testBit, Nat.and_comm, Nat.and_one_is_mod]
    have : a >>> k % 2 = 0 ∨ a >>> k % 2 = 1 := by omega
    rcases this with h | h <;> simp [h]
  rw [this]
  have : a >>> k % 2 = 0 ∨ a >>> k % 2 = 1 := by omega
  rcases this with h | h <;> simp [h]

/-- the bits of x below 2^n, x an int of whatever sign -/
def msk (x : Int) (n : Nat) : Nat := (x % 2 ^ n).toNat
theorem msk_lt (x : Int) (n : Nat) : msk x n < 2 ^ n := by
  unfold msk
  have h0 : (0 : Int) < 2 ^ n := Int.pow_pos (by decide)
  have h1 := Int.emod_nonneg x (Int.ne_of_gt h0)
  have h2 := Int.emod_lt_of_pos x h0
  have h3 : ((2 ^ n : Nat) : Int) = 2 ^ n := by simp
  omega
theorem msk_i64 (x : Int) (n : Nat) (hn : n ≤ 62) : bits .and .i64 x ((2 ^ n - 1 : Nat) : Int) = ((msk x n : Nat) : Int) := by
  have h0 : (0 : Int) < 2 ^ n := Int.pow_pos (by decide)
  have hle : 2 ^ n ≤ 2 ^ 62 := Nat.pow_le_pow_right (by decide) hn
  have hdvd : (2 : Int) ^ n ∣ 2 ^ 64 := ⟨2 ^ (64 - n), by rw [← Int.pow_add]; congr 1; omega⟩
  have h64 : BitVec.ofInt 64 x = BitVec.ofNat 64 (x % 2 ^ 64).toNat := by
    apply BitVec.eq_of_toNat_eq
    rw [BitVec.toNat_ofInt, BitVec.toNat_ofNat]
    have : (x % 2 ^ 64).toNat < 2 ^ 64 := by omega
    rw [Nat.mod_eq_of_lt this]
    rfl
  show IntKind.i64.wrap (((BitVec.ofInt 64 x &&& BitVec.ofInt 64 ((2 ^ n - 1 : Nat) : Int)).toNat : Nat) : Int) = _
  rw [h64, BitVec.ofInt_natCast, BitVec.toNat_and, BitVec.toNat_ofNat, BitVec.toNat_ofNat, Nat.mod_eq_of_lt (a := 2 ^ n - 1) (by omega),
    Nat.and_two_pow_sub_one_eq_mod, Nat.mod_mod_of_dvd _ (Nat.pow_dvd_pow 2 (by omega))]
  have : (x % 2 ^ 64).toNat % 2 ^ n = msk x n := by
    unfold msk
    have h1 : ((((x % 2 ^ 64).toNat % 2 ^ n : Nat)) : Int) = x % 2 ^ n := by
      rw [Int.natCast_emod, Int.toNat_of_nonneg (by omega)]
      simp only [Int.natCast_pow]
      exact Int.emod_emod_of_dvd x hdvd
    rw [← h1]
    rfl
  rw [this]
  have := msk_lt x n
  exact IntWalk.i64_in _ (by omega)
end Go.Proofs.YtdhekhlmdefcnaaDoor
