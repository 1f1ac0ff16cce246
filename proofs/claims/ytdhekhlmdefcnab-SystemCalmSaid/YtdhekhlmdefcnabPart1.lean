/- Part 1 of the proof: Crc. -/
namespace Go.Proofs.Ytdhekhlmdefcnab.Crc
abbrev B32 := BitVec 32
def poly : B32 := 0x04c11db7#32
def T (s : B32) : B32 := if s.msb then (s <<< 1) ^^^ poly else s <<< 1
def Tn : Nat → B32 → B32
 | 0, s => s
 | n + 1, s => Tn n (T s)
def byte (s : B32) (c : UInt8) : B32 := Tn 8 (s ^^^ (BitVec.ofNat 32 c.toNat <<< 24))
def run (s : B32) : List UInt8 → B32
 | [] => s
 | c :: l => run (byte s c) l
def sum (l : List UInt8) : B32 := run (~~~ 0#32) l
theorem run_append (s : B32) (a b : List UInt8) : run s (a ++ b) = run (run s a) b := by
 induction a generalizing s with
 | nil => rfl
 | cons c a ih => exact ih _
theorem T_zero : T 0#32 = 0#32 := by decide
theorem Tn_zero (n : Nat) : Tn n 0#32 = 0#32 := by
 induction n with
 | zero => rfl
 | succ n ih => rw [Tn, T_zero, ih]
theorem T_xor (a b : B32) : T (a ^^^ b) = T a ^^^ T b := by
 unfold T
 rw [BitVec.msb_xor, BitVec.shiftLeft_xor_distrib]
 have e1 : ∀ x y : B32, x ^^^ (y ^^^ poly) = (x ^^^ y) ^^^ poly := fun x y => (BitVec.xor_assoc ..).symm
 have e2 : ∀ x y : B32, (x ^^^ poly) ^^^ y = (x ^^^ y) ^^^ poly := fun x y => by rw [BitVec.xor_assoc, BitVec.xor_comm poly, ← BitVec.xor_assoc]
 cases a.msb <;> cases b.msb <;> simp [e1, e2]
 rw [BitVec.xor_assoc _ poly poly]; simp
theorem Tn_xor (n : Nat) (a b : B32) : Tn n (a ^^^ b) = Tn n a ^^^ Tn n b := by
 induction n generalizing a b with
 | zero => rfl
 | succ n ih => rw [Tn, Tn, Tn, T_xor, ih]
theorem T_inj0 (s : B32) (h : T s = 0#32) : s = 0#32 := by
 unfold T at h
 by_cases hm : s.msb = true
 ·rw [if_pos hm] at h
  have := congrArg (fun x => x.getLsbD 0) h
  simp [poly] at this
 ·rw [if_neg hm] at h
  apply BitVec.eq_of_getLsbD_eq
  intro i hi
  by_cases hl : i = 31
  ·subst hl
   have : s.msb = s.getLsbD 31 := by simp [BitVec.msb_eq_getLsbD_last]
   rw [← this]; simpa using hm
  ·have := congrArg (fun x => x.getLsbD (i + 1)) h
   have h2 : i + 1 < 32 := by omega
   simp only [BitVec.getLsbD_shiftLeft, h2] at this
   simpa using this
theorem Tn_inj0 (n : Nat) (s : B32) (h : Tn n s = 0#32) : s = 0#32 := by
 induction n generalizing s with
 | zero => exact h
 | succ n ih => exact T_inj0 _ (ih _ h)
def top (b : Bool) : B32 := if b then 0x80000000#32 else 0#32
def feed (s : B32) : List Bool → B32
 | [] => s
 | b :: l => feed (T (s ^^^ top b)) l
def pack : List Bool → B32
 | [] => 0#32
 | b :: l => top b ^^^ (pack l >>> 1)
theorem feed_append (s : B32) (a b : List Bool) : feed s (a ++ b) = feed (feed s a) b := by
 induction a generalizing s with
 | nil => rfl
 | cons c a ih => exact ih _
theorem pack_low (l : List Bool) (k : Nat) (h : l.length + k < 32) : (pack l).getLsbD k = false := by
 induction l generalizing k with
 | nil => simp [pack]
 | cons b l ih =>
  simp only [List.length_cons] at h
  have h1 := ih (1 + k) (by omega)
  have h2 : k ≠ 31 := by omega
  simp only [pack, BitVec.getLsbD_xor, BitVec.getLsbD_ushiftRight, h1]
  unfold top
  cases b <;> simp
  have : ∀ k, k < 31 → (0x80000000#32).getLsbD k = false := by decide
  exact this k (by omega)
theorem T_half (x : B32) (h : x.getLsbD 0 = false) : T (x >>> 1) = x := by
 have hm : (x >>> 1).msb = false := by simp [BitVec.msb_eq_getLsbD_last]
 unfold T
 rw [hm]
 simp only [Bool.false_eq_true, if_false]
 apply BitVec.eq_of_getLsbD_eq
 intro i hi
 by_cases h0 : i = 0
 ·subst h0; rw [h]; simp
 ·have : 1 + (i - 1) = i := by omega
  have h1 : ¬ i < 1 := by omega
  simp [hi, h0, this]
theorem feed_pack (l : List Bool) (s : B32) (h : l.length ≤ 32) : feed s l = Tn l.length (s ^^^ pack l) := by
 induction l generalizing s with
 | nil => simp [feed, pack, Tn]
 | cons b l ih =>
  simp only [List.length_cons] at h
  rw [feed, ih _ (by omega), List.length_cons, Tn, pack]
  congr 1
  rw [← BitVec.xor_assoc, T_xor (s ^^^ top b), T_half _ (pack_low l 0 (by omega))]
def bits8 (c : UInt8) : List Bool :=
 [c.toNat.testBit 7, c.toNat.testBit 6, c.toNat.testBit 5, c.toNat.testBit 4, c.toNat.testBit 3, c.toNat.testBit 2, c.toNat.testBit 1, c.toNat.testBit 0]
def bitsN (n : Nat) : List Bool :=
 [n.testBit 7, n.testBit 6, n.testBit 5, n.testBit 4, n.testBit 3, n.testBit 2, n.testBit 1, n.testBit 0]
theorem pack_bits_all : ∀ n : Fin 256, BitVec.ofNat 32 n.val <<< 24 = pack (bitsN n.val) := by decide +kernel
theorem pack_bits8 (c : UInt8) : BitVec.ofNat 32 c.toNat <<< 24 = pack (bits8 c) :=
 pack_bits_all ⟨c.toNat, UInt8.toNat_lt c⟩
theorem byte_feed (s : B32) (c : UInt8) : byte s c = feed s (bits8 c) := by
 rw [feed_pack _ _ (by simp [bits8]), byte, pack_bits8]; rfl
def bits (l : List UInt8) : List Bool := l.flatMap bits8
theorem run_feed (s : B32) (l : List UInt8) : run s l = feed s (bits l) := by
 induction l generalizing s with
 | nil => rfl
 | cons c l ih => rw [run, ih, byte_feed]; exact (feed_append _ _ _).symm
theorem feed_zero (n : Nat) : feed 0#32 (List.replicate n false) = 0#32 := by
 induction n with
 | zero => rfl
 | succ n ih => simp [List.replicate_succ, feed, top, T_zero, ih]
theorem feed_zeros (n : Nat) (s : B32) : feed s (List.replicate n false) = Tn n s := by
 induction n generalizing s with
 | zero => rfl
 | succ n ih => simp [List.replicate_succ, feed, top, Tn, ih]
theorem feed_xor (a b : List Bool) (s t : B32) (h : a.length = b.length) :
  feed (s ^^^ t) (List.zipWith (· ^^ ·) a b) = feed s a ^^^ feed t b := by
 induction a generalizing b s t with
 | nil =>
  cases b with
  | nil => rfl
  | cons y b => simp at h
 | cons x a ih =>
  cases b with
  | nil => simp at h
  | cons y b =>
   simp only [List.zipWith_cons_cons, feed]
   have : T (s ^^^ t ^^^ top (x ^^ y)) = T (s ^^^ top x) ^^^ T (t ^^^ top y) := by
    rw [← T_xor]
    congr 1
    have : top (x ^^ y) = top x ^^^ top y := by cases x <;> cases y <;> decide
    rw [this]
    ac_rfl
   rw [this]
   exact ih _ _ _ (by simpa using h)
theorem pack_ne (l : List Bool) (hl : l.length ≤ 32) (h : true ∈ l) : pack l ≠ 0#32 := by
 induction l with
 | nil => simp at h
 | cons b l ih =>
  simp only [List.length_cons] at hl
  intro h0
  rw [pack] at h0
  cases b with
  | true =>
   have := congrArg (fun x => x.getLsbD 31) h0
   simp [top] at this
  | false =>
   have hm : true ∈ l := by simpa using h
   refine ih (by omega) hm ?_
   have h1 : pack l >>> 1 = 0#32 := by simpa [top] using h0
   have h2 := T_half (pack l) (pack_low l 0 (by omega))
   rw [h1, T_zero] at h2
   exact h2.symm
theorem feed_burst (p q : Nat) (m : List Bool) (hl : m.length ≤ 32) (h : true ∈ m) :
  feed 0#32 (List.replicate p false ++ m ++ List.replicate q false) ≠ 0#32 := by
 rw [feed_append, feed_append, feed_zero, feed_zeros, feed_pack _ _ hl]
 intro h0
 have h1 := Tn_inj0 _ _ (Tn_inj0 _ _ h0)
 simp at h1
 exact pack_ne m hl h h1
/-! the flips -/
def flipBit (l : List UInt8) (g : Nat) : List UInt8 := l.modify (g / 8) (fun c => c ^^^ UInt8.ofNat (128 >>> (g % 8)))
theorem bits8_length (c : UInt8) : (bits8 c).length = 8 := rfl
theorem bits_length (l : List UInt8) : (bits l).length = 8 * l.length := by
 induction l with
 | nil => rfl
 | cons c l ih => simp only [bits, List.flatMap_cons, List.length_append, bits8_length, List.length_cons] at *; omega
theorem bits_get (l : List UInt8) (g : Nat) : (bits l)[g]? = (l[g / 8]?).map fun c => c.toNat.testBit (7 - g % 8) := by
 induction l generalizing g with
 | nil => simp [bits]
 | cons c l ih =>
  have hb : bits (c :: l) = bits8 c ++ bits l := rfl
  rw [hb]
  by_cases h : g < 8
  ·rw [List.getElem?_append_left (by rw [bits8_length]; omega)]
   have h0 : g / 8 = 0 := by omega
   have h1 : g % 8 = g := by omega
   rw [h0, h1]
   have : g = 0 ∨ g = 1 ∨ g = 2 ∨ g = 3 ∨ g = 4 ∨ g = 5 ∨ g = 6 ∨ g = 7 := by omega
   rcases this with rfl | rfl | rfl | rfl | rfl | rfl | rfl | rfl <;> rfl
  ·rw [List.getElem?_append_right (by rw [bits8_length]; omega), bits8_length, ih]
   have h0 : g / 8 = (g - 8) / 8 + 1 := by omega
   have h1 : (g - 8) % 8 = g % 8 := by omega
   rw [h0, h1]
   rfl
theorem flipBit_length (l : List UInt8) (g : Nat) : (flipBit l g).length = l.length := by simp [flipBit]
theorem test_all : ∀ k : Fin 8, ∀ j : Fin 8, (128 >>> k.val).testBit (7 - j.val) = decide (j = k) := by decide
theorem flip_lt : ∀ k : Fin 8, 128 >>> k.val < 256 := by decide
theorem bits_flip (l : List UInt8) (g h : Nat) : (bits (flipBit l g))[h]? = ((bits l)[h]?).map fun b => b ^^ decide (h = g) := by
 rw [bits_get, bits_get, flipBit, List.getElem?_modify]
 by_cases e : g / 8 = h / 8
 ·simp only [if_pos e]
  cases hl : l[h / 8]? with
  | none => simp
  | some c =>
   have hn : (UInt8.ofNat (128 >>> (g % 8))).toNat = 128 >>> (g % 8) := by
    have := flip_lt ⟨g % 8, by omega⟩
    simp only [UInt8.toNat_ofNat']
    exact Nat.mod_eq_of_lt this
   refine congrArg some ?_
   show (c ^^^ UInt8.ofNat (128 >>> (g % 8))).toNat.testBit (7 - h % 8) = (c.toNat.testBit (7 - h % 8) ^^ decide (h = g))
   rw [UInt8.toNat_xor, Nat.testBit_xor, hn]
   congr 1
   have := test_all ⟨g % 8, by omega⟩ ⟨h % 8, by omega⟩
   simp only [Fin.mk.injEq] at this
   rw [this]
   apply decide_eq_decide.2
   omega
 ·simp only [if_neg e]
  cases l[h / 8]? with
  | none => simp
  | some c =>
   have : h ≠ g := by rintro rfl; exact e rfl
   simp [this]
def flips (l : List UInt8) (p what : Nat) : Nat → List UInt8
 | 0 => l
 | i + 1 => if what.testBit (31 - i) && decide (p + i < 8 * l.length) then flipBit (flips l p what i) (p + i) else flips l p what i
theorem flips_length (l : List UInt8) (p what i : Nat) : (flips l p what i).length = l.length := by
 induction i with
 | zero => rfl
 | succ i ih =>
  rw [flips]
  split
  ·rw [flipBit_length, ih]
  ·exact ih
def inside (p what i h : Nat) : Bool := decide (p ≤ h) && decide (h < p + i) && what.testBit (31 - (h - p))
theorem bits_flips (l : List UInt8) (p what i h : Nat) (hh : h < 8 * l.length) :
  (bits (flips l p what i))[h]? = ((bits l)[h]?).map fun b => b ^^ inside p what i h := by
 induction i with
 | zero =>
  have : inside p what 0 h = false := by simp [inside]; omega
  simp [flips, this]
 | succ i ih =>
  rw [flips]
  by_cases c : (what.testBit (31 - i) && decide (p + i < 8 * l.length)) = true
  ·rw [if_pos c, bits_flip, ih]
   simp only [Bool.and_eq_true, decide_eq_true_eq] at c
   cases (bits l)[h]? with
   | none => rfl
   | some b =>
    simp only [Option.map_some, Option.some.injEq]
    rw [Bool.xor_assoc]
    congr 1
    unfold inside
    by_cases e : h = p + i
    ·subst e
     simp [c.1]
    ·by_cases h1 : p ≤ h <;> by_cases h2 : h < p + i
     all_goals
      have h3 : (h < p + (i + 1)) ↔ (h < p + i) := by omega
      simp [e, h3]
  ·rw [if_neg c, ih]
   simp only [Bool.and_eq_true, decide_eq_true_eq, not_and] at c
   cases (bits l)[h]? with
   | none => rfl
   | some b =>
    simp only [Option.map_some, Option.some.injEq]
    congr 1
    unfold inside
    by_cases e : h = p + i
    ·subst e
     have : what.testBit (31 - i) = false := by
      cases ht : what.testBit (31 - i) with
      | false => rfl
      | true => exact absurd hh (c ht)
     simp [this]
    ·have h3 : (h < p + (i + 1)) ↔ (h < p + i) ∨ (h = p + i) := by omega
     by_cases h1 : p ≤ h <;> by_cases h2 : h < p + i <;> simp [e, h3]
theorem inside_list (p what N : Nat) (hp : p ≤ N) : (List.range N).map (inside p what 32) =
  List.replicate p false ++ (List.range (min 32 (N - p))).map (fun j => what.testBit (31 - j)) ++ List.replicate (N - p - min 32 (N - p)) false := by
 apply List.ext_getElem?
 intro h
 by_cases h1 : h < p
 ·rw [List.getElem?_append_left (by simp; omega), List.getElem?_append_left (by simp; omega)]
  have hN : h < N := by omega
  simp [h1, hN, inside]
  omega
 ·by_cases h2 : h < p + min 32 (N - p)
  ·rw [List.getElem?_append_left (by simp; omega), List.getElem?_append_right (by simp; omega)]
   have hN : h < N := by omega
   have hj : h - p < min 32 (N - p) := by omega
   have h3 : p ≤ h := by omega
   have h4 : h < p + 32 := by omega
   rw [List.getElem?_map, List.getElem?_map, List.length_replicate, List.getElem?_range hj, List.getElem?_range hN]
   simp [inside, h3, h4]
  ·rw [List.getElem?_append_right (by simp; omega)]
   by_cases hN : h < N
   ·have h4 : ¬ h < p + 32 := by omega
    have h5 : h - (p + min 32 (N - p)) < N - p - min 32 (N - p) := by omega
    simp [hN, inside, h4, h5]
   ·have h5 : ¬ h - (p + min 32 (N - p)) < N - p - min 32 (N - p) := by omega
    simp [hN, h5]
theorem burst (l : List UInt8) (s : B32) (p what : Nat) (hp : p < 8 * l.length) (h0 : run s l = 0#32)
  (hs : ∃ i, i < 32 ∧ what.testBit (31 - i) = true ∧ p + i < 8 * l.length) : run s (flips l p what 32) ≠ 0#32 := by
 have hb : bits (flips l p what 32) = List.zipWith (· ^^ ·) (bits l) ((List.range (8 * l.length)).map (inside p what 32)) := by
  apply List.ext_getElem?
  intro h
  by_cases hh : h < 8 * l.length
  ·rw [bits_flips _ _ _ _ _ hh, List.getElem?_zipWith]
   simp only [List.getElem?_map, List.getElem?_range hh, Option.map_some]
   cases (bits l)[h]? <;> rfl
  ·rw [List.getElem?_eq_none (by rw [bits_length, flips_length]; omega), List.getElem?_eq_none (by simp [bits_length]; omega)]
 rw [run_feed] at h0 ⊢
 rw [hb]
 have hx := feed_xor (bits l) ((List.range (8 * l.length)).map (inside p what 32)) s 0#32 (by simp [bits_length])
 rw [BitVec.xor_zero] at hx
 rw [hx, h0, BitVec.zero_xor, inside_list _ _ _ (by omega)]
 apply feed_burst
 ·simp; omega
 ·obtain ⟨i, hi, ht, hn⟩ := hs
  rw [List.mem_map]
  exact ⟨i, by simp; omega, ht⟩
theorem run_four (s : B32) (l : List UInt8) (h : l.length = 4) : run s l = 0#32 ↔ s = pack (bits l) := by
 have hl : (bits l).length = 32 := by rw [bits_length, h]
 rw [run_feed, feed_pack _ _ (by omega)]
 constructor
 ·intro h0
  have := Tn_inj0 _ _ h0
  have h2 : s ^^^ pack (bits l) ^^^ pack (bits l) = 0#32 ^^^ pack (bits l) := by rw [this]
  rw [BitVec.xor_assoc, BitVec.xor_self, BitVec.xor_zero, BitVec.zero_xor] at h2
  exact h2
 ·rintro rfl
  rw [BitVec.xor_self, Tn_zero]
end Go.Proofs.Ytdhekhlmdefcnab.Crc
