/- Part 4 of the proof: Bits, Tab, Mono, All, Num. -/
import Derived.Test.YtdhekhlmdefcnabGreatDoorPart3
import Derived.WalkKit
import Derived.IntWalk
namespace Go.Proofs.YtdhekhlmdefcnabGreatDoor
def nb (a b : Nat) : Nat := a ^^^ (a &&& b)
theorem testBit_nb (a b i : Nat) : (nb a b).testBit i = (a.testBit i && !b.testBit i) := by
 unfold nb
 rw [Nat.testBit_xor, Nat.testBit_and]
 cases a.testBit i <;> cases b.testBit i <;> rfl
theorem nb_eq (a b : Nat) : nb a b = a &&& (a ^^^ (a &&& b)) := by
 apply Nat.eq_of_testBit_eq
 intro i
 rw [testBit_nb, Nat.testBit_and, Nat.testBit_xor, Nat.testBit_and]
 cases a.testBit i <;> cases b.testBit i <;> rfl
theorem nb_le (a b : Nat) : nb a b ≤ a := by rw [nb_eq]; exact Nat.and_le_left
theorem nb_lt {a b k : Nat} (h : a < k) : nb a b < k := Nat.lt_of_le_of_lt (nb_le a b) h
theorem mod63 (a : Nat) (h : a < 2 ^ 63) : a % 2 ^ IntKind.i64.bits = a := Nat.mod_eq_of_lt (by simp only [IntKind.bits]; omega)
theorem and_i64 (a b : Nat) (ha : a < 2 ^ 63) (hb : b < 2 ^ 63) : bits .and .i64 (a : Int) (b : Int) = ((a &&& b : Nat) : Int) := by
 unfold bits
 simp only [BitVec.ofInt_natCast, BitVec.toNat_and, BitVec.toNat_ofNat]
 rw [mod63 a ha, mod63 b hb]
 have : a &&& b ≤ a := Nat.and_le_left
 exact IntWalk.i64_in _ (by omega)
theorem or_i64 (a b : Nat) (ha : a < 2 ^ 63) (hb : b < 2 ^ 63) : bits .or .i64 (a : Int) (b : Int) = ((a ||| b : Nat) : Int) := by
 unfold bits
 simp only [BitVec.ofInt_natCast, BitVec.toNat_or, BitVec.toNat_ofNat]
 rw [mod63 a ha, mod63 b hb]
 have : a ||| b < 2 ^ 63 := Nat.or_lt_two_pow ha hb
 exact IntWalk.i64_in _ (by omega)
theorem toNat_and_not (n a b : Nat) (ha : a < 2 ^ n) : (BitVec.ofNat n a &&& ~~~ BitVec.ofNat n b).toNat = nb a b := by
 apply Nat.eq_of_testBit_eq
 intro i
 rw [testBit_nb, BitVec.toNat_and, Nat.testBit_and]
 have h1 : (BitVec.ofNat n a).toNat = a := by rw [BitVec.toNat_ofNat]; exact Nat.mod_eq_of_lt ha
 rw [h1]
 by_cases hi : i < n
 ·have h2 : (~~~ BitVec.ofNat n b).toNat.testBit i = !b.testBit i := by
   rw [BitVec.testBit_toNat, BitVec.getLsbD_not, BitVec.getLsbD_ofNat]
   simp [hi]
  rw [h2]
 ·have h3 : a.testBit i = false := Nat.testBit_lt_two_pow (Nat.lt_of_lt_of_le ha (Nat.pow_le_pow_right (by decide) (by omega)))
  simp [h3]
theorem andNot_i64 (a b : Nat) (ha : a < 2 ^ 63) : bits .andNot .i64 (a : Int) (b : Int) = ((nb a b : Nat) : Int) := by
 unfold bits
 simp only [BitVec.ofInt_natCast]
 rw [toNat_and_not _ a b (by simp only [IntKind.bits]; omega)]
 have : nb a b ≤ a := nb_le a b
 exact IntWalk.i64_in _ (by omega)
theorem ofInt_wrap64 (n : Int) : BitVec.ofInt 64 (IntKind.i64.wrap n) = BitVec.ofInt 64 n := by
 apply BitVec.eq_of_toNat_eq
 rw [BitVec.toNat_ofInt, BitVec.toNat_ofInt, IntKind.wrap_i64]
 congr 1
 show _ % (18446744073709551616 : Int) = _ % 18446744073709551616
 omega
theorem ofInt_xor_not (x : Int) : BitVec.ofInt 64 (bits .xor .i64 (-1) x) = ~~~ BitVec.ofInt 64 x := by
 have h1 : BitVec.ofInt 64 (-1) = BitVec.allOnes 64 := by decide
 show BitVec.ofInt 64 (IntKind.i64.wrap (((BitVec.ofInt 64 (-1) ^^^ BitVec.ofInt 64 x).toNat : Nat) : Int)) = _
 rw [ofInt_wrap64, h1, BitVec.allOnes_xor, BitVec.ofInt_natCast, BitVec.ofNat_toNat, BitVec.setWidth_eq]
theorem and_not_i64 (a b : Nat) (ha : a < 2 ^ 63) : bits .and .i64 (a : Int) (bits .xor .i64 (-1) (b : Int)) = ((nb a b : Nat) : Int) := by
 show IntKind.i64.wrap (((BitVec.ofInt 64 (a : Int) &&& BitVec.ofInt 64 (bits .xor .i64 (-1) (b : Int))).toNat : Nat) : Int) = _
 rw [ofInt_xor_not, BitVec.ofInt_natCast, BitVec.ofInt_natCast, toNat_and_not _ a b (by omega)]
 have : nb a b ≤ a := nb_le a b
 exact IntWalk.i64_in _ (by omega)
theorem shr_cast (a k : Nat) : (a : Int) / 2 ^ k = ((a >>> k : Nat) : Int) := by
 rw [Nat.shiftRight_eq_div_pow]; simp
theorem bit_i64 (a k : Nat) (ha : a < 2 ^ 63) : bits .and .i64 ((a : Int) / 2 ^ k) 1 = if a.testBit k then 1 else 0 := by
 rw [shr_cast]
 have h1 : a >>> k < 2 ^ 63 := Nat.lt_of_le_of_lt (by rw [Nat.shiftRight_eq_div_pow]; exact Nat.div_le_self _ _) ha
 have := and_i64 (a >>> k) 1 h1 (by decide)
 rw [show ((1 : Nat) : Int) = 1 from rfl] at this
 rw [this, Nat.and_one_is_mod]
 have : a.testBit k = decide ((a >>> k) % 2 = 1) := by
  rw [Nat.testBit, Nat.and_comm, Nat.and_one_is_mod]
  have : a >>> k % 2 = 0 ∨ a >>> k % 2 = 1 := by omega
  rcases this with h | h <;> simp [h]
 rw [this]
 have : a >>> k % 2 = 0 ∨ a >>> k % 2 = 1 := by omega
 rcases this with h | h <;> simp [h]
def msk (x : Int) (n : Nat) : Nat := (x % 2 ^ n).toNat
theorem msk_lt (x : Int) (n : Nat) : msk x n < 2 ^ n := by
 unfold msk
 have h0 : (0 : Int) < 2 ^ n := Int.pow_pos (by decide)
 have h1 := Int.emod_nonneg x (Int.ne_of_gt h0)
 have h2 := Int.emod_lt_of_pos x h0
 have h3 : ((2 ^ n : Nat) : Int) = 2 ^ n := by simp
 omega
theorem msk_i64 (x : Int) (n : Nat) (hn : n ≤ 62) : bits .and .i64 x ((2 ^ n - 1 : Nat) : Int) = ((msk x n : Nat) : Int) := by
 have h0 : (0 : Int) < 2 ^ n := Int.pow_pos (by decide)
 have hle : 2 ^ n ≤ 2 ^ 62 := Nat.pow_le_pow_right (by decide) hn
 have hdvd : (2 : Int) ^ n ∣ 2 ^ 64 := ⟨2 ^ (64 - n), by rw [← Int.pow_add]; congr 1; omega⟩
 have h64 : BitVec.ofInt 64 x = BitVec.ofNat 64 (x % 2 ^ 64).toNat := by
  apply BitVec.eq_of_toNat_eq
  rw [BitVec.toNat_ofInt, BitVec.toNat_ofNat]
  have : (x % 2 ^ 64).toNat < 2 ^ 64 := by omega
  rw [Nat.mod_eq_of_lt this]
  rfl
 show IntKind.i64.wrap (((BitVec.ofInt 64 x &&& BitVec.ofInt 64 ((2 ^ n - 1 : Nat) : Int)).toNat : Nat) : Int) = _
 rw [h64, BitVec.ofInt_natCast, BitVec.toNat_and, BitVec.toNat_ofNat, BitVec.toNat_ofNat, Nat.mod_eq_of_lt (a := 2 ^ n - 1) (by omega),
  Nat.and_two_pow_sub_one_eq_mod, Nat.mod_mod_of_dvd _ (Nat.pow_dvd_pow 2 (by omega))]
 have : (x % 2 ^ 64).toNat % 2 ^ n = msk x n := by
  unfold msk
  have h1 : ((((x % 2 ^ 64).toNat % 2 ^ n : Nat)) : Int) = x % 2 ^ n := by
   rw [Int.natCast_emod, Int.toNat_of_nonneg (by omega)]
   simp only [Int.natCast_pow]
   exact Int.emod_emod_of_dvd x hdvd
  rw [← h1]
  rfl
 rw [this]
 have := msk_lt x n
 exact IntWalk.i64_in _ (by omega)
end Go.Proofs.YtdhekhlmdefcnabGreatDoor
namespace Go.Proofs.YtdhekhlmdefcnabGreatDoor
section
variable {P : Program} {ops : Array Oper} {Q : Exit → Act → World → Prop}
def Known (ops : Array Oper) (V : Nat → Value) (li : Array Bool) (a : Act) : Prop := ∀ (j : Nat) (o : Oper), ops[j]? = some o → li.getD j false = true → ∀ d, o.dst = some d → a.tmps.getD d undef = V j
def dstsOk (ops : Array Oper) (S : List Nat) (size : Nat) : Bool :=
 (List.range ops.size).all (fun j => ((ops[j]?).map fun o => match o.dst with | none => true | some d => S.contains d && decide (d < size)).getD true) &&
 (List.range ops.size).all (fun i => (List.range ops.size).all fun j => i == j || (match (ops[i]?).bind (·.dst), (ops[j]?).bind (·.dst) with | some d, some d' => d != d' | _, _ => true))
theorem Known.put {V : Nat → Value} {li : Array Bool} {a : Act} {S : List Nat} {n i : Nat} {o : Oper} (hk : Known ops V li a) (hd : dstsOk ops S n = true) (hs : a.tmps.size = n) (ho : ops[i]? = some o) : Known ops V (li.setIfInBounds i true) (a.put o.dst (V i)) := by
 intro j o' ho' hl d hd'
 have hi := (Array.getElem?_eq_some_iff.1 ho).1
 have hj := (Array.getElem?_eq_some_iff.1 ho').1
 unfold dstsOk at hd
 rw [Bool.and_eq_true] at hd
 by_cases e : i = j
 ·subst e
  rw [ho] at ho'
  injection ho' with ho'
  subst ho'
  have h1 := List.all_eq_true.1 hd.1 i (List.mem_range.2 hi)
  rw [ho] at h1
  simp only [Option.map_some, hd', Option.getD_some, Bool.and_eq_true, decide_eq_true_eq] at h1
  rw [hd', put_at _ _ _ (by rw [hs]; exact h1.2)]
 ·rw [getD_set_ne false e] at hl
  cases hod : o.dst with
  | none => exact hk j o' ho' hl d hd'
  | some d0 =>
   have h2 := List.all_eq_true.1 (List.all_eq_true.1 hd.2 i (List.mem_range.2 hi)) j (List.mem_range.2 hj)
   rw [ho, ho'] at h2
   simp only [Option.bind_some, hod, hd', Bool.or_eq_true, beq_iff_eq, e, false_or, bne_iff_ne] at h2
   rw [put_ne _ _ _ _ h2]
   exact hk j o' ho' hl d hd'
theorem Frm.puts {S : List Nat} {a0 a : Act} {n i : Nat} {o : Oper} (h : Frm S a0 a) (hd : dstsOk ops S n = true) (ho : ops[i]? = some o) (v : Value) : Frm S a0 (a.put o.dst v) := by
 have hi := (Array.getElem?_eq_some_iff.1 ho).1
 cases hod : o.dst with
 | none => exact h
 | some d =>
  unfold dstsOk at hd
  rw [Bool.and_eq_true] at hd
  have h1 := List.all_eq_true.1 hd.1 i (List.mem_range.2 hi)
  rw [ho] at h1
  simp only [Option.map_some, hod, Option.getD_some, Bool.and_eq_true, decide_eq_true_eq, List.contains_iff_mem] at h1
  exact h.put h1.1 v
end
section
variable {P : Program} {ops : Array Oper} {Q : Exit → Act → World → Prop}
end
section
variable {W0 W1 W2 w : World} {al st : Nat} {li : Array Bool}
end
section
variable {P : Program} {o : Oper} {a : Act} {w : World} {K : Act → World → Prop} {Q : Exit → Act → World → Prop}
end
end Go.Proofs.YtdhekhlmdefcnabGreatDoor
namespace Go.Proofs.YtdhekhlmdefcnabGreatDoor
theorem wr64 {x : Int} (h1 : -9223372036854775808 ≤ x) (h2 : x < 9223372036854775808) : IntKind.i64.wrap x = x := IntWalk.i64_in x ⟨h1, by omega⟩
theorem slot_at {a : Act} {s : Nat} {v : Value} (h : a.tmps.getD s undef = v) : a.tmps[s]?.getD undef = v := by rw [← Array.getD_eq_getD_getElem?]; exact h
section
variable {P : Program} {ops : Array Oper} {Q : Exit → Act → World → Prop}
end
end Go.Proofs.YtdhekhlmdefcnabGreatDoor
namespace Go.Proofs.YtdhekhlmdefcnabGreatDoor
def Closed (ops : Array Oper) (li : Array Bool) : Prop := ∀ i o, ops[i]? = some o → li.getD i false = true → ∀ e ∈ o.after, Region.binds .any e = true → li.getD e.on false = true
structure Here (ops : Array Oper) (V : Nat → Value) (S : List Nat) (a0 : Act) (li : Array Bool) (a : Act) : Prop where
 size : li.size = ops.size
 frm : Frm S a0 a
 known : Known ops V li a
 closed : Closed ops li
 unput : ∀ d, (∀ q o, ops[q]? = some o → o.dst = some d → li.getD q false = false) → a.tmps[d]? = a0.tmps[d]?
section
variable {P : Program} {ops : Array Oper} {Q : Exit → Act → World → Prop}
def StepA (P : Program) (ops : Array Oper) (Q : Exit → Act → World → Prop) (V : Nat → Value) (S : List Nat) (a0 : Act) (i : Nat) (o : Oper) (M N : World → Prop) : Prop :=
 ∀ (li : Array Bool) (a : Act) (w : World), Here ops V S a0 li a → li.getD i false = false → (∀ e ∈ o.after, Region.binds .any e = true → li.getD e.on false = true) → M w →
  ∀ K : Act → World → Prop, (∀ w', N w' → K (a.put o.dst (V i)) w') → if Region.wanted o (yielded ops a.tmps) = true then Oper.wp P o a w K Q else K (a.put o.dst undef) w
variable {V : Nat → Value} {S : List Nat} {a0 : Act} {i : Nat} {o : Oper} {M N : World → Prop}
theorem stepA (hg : o.guard = none)
  (h : ∀ (li : Array Bool) (a : Act) (w : World), Here ops V S a0 li a → li.getD i false = false → (∀ e ∈ o.after, Region.binds .any e = true → li.getD e.on false = true) → M w → ∀ K : Act → World → Prop, (∀ w', N w' → K (a.put o.dst (V i)) w') → Oper.wp P o a w K Q) :
  StepA P ops Q V S a0 i o M N := by
 intro li a w hH hn hed hM K hk
 rw [if_pos (by simp [Region.wanted, hg])]
 exact h li a w hH hn hed hM K hk
theorem stepAG {j d : Nat} {oj : Oper} {want : Bool} (hg : o.guard = some (j, want)) (hj : ops[j]? = some oj) (hd : oj.dst = some d) (hV : V j = .bool want) (he : (⟨j, .guard⟩ : Edge) ∈ o.after)
  (h : ∀ (li : Array Bool) (a : Act) (w : World), Here ops V S a0 li a → li.getD i false = false → (∀ e ∈ o.after, Region.binds .any e = true → li.getD e.on false = true) → M w → ∀ K : Act → World → Prop, (∀ w', N w' → K (a.put o.dst (V i)) w') → Oper.wp P o a w K Q) :
  StepA P ops Q V S a0 i o M N := by
 intro li a w hH hn hed hM K hk
 have h1 : a.tmps[d]? = some (.bool want) := by
  have hv := (hH.known j oj hj (hed _ he rfl) d hd).trans hV
  rw [Array.getD_eq_getD_getElem?] at hv
  cases e : a.tmps[d]? with
  | none => rw [e] at hv; cases hv
  | some v => rw [e] at hv; rw [← hv]; rfl
 rw [if_pos (by unfold Region.wanted yielded; rw [hg]; simp [hj, hd, h1])]
 exact h li a w hH hn hed hM K hk
theorem stepAN {j d : Nat} {oj : Oper} {want : Bool} (hg : o.guard = some (j, want)) (hj : ops[j]? = some oj) (hd : oj.dst = some d) (hV : V j = .bool (!want)) (he : (⟨j, .guard⟩ : Edge) ∈ o.after) (hVi : V i = undef) (hMN : ∀ w, M w → N w) :
  StepA P ops Q V S a0 i o M N := by
 intro li a w hH hn hed hM K hk
 have h1 : a.tmps[d]? = some (.bool (!want)) := by
  have hv := (hH.known j oj hj (hed _ he rfl) d hd).trans hV
  rw [Array.getD_eq_getD_getElem?] at hv
  cases e : a.tmps[d]? with
  | none => rw [e] at hv; cases hv
  | some v => rw [e] at hv; rw [← hv]; rfl
 rw [if_neg (by unfold Region.wanted yielded; rw [hg]; cases want <;> simp [hj, hd, h1])]
 have := hk w (hMN w hM)
 rw [hVi] at this
 exact this
theorem Here.late {li : Array Bool} {a : Act} (h : Here ops V S a0 li a) (hn : li.getD i false = false) {d : Nat} (hq : (List.range ops.size).all (fun q => ((ops[q]?).map fun o => if o.dst = some d then o.after.any fun e => decide (e.on = i) && Region.binds .any e else true).getD true) = true) {v : Value}
  (hv : a0.tmps.getD d undef = v) : a.tmps[d]?.getD undef = v := by
 rw [h.unput d ?_, ← Array.getD_eq_getD_getElem?]
 ·exact hv
 ·intro q o hqo hd
  cases hl : li.getD q false with
  | false => rfl
  | true =>
   have hlt := (Array.getElem?_eq_some_iff.1 hqo).1
   have := List.all_eq_true.1 hq q (List.mem_range.2 hlt)
   rw [hqo] at this
   simp only [Option.map_some, Option.getD_some, hd, if_true] at this
   rw [Array.any_eq_true] at this
   obtain ⟨k, hk, he⟩ := this
   simp only [Bool.and_eq_true, decide_eq_true_eq] at he
   have h1 := h.closed q o hqo hl o.after[k] (Array.getElem_mem hk) he.2
   rw [he.1, hn] at h1
   cases h1
def behind (ops : Array Oper) (s i : Nat) : Bool := ((ops[s]?).map fun o => o.after.any fun e => decide (e.on = i) && Region.binds .any e).getD false
def chainOk (ops : Array Oper) (stores : List Nat) : Bool :=
 (List.range stores.length).all (fun t => decide (t = 0) || behind ops (stores.getD t 0) (stores.getD (t - 1) 0)) && decide stores.Nodup && stores.all (fun s => decide (s < ops.size))
def earlyOk (ops : Array Oper) (stores : List Nat) (i : Nat) : Bool := match stores with | [] => true | s :: _ => behind ops s i
theorem behind_done {s i : Nat} (h : behind ops s i = true) {li : Array Bool} (hc : Closed ops li) (hs : li.getD s false = true) : li.getD i false = true := by
 unfold behind at h
 cases ho : ops[s]? with
 | none => rw [ho] at h; cases h
 | some o =>
  rw [ho] at h
  simp only [Option.map_some, Option.getD_some] at h
  rw [Array.any_eq_true] at h
  obtain ⟨k, hk, he⟩ := h
  simp only [Bool.and_eq_true, decide_eq_true_eq] at he
  have h1 := hc s o ho hs o.after[k] (Array.getElem_mem hk) he.2
  rw [he.1] at h1
  exact h1
def Stage (stores : List Nat) (Ms : Nat → World → Prop) (li : Array Bool) (w : World) : Prop := ∃ j, j ≤ stores.length ∧ (∀ t s, stores[t]? = some s → li.getD s false = decide (t < j)) ∧ Ms j w
def Kind (P : Program) (ops : Array Oper) (Q : Exit → Act → World → Prop) (V : Nat → Value) (S : List Nat) (stores : List Nat) (Ms : Nat → World → Prop) (b0 : Act) (i : Nat) (o : Oper) : Prop :=
 (i ∉ stores ∧ ∀ M : World → Prop, StepA P ops Q V S b0 i o M M) ∨ (i ∉ stores ∧ earlyOk ops stores i = true ∧ StepA P ops Q V S b0 i o (Ms 0) (Ms 0)) ∨ (∃ t, stores[t]? = some i ∧ StepA P ops Q V S b0 i o (Ms t) (Ms (t + 1))) ∨
 (i ∉ stores ∧ ∃ t s, stores[t]? = some s ∧ behind ops s i = true ∧ ∀ j, j ≤ t → StepA P ops Q V S b0 i o (Ms j) (Ms j))
theorem region_all {id : Nat} {w : World} {a0 : Act} (hm : P.follows .mixedOrders = true) (F : Act → Prop) (hF : F a0) (n : Nat) (hn : a0.tmps.size = n) (V : Nat → Value) (stores : List Nat) (hc : chainOk ops stores = true) (Ms : Nat → World → Prop) (S : List Nat)
  (hd : dstsOk ops S n = true) (hb : (List.range ops.size).all (fun i => ((ops[i]?).map fun o => o.after.all fun e => !Region.binds .any e || decide (e.on < i)).getD true) = true)
  (h0 : Ms 0 { w with drawn := w.drawn + 1 })
  (hstep : ∀ b0, F b0 → ∀ i o, ops[i]? = some o → Kind P ops Q V S stores Ms b0 i o)
  (hend : ∀ a w', Frm S a0 a → (∀ i o, ops[i]? = some o → ∀ d, o.dst = some d → a.tmps.getD d undef = V i) → Ms stores.length w' → Q .normal a w') : (Code.region id ops true).wp P Q a0 w := by
 unfold chainOk at hc
 simp only [Bool.and_eq_true, decide_eq_true_eq] at hc
 obtain ⟨⟨hch, hnd⟩, hsz⟩ := hc
 have rep : ∀ j, (Array.replicate ops.size false).getD j false = false := fun j => by
  rw [Array.getD_eq_getD_getElem?, Array.getElem?_replicate]
  split <;> rfl
 have hd' : dstsOk ops S a0.tmps.size = true := by rw [hn]; exact hd
 refine region_inv hm (fun li a w' => Here ops V S a0 li a ∧ Stage stores Ms li w') ⟨⟨by simp, Frm.refl _ _, (fun j o _ hl => absurd hl (by rw [rep]; decide)), (fun j o _ hl => absurd hl (by rw [rep]; decide)), fun _ _ => rfl⟩, 0, Nat.zero_le _, (fun t s _ => by rw [rep]; simp), h0⟩ ?_ ?_
 ·intro i li a w' hi hJ
  obtain ⟨hH, j, hj, hst, hM⟩ := hJ
  obtain ⟨hli, o, ho, hed⟩ := mem_ready.1 hi
  have hlt := (Array.getElem?_eq_some_iff.1 ho).1
  have hs := hH.size
  have hnot : li.getD i false = false := by
   rw [Array.getD_eq_getD_getElem?] at hli ⊢
   rw [Array.getElem?_eq_getElem (by omega)] at hli ⊢
   exact hli
  have hset : (li.setIfInBounds i true).getD i false = true := by simp [Array.getD_eq_getD_getElem?, hs, hlt]
  have next : ∀ v, v = V i → Here ops V S a0 (li.setIfInBounds i true) (a.put o.dst v) := by
   rintro v rfl
   refine ⟨by simpa using hs, hH.frm.puts hd' ho _, hH.known.put hd' hH.frm.size ho, ?_, ?_⟩
   ·intro q oq hq hl e he hbe
    by_cases e1 : i = q
    ·subst e1
     rw [ho] at hq
     injection hq with hq
     subst hq
     have h1 := hed e he hbe
     by_cases e2 : i = e.on
     ·rw [← e2] at h1; rw [hnot] at h1; cases h1
     ·rw [getD_set_ne false e2]; exact h1
    ·rw [getD_set_ne false e1] at hl
     have h1 := hH.closed q oq hq hl e he hbe
     by_cases e2 : i = e.on
     ·rw [← e2]; exact hset
     ·rw [getD_set_ne false e2]; exact h1
   ·intro d hdq
    have h1 : o.dst ≠ some d := fun e => by
     have := hdq i o ho e
     rw [hset] at this
     cases this
    have h2 : (a.put o.dst (V i)).tmps[d]? = a.tmps[d]? := by
     cases hod : o.dst with
     | none => rfl
     | some d0 =>
      have hne : d0 ≠ d := fun e => h1 (by rw [hod, e])
      show (a.tmps.setIfInBounds d0 (V i))[d]? = _
      rw [Array.getElem?_setIfInBounds_ne hne]
    rw [h2]
    refine hH.unput d (fun q oq hq hqd => ?_)
    have := hdq q oq hq hqd
    by_cases e1 : i = q
    ·subst e1; exact hnot
    ·rw [getD_set_ne false e1] at this; exact this
  refine wpOp_step ho (fun K' hK' => ?_)
  rcases hstep a0 hF i o ho with ⟨hns, hp⟩ | ⟨hns, he, hp⟩ | ⟨t, ht, hp⟩ | ⟨hns, t, s, ht, hbh, hp⟩
  ·refine hp (Ms j) li a w' hH hnot hed hM K' (fun w'' hM' => hK' _ _ ⟨next _ rfl, j, hj, fun t s hts => ?_, hM'⟩)
   rw [getD_set_ne false (fun e => hns (by rw [e]; exact List.mem_of_getElem? hts))]
   exact hst t s hts
  ·have hj0 : j = 0 := by
    rcases Nat.eq_zero_or_pos j with h | h
    ·exact h
    ·cases stores with
     | nil => simp at hj; exact hj
     | cons s ss =>
      have h1 := hst 0 s rfl
      rw [decide_eq_true h] at h1
      have h2 := behind_done he hH.closed h1
      rw [hnot] at h2; cases h2
   subst hj0
   refine hp li a w' hH hnot hed hM K' (fun w'' hM' => hK' _ _ ⟨next _ rfl, 0, hj, fun t s hts => ?_, hM'⟩)
   rw [getD_set_ne false (fun e => hns (by rw [e]; exact List.mem_of_getElem? hts))]
   exact hst t s hts
  ·have htl : t < stores.length := (List.getElem?_eq_some_iff.1 ht).1
   have hjt : j = t := by
    have h1 := hst t i ht
    rw [hnot] at h1
    have h2 : ¬ t < j := by simpa using h1.symm
    rcases Nat.eq_zero_or_pos t with h | h
    ·omega
    ·have h3 := List.all_eq_true.1 hch t (List.mem_range.2 htl)
     simp only [Bool.or_eq_true, decide_eq_true_eq] at h3
     have h4 : behind ops i (stores.getD (t - 1) 0) = true := by
      rcases h3 with h3 | h3
      ·omega
      ·rw [List.getD_eq_getElem?_getD, ht] at h3; exact h3
     obtain ⟨s', hs'⟩ : ∃ s', stores[t - 1]? = some s' := ⟨_, List.getElem?_eq_getElem (by omega)⟩
     rw [List.getD_eq_getElem?_getD, hs'] at h4
     unfold behind at h4
     rw [ho] at h4
     simp only [Option.map_some, Option.getD_some] at h4
     rw [Array.any_eq_true] at h4
     obtain ⟨k, hk, hek⟩ := h4
     simp only [Bool.and_eq_true, decide_eq_true_eq] at hek
     have h5 := hed o.after[k] (Array.getElem_mem hk) hek.2
     rw [hek.1] at h5
     have h6 := hst (t - 1) s' hs'
     rw [h5] at h6
     have : t - 1 < j := by simpa using h6.symm
     omega
   subst hjt
   refine hp li a w' hH hnot hed hM K' (fun w'' hM' => hK' _ _ ⟨next _ rfl, j + 1, by omega, fun t s hts => ?_, hM'⟩)
   by_cases e : s = i
   ·subst e
    rw [hset]
    have : t = j := (List.getElem?_inj (List.getElem?_eq_some_iff.1 hts).1 hnd).1 (hts.trans ht.symm)
    rw [this]
    simp
   ·rw [getD_set_ne false (fun e' => e e'.symm), hst t s hts, decide_eq_decide]
    have : t ≠ j := fun e' => by
     rw [e', ht] at hts
     injection hts with hts
     exact e hts.symm
    omega
  ·have hjt : j ≤ t := by
    rcases Nat.lt_or_ge t j with h | h
    ·have h1 := hst t s ht
     rw [decide_eq_true h] at h1
     have h2 := behind_done hbh hH.closed h1
     rw [hnot] at h2; cases h2
    ·exact h
   refine hp j hjt li a w' hH hnot hed hM K' (fun w'' hM' => hK' _ _ ⟨next _ rfl, j, hj, fun t s hts => ?_, hM'⟩)
   rw [getD_set_ne false (fun e => hns (by rw [e]; exact List.mem_of_getElem? hts))]
   exact hst t s hts
 ·intro li a w' hJ hr
  obtain ⟨hH, j, hj, hst, hM⟩ := hJ
  have hall := all_listed hr hH.size hb
  refine hend a w' hH.frm (fun i o ho d hd => hH.known i o ho (hall i (Array.getElem?_eq_some_iff.1 ho).1) d hd) ?_
  have : j = stores.length := by
   rcases Nat.eq_zero_or_pos stores.length with h | h
   ·omega
   ·obtain ⟨s, hs⟩ : ∃ s, stores[stores.length - 1]? = some s := ⟨_, List.getElem?_eq_getElem (by omega)⟩
    have h1 := hst _ s hs
    have h2 : s < ops.size := by simpa using List.all_eq_true.1 hsz s (List.mem_of_getElem? hs)
    rw [hall s h2] at h1
    have : stores.length - 1 < j := by simpa using h1.symm
    omega
  subst this
  exact hM
end
end Go.Proofs.YtdhekhlmdefcnabGreatDoor
namespace Go.Proofs.YtdhekhlmdefcnabGreatDoor
def needs (ops : Array Oper) (s : Nat) : Nat → Nat → Bool
 | 0, _ => false
 | n + 1, q => ((ops[q]?).map fun o => o.after.any fun e => Region.binds .any e && (decide (e.on = s) || needs ops s n e.on)).getD false
theorem needs_done {ops : Array Oper} {s : Nat} {li : Array Bool} (hc : Closed ops li) : ∀ (n q : Nat), needs ops s n q = true → li.getD q false = true → li.getD s false = true
 | 0, _, h, _ => by cases h
 | n + 1, q, h, hq => by
  unfold needs at h
  cases ho : ops[q]? with
  | none => rw [ho] at h; cases h
  | some o =>
   rw [ho] at h
   simp only [Option.map_some, Option.getD_some] at h
   rw [Array.any_eq_true] at h
   obtain ⟨k, hk, he⟩ := h
   simp only [Bool.and_eq_true, Bool.or_eq_true, decide_eq_true_eq] at he
   have h1 := hc q o ho hq o.after[k] (Array.getElem_mem hk) he.1
   rcases he.2 with h2 | h2
   ·rw [h2] at h1; exact h1
   ·exact needs_done hc n _ h2 h1
theorem needs_ready {ops : Array Oper} {s : Nat} {li : Array Bool} (hc : Closed ops li) {i : Nat} {o : Oper} (ho : ops[i]? = some o) (hed : ∀ e ∈ o.after, Region.binds .any e = true → li.getD e.on false = true) : ∀ (n : Nat), needs ops s n i = true → li.getD s false = true
 | 0, h => by cases h
 | n + 1, h => by
  unfold needs at h
  rw [ho] at h
  simp only [Option.map_some, Option.getD_some] at h
  rw [Array.any_eq_true] at h
  obtain ⟨k, hk, he⟩ := h
  simp only [Bool.and_eq_true, Bool.or_eq_true, decide_eq_true_eq] at he
  have h1 := hed o.after[k] (Array.getElem_mem hk) he.1
  rcases he.2 with h2 | h2
  ·rw [h2] at h1; exact h1
  ·exact needs_done hc n _ h2 h1
def chainFar (ops : Array Oper) (stores : List Nat) : Bool :=
 (List.range stores.length).all (fun t => decide (t = 0) || needs ops (stores.getD (t - 1) 0) ops.size (stores.getD t 0)) && decide stores.Nodup && stores.all (fun s => decide (s < ops.size))
section
variable {P : Program} {ops : Array Oper} {Q : Exit → Act → World → Prop} {α : Type}
def StepNum (P : Program) (ops : Array Oper) (Q : Exit → Act → World → Prop) (γ : α) (V : α → Nat → Value) (S : List Nat) (a0 : Act) (i : Nat) (o : Oper) (M : World → Prop) (N : α → World → Prop) : Prop :=
 ∀ (li : Array Bool) (a : Act) (w : World), Here ops (V γ) S a0 li a → li.getD i false = false → (∀ e ∈ o.after, Region.binds .any e = true → li.getD e.on false = true) → M w →
  ∀ K : Act → World → Prop, (∀ γ' w', N γ' w' → K (a.put o.dst (V γ' i)) w') → if Region.wanted o (yielded ops a.tmps) = true then Oper.wp P o a w K Q else K (a.put o.dst undef) w
theorem stepNum {γ : α} {V : α → Nat → Value} {S : List Nat} {a0 : Act} {i : Nat} {o : Oper} {M : World → Prop} {N : α → World → Prop} (hg : o.guard = none)
  (h : ∀ (li : Array Bool) (a : Act) (w : World), Here ops (V γ) S a0 li a → li.getD i false = false → (∀ e ∈ o.after, Region.binds .any e = true → li.getD e.on false = true) → M w → ∀ K : Act → World → Prop, (∀ γ' w', N γ' w' → K (a.put o.dst (V γ' i)) w') → Oper.wp P o a w K Q) :
  StepNum P ops Q γ V S a0 i o M N := by
 intro li a w hH hn hed hM K hk
 rw [if_pos (by simp [Region.wanted, hg])]
 exact h li a w hH hn hed hM K hk
def KindNum (P : Program) (ops : Array Oper) (Q : Exit → Act → World → Prop) (V : α → Nat → Value) (S : List Nat) (stores : List Nat) (Ms : Nat → α → World → Prop) (b0 : Act) (i : Nat) (o : Oper) : Prop :=
 (i ∉ stores ∧ ∀ (γ : α) (M : World → Prop), StepA P ops Q (V γ) S b0 i o M M) ∨ (stores[0]? = some i ∧ ∀ γ, StepNum P ops Q γ V S b0 i o (Ms 0 γ) (Ms 1)) ∨ (∃ t, 0 < t ∧ stores[t]? = some i ∧ ∀ γ, StepA P ops Q (V γ) S b0 i o (Ms t γ) (Ms (t + 1) γ)) ∨
 (i ∉ stores ∧ ∃ t s, stores[t]? = some s ∧ needs ops i ops.size s = true ∧ ∀ γ j, j ≤ t → StepA P ops Q (V γ) S b0 i o (Ms j γ) (Ms j γ))
theorem region_num {id : Nat} {w : World} {a0 : Act} (hm : P.follows .mixedOrders = true) (F : Act → Prop) (hF : F a0) (n : Nat) (hn : a0.tmps.size = n) (γ0 : α) (V : α → Nat → Value) (stores : List Nat) (hc : chainFar ops stores = true) (dep : List Nat)
  (hdep : dep.all (fun q => decide (stores[0]? = some q) || needs ops (stores.getD 0 0) ops.size q) = true) (hs0 : stores ≠ []) (hV : ∀ γ γ' q, q ∉ dep → V γ q = V γ' q) (Ms : Nat → α → World → Prop) (S : List Nat)
  (hd : dstsOk ops S n = true) (hb : (List.range ops.size).all (fun i => ((ops[i]?).map fun o => o.after.all fun e => !Region.binds .any e || decide (e.on < i)).getD true) = true)
  (h0 : Ms 0 γ0 { w with drawn := w.drawn + 1 })
  (hstep : ∀ b0, F b0 → ∀ i o, ops[i]? = some o → KindNum P ops Q V S stores Ms b0 i o)
  (hend : ∀ γ a w', Frm S a0 a → (∀ i o, ops[i]? = some o → ∀ d, o.dst = some d → a.tmps.getD d undef = V γ i) → Ms stores.length γ w' → Q .normal a w') : (Code.region id ops true).wp P Q a0 w := by
 unfold chainFar at hc
 simp only [Bool.and_eq_true, decide_eq_true_eq] at hc
 obtain ⟨⟨hch, hnd⟩, hsz⟩ := hc
 have rep : ∀ j, (Array.replicate ops.size false).getD j false = false := fun j => by
  rw [Array.getD_eq_getD_getElem?, Array.getElem?_replicate]
  split <;> rfl
 have hd' : dstsOk ops S a0.tmps.size = true := by rw [hn]; exact hd
 refine region_inv hm (fun li a w' => ∃ γ, Here ops (V γ) S a0 li a ∧ Stage stores (fun j => Ms j γ) li w') ⟨γ0, ⟨by simp, Frm.refl _ _, (fun j o _ hl => absurd hl (by rw [rep]; decide)), (fun j o _ hl => absurd hl (by rw [rep]; decide)), fun _ _ => rfl⟩, 0, Nat.zero_le _, (fun t s _ => by rw [rep]; simp), h0⟩ ?_ ?_
 ·intro i li a w' hi hJ
  obtain ⟨γ, hH, j, hj, hst, hM⟩ := hJ
  obtain ⟨hli, o, ho, hed⟩ := mem_ready.1 hi
  have hlt := (Array.getElem?_eq_some_iff.1 ho).1
  have hs := hH.size
  have hnot : li.getD i false = false := by
   rw [Array.getD_eq_getD_getElem?] at hli ⊢
   rw [Array.getElem?_eq_getElem (by omega)] at hli ⊢
   exact hli
  have hset : (li.setIfInBounds i true).getD i false = true := by simp [Array.getD_eq_getD_getElem?, hs, hlt]
  have next : ∀ γ' v, v = V γ' i → Known ops (V γ') li a → Here ops (V γ') S a0 (li.setIfInBounds i true) (a.put o.dst v) := by
   rintro γ' v rfl hkn
   refine ⟨by simpa using hs, hH.frm.puts hd' ho _, hkn.put hd' hH.frm.size ho, ?_, ?_⟩
   ·intro q oq hq hl e he hbe
    by_cases e1 : i = q
    ·subst e1
     rw [ho] at hq
     injection hq with hq
     subst hq
     have h1 := hed e he hbe
     by_cases e2 : i = e.on
     ·rw [← e2] at h1; rw [hnot] at h1; cases h1
     ·rw [getD_set_ne false e2]; exact h1
    ·rw [getD_set_ne false e1] at hl
     have h1 := hH.closed q oq hq hl e he hbe
     by_cases e2 : i = e.on
     ·rw [← e2]; exact hset
     ·rw [getD_set_ne false e2]; exact h1
   ·intro d hdq
    have h1 : o.dst ≠ some d := fun e => by
     have := hdq i o ho e
     rw [hset] at this
     cases this
    have h2 : (a.put o.dst (V γ' i)).tmps[d]? = a.tmps[d]? := by
     cases hod : o.dst with
     | none => rfl
     | some d0 =>
      have hne : d0 ≠ d := fun e => h1 (by rw [hod, e])
      show (a.tmps.setIfInBounds d0 (V γ' i))[d]? = _
      rw [Array.getElem?_setIfInBounds_ne hne]
    rw [h2]
    refine hH.unput d (fun q oq hq hqd => ?_)
    have := hdq q oq hq hqd
    by_cases e1 : i = q
    ·subst e1; exact hnot
    ·rw [getD_set_ne false e1] at this; exact this
  refine wpOp_step ho (fun K' hK' => ?_)
  have hsl : 0 < stores.length := List.length_pos_iff.2 hs0
  rcases hstep a0 hF i o ho with ⟨hns, hp⟩ | ⟨ht, hp⟩ | ⟨t, ht0, ht, hp⟩ | ⟨hns, t, s, ht, hbh, hp⟩
  ·refine hp γ (Ms j γ) li a w' hH hnot hed hM K' (fun w'' hM' => hK' _ _ ⟨γ, next γ _ rfl hH.known, j, hj, fun t s hts => ?_, hM'⟩)
   rw [getD_set_ne false (fun e => hns (by rw [e]; exact List.mem_of_getElem? hts))]
   exact hst t s hts
  ·have hj0 : j = 0 := by
    have h1 := hst 0 i ht
    rw [hnot] at h1
    have h2 : ¬ 0 < j := by simpa using h1.symm
    omega
   subst hj0
   have ht0 : stores.getD 0 0 = i := by rw [List.getD_eq_getElem?_getD, ht]; rfl
   refine hp γ li a w' hH hnot hed hM K' (fun γ' w'' hM' => hK' _ _ ⟨γ', next γ' _ rfl ?_, 1, by omega, fun t s hts => ?_, hM'⟩)
   ·intro q oq hq hl d hdq
    rw [hV γ' γ q (fun hqd => ?_)]
    ·exact hH.known q oq hq hl d hdq
    ·have h1 := List.all_eq_true.1 hdep q hqd
     rw [Bool.or_eq_true, decide_eq_true_eq] at h1
     rcases h1 with h1 | h1
     ·rw [ht] at h1
      injection h1 with h1
      rw [← h1, hnot] at hl; cases hl
     ·rw [ht0] at h1
      have := needs_done hH.closed _ _ h1 hl
      rw [hnot] at this; cases this
   ·by_cases e : s = i
    ·subst e
     rw [hset]
     have : t = 0 := (List.getElem?_inj (List.getElem?_eq_some_iff.1 hts).1 hnd).1 (hts.trans ht.symm)
     rw [this]
     simp
    ·rw [getD_set_ne false (fun e' => e e'.symm), hst t s hts, decide_eq_decide]
     have : t ≠ 0 := fun e' => by
      rw [e', ht] at hts
      injection hts with hts
      exact e hts.symm
     omega
  ·have htl : t < stores.length := (List.getElem?_eq_some_iff.1 ht).1
   have hjt : j = t := by
    have h1 := hst t i ht
    rw [hnot] at h1
    have h2 : ¬ t < j := by simpa using h1.symm
    rcases Nat.eq_zero_or_pos t with h | h
    ·omega
    ·have h3 := List.all_eq_true.1 hch t (List.mem_range.2 htl)
     simp only [Bool.or_eq_true, decide_eq_true_eq] at h3
     have h4 : needs ops (stores.getD (t - 1) 0) ops.size i = true := by
      rcases h3 with h3 | h3
      ·omega
      ·rw [List.getD_eq_getElem?_getD (l := stores) (i := t), ht] at h3; exact h3
     obtain ⟨s', hs'⟩ : ∃ s', stores[t - 1]? = some s' := ⟨_, List.getElem?_eq_getElem (by omega)⟩
     rw [List.getD_eq_getElem?_getD, hs'] at h4
     have h5 : li.getD s' false = true := needs_ready hH.closed ho hed _ h4
     have h6 := hst (t - 1) s' hs'
     rw [h5] at h6
     have : t - 1 < j := by simpa using h6.symm
     omega
   subst hjt
   refine hp γ li a w' hH hnot hed hM K' (fun w'' hM' => hK' _ _ ⟨γ, next γ _ rfl hH.known, j + 1, by omega, fun t s hts => ?_, hM'⟩)
   by_cases e : s = i
   ·subst e
    rw [hset]
    have : t = j := (List.getElem?_inj (List.getElem?_eq_some_iff.1 hts).1 hnd).1 (hts.trans ht.symm)
    rw [this]
    simp
   ·rw [getD_set_ne false (fun e' => e e'.symm), hst t s hts, decide_eq_decide]
    have : t ≠ j := fun e' => by
     rw [e', ht] at hts
     injection hts with hts
     exact e hts.symm
    omega
  ·have hjt : j ≤ t := by
    rcases Nat.lt_or_ge t j with h | h
    ·have h1 := hst t s ht
     rw [decide_eq_true h] at h1
     have h2 := needs_done hH.closed _ _ hbh h1
     rw [hnot] at h2; cases h2
    ·exact h
   refine hp γ j hjt li a w' hH hnot hed hM K' (fun w'' hM' => hK' _ _ ⟨γ, next γ _ rfl hH.known, j, hj, fun t s hts => ?_, hM'⟩)
   rw [getD_set_ne false (fun e => hns (by rw [e]; exact List.mem_of_getElem? hts))]
   exact hst t s hts
 ·intro li a w' hJ hr
  obtain ⟨γ, hH, j, hj, hst, hM⟩ := hJ
  have hall := all_listed hr hH.size hb
  refine hend γ a w' hH.frm (fun i o ho d hd => hH.known i o ho (hall i (Array.getElem?_eq_some_iff.1 ho).1) d hd) ?_
  have : j = stores.length := by
   rcases Nat.eq_zero_or_pos stores.length with h | h
   ·omega
   ·obtain ⟨s, hs⟩ : ∃ s, stores[stores.length - 1]? = some s := ⟨_, List.getElem?_eq_getElem (by omega)⟩
    have h1 := hst _ s hs
    have h2 : s < ops.size := by simpa using List.all_eq_true.1 hsz s (List.mem_of_getElem? hs)
    rw [hall s h2] at h1
    have : stores.length - 1 < j := by simpa using h1.symm
    omega
  subst this
  exact hM
end
end Go.Proofs.YtdhekhlmdefcnabGreatDoor
