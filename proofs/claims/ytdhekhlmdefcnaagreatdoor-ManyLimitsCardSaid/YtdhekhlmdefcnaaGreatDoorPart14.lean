/- Part 14 of the proof: Bits, Tab, Mono, All, Num, Gen. -/
import Derived.Test.YtdhekhlmdefcnaaGreatDoorPart13
import Derived.WalkKit
import Derived.IntWalk
namespace Go.Proofs.YtdhekhlmdefcnaaGreatDoor
def nb (a b : Nat) : Nat := a ^^^ (a &&& b)
theorem mod63 (a : Nat) (h : a < 2 ^ 63) : a % 2 ^ IntKind.i64.bits = a := Nat.mod_eq_of_lt (by simp only [IntKind.bits]; omega)
theorem and_i64 (a b : Nat) (ha : a < 2 ^ 63) (hb : b < 2 ^ 63) : bits .and .i64 (a : Int) (b : Int) = ((a &&& b : Nat) : Int) := by
 unfold bits
 simp only [BitVec.ofInt_natCast, BitVec.toNat_and, BitVec.toNat_ofNat]
 rw [mod63 a ha, mod63 b hb]
 have : a &&& b ≤ a := Nat.and_le_left
 exact IntWalk.i64_in _ (by omega)
theorem or_i64 (a b : Nat) (ha : a < 2 ^ 63) (hb : b < 2 ^ 63) : bits .or .i64 (a : Int) (b : Int) = ((a ||| b : Nat) : Int) := by
 unfold bits
 simp only [BitVec.ofInt_natCast, BitVec.toNat_or, BitVec.toNat_ofNat]
 rw [mod63 a ha, mod63 b hb]
 have : a ||| b < 2 ^ 63 := Nat.or_lt_two_pow ha hb
 exact IntWalk.i64_in _ (by omega)
def msk (x : Int) (n : Nat) : Nat := (x % 2 ^ n).toNat
end Go.Proofs.YtdhekhlmdefcnaaGreatDoor
namespace Go.Proofs.YtdhekhlmdefcnaaGreatDoor
section
variable {P : Program} {ops : Array Oper} {Q : Exit → Act → World → Prop}
def Known (ops : Array Oper) (V : Nat → Value) (li : Array Bool) (a : Act) : Prop := ∀ (j : Nat) (o : Oper), ops[j]? = some o → li.getD j false = true → ∀ d, o.dst = some d → a.tmps.getD d undef = V j
def dstsOk (ops : Array Oper) (S : List Nat) (size : Nat) : Bool :=
 (List.range ops.size).all (fun j => ((ops[j]?).map fun o => match o.dst with | none => true | some d => S.contains d && decide (d < size)).getD true) &&
 (List.range ops.size).all (fun i => (List.range ops.size).all fun j => i == j || (match (ops[i]?).bind (·.dst), (ops[j]?).bind (·.dst) with | some d, some d' => d != d' | _, _ => true))
theorem Known.put {V : Nat → Value} {li : Array Bool} {a : Act} {S : List Nat} {n i : Nat} {o : Oper} (hk : Known ops V li a) (hd : dstsOk ops S n = true) (hs : a.tmps.size = n) (ho : ops[i]? = some o) : Known ops V (li.setIfInBounds i true) (a.put o.dst (V i)) := by
 intro j o' ho' hl d hd'
 have hi := (Array.getElem?_eq_some_iff.1 ho).1
 have hj := (Array.getElem?_eq_some_iff.1 ho').1
 unfold dstsOk at hd
 rw [Bool.and_eq_true] at hd
 by_cases e : i = j
 ·subst e
  rw [ho] at ho'
  injection ho' with ho'
  subst ho'
  have h1 := List.all_eq_true.1 hd.1 i (List.mem_range.2 hi)
  rw [ho] at h1
  simp only [Option.map_some, hd', Option.getD_some, Bool.and_eq_true, decide_eq_true_eq] at h1
  rw [hd', put_at _ _ _ (by rw [hs]; exact h1.2)]
 ·rw [getD_set_ne false e] at hl
  cases hod : o.dst with
  | none => exact hk j o' ho' hl d hd'
  | some d0 =>
   have h2 := List.all_eq_true.1 (List.all_eq_true.1 hd.2 i (List.mem_range.2 hi)) j (List.mem_range.2 hj)
   rw [ho, ho'] at h2
   simp only [Option.bind_some, hod, hd', Bool.or_eq_true, beq_iff_eq, e, false_or, bne_iff_ne] at h2
   rw [put_ne _ _ _ _ h2]
   exact hk j o' ho' hl d hd'
theorem Frm.puts {S : List Nat} {a0 a : Act} {n i : Nat} {o : Oper} (h : Frm S a0 a) (hd : dstsOk ops S n = true) (ho : ops[i]? = some o) (v : Value) : Frm S a0 (a.put o.dst v) := by
 have hi := (Array.getElem?_eq_some_iff.1 ho).1
 cases hod : o.dst with
 | none => exact h
 | some d =>
  unfold dstsOk at hd
  rw [Bool.and_eq_true] at hd
  have h1 := List.all_eq_true.1 hd.1 i (List.mem_range.2 hi)
  rw [ho] at h1
  simp only [Option.map_some, hod, Option.getD_some, Bool.and_eq_true, decide_eq_true_eq, List.contains_iff_mem] at h1
  exact h.put h1.1 v
end
section
variable {P : Program} {ops : Array Oper} {Q : Exit → Act → World → Prop}
end
section
variable {W0 W1 W2 w : World} {al st : Nat} {li : Array Bool}
end
section
variable {P : Program} {o : Oper} {a : Act} {w : World} {K : Act → World → Prop} {Q : Exit → Act → World → Prop}
end
end Go.Proofs.YtdhekhlmdefcnaaGreatDoor
namespace Go.Proofs.YtdhekhlmdefcnaaGreatDoor
theorem slot_at {a : Act} {s : Nat} {v : Value} (h : a.tmps.getD s undef = v) : a.tmps[s]?.getD undef = v := by rw [← Array.getD_eq_getD_getElem?]; exact h
section
variable {P : Program} {ops : Array Oper} {Q : Exit → Act → World → Prop}
end
end Go.Proofs.YtdhekhlmdefcnaaGreatDoor
namespace Go.Proofs.YtdhekhlmdefcnaaGreatDoor
def Closed (ops : Array Oper) (li : Array Bool) : Prop := ∀ i o, ops[i]? = some o → li.getD i false = true → ∀ e ∈ o.after, Region.binds .any e = true → li.getD e.on false = true
structure Here (ops : Array Oper) (V : Nat → Value) (S : List Nat) (a0 : Act) (li : Array Bool) (a : Act) : Prop where
 size : li.size = ops.size
 frm : Frm S a0 a
 known : Known ops V li a
 closed : Closed ops li
 unput : ∀ d, (∀ q o, ops[q]? = some o → o.dst = some d → li.getD q false = false) → a.tmps[d]? = a0.tmps[d]?
section
variable {P : Program} {ops : Array Oper} {Q : Exit → Act → World → Prop}
def StepA (P : Program) (ops : Array Oper) (Q : Exit → Act → World → Prop) (V : Nat → Value) (S : List Nat) (a0 : Act) (i : Nat) (o : Oper) (M N : World → Prop) : Prop :=
 ∀ (li : Array Bool) (a : Act) (w : World), Here ops V S a0 li a → li.getD i false = false → (∀ e ∈ o.after, Region.binds .any e = true → li.getD e.on false = true) → M w →
  ∀ K : Act → World → Prop, (∀ w', N w' → K (a.put o.dst (V i)) w') → if Region.wanted o (yielded ops a.tmps) = true then Oper.wp P o a w K Q else K (a.put o.dst undef) w
variable {V : Nat → Value} {S : List Nat} {a0 : Act} {i : Nat} {o : Oper} {M N : World → Prop}
theorem stepA (hg : o.guard = none)
  (h : ∀ (li : Array Bool) (a : Act) (w : World), Here ops V S a0 li a → li.getD i false = false → (∀ e ∈ o.after, Region.binds .any e = true → li.getD e.on false = true) → M w → ∀ K : Act → World → Prop, (∀ w', N w' → K (a.put o.dst (V i)) w') → Oper.wp P o a w K Q) :
  StepA P ops Q V S a0 i o M N := by
 intro li a w hH hn hed hM K hk
 rw [if_pos (by simp [Region.wanted, hg])]
 exact h li a w hH hn hed hM K hk
def Stage (stores : List Nat) (Ms : Nat → World → Prop) (li : Array Bool) (w : World) : Prop := ∃ j, j ≤ stores.length ∧ (∀ t s, stores[t]? = some s → li.getD s false = decide (t < j)) ∧ Ms j w
end
end Go.Proofs.YtdhekhlmdefcnaaGreatDoor
namespace Go.Proofs.YtdhekhlmdefcnaaGreatDoor
def needs (ops : Array Oper) (s : Nat) : Nat → Nat → Bool
 | 0, _ => false
 | n + 1, q => ((ops[q]?).map fun o => o.after.any fun e => Region.binds .any e && (decide (e.on = s) || needs ops s n e.on)).getD false
theorem needs_done {ops : Array Oper} {s : Nat} {li : Array Bool} (hc : Closed ops li) : ∀ (n q : Nat), needs ops s n q = true → li.getD q false = true → li.getD s false = true
 | 0, _, h, _ => by cases h
 | n + 1, q, h, hq => by
  unfold needs at h
  cases ho : ops[q]? with
  | none => rw [ho] at h; cases h
  | some o =>
   rw [ho] at h
   simp only [Option.map_some, Option.getD_some] at h
   rw [Array.any_eq_true] at h
   obtain ⟨k, hk, he⟩ := h
   simp only [Bool.and_eq_true, Bool.or_eq_true, decide_eq_true_eq] at he
   have h1 := hc q o ho hq o.after[k] (Array.getElem_mem hk) he.1
   rcases he.2 with h2 | h2
   ·rw [h2] at h1; exact h1
   ·exact needs_done hc n _ h2 h1
theorem needs_ready {ops : Array Oper} {s : Nat} {li : Array Bool} (hc : Closed ops li) {i : Nat} {o : Oper} (ho : ops[i]? = some o) (hed : ∀ e ∈ o.after, Region.binds .any e = true → li.getD e.on false = true) : ∀ (n : Nat), needs ops s n i = true → li.getD s false = true
 | 0, h => by cases h
 | n + 1, h => by
  unfold needs at h
  rw [ho] at h
  simp only [Option.map_some, Option.getD_some] at h
  rw [Array.any_eq_true] at h
  obtain ⟨k, hk, he⟩ := h
  simp only [Bool.and_eq_true, Bool.or_eq_true, decide_eq_true_eq] at he
  have h1 := hed o.after[k] (Array.getElem_mem hk) he.1
  rcases he.2 with h2 | h2
  ·rw [h2] at h1; exact h1
  ·exact needs_done hc n _ h2 h1
def chainFar (ops : Array Oper) (stores : List Nat) : Bool :=
 (List.range stores.length).all (fun t => decide (t = 0) || needs ops (stores.getD (t - 1) 0) ops.size (stores.getD t 0)) && decide stores.Nodup && stores.all (fun s => decide (s < ops.size))
section
variable {P : Program} {ops : Array Oper} {Q : Exit → Act → World → Prop} {α : Type}
end
end Go.Proofs.YtdhekhlmdefcnaaGreatDoor
namespace Go.Proofs.YtdhekhlmdefcnaaGreatDoor
section
variable {P : Program} {ops : Array Oper} {Q : Exit → Act → World → Prop}
abbrev Unk := Nat → Nat
def Chg (own : List Nat) (Γ Γ' : Unk) : Prop := ∀ k, k ∉ own → Γ' k = Γ k
def Unk.set (Γ : Unk) (k v : Nat) : Unk := fun j => if j = k then v else Γ j
theorem chg0 (Γ : Unk) : Chg [] Γ Γ := fun _ _ => rfl
theorem chg1 (Γ : Unk) (k v : Nat) : Chg [k] Γ (Γ.set k v) := fun j hj => if_neg (by simpa using hj)
def StepC (P : Program) (ops : Array Oper) (Q : Exit → Act → World → Prop) (own : List Nat) (Γ : Unk) (V : Unk → Nat → Value) (S : List Nat) (a0 : Act) (i : Nat) (o : Oper) (M : World → Prop) (N : Unk → World → Prop) : Prop :=
 ∀ (li : Array Bool) (a : Act) (w : World), Here ops (V Γ) S a0 li a → li.getD i false = false → (∀ e ∈ o.after, Region.binds .any e = true → li.getD e.on false = true) → M w →
  ∀ K : Act → World → Prop, (∀ Γ' w', Chg own Γ Γ' → N Γ' w' → K (a.put o.dst (V Γ' i)) w') → if Region.wanted o (yielded ops a.tmps) = true then Oper.wp P o a w K Q else K (a.put o.dst undef) w
theorem stepC {own : List Nat} {Γ : Unk} {V : Unk → Nat → Value} {S : List Nat} {a0 : Act} {i : Nat} {o : Oper} {M : World → Prop} {N : Unk → World → Prop} (hg : o.guard = none)
  (h : ∀ (li : Array Bool) (a : Act) (w : World), Here ops (V Γ) S a0 li a → li.getD i false = false → (∀ e ∈ o.after, Region.binds .any e = true → li.getD e.on false = true) → M w → ∀ K : Act → World → Prop, (∀ Γ' w', Chg own Γ Γ' → N Γ' w' → K (a.put o.dst (V Γ' i)) w') → Oper.wp P o a w K Q) :
  StepC P ops Q own Γ V S a0 i o M N := by
 intro li a w hH hn hed hM K hk
 rw [if_pos (by simp [Region.wanted, hg])]
 exact h li a w hH hn hed hM K hk
def KindC (P : Program) (ops : Array Oper) (Q : Exit → Act → World → Prop) (V : Unk → Nat → Value) (S : List Nat) (stores : List Nat) (own : Nat → List Nat) (ia : Nat) (Ms : Nat → Unk → Bool → World → Prop) (b0 : Act) (i : Nat) (o : Oper) : Prop :=
 (i ∉ stores ∧ i ≠ ia ∧ ∀ (Γ : Unk) (M : World → Prop), StepA P ops Q (V Γ) S b0 i o M M) ∨
 (i = ia ∧ i ∉ stores ∧ ∃ t s, stores[t]? = some s ∧ needs ops i ops.size s = true ∧ ∀ Γ j, j ≤ t → StepC P ops Q (own i) Γ V S b0 i o (Ms j Γ false) (fun Γ' => Ms j Γ' true)) ∨
 (i ≠ ia ∧ ∃ t, stores[t]? = some i ∧ ∀ Γ b, (needs ops ia ops.size i = true → b = true) → StepC P ops Q (own i) Γ V S b0 i o (Ms t Γ b) (fun Γ' => Ms (t + 1) Γ' b)) ∨
 (i ∉ stores ∧ i ≠ ia ∧ ∃ t s, stores[t]? = some s ∧ needs ops i ops.size s = true ∧ ∀ Γ b j, j ≤ t → StepA P ops Q (V Γ) S b0 i o (Ms j Γ b) (Ms j Γ b))
def ownOk (ops : Array Oper) (own uses : Nat → List Nat) : Bool :=
 (List.range ops.size).all fun i => (List.range ops.size).all fun q => decide (q = i) || needs ops i ops.size q || (uses q).all fun k => decide (k ∉ own i)
theorem region_gen {id : Nat} {w : World} {a0 : Act} (hm : P.follows .mixedOrders = true) (F : Act → Prop) (hF : F a0) (n : Nat) (hn : a0.tmps.size = n) (Γ0 : Unk) (V : Unk → Nat → Value) (stores : List Nat) (hc : chainFar ops stores = true) (own uses : Nat → List Nat) (ia : Nat)
  (hown : ownOk ops own uses = true) (hV : ∀ Γ Γ' q, q < ops.size → (∀ k ∈ uses q, Γ k = Γ' k) → V Γ q = V Γ' q) (Ms : Nat → Unk → Bool → World → Prop) (S : List Nat)
  (hd : dstsOk ops S n = true) (hb : (List.range ops.size).all (fun i => ((ops[i]?).map fun o => o.after.all fun e => !Region.binds .any e || decide (e.on < i)).getD true) = true)
  (h0 : Ms 0 Γ0 false { w with drawn := w.drawn + 1 })
  (hstep : ∀ b0, F b0 → ∀ i o, ops[i]? = some o → KindC P ops Q V S stores own ia Ms b0 i o)
  (hend : ∀ Γ b a w', Frm S a0 a → (∀ i o, ops[i]? = some o → ∀ d, o.dst = some d → a.tmps.getD d undef = V Γ i) → Ms stores.length Γ b w' → Q .normal a w') : (Code.region id ops true).wp P Q a0 w := by
 unfold chainFar at hc
 simp only [Bool.and_eq_true, decide_eq_true_eq] at hc
 obtain ⟨⟨hch, hnd⟩, hsz⟩ := hc
 have rep : ∀ j, (Array.replicate ops.size false).getD j false = false := fun j => by
  rw [Array.getD_eq_getD_getElem?, Array.getElem?_replicate]
  split <;> rfl
 have hd' : dstsOk ops S a0.tmps.size = true := by rw [hn]; exact hd
 refine region_inv hm (fun li a w' => ∃ Γ, Here ops (V Γ) S a0 li a ∧ Stage stores (fun j => Ms j Γ (li.getD ia false)) li w') ⟨Γ0, ⟨by simp, Frm.refl _ _, (fun j o _ hl => absurd hl (by rw [rep]; decide)), (fun j o _ hl => absurd hl (by rw [rep]; decide)), fun _ _ => rfl⟩, 0, Nat.zero_le _, (fun t s _ => by rw [rep]; simp), by rw [rep]; exact h0⟩ ?_ ?_
 ·intro i li a w' hi hJ
  obtain ⟨Γ, hH, j, hj, hst, hM⟩ := hJ
  obtain ⟨hli, o, ho, hed⟩ := mem_ready.1 hi
  have hlt := (Array.getElem?_eq_some_iff.1 ho).1
  have hs := hH.size
  have hnot : li.getD i false = false := by
   rw [Array.getD_eq_getD_getElem?] at hli ⊢
   rw [Array.getElem?_eq_getElem (by omega)] at hli ⊢
   exact hli
  have hset : (li.setIfInBounds i true).getD i false = true := by simp [Array.getD_eq_getD_getElem?, hs, hlt]
  have next : ∀ Γ' v, v = V Γ' i → Known ops (V Γ') li a → Here ops (V Γ') S a0 (li.setIfInBounds i true) (a.put o.dst v) := by
   rintro Γ' v rfl hkn
   refine ⟨by simpa using hs, hH.frm.puts hd' ho _, hkn.put hd' hH.frm.size ho, ?_, ?_⟩
   ·intro q oq hq hl e he hbe
    by_cases e1 : i = q
    ·subst e1
     rw [ho] at hq
     injection hq with hq
     subst hq
     have h1 := hed e he hbe
     by_cases e2 : i = e.on
     ·rw [← e2] at h1; rw [hnot] at h1; cases h1
     ·rw [getD_set_ne false e2]; exact h1
    ·rw [getD_set_ne false e1] at hl
     have h1 := hH.closed q oq hq hl e he hbe
     by_cases e2 : i = e.on
     ·rw [← e2]; exact hset
     ·rw [getD_set_ne false e2]; exact h1
   ·intro d hdq
    have h1 : o.dst ≠ some d := fun e => by
     have := hdq i o ho e
     rw [hset] at this
     cases this
    have h2 : (a.put o.dst (V Γ' i)).tmps[d]? = a.tmps[d]? := by
     cases hod : o.dst with
     | none => rfl
     | some d0 =>
      have hne : d0 ≠ d := fun e => h1 (by rw [hod, e])
      show (a.tmps.setIfInBounds d0 (V Γ' i))[d]? = _
      rw [Array.getElem?_setIfInBounds_ne hne]
    rw [h2]
    refine hH.unput d (fun q oq hq hqd => ?_)
    have := hdq q oq hq hqd
    by_cases e1 : i = q
    ·subst e1; exact hnot
    ·rw [getD_set_ne false e1] at this; exact this
  have agree : ∀ Γ Γ', Chg (own i) Γ Γ' → Known ops (V Γ) li a → Known ops (V Γ') li a := fun Γ Γ' hch hkn q oq hq hl d hdq => by
   have hql := (Array.getElem?_eq_some_iff.1 hq).1
   rw [hV Γ' Γ q hql (fun k hk => ?_)]
   ·exact hkn q oq hq hl d hdq
   ·have h1 := List.all_eq_true.1 (List.all_eq_true.1 hown i (List.mem_range.2 hlt)) q (List.mem_range.2 hql)
    simp only [Bool.or_eq_true, decide_eq_true_eq] at h1
    rcases h1 with (h1 | h1) | h1
    ·rw [h1, hnot] at hl; cases hl
    ·have := needs_done hH.closed _ _ h1 hl
     rw [hnot] at this; cases this
    ·exact hch k (by simpa using List.all_eq_true.1 h1 k hk)
  refine wpOp_step ho (fun K' hK' => ?_)
  rcases hstep a0 hF i o ho with ⟨hns, hni, hp⟩ | ⟨rfl, hns, t, s, ht, hbh, hp⟩ | ⟨hni, t, ht, hp⟩ | ⟨hns, hni, t, s, ht, hbh, hp⟩
  ·refine hp Γ (Ms j Γ (li.getD ia false)) li a w' hH hnot hed hM K' (fun w'' hM' => hK' _ _ ⟨Γ, next Γ _ rfl hH.known, j, hj, fun t s hts => ?_, by rw [getD_set_ne false hni]; exact hM'⟩)
   rw [getD_set_ne false (fun e => hns (by rw [e]; exact List.mem_of_getElem? hts))]
   exact hst t s hts
  ·have hjt : j ≤ t := by
    rcases Nat.lt_or_ge t j with h | h
    ·have h1 := hst t s ht
     rw [decide_eq_true h] at h1
     have h2 := needs_done hH.closed _ _ hbh h1
     rw [hnot] at h2; cases h2
    ·exact h
   refine hp Γ j hjt li a w' hH hnot hed (by rw [hnot] at hM; exact hM) K' (fun Γ' w'' hch hM' => hK' _ _ ⟨Γ', next Γ' _ rfl (agree Γ Γ' hch hH.known), j, hj, fun t s hts => ?_, by rw [hset]; exact hM'⟩)
   rw [getD_set_ne false (fun e => hns (by rw [e]; exact List.mem_of_getElem? hts))]
   exact hst t s hts
  ·have htl : t < stores.length := (List.getElem?_eq_some_iff.1 ht).1
   have hjt : j = t := by
    have h1 := hst t i ht
    rw [hnot] at h1
    have h2 : ¬ t < j := by simpa using h1.symm
    rcases Nat.eq_zero_or_pos t with h | h
    ·omega
    ·have h3 := List.all_eq_true.1 hch t (List.mem_range.2 htl)
     simp only [Bool.or_eq_true, decide_eq_true_eq] at h3
     have h4 : needs ops (stores.getD (t - 1) 0) ops.size i = true := by
      rcases h3 with h3 | h3
      ·omega
      ·rw [List.getD_eq_getElem?_getD (l := stores) (i := t), ht] at h3; exact h3
     obtain ⟨s', hs'⟩ : ∃ s', stores[t - 1]? = some s' := ⟨_, List.getElem?_eq_getElem (by omega)⟩
     rw [List.getD_eq_getElem?_getD, hs'] at h4
     have h5 : li.getD s' false = true := needs_ready hH.closed ho hed _ h4
     have h6 := hst (t - 1) s' hs'
     rw [h5] at h6
     have : t - 1 < j := by simpa using h6.symm
     omega
   subst hjt
   refine hp Γ _ (fun hnd => needs_ready hH.closed ho hed _ hnd) li a w' hH hnot hed hM K' (fun Γ' w'' hch hM' => hK' _ _ ⟨Γ', next Γ' _ rfl (agree Γ Γ' hch hH.known), j + 1, by omega, fun t s hts => ?_, by rw [getD_set_ne false hni]; exact hM'⟩)
   by_cases e : s = i
   ·subst e
    rw [hset]
    have : t = j := (List.getElem?_inj (List.getElem?_eq_some_iff.1 hts).1 hnd).1 (hts.trans ht.symm)
    rw [this]
    simp
   ·rw [getD_set_ne false (fun e' => e e'.symm), hst t s hts, decide_eq_decide]
    have : t ≠ j := fun e' => by
     rw [e', ht] at hts
     injection hts with hts
     exact e hts.symm
    omega
  ·have hjt : j ≤ t := by
    rcases Nat.lt_or_ge t j with h | h
    ·have h1 := hst t s ht
     rw [decide_eq_true h] at h1
     have h2 := needs_done hH.closed _ _ hbh h1
     rw [hnot] at h2; cases h2
    ·exact h
   refine hp Γ _ j hjt li a w' hH hnot hed hM K' (fun w'' hM' => hK' _ _ ⟨Γ, next Γ _ rfl hH.known, j, hj, fun t s hts => ?_, by rw [getD_set_ne false hni]; exact hM'⟩)
   rw [getD_set_ne false (fun e => hns (by rw [e]; exact List.mem_of_getElem? hts))]
   exact hst t s hts
 ·intro li a w' hJ hr
  obtain ⟨Γ, hH, j, hj, hst, hM⟩ := hJ
  have hall := all_listed hr hH.size hb
  refine hend Γ (li.getD ia false) a w' hH.frm (fun i o ho d hd => hH.known i o ho (hall i (Array.getElem?_eq_some_iff.1 ho).1) d hd) ?_
  have : j = stores.length := by
   rcases Nat.eq_zero_or_pos stores.length with h | h
   ·omega
   ·obtain ⟨s, hs⟩ : ∃ s, stores[stores.length - 1]? = some s := ⟨_, List.getElem?_eq_getElem (by omega)⟩
    have h1 := hst _ s hs
    have h2 : s < ops.size := by simpa using List.all_eq_true.1 hsz s (List.mem_of_getElem? hs)
    rw [hall s h2] at h1
    have : stores.length - 1 < j := by simpa using h1.symm
    omega
  subst this
  exact hM
end
end Go.Proofs.YtdhekhlmdefcnaaGreatDoor
