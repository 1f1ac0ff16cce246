/- A region that draws, by a table: each operation's value is known ahead; the world goes by a relation of its own. -/
import Derived.Test.YtdhekhlmdefcnaaDoorRegion
import Derived.WalkKit
namespace Go.Proofs.YtdhekhlmdefcnaaDoor
section
variable {P : Program} {ops : Array Oper} {Q : Exit → Act → World → Prop}
/-- what has been carried out has left its value -/
def Known (ops : Array Oper) (V : Nat → Value) (li : Array Bool) (a : Act) : Prop := ∀ (j : Nat) (o : Oper), ops[j]? = some o → li.getD j false = true → ∀ d, o.dst = some d → a.tmps.getD d undef = V j
/-- each operation has a slot of its own, in S -/
def dstsOk (ops : Array Oper) (S : List Nat) (size : Nat) : Bool :=
  (List.range ops.size).all (fun j => ((ops[j]?).map fun o => match o.dst with | none => true | some d => S.contains d && decide (d < size)).getD true) &&
  (List.range ops.size).all (fun i => (List.range ops.size).all fun j => i == j || (match (ops[i]?).bind (·.dst), (ops[j]?).bind (·.dst) with | some d, some d' => d != d' | _, _ => true))
theorem Known.put {V : Nat → Value} {li : Array Bool} {a : Act} {S : List Nat} {n i : Nat} {o : Oper} (hk : Known ops V li a) (hd : dstsOk ops S n = true) (hs : a.tmps.size = n) (ho : ops[i]? = some o) : Known ops V (li.setIfInBounds i true) (a.put o.dst (V i)) := by
  intro j o' ho' hl d hd'
  have hi := (Array.getElem?_eq_some_iff.1 ho).1
  have hj := (Array.getElem?_eq_some_iff.1 ho').1
  unfold dstsOk at hd
  rw [Bool.and_eq_true] at hd
  by_cases e : i = j
  · subst e
    rw [ho] at ho'
    injection ho' with ho'
    subst ho'
    have h1 := List.all_eq_true.1 hd.1 i (List.mem_range.2 hi)
    rw [ho] at h1
    simp only [Option.map_some, hd', Option.getD_some, Bool.and_eq_true, decide_eq_true_eq] at h1
    rw [hd', put_at _ _ _ (by rw [hs]; exact h1.2)]
  · rw [getD_set_ne false e] at hl
    cases hod : o.dst with
    | none => exact hk j o' ho' hl d hd'
    | some d0 =>
      have h2 := List.all_eq_true.1 (List.all_eq_true.1 hd.2 i (List.mem_range.2 hi)) j (List.mem_range.2 hj)
      rw [ho, ho'] at h2
      simp only [Option.bind_some, hod, hd', Bool.or_eq_true, beq_iff_eq, e, false_or, bne_iff_ne] at h2
      rw [put_ne _ _ _ _ h2]
      exact hk j o' ho' hl d hd'
theorem Frm.puts {S : List Nat} {a0 a : Act} {n i : Nat} {o : Oper} (h : Frm S a0 a) (hd : dstsOk ops S n = true) (ho : ops[i]? = some o) (v : Value) : Frm S a0 (a.put o.dst v) := by
  have hi := (Array.getElem?_eq_some_iff.1 ho).1
  cases hod : o.dst with
  | none => exact h
  | some d =>
    unfold dstsOk at hd
    rw [Bool.and_eq_true] at hd
    have h1 := List.all_eq_true.1 hd.1 i (List.mem_range.2 hi)
    rw [ho] at h1
    simp only [Option.map_some, hod, Option.getD_some, Bool.and_eq_true, decide_eq_true_eq, List.contains_iff_mem] at h1
    exact h.put h1.1 v
/-- what an operation of the table must do -/
def Does (P : Program) (ops : Array Oper) (Q : Exit → Act → World → Prop) (V : Nat → Value) (WI : Array Bool → World → Prop) (S : List Nat) (a0 : Act) (i : Nat) (o : Oper) : Prop :=
  ∀ (li : Array Bool) (a : Act) (w : World), li.size = ops.size → li.getD i false = false → Frm S a0 a → (∀ e ∈ o.after, Region.binds .any e = true → li.getD e.on false = true) → Known ops V li a → WI li w →
    ∀ K : Act → World → Prop, (∀ w', WI (li.setIfInBounds i true) w' → K (a.put o.dst (V i)) w') → if Region.wanted o (yielded ops a.tmps) = true then Oper.wp P o a w K Q else K (a.put o.dst undef) w
theorem region_tab {id : Nat} {w : World} (a0 : Act) (hm : P.follows .mixedOrders = true) (V : Nat → Value) (WI : Array Bool → World → Prop) (S : List Nat)
    (hd : dstsOk ops S a0.tmps.size = true) (hb : (List.range ops.size).all (fun i => ((ops[i]?).map fun o => o.after.all fun e => !Region.binds .any e || decide (e.on < i)).getD true) = true)
    (h0 : WI (Array.replicate ops.size false) { w with drawn := w.drawn + 1 })
    (hstep : ∀ i o, ops[i]? = some o → Does P ops Q V WI S a0 i o)
    (hend : ∀ li a w', Frm S a0 a → Known ops V li a → (∀ i, i < ops.size → li.getD i false = true) → WI li w' → Q .normal a w') : (Code.region id ops true).wp P Q a0 w := by
  refine region_inv hm (fun li a w' => li.size = ops.size ∧ Frm S a0 a ∧ Known ops V li a ∧ WI li w') ⟨by simp, Frm.refl _ _, ?_, h0⟩ ?_ ?_
  · intro j o _ hl
    have : (Array.replicate ops.size false).getD j false = false := by
      rw [Array.getD_eq_getD_getElem?, Array.getElem?_replicate]
      split <;> rfl
    rw [this] at hl
    cases hl
  · intro i li a w' hi hJ
    obtain ⟨hs, hF, hK, hW⟩ := hJ
    obtain ⟨hli, o, ho, hed⟩ := mem_ready.1 hi
    have hlt := (Array.getElem?_eq_some_iff.1 ho).1
    have hnot : li.getD i false = false := by
      rw [Array.getD_eq_getD_getElem?] at hli ⊢
      rw [Array.getElem?_eq_getElem (by omega)] at hli ⊢
      exact hli
    exact wpOp_step ho (fun K' hK' => hstep i o ho li a w' hs hnot hF hed hK hW K' (fun w'' hW'' => hK' _ _ ⟨by simpa using hs, hF.puts hd ho _, hK.put hd (by rw [hF.size]) ho, hW''⟩))
  · intro li a w' hJ hr
    obtain ⟨hs, hF, hK, hW⟩ := hJ
    exact hend li a w' hF hK (all_listed hr hs hb) hW
/-- an operation that leaves the world alone, and what the world's relation says of it -/
theorem does_quiet {V : Nat → Value} {WI : Array Bool → World → Prop} {S : List Nat} {a0 : Act} {i : Nat} {o : Oper} (hg : o.guard = none)
    (hw : ∀ li w, li.getD i false = false → WI li w → WI (li.setIfInBounds i true) w)
    (h : ∀ (li : Array Bool) (a : Act) (w : World), Frm S a0 a → (∀ e ∈ o.after, Region.binds .any e = true → li.getD e.on false = true) → Known ops V li a → WI li w → ∀ K : Act → World → Prop, K (a.put o.dst (V i)) w → Oper.wp P o a w K Q) :
    Does P ops Q V WI S a0 i o := by
  intro li a w _ hn hF hed hK hW K hk
  rw [if_pos (by simp [Region.wanted, hg])]
  exact h li a w hF hed hK hW K (hk w (hw li w hn hW))
/-- an operation that may turn the world -/
theorem does_turn {V : Nat → Value} {WI : Array Bool → World → Prop} {S : List Nat} {a0 : Act} {i : Nat} {o : Oper} (hg : o.guard = none)
    (h : ∀ (li : Array Bool) (a : Act) (w : World), li.size = ops.size → li.getD i false = false → Frm S a0 a → (∀ e ∈ o.after, Region.binds .any e = true → li.getD e.on false = true) → Known ops V li a → WI li w → ∀ K : Act → World → Prop, (∀ w', WI (li.setIfInBounds i true) w' → K (a.put o.dst (V i)) w') → Oper.wp P o a w K Q) :
    Does P ops Q V WI S a0 i o := by
  intro li a w hs hn hF hed hK hW K hk
  rw [if_pos (by simp [Region.wanted, hg])]
  exact h li a w hs hn hF hed hK hW K hk
end
section
variable {P : Program} {ops : Array Oper} {Q : Exit → Act → World → Prop}
/-- the table, the frame at first a variable of which F is known -/
theorem region_tabF {id : Nat} {w : World} {a0 : Act} (hm : P.follows .mixedOrders = true) (F : Act → Prop) (hF : F a0) (n : Nat) (hn : a0.tmps.size = n) (V : Nat → Value) (WI : Array Bool → World → Prop) (S : List Nat)
    (hd : dstsOk ops S n = true) (hb : (List.range ops.size).all (fun i => ((ops[i]?).map fun o => o.after.all fun e => !Region.binds .any e || decide (e.on < i)).getD true) = true)
    (h0 : WI (Array.replicate ops.size false) { w with drawn := w.drawn + 1 })
    (hstep : ∀ b0, F b0 → ∀ i o, ops[i]? = some o → Does P ops Q V WI S b0 i o)
    (hend : ∀ li a w', Frm S a0 a → Known ops V li a → (∀ i, i < ops.size → li.getD i false = true) → WI li w' → Q .normal a w') : (Code.region id ops true).wp P Q a0 w :=
  region_tab a0 hm V WI S (by rw [hn]; exact hd) hb h0 (hstep a0 hF) hend
end
/-- a world that an allocation, then a store turn -/
def W3 (W0 W1 W2 : World) (al st : Nat) (li : Array Bool) (w : World) : Prop :=
  (li.getD st false = true → li.getD al false = true) ∧ w = if li.getD st false then W2 else if li.getD al false then W1 else W0
section
variable {W0 W1 W2 w : World} {al st : Nat} {li : Array Bool}
theorem W3.quiet (h : W3 W0 W1 W2 al st li w) {i : Nat} (h1 : i ≠ al) (h2 : i ≠ st) : W3 W0 W1 W2 al st (li.setIfInBounds i true) w := by
  unfold W3 at h ⊢
  rw [getD_set_ne false h1, getD_set_ne false h2]
  exact h
theorem W3.before (h : W3 W0 W1 W2 al st li w) (h1 : li.getD al false = false) : w = W0 := by
  obtain ⟨a, b⟩ := h
  have : li.getD st false = false := by
    cases e : li.getD st false with
    | false => rfl
    | true => rw [a e] at h1; cases h1
  rw [b, this, h1]; rfl
theorem W3.allocd (h : W3 W0 W1 W2 al st li w) (h1 : li.getD al false = false) (hl : al < li.size) (hne : al ≠ st) : W3 W0 W1 W2 al st (li.setIfInBounds al true) W1 := by
  obtain ⟨a, b⟩ := h
  have hs : li.getD st false = false := by
    cases e : li.getD st false with
    | false => rfl
    | true => rw [a e] at h1; cases h1
  have e1 : (li.setIfInBounds al true).getD al false = true := by simp [Array.getD_eq_getD_getElem?, hl]
  have e2 : (li.setIfInBounds al true).getD st false = false := by rw [getD_set_ne false hne]; exact hs
  exact ⟨fun _ => e1, by rw [e2, e1]; rfl⟩
theorem W3.between (h : W3 W0 W1 W2 al st li w) (h1 : li.getD al false = true) (h2 : li.getD st false = false) : w = W1 := by
  rw [h.2, h2, h1]; rfl
theorem W3.stored (h1 : li.getD al false = true) (hl : st < li.size) (hne : st ≠ al) : W3 W0 W1 W2 al st (li.setIfInBounds st true) W2 := by
  have e1 : (li.setIfInBounds st true).getD st false = true := by simp [Array.getD_eq_getD_getElem?, hl]
  have e2 : (li.setIfInBounds st true).getD al false = true := by rw [getD_set_ne false hne]; exact h1
  exact ⟨fun _ => e2, by rw [e1]; rfl⟩
theorem W3.any (h : W3 W0 W1 W2 al st li w) {p : World → Prop} (h0 : p W0) (h1 : p W1) (h2 : p W2) : p w := by
  rw [h.2]
  split
  · exact h2
  · split
    · exact h1
    · exact h0
theorem W3.done (h : W3 W0 W1 W2 al st li w) (h1 : li.getD st false = true) : w = W2 := by rw [h.2, h1]; rfl
end
section
variable {P : Program} {o : Oper} {a : Act} {w : World} {K : Act → World → Prop} {Q : Exit → Act → World → Prop}
theorem wp_move_at {s : Nat} {v : Value} (h : o.op = .move (.tmp s)) (e : a.tmps.getD s undef = v) (hk : K (a.put o.dst v) w) : o.wp P a w K Q := by
  have e' : a.eval (.tmp s) = v := e
  refine BigFrame.wp_move (.tmp s) h ?_
  rw [e']
  exact hk
end
end Go.Proofs.YtdhekhlmdefcnaaDoor
