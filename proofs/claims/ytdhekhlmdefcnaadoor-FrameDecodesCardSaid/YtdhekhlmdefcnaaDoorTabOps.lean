/- Single operations of a region that draws, by the slots that they read. -/
import Derived.Test.YtdhekhlmdefcnaaDoorTab
import Derived.Test.YtdhekhlmdefcnaaDoorSig
namespace Go.Proofs.YtdhekhlmdefcnaaDoor
open Go.RowKit
section
variable {P : Program} {ops : Array Oper} {Q : Exit → Act → World → Prop}
theorem wanted_at {o oj : Oper} {a : Act} {j d : Nat} {want : Bool} (hg : o.guard = some (j, want)) (hj : ops[j]? = some oj) (hd : oj.dst = some d) (hv : a.tmps.getD d undef = .bool want) : Region.wanted o (yielded ops a.tmps) = true := by
  have h1 : a.tmps[d]? = some (.bool want) := by
    rw [Array.getD_eq_getD_getElem?] at hv
    cases e : a.tmps[d]? with
    | none => rw [e] at hv; cases hv
    | some v => rw [e] at hv; rw [← hv]; rfl
  unfold Region.wanted yielded
  rw [hg]
  simp [hj, hd, h1]
theorem wanted_none {o : Oper} {a : Act} (hg : o.guard = none) : Region.wanted o (yielded ops a.tmps) = true := by simp [Region.wanted, hg]
/-- an operation of the table, guarded or not: it is carried out -/
theorem does_w {V : Nat → Value} {WI : Array Bool → World → Prop} {S : List Nat} {a0 : Act} {i : Nat} {o : Oper}
    (hw : ∀ (li : Array Bool) (a : Act), (∀ e ∈ o.after, Region.binds .any e = true → li.getD e.on false = true) → Known ops V li a → Region.wanted o (yielded ops a.tmps) = true)
    (h : ∀ (li : Array Bool) (a : Act) (w : World), li.size = ops.size → li.getD i false = false → Frm S a0 a → (∀ e ∈ o.after, Region.binds .any e = true → li.getD e.on false = true) → Known ops V li a → WI li w → ∀ K : Act → World → Prop, (∀ w', WI (li.setIfInBounds i true) w' → K (a.put o.dst (V i)) w') → Oper.wp P o a w K Q) :
    Does P ops Q V WI S a0 i o := by
  intro li a w hs hn hF hed hK hW K hk
  rw [if_pos (hw li a hed hK)]
  exact h li a w hs hn hF hed hK hW K hk
end
section
variable {ty : TypeId} {ps : String} {af : Array Edge} {g : Option (Nat × Bool)} {a : Act} {w : World} {K : Act → World → Prop} {Q : Exit → Act → World → Prop}
theorem wp_not_at {t d s : Nat} {b : Bool} (e : a.tmps.getD s undef = .bool b) (h : K (a.put (some d) (.bool (!b))) w) :
    Oper.wp Tryd.prog { dst := some d, op := .unOp .not t (.tmp s), type := ty, pos := ps, after := af, guard := g } a w K Q := by
  have e' : a.eval (.tmp s) = .bool b := e
  go_simp
  exact h
theorem wp_pick_no {d s t : Nat} {c v : Value} (e1 : a.tmps.getD s undef = .bool false) (e2 : a.tmps.getD t undef = v) (h : K (a.put (some d) v) w) :
    Oper.wp Tryd.prog { dst := some d, op := .pick (.tmp s) (.const c) (.tmp t), type := ty, pos := ps, after := af, guard := g } a w K Q := by
  have e1' : a.eval (.tmp s) = .bool false := e1
  have e2' : a.eval (.tmp t) = v := e2
  go_simp
  exact h
end
end Go.Proofs.YtdhekhlmdefcnaaDoor
