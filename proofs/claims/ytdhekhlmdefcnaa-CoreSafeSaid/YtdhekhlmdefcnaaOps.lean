/- Single operations over a frame of which only some slots are known. -/
import Derived.Test.YtdhekhlmdefcnaaLine
import Derived.Test.YtdhekhlmdefcnaaRegion
namespace Go.Proofs.Ytdhekhlmdefcnaa
open Go.RowKit
section
variable {P : Program} {o : Oper} {a : Act} {w : World} {K : Act → World → Prop} {Q : Exit → Act → World → Prop}
theorem wp_extract_at (t n : Nat) (h : o.op = .extract (.tmp t) n) {vs : Array Value} (hx : a.tmps.getD t undef = .tuple vs) {v : Value} (hv : vs[n]? = some v)
    (hk : K (a.put o.dst v) w) : o.wp P a w K Q := by
  have hx' : a.eval (.tmp t) = .tuple vs := hx
  unfold Oper.wp execOp
  rw [h]
  simp only [hx', Instr.extract, hv, Sem.run_bind, Sem.run_pure, Result.andThen_ok, Oper.upon_value]
  exact hk
theorem wp_ok {n : Next} {w' : World} (h : (execOp a.eval o).run P w = .ok n w') (hk : o.upon P a K Q (.ok n w')) : o.wp P a w K Q := by
  unfold Oper.wp
  rw [h]
  exact hk
end
section
variable {ty : TypeId} {ps : String} {af : Array Edge} {g : Option (Nat × Bool)} {a : Act} {w : World} {K : Act → World → Prop} {Q : Exit → Act → World → Prop}
theorem wp_inIndex {bi oi n c k d s t : Nat} (hk : k < n) (e2 : a.tmps.getD s undef = .slice (some ⟨bi, oi, none⟩) n c) (e3 : a.tmps.getD t undef = I k) (h : K (a.put (some d) (.pointer (some ⟨bi, oi + k * 2, none⟩))) w) :
    Oper.wp Try.prog { dst := some d, op := .indexAddr 23 (.tmp s) (.tmp t), type := ty, pos := ps, after := af, guard := g } a w K Q := by
  have e2' : a.eval (.tmp s) = .slice (some ⟨bi, oi, none⟩) n c := e2
  have e3' : a.eval (.tmp t) = I k := e3
  go_simp
  exact h
theorem wp_inLoad {b o d s : Nat} {p q : Int} (h0 : w.cell? ⟨b, o, none⟩ = some (I p)) (h1 : w.cell? ⟨b, o + 1, none⟩ = some (I q)) (e3 : a.tmps.getD s undef = .pointer (some ⟨b, o, none⟩)) (h : K (a.put (some d) (.agg #[I p, I q])) w) :
    Oper.wp Try.prog { dst := some d, op := .load 39 (.tmp s), type := ty, pos := ps, after := af, guard := g } a w K Q := by
  have e3' : a.eval (.tmp s) = .pointer (some ⟨b, o, none⟩) := e3
  go_simp
  exact h
theorem wp_callStep {d s1 s2 s3 : Nat} {ts : Array TypeId} {x y z : Value} {R : Ending → World → Prop} (e1 : a.tmps.getD s1 undef = x) (e2 : a.tmps.getD s2 undef = y) (e3 : a.tmps.getD s3 undef = z)
    (hc : Calls Try.prog 7 #[x, y, z] w R) (h : ∀ e w', R e w' → ∃ v, e = .returned v ∧ K (a.put (some d) v) w') :
    Oper.wp Try.prog { dst := some d, op := .call { callee := .value (.func 7), args := #[.tmp s1, .tmp s2, .tmp s3], argTypes := ts }, type := ty, pos := ps, after := af, guard := g } a w K Q := by
  have e1' : a.eval (.tmp s1) = x := e1
  have e2' : a.eval (.tmp s2) = y := e2
  have e3' : a.eval (.tmp s3) = z := e3
  go_simp
  refine hc.mono ?_
  intro e w' hr
  obtain ⟨v, rfl, hk⟩ := h e w' hr
  exact hk
theorem wp_stAlloc {d : Nat} (h : K (a.put (some d) (.pointer (some ⟨w.heap.size, 0, none⟩))) (w.alloc (.cells (stC St.zero) 35))) :
    Oper.wp Try.prog { dst := some d, op := .alloc 35, type := ty, pos := ps, after := af, guard := g } a w K Q := by
  go_simp
  exact h
end
end Go.Proofs.Ytdhekhlmdefcnaa
