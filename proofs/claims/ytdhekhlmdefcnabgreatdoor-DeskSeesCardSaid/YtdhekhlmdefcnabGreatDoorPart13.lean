/- Part 13 of the proof: FrameSpec, Sig, TabOps. -/
import Derived.Test.YtdhekhlmdefcnabGreatDoorPart5
import Derived.Test.YtdhekhlmdefcnabGreatDoorPart4
import Derived.Test.YtdhekhlmdefcnabGreatDoorRows
import Derived.DeepKeys
import Derived.Laws.StructEq
namespace Go.Proofs.YtdhekhlmdefcnabGreatDoor
open Go.RowKit
def idx (k : Int) : List Nat :=
 if k = 1 then [0, 1, 2, 3, 4] else if k = 2 ∨ k = 3 then [0, 1, 2, 3, 4, 5] else
 if k = 5 then [0, 1, 2, 6, 7, 15, 8, 16, 9, 17, 10, 18, 11, 19, 12, 20, 13, 21, 14, 22] else [0, 1, 2]
def ptrs (b : Nat) (l : List Nat) : List Value := l.map fun i => .pointer (some ⟨b, i, none⟩)
theorem ptrs_get (b : Nat) (l : List Nat) (i : Nat) : (ptrs b l)[i]? = (l[i]?).map fun i => .pointer (some ⟨b, i, none⟩) := by simp [ptrs]
def frC (f : List Int) : Array Value := (ints f).toArray
def zeroF : List Int := List.replicate 23 0
def cpTo (f : List Int) (n : Nat) : List Int := ((idx (f.getD 0 0)).take n).foldl (fun g i => g.set i (f.getD i 0)) (zeroF.set 0 (f.getD 0 0))
def inB (x : Int) : Bool := decide (0 ≤ x) && decide (x ≤ 1048576)
def headB (f : List Int) : Bool := decide (1 ≤ f.getD 0 0) && decide (f.getD 0 0 ≤ 5) && decide (0 ≤ f.getD 1 0) && decide (f.getD 1 0 ≤ 3)
def mayB (f : List Int) : Bool := headB f && (idx (f.getD 0 0)).all (fun i => inB (f.getD i 0)) && decide (f = cpTo f (idx (f.getD 0 0)).length)
theorem idx_lt (k : Int) : ∀ i ∈ idx k, i < 23 := by
 unfold idx
 split
 ·decide
 ·split
  ·decide
  ·split <;> decide
theorem idx_len (k : Int) : (idx k).length ≤ 20 := by
 unfold idx
 split
 ·decide
 ·split
  ·decide
  ·split <;> decide
theorem cpTo_succ (f : List Int) (n i : Nat) (h : (idx (f.getD 0 0))[n]? = some i) : cpTo f (n + 1) = (cpTo f n).set i (f.getD i 0) := by
 have hn := (List.getElem?_eq_some_iff.1 h).1
 have he := (List.getElem?_eq_some_iff.1 h).2
 unfold cpTo
 rw [List.take_succ_eq_append_getElem hn, List.foldl_append, he]
 rfl
theorem cpTo_length (f : List Int) : ∀ n, (cpTo f n).length = 23 := by
 intro n
 unfold cpTo
 generalize (idx (f.getD 0 0)).take n = l
 have h0 : (zeroF.set 0 (f.getD 0 0)).length = 23 := by simp [zeroF]
 generalize zeroF.set 0 (f.getD 0 0) = g at h0
 induction l generalizing g with
 | nil => exact h0
 | cons i l ih => exact ih _ (by simpa using h0)
theorem frC_size (f : List Int) (h : f.length = 23) : (frC f).size = 23 := by simp [frC, ints, h]
theorem frC_get (f : List Int) (i : Nat) (x : Int) (h : f[i]? = some x) : (frC f)[i]? = some (I x) := by simp [frC, ints, h]
theorem frC_inj {f g : List Int} : frC f = frC g ↔ f = g := by
 constructor
 ·intro h
  have h1 : ints f = ints g := by
   have := congrArg Array.toList h
   simpa [frC] using this
  unfold ints at h1
  exact List.map_inj_right (fun a b hab => by injection hab) |>.1 h1
 ·rintro rfl; rfl
theorem frC_set (f : List Int) (i : Nat) (x : Int) : (frC f).setIfInBounds i (I x) = frC (f.set i x) := by
 simp [frC, ints, List.map_set]
def Wf (f : List Int) : Prop := f.length = 23 ∧ ∀ x ∈ f, -9223372036854775808 ≤ x ∧ x ≤ 9223372036854775807
end Go.Proofs.YtdhekhlmdefcnabGreatDoor
namespace Go.Proofs.YtdhekhlmdefcnabGreatDoor
open Go.RowKit
def sigF (sg : TypeId → Option (List (Option IntKind))) (cells : TypeId → Nat) : List Field → Nat → Option (List (Option IntKind))
 | [], _ => some []
 | f :: fs, o =>
  match sg f.type with
  | none => none
  | some a => if f.offset = o ∧ (f.name != "_") = true ∧ a.length = cells f.type then (sigF sg cells fs (o + a.length)).map (a ++ ·) else none
def sig (P : Program) : Nat → TypeId → Option (List (Option IntKind))
 | 0, _ => none
 | d + 1, t =>
  match P.underlying t with
  | some .bool => some [none]
  | some (.int k) => some [some k]
  | some (.array n e) =>
   match sig P d e with
   | some s => if s.length = P.cellsOf e ∧ P.cellsOf t = n * s.length then some (List.replicate n s).flatten else none
   | none => none
  | some (.struct fs) =>
   match sigF (sig P d) P.cellsOf fs.toList 0 with
   | some s => if s.length = P.cellsOf t ∧ fs.all (·.name != "_") = true then some s else none
   | none => none
  | _ => none
def litOf : Value → Lit
 | .int k n => .int k n
 | .bool b => .bool b
 | _ => .bool false
def fitsOne : Option IntKind → Value → Prop
 | some k, .int k' n => k' = k ∧ (Lit.int k n).wf = true
 | none, .bool _ => True
 | _, _ => False
def Fit : List (Option IntKind) → List Value → Prop
 | [], [] => True
 | k :: ks, v :: vs => fitsOne k v ∧ Fit ks vs
 | _, _ => False
theorem Fit.length : ∀ {s : List (Option IntKind)} {cs : List Value}, Fit s cs → cs.length = s.length
 | [], [], _ => rfl
 | _ :: _, _ :: _, h => by simp [Fit.length h.2]
 | [], _ :: _, h => h.elim
 | _ :: _, [], h => h.elim
theorem Fit.split : ∀ {a b : List (Option IntKind)} {cs : List Value}, Fit (a ++ b) cs → Fit a (cs.take a.length) ∧ Fit b (cs.drop a.length)
 | [], _, _, h => ⟨trivial, h⟩
 | k :: a, b, [], h => h.elim
 | k :: a, b, c :: cs, h => by
  obtain ⟨h1, h2⟩ := h
  obtain ⟨h3, h4⟩ := Fit.split (a := a) h2
  exact ⟨⟨h1, h3⟩, h4⟩
theorem sigF_lits {P : Program} {d : Nat} (sg : TypeId → Option (List (Option IntKind))) (ih : ∀ t s cs, sg t = some s → Fit s cs → P.keyLits d t cs = some (cs.map litOf)) (all : List Value) :
  ∀ (fs : List Field) (o : Nat) (s : List (Option IntKind)), sigF sg P.cellsOf fs o = some s → Fit s (all.drop o) →
   ∃ ls, fs.mapM (fun f => P.keyLits d f.type ((all.drop f.offset).take (P.cellsOf f.type))) = some ls ∧ ls.flatten = (all.drop o).map litOf
 | [], o, s, h, hf => by
  simp only [sigF, Option.some.injEq] at h
  subst h
  match hd : all.drop o, hf with
  | [], _ => exact ⟨[], rfl, rfl⟩
 | f :: fs, o, s, h, hf => by
  simp only [sigF] at h
  cases ha : sg f.type with
  | none => rw [ha] at h; cases h
  | some a =>
   rw [ha] at h
   simp only at h
   split at h
   ·rename_i hc
    obtain ⟨h1, _, h3⟩ := hc
    obtain ⟨b, hb, rfl⟩ := Option.map_eq_some_iff.1 h
    obtain ⟨f1, f2⟩ := Fit.split hf
    rw [List.drop_drop] at f2
    obtain ⟨ls, e1, e2⟩ := sigF_lits sg ih all fs (o + a.length) b hb f2
    refine ⟨((all.drop o).take a.length).map litOf :: ls, ?_, ?_⟩
    ·rw [List.mapM_cons, h1, ← h3, ih f.type a _ ha f1, e1]
     rfl
    ·rw [List.flatten_cons, e2, ← List.map_append, ← List.drop_drop, List.take_append_drop]
   ·cases h
theorem arr_lits {P : Program} {d : Nat} {e : TypeId} (s : List (Option IntKind)) (he : s.length = P.cellsOf e) (ih : ∀ cs, Fit s cs → P.keyLits d e cs = some (cs.map litOf)) (all : List Value) :
  ∀ (n o : Nat), Fit (List.replicate n s).flatten (all.drop (o * P.cellsOf e)) →
   ∃ ls, (List.range' o n).mapM (fun i => P.keyLits d e ((all.drop (i * P.cellsOf e)).take (P.cellsOf e))) = some ls ∧ ls.flatten = (all.drop (o * P.cellsOf e)).map litOf
 | 0, o, hf => by
  match hd : all.drop (o * P.cellsOf e), hf with
  | [], _ => exact ⟨[], rfl, rfl⟩
 | n + 1, o, hf => by
  rw [List.replicate_succ, List.flatten_cons] at hf
  obtain ⟨f1, f2⟩ := Fit.split hf
  rw [List.drop_drop, he, ← Nat.succ_mul] at f2
  obtain ⟨ls, e1, e2⟩ := arr_lits s he ih all n (o + 1) f2
  rw [he] at f1
  refine ⟨((all.drop (o * P.cellsOf e)).take (P.cellsOf e)).map litOf :: ls, ?_, ?_⟩
  ·rw [List.range'_succ, List.mapM_cons, ih _ f1, e1]
   rfl
  ·rw [List.flatten_cons, e2, ← List.map_append, Nat.succ_mul, ← List.drop_drop, List.take_append_drop]
theorem sig_lits {P : Program} : ∀ (d : Nat) (t : TypeId) (s : List (Option IntKind)) (cs : List Value), sig P d t = some s → Fit s cs → P.keyLits d t cs = some (cs.map litOf)
 | 0, _, _, _, h, _ => by cases h
 | d + 1, t, s, cs, h, hf => by
  unfold sig at h
  unfold Program.keyLits
  split at h
  ·rename_i hu
   simp only [Option.some.injEq] at h
   subst h
   match cs, hf with
   | [.bool b], _ => simp [hu, litOf]
  ·rename_i k hu
   simp only [Option.some.injEq] at h
   subst h
   match cs, hf with
   | [.int k' n], ⟨⟨h1, h2⟩, _⟩ =>
    subst h1
    simp [hu, litOf, h2]
  ·rename_i n e hu
   cases he : sig P d e with
   | none => rw [he] at h; cases h
   | some se =>
    rw [he] at h
    simp only at h
    split at h
    ·rename_i hc
     simp only [Option.some.injEq] at h
     subst h
     have hlen : cs.length = P.cellsOf t := by rw [hf.length, hc.2]; simp
     obtain ⟨ls, e1, e2⟩ := arr_lits se hc.1 (fun cs hcs => sig_lits d e se cs he hcs) cs n 0 (by simpa using hf)
     have e1' : (List.range n).mapM (fun i => P.keyLits d e ((cs.drop (i * P.cellsOf e)).take (P.cellsOf e))) = some ls := by rw [List.range_eq_range']; exact e1
     have e2' : ls.flatten = cs.map litOf := by simpa using e2
     simp only [hu, hlen, if_true, e1', Option.map_some, e2']
    ·cases h
  ·rename_i fs hu
   cases he : sigF (sig P d) P.cellsOf fs.toList 0 with
   | none => rw [he] at h; cases h
   | some se =>
    rw [he] at h
    simp only at h
    split at h
    ·rename_i hc
     simp only [Option.some.injEq] at h
     subst h
     have hlen : cs.length = P.cellsOf t := by rw [hf.length, hc.1]
     obtain ⟨ls, e1, e2⟩ := sigF_lits (sig P d) (fun t s cs h1 h2 => sig_lits d t s cs h1 h2) cs fs.toList 0 se he (by simpa using hf)
     have e2' : ls.flatten = cs.map litOf := by simpa using e2
     simp only [hu, hlen, hc.2, and_self, if_true, e1, Option.map_some, e2']
    ·cases h
  ·cases h
theorem lit_inj : ∀ {s : List (Option IntKind)} {a b : List Value}, Fit s a → Fit s b → a.map litOf = b.map litOf → a = b
 | [], [], [], _, _, _ => rfl
 | k :: s, x :: a, y :: b, ha, hb, h => by
  simp only [List.map_cons, List.cons.injEq] at h
  obtain ⟨h1, h2⟩ := h
  have : x = y := by
   obtain ⟨hx, _⟩ := ha
   obtain ⟨hy, _⟩ := hb
   cases k with
   | none =>
    cases x <;> simp [fitsOne] at hx
    cases y <;> simp [fitsOne] at hy
    simpa [litOf] using h1
   | some k =>
    cases x <;> simp [fitsOne] at hx
    cases y <;> simp [fitsOne] at hy
    simpa [litOf] using h1
  rw [this, lit_inj ha.2 hb.2 h2]
 | [], _ :: _, _, h, _, _ => h.elim
 | [], [], _ :: _, _, h, _ => h.elim
 | _ :: _, [], _, h, _, _ => h.elim
 | _ :: _, _ :: _, [], _, h, _ => h.elim
section
variable {P : Program}
theorem run_eql_row (t : TypeId) (m : Nat) (a b : Array Value) (s : List (Option IntKind)) (hm : m ≤ 10000) (hk : P.keyTypeAt m t = true) (hs : sig P m t = some s) (hA : ((P.underlying t).map fun d => match d with | .struct _ | .array _ _ => true | _ => false) = some true) (hc : P.cellsOf t = s.length)
  (ha : Fit s a.toList) (hb : Fit s b.toList) (r : Bool) (hrr : r = true ↔ a = b) (w : World) : (binOp .eql t (.agg a) (.agg b)).run P w = .ok (.bool r) w := by
 have hfm : ∀ c : Array Value, Fit s c.toList → (Value.agg c).formed P t = true := by
  intro c hcf
  have : c.size = P.cellsOf t := by rw [hc, ← hcf.length]; simp
  cases hu : P.underlying t with
  | none => rw [hu] at hA; cases hA
  | some d =>
   rw [hu] at hA
   cases d <;> simp at hA <;> simp [Value.formed, hu, this]
 obtain ⟨r', hr, hi⟩ := run_equalIn_deep (10000 - m) m t hk w m m (.agg a) (.agg b) _ _ (hfm a ha) (hfm b hb) (sig_lits m t s _ hs ha) (sig_lits m t s _ hs hb)
 rw [show 10000 - m + m = 10000 by omega] at hr
 have he : r' = r := by
  rw [Bool.eq_iff_iff, hi, hrr]
  constructor
  ·intro h
   have := lit_inj ha hb h
   exact Array.toList_inj.1 this
  ·rintro rfl; rfl
 rw [run_eql_struct, hr, he]
 rfl
theorem wp_eql_row {o : Oper} {x : Act} {w : World} {K : Act → World → Prop} {Q : Exit → Act → World → Prop} (t t2 : TypeId) (m : Nat) (a b : Array Value) (s : List (Option IntKind)) (u v : Operand) (ho : o.op = .binOp .eql t u v t2) (hu : x.eval u = .agg a) (hv : x.eval v = .agg b)
  (hm : m ≤ 10000) (hk : P.keyTypeAt m t = true) (hs : sig P m t = some s) (hA : ((P.underlying t).map fun d => match d with | .struct _ | .array _ _ => true | _ => false) = some true) (hc : P.cellsOf t = s.length) (hG : P.eqGuardType P.depth t = false)
  (ha : Fit s a.toList) (hb : Fit s b.toList) (r : Bool) (hrr : r = true ↔ a = b) (h : K (x.put o.dst (.bool r)) w) : o.wp P x w K Q := by
 unfold Oper.wp execOp
 simp only [ho, hu, hv, Sem.run_bind, run_eqGuard_agg w .eql t u v a b hG, Result.andThen_ok, run_eql_row t m a b s hm hk hs hA hc ha hb r hrr w, Sem.run_pure, Oper.upon_value]
 exact h
theorem wpList_taken {ops : Array Oper} {rest : List Oper} {o : Oper} {a : Act} {w : World} {Q : Exit → Act → World → Prop} (hg : Region.wanted o (yielded ops a.tmps) = true)
  (h : ∀ K : Act → World → Prop, (∀ a w, wpList P ops Q rest a w → K a w) → o.wp P a w K Q) : wpList P ops Q (o :: rest) a w :=
 wpList_step fun K hK => by rw [if_pos hg]; exact h K hK
end
theorem fit_ints : ∀ (l : List Int), (∀ x ∈ l, (Lit.int .i64 x).wf = true) → Fit (List.replicate l.length (some .i64)) (ints l)
 | [], _ => trivial
 | x :: l, h => ⟨⟨rfl, h x (List.mem_cons_self ..)⟩, fit_ints l (fun y hy => h y (List.mem_cons_of_mem _ hy))⟩
theorem wf_i64 {x : Int} (h1 : -9223372036854775808 ≤ x) (h2 : x ≤ 9223372036854775807) : (Lit.int .i64 x).wf = true := by
 have e1 : IntKind.i64.min = -9223372036854775808 := by decide
 have e2 : IntKind.i64.max = 9223372036854775807 := by decide
 unfold Lit.wf
 simp
 omega
end Go.Proofs.YtdhekhlmdefcnabGreatDoor
namespace Go.Proofs.YtdhekhlmdefcnabGreatDoor
open Go.RowKit
section
variable {P : Program} {ops : Array Oper} {Q : Exit → Act → World → Prop}
end
section
variable {ty : TypeId} {ps : String} {af : Array Edge} {g : Option (Nat × Bool)} {a : Act} {w : World} {K : Act → World → Prop} {Q : Exit → Act → World → Prop}
end
end Go.Proofs.YtdhekhlmdefcnabGreatDoor
