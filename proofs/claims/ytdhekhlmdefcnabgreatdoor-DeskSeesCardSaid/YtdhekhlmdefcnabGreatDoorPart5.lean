/- Part 5 of the proof: Mem, CoreSpec, AllG. -/
import Derived.Test.YtdhekhlmdefcnabGreatDoorPart4
import Derived.WalkKit
import Derived.Deep.Draws
import Derived.Deep.AppendLies
import Derived.Laws.Rows
import Derived.Laws.ResultCell
import Derived.Laws.Tables
namespace Go.Proofs.YtdhekhlmdefcnabGreatDoor
open Go.RowKit
abbrev I (n : Int) : Value := .int .i64 n
theorem I_eq {a b : Int} (h : a = b) : Value.int .i64 a = Value.int .i64 b := by rw [h]
def Has (w : World) (g : Nat) (t : TypeId) (cs : Array Value) : Prop := w.heap[g]? = some (.cells cs t (0, 0))
section
variable {w w' : World} {g : Nat} {t : TypeId} {cs : Array Value}
theorem Has.lt (h : Has w g t cs) : g < w.heap.size := by
 unfold Has at h
 exact (Array.getElem?_eq_some_iff.1 h).1
theorem Has.cell (h : Has w g t cs) (i : Nat) : w.cell? ⟨g, i, none⟩ = cs[i]? := by
 unfold Has at h
 simp [World.cell?, h]
theorem Has.cellv (h : Has w g t cs) (i : Nat) (v : Value) (hv : cs[i]? = some v) : w.cell? ⟨g, i, none⟩ = some v := by rw [h.cell, hv]
theorem Has.free (h : Has w g t cs) (i : Nat) : w.frozen? ⟨g, i, none⟩ = false := by
 unfold Has at h
 simp [World.frozen?, h]
theorem Has.new (w : World) (t : TypeId) (cs : Array Value) : Has (w.alloc (.cells cs t)) w.heap.size t cs := by
 show (w.heap.push _)[w.heap.size]? = _
 simp
theorem Has.new' (w : World) (t : TypeId) (cs : Array Value) (n : Nat) (h : n = w.heap.size) : Has (w.alloc (.cells cs t)) n t cs := by
 subst h; exact Has.new w t cs
theorem Has.drew (h : Has w g t cs) : Has w.drew g t cs := h
theorem Has.drewN (h : Has w g t cs) (n : Nat) : Has (w.drewN n) g t cs := h
theorem Has.alloc (h : Has w g t cs) (o : Obj) : Has (w.alloc o) g t cs := (Below.heap_alloc w o g h.lt).trans h
theorem Has.set (h : Has w g t cs) (i : Nat) (v : Value) : Has (w.setCell ⟨g, i, none⟩ v) g t (cs.setIfInBounds i v) := by
 unfold Has at h ⊢
 simp [World.setCell, Array.getElem?_modify, h]
theorem Has.far (h : Has w g t cs) {p : Addr} (hp : g ≠ p.block) (v : Value) : Has (w.setCell p v) g t cs := (Below.heap_setCell w p v g hp).trans h
theorem Has.below {B : Nat} (h : Has w g t cs) (hb : Below B w w') (hg : g < B) : Has w' g t cs := (hb.block g hg).trans h
theorem Has.after (h : Has w g t cs) (hb : Below w.heap.size w w') : Has w' g t cs := h.below hb h.lt
theorem Has.grown {row : Option Nat} (h : Has w g t cs) (hb : w.grownBy w' row) (hg : some g ≠ row) : Has w' g t cs := (hb.block g h.lt hg).trans h
end
theorem Has.setRow {w : World} {g : Nat} {t : TypeId} {cs : Array Value} (h : Has w g t cs) (cs' : Array Value) : Has (w.setRow g cs') g t cs' := by
 unfold Has at h ⊢
 simp [World.setRow, Array.getElem?_modify, h]
theorem heap_setRow_other (w : World) (g : Nat) (cs : Array Value) (k : Nat) (h : k ≠ g) : (w.setRow g cs).heap[k]? = w.heap[k]? := by
 simp only [World.setRow, Array.getElem?_modify]
 rw [if_neg (by omega)]
theorem Has.farRow {w : World} {g g' : Nat} {t : TypeId} {cs : Array Value} (h : Has w g t cs) (hp : g ≠ g') (cs' : Array Value) : Has (w.setRow g' cs') g t cs := (heap_setRow_other w g' cs' g hp).trans h
theorem below_setRow {B : Nat} {a w : World} (h : Below B a w) {g : Nat} (hg : B ≤ g) (cs : Array Value) : Below B a (w.setRow g cs) :=
 h.trans ⟨rfl, rfl, rfl, by simp [World.setRow], fun k hk => heap_setRow_other _ _ _ _ (by omega)⟩
theorem below_drewN {B : Nat} {a w : World} (h : Below B a w) (n : Nat) : Below B a (w.drewN n) := ⟨h.os, h.tape, h.output, h.size, h.block⟩
theorem bcell {W w1 : World} (hb : Below W.heap.size W w1) : (∀ b o, b < W.heap.size → w1.cell? ⟨b, o, none⟩ = W.cell? ⟨b, o, none⟩) ∧ (∀ b o, b < W.heap.size → w1.frozen? ⟨b, o, none⟩ = W.frozen? ⟨b, o, none⟩) :=
 ⟨fun b o h => hb.cell (p := ⟨b, o, none⟩) h, fun b o h => hb.frozen (p := ⟨b, o, none⟩) h⟩
def Reads (w : World) (B : Nat) (A : Option Addr) (xs : List Value) : Prop :=
 xs ≠ [] → ∃ b o, A = some ⟨b, o, none⟩ ∧ b < B ∧ ∀ j u, xs[j]? = some u → w.cell? ⟨b, o + j, none⟩ = some u
section
variable {w w' : World} {B B' : Nat} {A : Option Addr} {xs : List Value}
theorem Reads.keep (h : Reads w B A xs) (hk : ∀ b o, b < B → w'.cell? ⟨b, o, none⟩ = w.cell? ⟨b, o, none⟩) : Reads w' B A xs := fun hn => by
 obtain ⟨b, o, e, hb, hc⟩ := h hn
 exact ⟨b, o, e, hb, fun j u hu => (hk _ _ hb).trans (hc j u hu)⟩
theorem Reads.more (h : Reads w B A xs) (hB : B ≤ B') : Reads w B' A xs := fun hn => by
 obtain ⟨b, o, e, hb, hc⟩ := h hn
 exact ⟨b, o, e, by omega, hc⟩
theorem Reads.below (h : Reads w B A xs) (hb : Below B w w') : Reads w' B A xs := h.keep fun _ _ hp => hb.cell hp
theorem Reads.drew (h : Reads w B A xs) : Reads w.drew B A xs := h
theorem Reads.alloc (h : Reads w B A xs) (hB : B ≤ w.heap.size) (o : Obj) : Reads (w.alloc o) B A xs := h.keep fun b i hp => World.cell?_alloc_lt w o ⟨b, i, none⟩ (Nat.lt_of_lt_of_le hp hB)
theorem Reads.setCell (h : Reads w B A xs) {p : Addr} (hB : B ≤ p.block) (u : Value) : Reads (w.setCell p u) B A xs :=
 h.keep fun b o hq => World.cell?_setCell_other w p _ u (fun e => by subst e; simp at hB; omega)
theorem Reads.take (h : Reads w B A xs) (k : Nat) : Reads w B A (xs.take k) := fun hn => by
 have h0 : xs ≠ [] := by rintro rfl; simp at hn
 obtain ⟨b, o, e, hb, hc⟩ := h h0
 refine ⟨b, o, e, hb, fun j u hu => hc j u ?_⟩
 rw [List.getElem?_take] at hu
 split at hu
 ·exact hu
 ·cases hu
theorem Reads.of_has {g : Nat} {t : TypeId} {cs : Array Value} (h : Has w g t cs) (hB : g < B) : Reads w B (some ⟨g, 0, none⟩) cs.toList := fun _ =>
 ⟨g, 0, rfl, hB, fun j u hu => by rw [Nat.zero_add, h.cell]; simpa using hu⟩
end
theorem ret_cell_tmp {P : Program} {fn : Func} {p u : Tmp} {ty : TypeId} (h : fn.results = #[.cell p ty, .tmp u]) (tmps : Array Value) (w : World) (g : Nat) (t : TypeId) (cs : Array Value) (d : TypeDesc)
  (hp : tmps.getD p undef = .pointer (some ⟨g, 0, none⟩)) (hg : Has w g t cs)
  (hu : P.underlying ty = some d) (hd : (match d with | .struct _ | .array _ _ => true | _ => false) = true) (hi : (P.info? ty).map (·.size) = some cs.size) :
  (results fn tmps).run P w = .ok (.tuple #[.agg cs, tmps.getD u undef]) w := by
 rw [results_cell_tmp h, hp]
 simp [asAddr, Result.andThen, run_loadVar_row w g t ty cs (0, 0) d hg hu hd hi]
theorem add_at (b o j : Nat) : (⟨b, o, none⟩ : Addr).add j = ⟨b, o + j, none⟩ := by unfold Addr.add; split <;> simp_all
theorem own_reads {w : World} {base : Nat} {e : TypeId} {v : Value} {n : Nat} {xs : List Value} (h : w.ownsRow base e 1 v n xs) :
  ∃ A c, v = .slice A n c ∧ n ≤ c ∧ xs.length = n ∧ Reads w w.heap.size A xs := by
 obtain ⟨h1, h2⟩ := h
 rw [Nat.mul_one] at h1
 rcases h2 with ⟨hv, hn⟩ | ⟨g, cap, cur, hv, hg, hh, hnc, _, _, ht⟩
 ·exact ⟨none, 0, by rw [hv, hn], by omega, h1, fun hx => absurd (List.eq_nil_of_length_eq_zero (by omega)) hx⟩
 ·refine ⟨some ⟨g, 0, none⟩, cap, hv, hnc, h1, fun _ => ⟨g, 0, rfl, (Array.getElem?_eq_some_iff.1 hh).1, fun j u hu => ?_⟩⟩
  have hc : Has w g e cur := hh
  rw [hc.cell]
  have := ht
  rw [Nat.mul_one] at this
  rw [← this, List.getElem?_take] at hu
  split at hu
  ·simpa using hu
  ·cases hu
theorem own_base {w : World} {base base' : Nat} {e : TypeId} {size : Nat} {v : Value} {n : Nat} {xs : List Value} (h : w.ownsRow base e size v n xs) (hb : base' ≤ base) : w.ownsRow base' e size v n xs := by
 obtain ⟨h1, h2⟩ := h
 refine ⟨h1, ?_⟩
 rcases h2 with h2 | ⟨g, cap, cur, hv, hg, r⟩
 ·exact .inl h2
 ·exact .inr ⟨g, cap, cur, hv, by omega, r⟩
theorem own_keep {w w' : World} {base : Nat} {e : TypeId} {size : Nat} {v : Value} {n : Nat} {xs : List Value} (h : w.ownsRow base e size v n xs)
  (hk : ∀ g cs, v.ownBlock = some g → Has w g e cs → w'.heap[g]? = w.heap[g]?) : w'.ownsRow base e size v n xs := by
 obtain ⟨h1, h2⟩ := h
 refine ⟨h1, ?_⟩
 rcases h2 with h2 | ⟨g, cap, cur, hv, hg, hh, r⟩
 ·exact .inl h2
 ·exact .inr ⟨g, cap, cur, hv, hg, (hk g cur (by rw [hv]; rfl) hh).trans hh, r⟩
theorem own_after {w w' : World} {base : Nat} {e : TypeId} {size : Nat} {v : Value} {n : Nat} {xs : List Value} (h : w.ownsRow base e size v n xs) (hb : Below w.heap.size w w') : w'.ownsRow base e size v n xs :=
 own_keep h fun g _ _ hh => hb.block g hh.lt
theorem own_far {w : World} {base : Nat} {e : TypeId} {size : Nat} {v : Value} {n : Nat} {xs : List Value} (h : w.ownsRow base e size v n xs) {g : Nat} {t : TypeId} {cs : Array Value} (hg : Has w g t cs) (hne : t ≠ e) (o : Nat) (u : Value) :
  (w.setCell ⟨g, o, none⟩ u).ownsRow base e size v n xs :=
 own_keep h fun g' cs' _ hh => Below.heap_setCell w _ u g' (by
  rintro rfl
  unfold Has at hg hh
  rw [hg] at hh
  injection hh with hh
  injection hh with _ ht
  exact hne ht)
theorem own_ne {w : World} {base : Nat} {e : TypeId} {size : Nat} {v : Value} {n : Nat} {xs : List Value} (h : w.ownsRow base e size v n xs) {g : Nat} {t : TypeId} {cs : Array Value} (hg : Has w g t cs) (hne : t ≠ e) :
  some g ≠ v.ownBlock := by
 rcases h.2 with ⟨rfl, _⟩ | ⟨g', cap, cur, rfl, _, hh, _⟩
 ·simp [Value.ownBlock]
 ·intro he
  have : g = g' := by simpa [Value.ownBlock] using he
  subst this
  unfold Has at hg
  rw [hg] at hh
  injection hh with hh
  injection hh with _ ht
  exact hne ht
def ints (l : List Int) : List Value := l.map I
theorem ints_length (l : List Int) : (ints l).length = l.length := by simp [ints]
theorem ints_get (l : List Int) (i : Nat) : (ints l)[i]? = (l[i]?).map I := by simp [ints]
theorem Reads.at_ {w : World} {B : Nat} {A : Option Addr} {xs : List Int} (h : Reads w B A (ints xs)) {k : Nat} {x : Int} (hx : xs[k]? = some x) :
  ∃ b o, A = some ⟨b, o, none⟩ ∧ b < B ∧ w.cell? ⟨b, o + k, none⟩ = some (I x) := by
 have hk : (ints xs)[k]? = some (I x) := by rw [ints_get, hx]; rfl
 obtain ⟨b, o, hA, hb, hc⟩ := h (by rintro h0; rw [h0] at hk; simp at hk)
 exact ⟨b, o, hA, hb, hc _ _ hk⟩
theorem some_at {α : Type} (xs : List α) (k : Nat) (h : k < xs.length) : ∃ x, xs[k]? = some x := ⟨xs[k], List.getElem?_eq_getElem h⟩
def zs (l : List Nat) : List Int := l.map fun (x : Nat) => (x : Int)
theorem zs_length (l : List Nat) : (zs l).length = l.length := by simp [zs]
theorem zs_get (l : List Nat) (i : Nat) : (zs l)[i]? = (l[i]?).map fun (x : Nat) => (x : Int) := by simp [zs]
theorem zs_some {l : List Nat} {i x : Nat} (h : l[i]? = some x) : (zs l)[i]? = some (x : Int) := by rw [zs_get, h]; rfl
end Go.Proofs.YtdhekhlmdefcnabGreatDoor
namespace Go.Proofs.YtdhekhlmdefcnabGreatDoor
open Go.RowKit
structure Lay where
 secs : Nat
 routes : List Nat
 delay : Nat
structure Lay.Ok (L : Lay) : Prop where
 secs1 : 1 ≤ L.secs
 secs2 : L.secs ≤ 12
 many1 : 1 ≤ L.routes.length
 many2 : L.routes.length ≤ 8
 delay : L.delay ≤ 20
 low : ∀ r ∈ L.routes, 1 ≤ r
 high : ∀ r ∈ L.routes, r < 2 ^ L.secs
 apart : L.routes.Nodup
structure St where
 set : Nat
 used : List Nat
 idle : List Nat
def St.zero : St := ⟨0, List.replicate 8 0, List.replicate 8 0⟩
structure St.Fits (s : St) (M : Nat) : Prop where
 set : s.set < 256
 used8 : s.used.length = 8
 idle8 : s.idle.length = 8
 used : ∀ x ∈ s.used, x < 4096
 idle : ∀ x ∈ s.idle, x ≤ M
def stL (s : St) : List Value := I s.set :: (ints (zs s.used) ++ ints (zs s.idle))
def stC (s : St) : Array Value := (stL s).toArray
inductive Err where
 | ok
 | bare (e : Int)
 | place (e : Int) (p : Nat)
def badRoute (S : Int) (rs : List Int) : Option Nat := rs.findIdx? fun r => decide (r ≤ 0) || decide (2 ^ S.toNat ≤ r)
def twice (rs : List Int) (i : Nat) : Bool := (rs.take i).contains (rs.getD i 0)
def twiceAt (rs : List Int) : Option Nat := (List.range rs.length).find? (twice rs)
def outOf (S : Int) (n : Nat) (d : Int) : Prop := S < 1 ∨ 12 < S ∨ n < 1 ∨ 8 < n ∨ d < 0 ∨ 20 < d
instance (S : Int) (n : Nat) (d : Int) : Decidable (outOf S n d) := by unfold outOf; infer_instance
def chk (S : Int) (rs : List Int) (d : Int) : Err :=
 if outOf S rs.length d then .bare 2 else
 match badRoute S rs with
 | some i => .place 1 i
 | none => match twiceAt rs with
  | some i => .place 9 i
  | none => .ok
def confTo (rs : List Nat) (i : Nat) : Nat → Nat
 | 0 => 0
 | k + 1 => if k ≠ i ∧ rs.getD i 0 &&& rs.getD k 0 ≠ 0 then confTo rs i k ||| 1 <<< k else confTo rs i k
def conf (rs : List Nat) (i : Nat) : Nat := confTo rs i rs.length
def confs (rs : List Nat) : List Nat := (List.range rs.length).map (conf rs)
def one (delay clear wanted : Nat) (s : St) (k r : Nat) : St :=
 if s.set.testBit k then
  let u := s.used.getD k 0 ||| nb r clear
  let i := if wanted.testBit k then 0 else s.idle.getD k 0 + 1
  if u = r ∧ nb r clear = 0 ∨ u = 0 ∧ delay < i then ⟨nb s.set (1 <<< k), s.used.set k 0, s.idle.set k 0⟩
  else ⟨s.set, s.used.set k u, s.idle.set k i⟩
 else s
def letGo (L : Lay) (clear wanted : Nat) (s : St) : Nat → St
 | 0 => s
 | k + 1 => one L.delay clear wanted (letGo L clear wanted s k) k (L.routes.getD k 0)
def newOne (rs : List Nat) (clear wanted set k : Nat) : Bool :=
 wanted.testBit k && !set.testBit k && decide (set &&& conf rs k = 0) && decide (nb (rs.getD k 0) clear = 0)
def setTo (rs : List Nat) (clear wanted set : Nat) : Nat → Nat
 | 0 => set
 | k + 1 => if newOne rs clear wanted (setTo rs clear wanted set k) k then setTo rs clear wanted set k ||| 1 <<< k else setTo rs clear wanted set k
def shows (rs : List Nat) (clear wanted : Nat) (s : St) (k : Nat) : Bool :=
 s.set.testBit k && decide (s.used.getD k 0 = 0) && decide (nb (rs.getD k 0) clear = 0) && wanted.testBit k
def outTo (rs : List Nat) (clear wanted : Nat) (s : St) : Nat → Nat
 | 0 => 0
 | k + 1 => if shows rs clear wanted s k then outTo rs clear wanted s k ||| 1 <<< k else outTo rs clear wanted s k
def stepS (L : Lay) (clear wanted : Nat) (s : St) : St :=
 let t := letGo L clear wanted s L.routes.length
 { t with set := setTo L.routes clear wanted t.set L.routes.length }
def step (L : Lay) (c w : Int) (s : St) : St × Nat :=
 let clear := msk c L.secs
 let wanted := msk w L.routes.length
 (stepS L clear wanted s, outTo L.routes clear wanted (stepS L clear wanted s) L.routes.length)
end Go.Proofs.YtdhekhlmdefcnabGreatDoor
namespace Go.Proofs.YtdhekhlmdefcnabGreatDoor
open Go.RowKit
section
variable {P : Program} {ops : Array Oper} {Q : Exit → Act → World → Prop}
def StageG (B : Nat) (stores : List Nat) (ia : Nat) (T : TypeId) (z : Array Value) (M0 : World → Prop) (Ms : Nat → Nat → World → Prop) (γ : Nat) (li : Array Bool) (w : World) : Prop :=
 ∃ j, j ≤ stores.length ∧ (∀ t s, stores[t]? = some s → li.getD s false = decide (t < j)) ∧ ((j = 0 ∧ M0 w ∧ (li.getD ia false = true → Has w γ T z ∧ B ≤ γ)) ∨ (0 < j ∧ Ms j γ w))
def KindG (B : Nat) (P : Program) (ops : Array Oper) (Q : Exit → Act → World → Prop) (V : Nat → Nat → Value) (S : List Nat) (stores : List Nat) (ia : Nat) (T : TypeId) (z : Array Value) (M0 : World → Prop) (Ms : Nat → Nat → World → Prop) (b0 : Act) (i : Nat) (o : Oper) : Prop :=
 (i ∉ stores ∧ i ≠ ia ∧ ∀ (γ : Nat) (M : World → Prop), StepA P ops Q (V γ) S b0 i o M M) ∨
 (i ∉ stores ∧ i ≠ ia ∧ earlyOk ops stores i = true ∧ ∀ γ w0, StepA P ops Q (V γ) S b0 i o (fun w => M0 w ∧ w0 = w) (fun w' => M0 w' ∧ Below w0.heap.size w0 w')) ∨
 (i ∉ stores ∧ i = ia ∧ o.guard = none ∧ (∀ (γ : Nat), V γ ia = .pointer (some ⟨γ, 0, none⟩)) ∧ (∀ w, M0 w → M0 (w.alloc (.cells z T)) ∧ B ≤ w.heap.size) ∧ ∀ (a : Act) (w : World) (K : Act → World → Prop), K (a.put o.dst (.pointer (some ⟨w.heap.size, 0, none⟩))) (w.alloc (.cells z T)) → Oper.wp P o a w K Q) ∨
 (∃ t, stores[t]? = some i ∧ i ≠ ia ∧ ∀ γ, StepA P ops Q (V γ) S b0 i o (fun w => if t = 0 then M0 w ∧ Has w γ T z ∧ B ≤ γ else Ms t γ w) (Ms (t + 1) γ))
theorem region_alloc {id : Nat} (B : Nat) {w : World} {a0 : Act} (hm : P.follows .mixedOrders = true) (F : Act → Prop) (hF : F a0) (n : Nat) (hn : a0.tmps.size = n) (V : Nat → Nat → Value) (ia : Nat) (T : TypeId) (z : Array Value) (stores : List Nat) (hc : chainOk ops stores = true) (hne : stores ≠ [])
  (hia : earlyOk ops stores ia = true) (hV : ∀ γ γ' j, j ≠ ia → V γ j = V γ' j) (M0 : World → Prop) (Ms : Nat → Nat → World → Prop) (S : List Nat)
  (hd : dstsOk ops S n = true) (hb : (List.range ops.size).all (fun i => ((ops[i]?).map fun o => o.after.all fun e => !Region.binds .any e || decide (e.on < i)).getD true) = true)
  (h0 : M0 { w with drawn := w.drawn + 1 })
  (hstep : ∀ b0, F b0 → ∀ i o, ops[i]? = some o → KindG B P ops Q V S stores ia T z M0 Ms b0 i o)
  (hend : ∀ γ a w', Frm S a0 a → (∀ i o, ops[i]? = some o → ∀ d, o.dst = some d → a.tmps.getD d undef = V γ i) → Ms stores.length γ w' → Q .normal a w') : (Code.region id ops true).wp P Q a0 w := by
 unfold chainOk at hc
 simp only [Bool.and_eq_true, decide_eq_true_eq] at hc
 obtain ⟨⟨hch, hnd⟩, hsz⟩ := hc
 have rep : ∀ j, (Array.replicate ops.size false).getD j false = false := fun j => by
  rw [Array.getD_eq_getD_getElem?, Array.getElem?_replicate]
  split <;> rfl
 have hd' : dstsOk ops S a0.tmps.size = true := by rw [hn]; exact hd
 refine region_inv hm (fun li a w' => ∃ γ, Here ops (V γ) S a0 li a ∧ StageG B stores ia T z M0 Ms γ li w') ⟨0, ⟨by simp, Frm.refl _ _, (fun j o _ hl => absurd hl (by rw [rep]; decide)), (fun j o _ hl => absurd hl (by rw [rep]; decide)), fun _ _ => rfl⟩, 0, Nat.zero_le _, (fun t s _ => by rw [rep]; simp), .inl ⟨rfl, h0, fun h => by rw [rep] at h; cases h⟩⟩ ?_ ?_
 ·intro i li a w' hi hJ
  obtain ⟨γ, hH, j, hj, hst, hM⟩ := hJ
  obtain ⟨hli, o, ho, hed⟩ := mem_ready.1 hi
  have hlt := (Array.getElem?_eq_some_iff.1 ho).1
  have hs := hH.size
  have hnot : li.getD i false = false := by
   rw [Array.getD_eq_getD_getElem?] at hli ⊢
   rw [Array.getElem?_eq_getElem (by omega)] at hli ⊢
   exact hli
  have hset : (li.setIfInBounds i true).getD i false = true := by simp [Array.getD_eq_getD_getElem?, hs, hlt]
  have next : ∀ γ' v, v = V γ' i → Known ops (V γ') li a → Here ops (V γ') S a0 (li.setIfInBounds i true) (a.put o.dst v) := by
   rintro γ' v rfl hkn
   refine ⟨by simpa using hs, hH.frm.puts hd' ho _, hkn.put hd' hH.frm.size ho, ?_, ?_⟩
   ·intro q oq hq hl e he hbe
    by_cases e1 : i = q
    ·subst e1
     rw [ho] at hq
     injection hq with hq
     subst hq
     have h1 := hed e he hbe
     by_cases e2 : i = e.on
     ·rw [← e2] at h1; rw [hnot] at h1; cases h1
     ·rw [getD_set_ne false e2]; exact h1
    ·rw [getD_set_ne false e1] at hl
     have h1 := hH.closed q oq hq hl e he hbe
     by_cases e2 : i = e.on
     ·rw [← e2]; exact hset
     ·rw [getD_set_ne false e2]; exact h1
   ·intro d hdq
    have h1 : o.dst ≠ some d := fun e => by
     have := hdq i o ho e
     rw [hset] at this
     cases this
    have h2 : (a.put o.dst (V γ' i)).tmps[d]? = a.tmps[d]? := by
     cases hod : o.dst with
     | none => rfl
     | some d0 =>
      have hne : d0 ≠ d := fun e => h1 (by rw [hod, e])
      show (a.tmps.setIfInBounds d0 (V γ' i))[d]? = _
      rw [Array.getElem?_setIfInBounds_ne hne]
    rw [h2]
    refine hH.unput d (fun q oq hq hqd => ?_)
    have := hdq q oq hq hqd
    by_cases e1 : i = q
    ·subst e1; exact hnot
    ·rw [getD_set_ne false e1] at this; exact this
  have early : earlyOk ops stores i = true → j = 0 := fun he => by
   rcases Nat.eq_zero_or_pos j with h | h
   ·exact h
   ·cases stores with
    | nil => simp at hj; exact hj
    | cons s ss =>
     have h1 := hst 0 s rfl
     rw [decide_eq_true h] at h1
     have h2 := behind_done he hH.closed h1
     rw [hnot] at h2; cases h2
  refine wpOp_step ho (fun K' hK' => ?_)
  rcases hstep a0 hF i o ho with ⟨hns, hni, hp⟩ | ⟨hns, hni, he, hp⟩ | ⟨hns, rfl, hg, hVi, hMa, hp⟩ | ⟨t, ht, hni, hp⟩
  ·refine hp γ (fun w => (j = 0 ∧ M0 w ∧ (li.getD ia false = true → Has w γ T z ∧ B ≤ γ)) ∨ (0 < j ∧ Ms j γ w)) li a w' hH hnot hed hM K' (fun w'' hM' => hK' _ _ ⟨γ, next γ _ rfl hH.known, j, hj, fun t s hts => ?_, ?_⟩)
   ·rw [getD_set_ne false (fun e => hns (by rw [e]; exact List.mem_of_getElem? hts))]
    exact hst t s hts
   ·rw [getD_set_ne false hni]; exact hM'
  ·have hj0 := early he
   subst hj0
   have hM0 : M0 w' ∧ (li.getD ia false = true → Has w' γ T z ∧ B ≤ γ) := by
    rcases hM with ⟨_, h1, h2⟩ | ⟨h, _⟩
    ·exact ⟨h1, h2⟩
    ·omega
   refine hp γ w' li a w' hH hnot hed ⟨hM0.1, rfl⟩ K' (fun w'' hM' => hK' _ _ ⟨γ, next γ _ rfl hH.known, 0, hj, fun t s hts => ?_, .inl ⟨rfl, hM'.1, fun h => ?_⟩⟩)
   ·rw [getD_set_ne false (fun e => hns (by rw [e]; exact List.mem_of_getElem? hts))]
    exact hst t s hts
   ·rw [getD_set_ne false hni] at h
    exact ⟨(hM0.2 h).1.after hM'.2, (hM0.2 h).2⟩
  ·have hj0 := early hia
   subst hj0
   have hM0 : M0 w' := by
    rcases hM with ⟨_, h1, _⟩ | ⟨h, _⟩
    ·exact h1
    ·omega
   rw [if_pos (by simp [Region.wanted, hg])]
   refine hp a w' K' (hK' _ _ ⟨w'.heap.size, next w'.heap.size _ (hVi _).symm ?_, 0, hj, fun t s hts => ?_, .inl ⟨rfl, (hMa _ hM0).1, fun _ => ⟨Has.new _ _ _, (hMa _ hM0).2⟩⟩⟩)
   ·intro q oq hq hl d hdq
    rw [hV w'.heap.size γ q (fun e => by rw [e, hnot] at hl; cases hl)]
    exact hH.known q oq hq hl d hdq
   ·rw [getD_set_ne false (fun e => hns (by rw [e]; exact List.mem_of_getElem? hts))]
    exact hst t s hts
  ·have htl : t < stores.length := (List.getElem?_eq_some_iff.1 ht).1
   have hjt : j = t := by
    have h1 := hst t i ht
    rw [hnot] at h1
    have h2 : ¬ t < j := by simpa using h1.symm
    rcases Nat.eq_zero_or_pos t with h | h
    ·omega
    ·have h3 := List.all_eq_true.1 hch t (List.mem_range.2 htl)
     simp only [Bool.or_eq_true, decide_eq_true_eq] at h3
     have h4 : behind ops i (stores.getD (t - 1) 0) = true := by
      rcases h3 with h3 | h3
      ·omega
      ·rw [List.getD_eq_getElem?_getD, ht] at h3; exact h3
     obtain ⟨s', hs'⟩ : ∃ s', stores[t - 1]? = some s' := ⟨_, List.getElem?_eq_getElem (by omega)⟩
     rw [List.getD_eq_getElem?_getD, hs'] at h4
     unfold behind at h4
     rw [ho] at h4
     simp only [Option.map_some, Option.getD_some] at h4
     rw [Array.any_eq_true] at h4
     obtain ⟨k, hk, hek⟩ := h4
     simp only [Bool.and_eq_true, decide_eq_true_eq] at hek
     have h5 := hed o.after[k] (Array.getElem_mem hk) hek.2
     rw [hek.1] at h5
     have h6 := hst (t - 1) s' hs'
     rw [h5] at h6
     have : t - 1 < j := by simpa using h6.symm
     omega
   subst hjt
   have hMt : if j = 0 then M0 w' ∧ Has w' γ T z ∧ B ≤ γ else Ms j γ w' := by
    split
    ·rename_i h
     rcases hM with ⟨_, h1, h2⟩ | ⟨h', _⟩
     ·refine ⟨h1, h2 ?_⟩
      -- the first store is behind the allocation
      cases hss : stores with
      | nil => exact absurd hss hne
      | cons s ss =>
       have hi0 : s = i := by rw [hss, h] at ht; simpa using ht
       rw [hss] at hia
       have hia' : behind ops s ia = true := hia
       rw [hi0] at hia'
       unfold behind at hia'
       rw [ho] at hia'
       simp only [Option.map_some, Option.getD_some] at hia'
       rw [Array.any_eq_true] at hia'
       obtain ⟨k, hk, hek⟩ := hia'
       simp only [Bool.and_eq_true, decide_eq_true_eq] at hek
       have h5 := hed o.after[k] (Array.getElem_mem hk) hek.2
       rw [hek.1] at h5
       exact h5
     ·omega
    ·rename_i h
     rcases hM with ⟨h', _⟩ | ⟨_, h1⟩
     ·exact absurd h' h
     ·exact h1
   refine hp γ li a w' hH hnot hed hMt K' (fun w'' hM' => hK' _ _ ⟨γ, next γ _ rfl hH.known, j + 1, by omega, fun t s hts => ?_, .inr ⟨by omega, hM'⟩⟩)
   by_cases e : s = i
   ·subst e
    rw [hset]
    have : t = j := (List.getElem?_inj (List.getElem?_eq_some_iff.1 hts).1 hnd).1 (hts.trans ht.symm)
    rw [this]
    simp
   ·rw [getD_set_ne false (fun e' => e e'.symm), hst t s hts, decide_eq_decide]
    have : t ≠ j := fun e' => by
     rw [e', ht] at hts
     injection hts with hts
     exact e hts.symm
    omega
 ·intro li a w' hJ hr
  obtain ⟨γ, hH, j, hj, hst, hM⟩ := hJ
  have hall := all_listed hr hH.size hb
  refine hend γ a w' hH.frm (fun i o ho d hd => hH.known i o ho (hall i (Array.getElem?_eq_some_iff.1 ho).1) d hd) ?_
  have hl : 0 < stores.length := List.length_pos_iff.2 hne
  have : j = stores.length := by
   obtain ⟨s, hs⟩ : ∃ s, stores[stores.length - 1]? = some s := ⟨_, List.getElem?_eq_getElem (by omega)⟩
   have h1 := hst _ s hs
   have h2 : s < ops.size := by simpa using List.all_eq_true.1 hsz s (List.mem_of_getElem? hs)
   rw [hall s h2] at h1
   have : stores.length - 1 < j := by simpa using h1.symm
   omega
  subst this
  rcases hM with ⟨h, _⟩ | ⟨_, h⟩
  ·omega
  ·exact h
end
end Go.Proofs.YtdhekhlmdefcnabGreatDoor
