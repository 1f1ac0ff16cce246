/- Part 1 of the proof: Pr1, Pr2, Pr3, Pr4, Pr4v, Pr5, Pr6, Pr7. -/
import GoSem.Machine.Start
import GoSem.Dispatch
import Derived.Control
import GoSem.Core.Race
namespace Go.Pr
open Go
structure Rn where
 B : Nat
 K : Nat → Prop
 r : Nat → Nat → Prop
 kb : ∀ {x}, K x → x < B
 ok : Nat → Prop
 nm : String → Prop
 cd : Nat → Code → Prop
 sp : Nat → Prop
 T : Nat → Prop
 tb : ∀ {x}, T x → x < B
 lo : ∀ {x y}, r x y → B ≤ x ∧ B ≤ y
 fn : ∀ {x y z}, r x y → r x z → y = z
 inj : ∀ {x y z}, r x z → r y z → x = y
def Rn.b (ρ : Rn) (x y : Nat) : Prop := (ρ.K x ∧ y = x) ∨ ρ.r x y
theorem Rn.b_fn {ρ : Rn} {x y z : Nat} (h : ρ.b x y) (h' : ρ.b x z) : y = z := by
 rcases h with ⟨h1, rfl⟩ | h1 <;> rcases h' with ⟨h2, rfl⟩ | h2
 ·rfl
 ·have := (ρ.lo h2).1; have := ρ.kb h1; omega
 ·have := (ρ.lo h1).1; have := ρ.kb h2; omega
 ·exact ρ.fn h1 h2
theorem Rn.b_inj {ρ : Rn} {x y z : Nat} (h : ρ.b x z) (h' : ρ.b y z) : x = y := by
 rcases h with ⟨h1, rfl⟩ | h1 <;> rcases h' with ⟨h2, h3⟩ | h2
 ·exact h3
 ·have := (ρ.lo h2).2; have := ρ.kb h1; omega
 ·have := (ρ.lo h1).2; have := ρ.kb h2; omega
 ·exact ρ.inj h1 h2
theorem Rn.b_eq {ρ : Rn} {x x' y y' : Nat} (h : ρ.b x x') (h' : ρ.b y y') : x = y ↔ x' = y' :=
 ⟨fun e => by subst e; exact Rn.b_fn h h', fun e => by subst e; exact Rn.b_inj h h'⟩
structure Rn.Le (ρ σ : Rn) : Prop where
 B : σ.B = ρ.B
 K : σ.K = ρ.K
 ok : σ.ok = ρ.ok
 r : ∀ {x y}, ρ.r x y → σ.r x y
 nm : σ.nm = ρ.nm
 T : σ.T = ρ.T
 cd : σ.cd = ρ.cd
 sp : σ.sp = ρ.sp
theorem Rn.Le.refl (ρ : Rn) : ρ.Le ρ := ⟨rfl, rfl, rfl, fun h => h, rfl, rfl, rfl, rfl⟩
theorem Rn.Le.trans {ρ σ τ : Rn} (h : ρ.Le σ) (h' : σ.Le τ) : ρ.Le τ := ⟨h'.B.trans h.B, h'.K.trans h.K, h'.ok.trans h.ok, fun x => h'.r (h.r x), h'.nm.trans h.nm, h'.T.trans h.T, h'.cd.trans h.cd, h'.sp.trans h.sp⟩
theorem Rn.Le.b {ρ σ : Rn} (h : ρ.Le σ) {x y : Nat} (hb : ρ.b x y) : σ.b x y := hb.elim (fun k => .inl ⟨by rw [h.K]; exact k.1, k.2⟩) fun k => .inr (h.r k)
def Rn.add (ρ : Rn) (x y : Nat) (hx : ρ.B ≤ x) (hy : ρ.B ≤ y) (nx : ∀ z, ¬ ρ.r x z) (ny : ∀ z, ¬ ρ.r z y) : Rn where
 B := ρ.B
 K := ρ.K
 kb := ρ.kb
 r a b := ρ.r a b ∨ (a = x ∧ b = y)
 ok := ρ.ok
 nm := ρ.nm
 T := ρ.T
 cd := ρ.cd
 sp := ρ.sp
 tb := ρ.tb
 lo h := h.elim ρ.lo fun ⟨h1, h2⟩ => ⟨by omega, by omega⟩
 fn := by
  rintro a b c (h | ⟨rfl, rfl⟩) (h' | ⟨h1, rfl⟩)
  ·exact ρ.fn h h'
  ·subst h1; exact absurd h (nx _)
  ·exact absurd h' (nx _)
  ·rfl
 inj := by
  rintro a b c (h | ⟨rfl, rfl⟩) (h' | ⟨rfl, h2⟩)
  ·exact ρ.inj h h'
  ·subst h2; exact absurd h (ny _)
  ·exact absurd h' (ny _)
  ·rfl
theorem Rn.le_add {ρ : Rn} {x y : Nat} {hx hy nx ny} : ρ.Le (ρ.add x y hx hy nx ny) := ⟨rfl, rfl, rfl, fun h => .inl h, rfl, rfl, rfl, rfl⟩
structure AddrR (ρ : Rn) (a a' : Addr) : Prop where
 b : ρ.b a.block a'.block
 off : a'.off = a.off
 spot : a'.spot = a.spot
inductive FnR (ρ : Rn) : Fn → Fn → Prop
 | func {f : FuncId} : ρ.ok f → FnR ρ (.func f) (.func f)
 | method {n : String} : ρ.nm n → FnR ρ (.method n) (.method n)
 | methodOf (t : TypeId) {n : String} : ρ.nm n → FnR ρ (.methodOf t n) (.methodOf t n)
 | via {t : TypeId} {p : Array FieldStep} {f : FuncId} {q : Bool} : ρ.ok f → FnR ρ (.via t p f q) (.via t p f q)
 | yield {l l' : Nat} : ρ.r l l' → FnR ρ (.yield l) (.yield l')
mutual
inductive VR (ρ : Rn) : Value → Value → Prop
 | bool (b : Bool) : VR ρ (.bool b) (.bool b)
 | int (k : IntKind) (n : Int) : VR ρ (.int k n) (.int k n)
 | float (k : FloatKind) (n : Nat) : VR ρ (.float k n) (.float k n)
 | complex (k : FloatKind) (n m : Nat) : VR ρ (.complex k n m) (.complex k n m)
 | string (s : ByteArray) : VR ρ (.string s) (.string s)
 | ptr0 : VR ρ (.pointer none) (.pointer none)
 | ptr {a a' : Addr} : AddrR ρ a a' → VR ρ (.pointer (some a)) (.pointer (some a'))
 | slice0 (n c : Nat) : VR ρ (.slice none n c) (.slice none n c)
 | slice {a a' : Addr} (n c : Nat) : AddrR ρ a a' → VR ρ (.slice (some a) n c) (.slice (some a') n c)
 | map0 : VR ρ (.map none) (.map none)
 | map {r r' : Nat} : ρ.r r r' → VR ρ (.map (some r)) (.map (some r'))
 | chan0 : VR ρ (.chan none) (.chan none)
 | func {fn fn' : Fn} {xs xs' ys ys' : Array Value} : FnR ρ fn fn' → LR ρ xs.toList xs'.toList → LR ρ ys.toList ys'.toList → VR ρ (.func fn xs ys) (.func fn' xs' ys')
 | nilFunc : VR ρ .nilFunc .nilFunc
 | iface {v v' : Value} (t : TypeId) : VR ρ v v' → VR ρ (.iface t v) (.iface t v')
 | nilIface : VR ρ .nilIface .nilIface
 | agg {xs xs' : Array Value} : LR ρ xs.toList xs'.toList → VR ρ (.agg xs) (.agg xs')
 | tuple {xs xs' : Array Value} : LR ρ xs.toList xs'.toList → VR ρ (.tuple xs) (.tuple xs')
inductive LR (ρ : Rn) : List Value → List Value → Prop
 | nil : LR ρ [] []
 | cons {v v' : Value} {l l' : List Value} : VR ρ v v' → LR ρ l l' → LR ρ (v :: l) (v' :: l')
end
theorem AddrR.mono {ρ σ : Rn} (h : ρ.Le σ) {a a' : Addr} (x : AddrR ρ a a') : AddrR σ a a' := ⟨h.b x.b, x.off, x.spot⟩
theorem FnR.mono {ρ σ : Rn} (h : ρ.Le σ) {a a' : Fn} (x : FnR ρ a a') : FnR σ a a' := by
 cases x with
 | func k => exact .func (by rw [h.ok]; exact k)
 | method k => exact .method (by rw [h.nm]; exact k)
 | methodOf t k => exact .methodOf t (by rw [h.nm]; exact k)
 | via k => exact .via (by rw [h.ok]; exact k)
 | yield k => exact .yield (h.r k)
theorem VR.mono {ρ σ : Rn} (h : ρ.Le σ) {v v' : Value} (x : VR ρ v v') : VR σ v v' :=
 VR.rec (motive_1 := fun v v' _ => VR σ v v') (motive_2 := fun l l' _ => LR σ l l')
  (fun b => .bool b) (fun k n => .int k n) (fun k n => .float k n) (fun k n m => .complex k n m) (fun s => .string s) .ptr0 (fun a => .ptr (a.mono h)) (fun n c => .slice0 n c) (fun n c a => .slice n c (a.mono h)) .map0 (fun r => .map (h.r r)) .chan0
  (fun f _ _ i1 i2 => .func (f.mono h) i1 i2) .nilFunc (fun t _ i => .iface t i) .nilIface (fun _ i => .agg i) (fun _ i => .tuple i) .nil (fun _ _ i1 i2 => .cons i1 i2) x
theorem LR.mono {ρ σ : Rn} (h : ρ.Le σ) : ∀ {l l' : List Value}, LR ρ l l' → LR σ l l'
 | _, _, .nil => .nil
 | _, _, .cons x y => .cons (x.mono h) (y.mono h)
theorem LR.length {ρ : Rn} : ∀ {l l' : List Value}, LR ρ l l' → l'.length = l.length
 | _, _, .nil => rfl
 | _, _, .cons _ y => by simp [y.length]
theorem LR.get {ρ : Rn} : ∀ {l l' : List Value}, LR ρ l l' → ∀ i : Nat, (l[i]? = none ∧ l'[i]? = none) ∨ ∃ v v', l[i]? = some v ∧ l'[i]? = some v' ∧ VR ρ v v'
 | _, _, .nil, i => .inl ⟨by simp, by simp⟩
 | _, _, .cons x y, 0 => .inr ⟨_, _, rfl, rfl, x⟩
 | _, _, .cons x y, i + 1 => by simpa using y.get i
theorem LR.append {ρ : Rn} : ∀ {l l' m m' : List Value}, LR ρ l l' → LR ρ m m' → LR ρ (l ++ m) (l' ++ m')
 | _, _, _, _, .nil, h => h
 | _, _, _, _, .cons x y, h => .cons x (y.append h)
theorem LR.take {ρ : Rn} : ∀ {l l' : List Value}, LR ρ l l' → ∀ n, LR ρ (l.take n) (l'.take n)
 | _, _, .nil, n => by simpa using LR.nil
 | _, _, .cons x y, 0 => .nil
 | _, _, .cons x y, n + 1 => .cons x (y.take n)
theorem LR.drop {ρ : Rn} : ∀ {l l' : List Value}, LR ρ l l' → ∀ n, LR ρ (l.drop n) (l'.drop n)
 | _, _, .nil, n => by simpa using LR.nil
 | _, _, .cons x y, 0 => .cons x y
 | _, _, .cons x y, n + 1 => by simpa using y.drop n
theorem LR.set {ρ : Rn} : ∀ {l l' : List Value}, LR ρ l l' → ∀ (n : Nat) {v v' : Value}, VR ρ v v' → LR ρ (l.set n v) (l'.set n v')
 | _, _, .nil, n, _, _, _ => by simpa using LR.nil
 | _, _, .cons x y, 0, _, _, h => .cons h y
 | _, _, .cons x y, n + 1, _, _, h => .cons x (y.set n h)
theorem LR.rep {ρ : Rn} {v v' : Value} (h : VR ρ v v') : ∀ n, LR ρ (List.replicate n v) (List.replicate n v')
 | 0 => .nil
 | n + 1 => .cons h (LR.rep h n)
def AR (ρ : Rn) (xs xs' : Array Value) : Prop := LR ρ xs.toList xs'.toList
theorem AR.mono {ρ σ : Rn} (h : ρ.Le σ) {xs xs' : Array Value} (x : AR ρ xs xs') : AR σ xs xs' := LR.mono h x
theorem AR.size {ρ : Rn} {xs xs' : Array Value} (h : AR ρ xs xs') : xs'.size = xs.size := by simpa using LR.length h
theorem AR.get {ρ : Rn} {xs xs' : Array Value} (h : AR ρ xs xs') (i : Nat) : (xs[i]? = none ∧ xs'[i]? = none) ∨ ∃ v v', xs[i]? = some v ∧ xs'[i]? = some v' ∧ VR ρ v v' := by
 simpa using LR.get h i
theorem AR.push {ρ : Rn} {xs xs' : Array Value} (h : AR ρ xs xs') {v v' : Value} (hv : VR ρ v v') : AR ρ (xs.push v) (xs'.push v') := by
 unfold AR
 rw [Array.toList_push, Array.toList_push]
 exact LR.append h (.cons hv .nil)
theorem AR.append {ρ : Rn} {xs xs' ys ys' : Array Value} (h : AR ρ xs xs') (k : AR ρ ys ys') : AR ρ (xs ++ ys) (xs' ++ ys') := by
 unfold AR
 rw [Array.toList_append, Array.toList_append]
 exact LR.append h k
theorem AR.set {ρ : Rn} {xs xs' : Array Value} (h : AR ρ xs xs') (n : Nat) {v v' : Value} (hv : VR ρ v v') : AR ρ (xs.setIfInBounds n v) (xs'.setIfInBounds n v') := by
 unfold AR
 rw [Array.toList_setIfInBounds, Array.toList_setIfInBounds]
 exact LR.set h n hv
theorem AR.getD {ρ : Rn} {xs xs' : Array Value} (h : AR ρ xs xs') (n : Nat) {v v' : Value} (hv : VR ρ v v') : VR ρ (xs.getD n v) (xs'.getD n v') := by
 rw [Array.getD_eq_getD_getElem?, Array.getD_eq_getD_getElem?]
 rcases h.get n with ⟨h1, h2⟩ | ⟨u, u', h1, h2, hu⟩
 ·rw [h1, h2]; exact hv
 ·rw [h1, h2]; exact hu
theorem AR.extract {ρ : Rn} {xs xs' : Array Value} (h : AR ρ xs xs') (i j : Nat) : AR ρ (xs.extract i j) (xs'.extract i j) := by
 unfold AR
 rw [Array.toList_extract, Array.toList_extract]
 exact (LR.drop h i).take _
theorem VR.cells {ρ : Rn} {v v' : Value} (h : VR ρ v v') : AR ρ v.cells v'.cells := by
 cases h <;> first | assumption | exact .cons (by constructor <;> assumption) .nil | exact .cons (by constructor) .nil
end Go.Pr
namespace Go.Pr
open Go
inductive TgR (ρ : Rn) : Target → Target → Prop
 | fn {f f' : Fn} {xs xs' : Array Value} : FnR ρ f f' → AR ρ xs xs' → TgR ρ (.fn f xs) (.fn f' xs')
 | nil : TgR ρ .nil .nil
 | collected {r r' : Nat} : ρ.r r r' → TgR ρ (.collected r) (.collected r')
structure DfR (ρ : Rn) (d d' : Deferred) : Prop where
 target : TgR ρ d.target d'.target
 args : AR ρ d.args d'.args
inductive DsR (ρ : Rn) : List Deferred → List Deferred → Prop
 | nil : DsR ρ [] []
 | cons {d d' : Deferred} {l l' : List Deferred} : DfR ρ d d' → DsR ρ l l' → DsR ρ (d :: l) (d' :: l')
structure EnR (ρ : Rn) (e e' : MapEntry) : Prop where
 key : VR ρ e.key e'.key
 val : VR ρ e.val e'.val
 born : e'.born = e.born
inductive EsR (ρ : Rn) : List MapEntry → List MapEntry → Prop
 | nil : EsR ρ [] []
 | cons {d d' : MapEntry} {l l' : List MapEntry} : EnR ρ d d' → EsR ρ l l' → EsR ρ (d :: l) (d' :: l')
def Jump : Code → Prop
 | .ret | .exit _ | .goto _ => True
 | _ => False
structure LpR (ρ : Rn) (l l' : Loop) : Prop where
 state : l'.state = l.state
 pending : l'.pending = l.pending
 fn : l'.fn = l.fn
 tmps : AR ρ l.tmps l'.tmps
 params : l'.params = l.params
 assign : l'.assign = l.assign
 body : l'.body = l.body
 defers : ρ.r l.defers l'.defers
 ok : ρ.ok l.fn ∧ ρ.cd l.fn l.assign ∧ ρ.cd l.fn l.body
 pend : ∀ c, l.pending = some c → Jump c
inductive ObjR (ρ : Rn) : Obj → Obj → Prop
 | cells {c c' : Array Value} (e : TypeId) (fr : Nat × Nat) : AR ρ c c' → ObjR ρ (.cells c e fr) (.cells c' e fr)
 | map {es es' : Array MapEntry} (k : Nat) : EsR ρ es.toList es'.toList → ObjR ρ (.map es k) (.map es' k)
 | iter (s : ByteArray) (p : Nat) : ObjR ρ (.stringIter s p) (.stringIter s p)
 | loop {l l' : Loop} : LpR ρ l l' → ObjR ρ (.loop l) (.loop l')
 | number {a a' : Addr} (b : Bool) : AddrR ρ a a' → ObjR ρ (.number a b) (.number a' b)
 | view {a a' : Addr} (t : TypeId) : AddrR ρ a a' → ObjR ρ (.view a t) (.view a' t)
 | def0 : ObjR ρ (.deferred none) (.deferred none)
 | def1 {l l' : List Deferred} : DsR ρ l l' → ObjR ρ (.deferred (some l)) (.deferred (some l'))
theorem TgR.mono {ρ σ : Rn} (h : ρ.Le σ) {a a' : Target} (x : TgR ρ a a') : TgR σ a a' := by
 cases x with
 | fn f a => exact .fn (f.mono h) (a.mono h)
 | nil => exact .nil
 | collected r => exact .collected (h.r r)
theorem DfR.mono {ρ σ : Rn} (h : ρ.Le σ) {a a' : Deferred} (x : DfR ρ a a') : DfR σ a a' := ⟨x.target.mono h, x.args.mono h⟩
theorem DsR.mono {ρ σ : Rn} (h : ρ.Le σ) : ∀ {a a' : List Deferred}, DsR ρ a a' → DsR σ a a'
 | _, _, .nil => .nil
 | _, _, .cons x y => .cons (x.mono h) (y.mono h)
theorem DsR.append {ρ : Rn} : ∀ {a a' b b' : List Deferred}, DsR ρ a a' → DsR ρ b b' → DsR ρ (a ++ b) (a' ++ b')
 | _, _, _, _, .nil, h => h
 | _, _, _, _, .cons x y, h => .cons x (y.append h)
theorem EnR.mono {ρ σ : Rn} (h : ρ.Le σ) {a a' : MapEntry} (x : EnR ρ a a') : EnR σ a a' := ⟨x.key.mono h, x.val.mono h, x.born⟩
theorem EsR.mono {ρ σ : Rn} (h : ρ.Le σ) : ∀ {a a' : List MapEntry}, EsR ρ a a' → EsR σ a a'
 | _, _, .nil => .nil
 | _, _, .cons x y => .cons (x.mono h) (y.mono h)
theorem LpR.mono {ρ σ : Rn} (h : ρ.Le σ) {a a' : Loop} (x : LpR ρ a a') : LpR σ a a' := ⟨x.state, x.pending, x.fn, x.tmps.mono h, x.params, x.assign, x.body, h.r x.defers, by rw [h.ok, h.cd]; exact x.ok, x.pend⟩
theorem ObjR.mono {ρ σ : Rn} (h : ρ.Le σ) {a a' : Obj} (x : ObjR ρ a a') : ObjR σ a a' := by
 cases x with
 | cells e fr c => exact .cells e fr (c.mono h)
 | map k es => exact .map k (es.mono h)
 | iter s p => exact .iter s p
 | loop l => exact .loop (l.mono h)
 | number b a => exact .number b (a.mono h)
 | view t a => exact .view t (a.mono h)
 | def0 => exact .def0
 | def1 l => exact .def1 (l.mono h)
def bare (P : Program) (e : TypeId) : Prop := ∀ k off n u, 0 < n → P.underlying u = some (.int .u8) → liesAt P P.depth e k off u n = false
structure LowL (P : Program) (ρ : Rn) (w w' : World) (x : Nat) : Prop where
 row : ∃ c e n, w.heap[x]? = some (.cells c e (0, n)) ∧ w'.heap[x]? = some (.cells c e (0, 0)) ∧ c.size < n ∧ bare P e ∧ AR ρ c c
def Pl (v : Value) : Prop := ∀ ρ : Rn, VR ρ v v
structure TabL (w w' : World) (x : Nat) : Prop where
 row : ∃ c e fr c' e' fr', w.heap[x]? = some (.cells c e fr) ∧ w'.heap[x]? = some (.cells c' e' fr') ∧ ∀ (i : Nat) v, c[i]? = some v → c'[i]? = some v ∧ Pl v
structure WR (P : Program) (ρ : Rn) (w w' : World) : Prop where
 own : ∀ {x y}, ρ.r x y → ∃ o o', w.heap[x]? = some o ∧ w'.heap[y]? = some o' ∧ ObjR ρ o o'
 low : ∀ x, ρ.K x → LowL P ρ w w' x
 tab : ∀ x, ρ.T x → TabL w w' x
 os : w'.os = w.os
 szL : ρ.B ≤ w.heap.size
 szR : ρ.B ≤ w'.heap.size
theorem WR.lt {P : Program} {ρ : Rn} {w w' : World} (h : WR P ρ w w') {x y : Nat} (hr : ρ.r x y) : x < w.heap.size ∧ y < w'.heap.size := by
 obtain ⟨o, o', h1, h2, _⟩ := h.own hr
 exact ⟨(Array.getElem?_eq_some_iff.1 h1).1, (Array.getElem?_eq_some_iff.1 h2).1⟩
inductive LocR (ρ : Rn) : Loc → Loc → Prop
 | cell {a a' : Addr} : AddrR ρ a a' → LocR ρ (.cell a) (.cell a')
 | tab {a : Addr} : ρ.T a.block → LocR ρ (.cell a) (.cell a)
 | obj {r r' : Nat} : ρ.r r r' → LocR ρ (.obj r) (.obj r')
 | ext (f : FuncId) : LocR ρ (.mark (.extern f)) (.mark (.extern f))
 | room : LocR ρ (.mark .noRoom) (.mark .noRoom)
 | out : LocR ρ .output .output
structure EvR (ρ : Rn) (e e' : Event) : Prop where
 loc : LocR ρ e.loc e'.loc
 write : e'.write = e.write
 sync : e'.sync = e.sync
 low : ∀ a, e.loc = .cell a → e.write = true → ρ.r a.block (match e'.loc with | .cell b => b.block | _ => 0)
 flat : e'.loc.isMemory = true → e'.sync = false
theorem LocR.mono {ρ σ : Rn} (h : ρ.Le σ) {a a' : Loc} (x : LocR ρ a a') : LocR σ a a' := by
 cases x with
 | cell a => exact .cell (a.mono h)
 | tab a => exact .tab (by rw [h.T]; exact a)
 | obj r => exact .obj (h.r r)
 | ext f => exact .ext f
 | room => exact .room
 | out => exact .out
theorem EvR.mono {ρ σ : Rn} (h : ρ.Le σ) {a a' : Event} (x : EvR ρ a a') : EvR σ a a' := ⟨x.loc.mono h, x.write, x.sync, fun b hb hw => h.r (x.low b hb hw), x.flat⟩
inductive LsR (ρ : Rn) : List Event → List Event → Prop
 | nil : LsR ρ [] []
 | cons {e e' : Event} {l l' : List Event} : EvR ρ e e' → LsR ρ l l' → LsR ρ (e :: l) (e' :: l')
theorem LsR.mono {ρ σ : Rn} (h : ρ.Le σ) : ∀ {a a' : List Event}, LsR ρ a a' → LsR σ a a'
 | _, _, .nil => .nil
 | _, _, .cons x y => .cons (x.mono h) (y.mono h)
theorem LsR.snoc {ρ : Rn} {e e' : Event} (h : EvR ρ e e') : ∀ {a a' : List Event}, LsR ρ a a' → LsR ρ (a ++ [e]) (a' ++ [e'])
 | _, _, .nil => .cons h .nil
 | _, _, .cons x y => .cons x (LsR.snoc h y)
def dull : Halt → Bool
 | .unsupported (.initOrder _) => false
 | .stuck _ | .unsupported _ => true
 | _ => false
inductive Sk {α : Type} (Q : α → Prop) : Sem α → Prop
 | pure {a : α} : Q a → Sk Q (.pure a)
 | shape {r : Nat} {k : Option (TypeId × Nat) → Sem α} : (∀ s, Sk Q (k s)) → Sk Q (.shape r k)
 | frozen {a : Addr} {k : Bool → Sem α} : (∀ s, Sk Q (k s)) → Sk Q (.frozen a k)
 | room {k : Sem α} : Sk Q k → Sk Q (.mark .noRoom k)
 | halt {h : Halt} : dull h = true → Sk Q (.halt h)
theorem Sk.bind {α β : Type} {Q : α → Prop} {Q' : β → Prop} {s : Sem α} {f : α → Sem β} (h : Sk Q s) (hf : ∀ a, Q a → Sk Q' (f a)) : Sk Q' (s >>= f) := by
 show Sk Q' (s.bind f)
 induction h with
 | pure ha => exact hf _ ha
 | shape _ ih => exact .shape ih
 | frozen _ ih => exact .frozen ih
 | room _ ih => exact .room ih
 | halt hd => exact .halt hd
inductive SemR (P : Program) {α β : Type} (A : Rn → α → β → Prop) : Rn → Sem α → Sem β → Prop
 | pure {ρ : Rn} {a : α} {b : β} : A ρ a b → SemR P A ρ (.pure a) (.pure b)
 | load {ρ : Rn} {a a' : Addr} {k : Value → Sem α} {k' : Value → Sem β} : AddrR ρ a a' → (∀ v v', VR ρ v v' → SemR P A ρ (k v) (k' v')) → SemR P A ρ (.load .plain a k) (.load .plain a' k')
 | loadT {ρ : Rn} {a : Addr} {k : Value → Sem α} {k' : Value → Sem β} : ρ.T a.block → (∀ v, Pl v → SemR P A ρ (k v) (k' v)) → SemR P A ρ (.load .plain a k) (.load .plain a k')
 | store {ρ : Rn} {a a' : Addr} {v v' : Value} {k : Sem α} {k' : Sem β} : AddrR ρ a a' → VR ρ v v' → SemR P A ρ k k' → SemR P A ρ (.store .plain a v k) (.store .plain a' v' k')
 | new {ρ : Rn} {o o' : Obj} {k : Nat → Sem α} {k' : Nat → Sem β} : ObjR ρ o o' → (∀ σ r r', ρ.Le σ → σ.r r r' → SemR P A σ (k r) (k' r')) → SemR P A ρ (.new o k) (.new o' k')
 | shape {ρ : Rn} {r r' : Nat} {k : Option (TypeId × Nat) → Sem α} {k' : Option (TypeId × Nat) → Sem β} : ρ.b r r' →
   (∀ s, (ρ.K r → ∃ t n, s = some (t, n) ∧ bare P t) → SemR P A ρ (k s) (k' s)) → SemR P A ρ (.shape r k) (.shape r' k')
 | shapeQ {ρ : Rn} {s : Sem α} {r' : Nat} {k' : Option (TypeId × Nat) → Sem β} : (∀ x, SemR P A ρ s (k' x)) → SemR P A ρ s (.shape r' k')
 | frozenQ {ρ : Rn} {s : Sem α} {a' : Addr} {k' : Bool → Sem β} : ρ.K a'.block → SemR P A ρ s (k' false) → SemR P A ρ s (.frozen a' k')
 | frozen {ρ : Rn} {a a' : Addr} {k : Bool → Sem α} {k' : Bool → Sem β} : AddrR ρ a a' → (∀ b b', (ρ.r a.block a'.block → b = b') → (ρ.K a.block → b' = false) → SemR P A ρ (k b) (k' b')) → SemR P A ρ (.frozen a k) (.frozen a' k')
 | freeze {ρ : Rn} {a a' : Addr} {n : Nat} {k : Sem α} {k' : Sem β} : AddrR ρ a a' → ρ.r a.block a'.block → SemR P A ρ k k' → SemR P A ρ (.freeze a n k) (.freeze a' n k')
 | getObj {ρ : Rn} {r r' : Nat} {k : Obj → Sem α} {k' : Obj → Sem β} : ρ.b r r' → (∀ o o', ObjR ρ o o' → SemR P A ρ (k o) (k' o')) → SemR P A ρ (.getObj r k) (.getObj r' k')
 | setObj {ρ : Rn} {r r' : Nat} {o o' : Obj} {k : Sem α} {k' : Sem β} : ρ.b r r' → ObjR ρ o o' → SemR P A ρ k k' → SemR P A ρ (.setObj r o k) (.setObj r' o' k')
 | choose {ρ : Rn} {q : Question} {k : Nat → Sem α} {k' : Nat → Sem β} : (∀ n, SemR P A ρ (k n) (k' n)) → SemR P A ρ (.choose q k) (.choose q k')
 | chooseL {ρ : Rn} {q : Question} {k : Nat → Sem α} {c : Sem β} (n : Nat) : q.forced = false → (∃ t, q.cut t = n) → SemR P A ρ (k n) c → SemR P A ρ (.choose q k) c
 | program {ρ : Rn} {k : Program → Sem α} {k' : Program → Sem β} : SemR P A ρ (k P) (k' P) → SemR P A ρ (.program k) (.program k')
 | ext {ρ : Rn} {f : FuncId} {k : Sem α} {k' : Sem β} : SemR P A ρ k k' → SemR P A ρ (.mark (.extern f) k) (.mark (.extern f) k')
 | room {ρ : Rn} {k : Sem α} {k' : Sem β} : SemR P A ρ k k' → SemR P A ρ (.mark .noRoom k) (.mark .noRoom k')
 | env {ρ : Rn} {k : SysRet → Sem α} {k' : SysRet → Sem β} : (∀ r, SemR P A ρ (k r) (k' r)) → SemR P A ρ (.sys .env k) (.sys .env k')
 | dead {ρ : Rn} {s : Sem α} {c : Sem β} : Sk (fun _ => False) s → SemR P A ρ s c
 | panic {ρ : Rn} {v v' : Value} : VR ρ v v' → SemR P A ρ (.halt (.panic v)) (.halt (.panic v'))
 | halt {ρ : Rn} {h : Halt} {c : Sem β} : dull h = true → SemR P A ρ (.halt h) c
theorem SemR.bind {P : Program} {α β γ δ : Type} {A : Rn → α → β → Prop} {C : Rn → γ → δ → Prop} {ρ : Rn} {s : Sem α} {s' : Sem β} (h : SemR P A ρ s s') :
  ∀ {f : α → Sem γ} {f' : β → Sem δ}, (∀ σ a b, ρ.Le σ → A σ a b → SemR P C σ (f a) (f' b)) → SemR P C ρ (s.bind f) (s'.bind f') := by
 induction h with
 | pure ha => intro f f' hf; exact hf _ _ _ (Rn.Le.refl _) ha
 | load ha _ ih => intro f f' hf; exact .load ha fun v v' hv => ih v v' hv hf
 | loadT ha _ ih => intro f f' hf; exact .loadT ha fun v hv => ih v hv hf
 | store ha hv _ ih => intro f f' hf; exact .store ha hv (ih hf)
 | new ho _ ih => intro f f' hf; exact .new ho fun σ r r' hl hr => ih σ r r' hl hr fun τ a b h1 h2 => hf τ a b (hl.trans h1) h2
 | shape hb _ ih => intro f f' hf; exact .shape hb fun s h => ih s h hf
 | shapeQ _ ih => intro f f' hf; exact .shapeQ fun x => ih x hf
 | frozenQ hk _ ih => intro f f' hf; exact .frozenQ hk (ih hf)
 | frozen ha _ ih => intro f f' hf; exact .frozen ha fun b b' h1 h2 => ih b b' h1 h2 hf
 | freeze ha hr _ ih => intro f f' hf; exact .freeze ha hr (ih hf)
 | getObj hb _ ih => intro f f' hf; exact .getObj hb fun o o' ho => ih o o' ho hf
 | setObj hb ho _ ih => intro f f' hf; exact .setObj hb ho (ih hf)
 | choose _ ih => intro f f' hf; exact .choose fun n => ih n hf
 | chooseL n h1 h2 _ ih => intro f f' hf; exact .chooseL n h1 h2 (ih hf)
 | program _ ih => intro f f' hf; exact .program (ih hf)
 | ext _ ih => intro f f' hf; exact .ext (ih hf)
 | room _ ih => intro f f' hf; exact .room (ih hf)
 | env _ ih => intro f f' hf; exact .env fun r => ih r hf
 | dead hd => intro f f' _; exact .dead (hd.bind fun _ k => k.elim)
 | panic hv => intro f f' _; exact .panic hv
 | halt hd => intro f f' _; exact .halt hd
end Go.Pr
namespace Go.Pr
open Go
def on (w : World) (T : Nat → Question → Nat) : World := { w with tape := T }
def onR {α : Type} (T : Nat → Question → Nat) : Result α × Array Event → Result α × Array Event
 |(.ok a w, es) => (.ok a (on w T), es)
 |(.halt h w, es) => (.halt h (on w T), es)
def LeftRun {α : Type} (P : Program) (s : Sem α) (w : World) (es : Array Event) (m : Nat) (ts : Nat → Question → Nat) (res : Result α × Array Event) : Prop :=
 ∀ T : Nat → Question → Nat, (∀ i, i < m → T (w.drawn + i) = ts i) → s.runT P (on w T) es = onR T res
structure Frm (w w1 : World) (Mine : Nat → Prop) : Prop where
 tape : w1.tape = w.tape
 os : w1.os = w.os
 output : w1.output = w.output
 drawn : w.drawn ≤ w1.drawn
 size : w.heap.size ≤ w1.heap.size
 heap : ∀ y, y < w.heap.size → ¬ Mine y → w1.heap[y]? = w.heap[y]?
theorem Frm.refl (w : World) (M : Nat → Prop) : Frm w w M := ⟨rfl, rfl, rfl, Nat.le_refl _, Nat.le_refl _, fun _ _ _ => rfl⟩
theorem Frm.trans {a b c : World} {M M' : Nat → Prop} (h : Frm a b M) (h' : Frm b c M') (hM : ∀ y, y < a.heap.size → M' y → M y) : Frm a c M :=
 ⟨h'.tape.trans h.tape, h'.os.trans h.os, h'.output.trans h.output, Nat.le_trans h.drawn h'.drawn, Nat.le_trans h.size h'.size, fun y hy hn =>
  (h'.heap y (Nat.lt_of_lt_of_le hy h.size) fun k => hn (hM y hy k)).trans (h.heap y hy hn)⟩
structure Grow (ρ σ : Rn) (w' w1' : World) : Prop where
 le : ρ.Le σ
 new : ∀ x y, σ.r x y → ρ.r x y ∨ (w'.heap.size ≤ y ∧ y < w1'.heap.size)
theorem Grow.refl (ρ : Rn) (w : World) : Grow ρ ρ w w := ⟨Rn.Le.refl _, fun _ _ h => .inl h⟩
theorem Grow.trans {ρ σ τ : Rn} {a b c : World} (h : Grow ρ σ a b) (h' : Grow σ τ b c) (h1 : a.heap.size ≤ b.heap.size) (h2 : b.heap.size ≤ c.heap.size) : Grow ρ τ a c :=
 ⟨h.le.trans h'.le, fun x y hr => by
  rcases h'.new x y hr with k | k
  ·rcases h.new x y k with k | k
   ·exact .inl k
   ·exact .inr ⟨k.1, by omega⟩
  ·exact .inr ⟨by omega, k.2⟩⟩
def Own (ρ : Rn) (y : Nat) : Prop := ∃ x, ρ.r x y
inductive RunR (P : Program) {α β : Type} (A : Rn → α → β → Prop) (ρ : Rn) (w' : World) : Result α × Array Event → Result β × Array Event → Prop
 | ok {σ : Rn} {a : α} {b : β} {w1 w1' : World} {es1 es1' : Array Event} : Grow ρ σ w' w1' → A σ a b → WR P σ w1 w1' → LsR σ es1.toList es1'.toList → Frm w' w1' (Own ρ) → RunR P A ρ w' (.ok a w1, es1) (.ok b w1', es1')
 | panic {σ : Rn} {v v' : Value} {w1 w1' : World} {es1 es1' : Array Event} : Grow ρ σ w' w1' → VR σ v v' → WR P σ w1 w1' → LsR σ es1.toList es1'.toList → Frm w' w1' (Own ρ) → RunR P A ρ w' (.halt (.panic v) w1, es1) (.halt (.panic v') w1', es1')
 | dull {h : Halt} {w1 : World} {es1 : Array Event} {res' : Result β × Array Event} : dull h = true → RunR P A ρ w' (.halt h w1, es1) res'
def drew {α : Type} (w : World) (m : Nat) : Result α × Array Event → Prop
 |(.ok _ w1, _) => w1.drawn = w.drawn + m
 |(.halt _ w1, _) => w1.drawn = w.drawn + m
def RunT (P : Program) {α β : Type} (A : Rn → α → β → Prop) (ρ : Rn) (s : Sem α) (w : World) (es : Array Event) (w' : World) (res' : Result β × Array Event) : Prop :=
 ∃ m ts res, LeftRun P s w es m ts res ∧ drew w m res ∧ RunR P A ρ w' res res'
theorem RunR.back {P : Program} {α β : Type} {A : Rn → α → β → Prop} {ρ σ : Rn} {w' w1' : World} {res : Result α × Array Event} {res' : Result β × Array Event} (h : RunR P A σ w1' res res') (hg : Grow ρ σ w' w1') (hf : Frm w' w1' (Own ρ)) : RunR P A ρ w' res res' := by
 have hM : ∀ y, y < w'.heap.size → Own σ y → Own ρ y := by
  rintro y hy ⟨x, hx⟩
  rcases hg.new x y hx with k | k
  ·exact ⟨x, k⟩
  ·omega
 cases h with
 | ok g a b c d => exact .ok (hg.trans g hf.size d.size) a b c (hf.trans d hM)
 | panic g a b c d => exact .panic (hg.trans g hf.size d.size) a b c (hf.trans d hM)
 | dull h => exact .dull h
theorem noCell_dull {w : World} {a : Addr} {what : String} (h : ∀ c e, w.heap[a.block]? ≠ some (.pending c e)) : dull (w.noCell a what) = true := by
 unfold World.noCell
 split
 ·rename_i c e hh; exact absurd hh (h c e)
 ·rfl
 ·rfl
theorem WR.plain {P : Program} {ρ : Rn} {w w' : World} (h : WR P ρ w w') {x y : Nat} (hb : ρ.b x y) : ∀ c e, w.heap[x]? ≠ some (.pending c e) := by
 rcases hb with ⟨hk, _⟩ | hr
 ·obtain ⟨c, e, n, h1, _⟩ := (h.low x hk).row
  exact fun c e k => (by rw [h1] at k; cases k)
 ·obtain ⟨o, o', h1, _, ho⟩ := h.own hr
  exact fun c e k => (by rw [h1] at k; cases k; cases ho)
theorem WR.cell {P : Program} {ρ : Rn} {w w' : World} (h : WR P ρ w w') {a a' : Addr} (ha : AddrR ρ a a') {v : Value} (hv : w.cell? a = some v) : ∃ v', w'.cell? a' = some v' ∧ VR ρ v v' := by
 obtain ⟨ab, ao, as⟩ := a
 obtain ⟨ab', ao', as'⟩ := a'
 obtain ⟨hb, ho, hs⟩ := ha
 dsimp only at hb ho hs
 subst ho; subst hs
 have key : ∃ c c' e fr fr', w.heap[ab]? = some (.cells c e fr) ∧ w'.heap[ab']? = some (.cells c' e fr') ∧ AR ρ c c' := by
  rcases hb with ⟨hk, rfl⟩ | hr
  ·obtain ⟨c, e, n, h1, h2, _, _, h3⟩ := (h.low _ hk).row
   exact ⟨c, c, e, _, _, h1, h2, h3⟩
  ·obtain ⟨o, o', h1, h2, ho⟩ := h.own hr
   cases ho with
   | cells e fr hc => exact ⟨_, _, e, fr, fr, h1, h2, hc⟩
   | _ => unfold World.cell? at hv; rw [h1] at hv; cases hv
 obtain ⟨c, c', e, fr, fr', h1, h2, hc⟩ := key
 unfold World.cell? at hv ⊢
 dsimp only at hv ⊢
 rw [h1] at hv
 rw [h2]
 dsimp only at hv ⊢
 split at hv
 ·cases hv
 ·rename_i hsp
  rw [if_neg hsp]
  rcases hc.get ao' with ⟨k, _⟩ | ⟨u, u', k1, k2, k3⟩
  ·rw [k] at hv; cases hv
  ·rw [k1] at hv
   injection hv with hv
   subst hv
   exact ⟨u', k2, k3⟩
end Go.Pr
namespace Go.Pr
open Go
theorem WR.turn {P : Program} {ρ : Rn} {w w' w1 w1' : World} (h : WR P ρ w w') {x y : Nat} (hr : ρ.r x y) {o o' : Obj} (hx : w1.heap[x]? = some o) (hy : w1'.heap[y]? = some o') (ho : ObjR ρ o o')
  (h1 : ∀ z, z ≠ x → w1.heap[z]? = w.heap[z]?) (h2 : ∀ z, z ≠ y → w1'.heap[z]? = w'.heap[z]?) (hs1 : w1.heap.size = w.heap.size) (hs2 : w1'.heap.size = w'.heap.size) (ho1 : w1.os = w.os) (ho2 : w1'.os = w'.os) : WR P ρ w1 w1' where
 own := by
  intro a b hab
  by_cases e : a = x
  ·subst e
   obtain rfl := ρ.fn hab hr
   exact ⟨o, o', hx, hy, ho⟩
  ·have e2 : b ≠ y := fun e2 => by subst e2; exact e (ρ.inj hab hr)
   obtain ⟨p, p', k1, k2, k3⟩ := h.own hab
   exact ⟨p, p', (h1 a e).trans k1, (h2 b e2).trans k2, k3⟩
 low := by
  intro z hz
  have e1 : z ≠ x := fun e => by subst e; have := ρ.kb hz; have := (ρ.lo hr).1; omega
  have e2 : z ≠ y := fun e => by subst e; have := ρ.kb hz; have := (ρ.lo hr).2; omega
  obtain ⟨c, e, n, k1, k2, k3⟩ := (h.low z hz).row
  exact ⟨c, e, n, (h1 z e1).trans k1, (h2 z e2).trans k2, k3⟩
 tab := by
  intro z hz
  have e1 : z ≠ x := fun e => by subst e; have := ρ.tb hz; have := (ρ.lo hr).1; omega
  have e2 : z ≠ y := fun e => by subst e; have := ρ.tb hz; have := (ρ.lo hr).2; omega
  obtain ⟨c, e, fr, c', e', fr', k1, k2, k3⟩ := (h.tab z hz).row
  exact ⟨c, e, fr, c', e', fr', (h1 z e1).trans k1, (h2 z e2).trans k2, k3⟩
 os := ho2.trans (h.os.trans ho1.symm)
 szL := by rw [hs1]; exact h.szL
 szR := by rw [hs2]; exact h.szR
theorem Frm.turn {ρ : Rn} {w' w1' : World} {x y : Nat} (hr : ρ.r x y) (ht : w1'.tape = w'.tape) (ho : w1'.os = w'.os) (hp : w1'.output = w'.output) (hd : w1'.drawn = w'.drawn) (hs : w1'.heap.size = w'.heap.size) (h2 : ∀ z, z ≠ y → w1'.heap[z]? = w'.heap[z]?) : Frm w' w1' (Own ρ) :=
 ⟨ht, ho, hp, by omega, by omega, fun z _ hn => h2 z fun e => hn ⟨x, e ▸ hr⟩⟩
theorem heap_set_ne {w : World} {a : Addr} {v : Value} {z : Nat} (h : z ≠ a.block) : (w.setCell a v).heap[z]? = w.heap[z]? := by
 show (w.heap.modify a.block _)[z]? = _
 rw [Array.getElem?_modify, if_neg (fun e => h e.symm)]
theorem heap_set_eq {w : World} {a : Addr} {v : Value} {c : Array Value} {e : TypeId} {fr : Nat × Nat} (h : w.heap[a.block]? = some (.cells c e fr)) : (w.setCell a v).heap[a.block]? = some (.cells (if a.spot.isSome then c else c.setIfInBounds a.off v) e fr) := by
 show (w.heap.modify a.block _)[a.block]? = _
 rw [Array.getElem?_modify, if_pos rfl, h]
 rfl
theorem heap_frz_ne {w : World} {a : Addr} {n : Nat} {z : Nat} (h : z ≠ a.block) : (w.freeze a n).heap[z]? = w.heap[z]? := by
 unfold World.freeze
 split
 ·rfl
 ·show (w.heap.modify a.block _)[z]? = _
  rw [Array.getElem?_modify, if_neg (fun e => h e.symm)]
theorem freeze_rest (w : World) (a : Addr) (n : Nat) : (w.freeze a n).tape = w.tape ∧ (w.freeze a n).os = w.os ∧ (w.freeze a n).output = w.output ∧ (w.freeze a n).drawn = w.drawn ∧ (w.freeze a n).heap.size = w.heap.size := by
 unfold World.freeze
 split
 ·exact ⟨rfl, rfl, rfl, rfl, rfl⟩
 ·exact ⟨rfl, rfl, rfl, rfl, by simp⟩
def frz (a : Addr) (n : Nat) : Obj → Obj
 | .cells c elem (lo, hi) => .cells c elem (if lo == hi then (a.off, a.off + n) else (min lo a.off, max hi (a.off + n)))
 | o => o
theorem heap_frz_eq {w : World} {a : Addr} {n : Nat} {o : Obj} (h : w.heap[a.block]? = some o) : (w.freeze a n).heap[a.block]? = some (if n = 0 then o else frz a n o) := by
 unfold World.freeze
 split
 ·exact h
 ·show (w.heap.modify a.block _)[a.block]? = _
  rw [Array.getElem?_modify, if_pos rfl, h]
  cases o <;> rfl
theorem frz_R {ρ : Rn} {a a' : Addr} (ha : a'.off = a.off) (n : Nat) {o o' : Obj} (h : ObjR ρ o o') : ObjR ρ (frz a n o) (frz a' n o') := by
 cases h with
 | cells e fr c =>
  obtain ⟨lo, hi⟩ := fr
  unfold frz
  rw [ha]
  exact .cells _ _ c
 | map k es => exact .map k es
 | iter s p => exact .iter s p
 | loop l => exact .loop l
 | number b a => exact .number b a
 | view t a => exact .view t a
 | def0 => exact .def0
 | def1 l => exact .def1 l
theorem WR.store {P : Program} {ρ : Rn} {w w' : World} (h : WR P ρ w w') {a a' : Addr} (ha : AddrR ρ a a') (hr : ρ.r a.block a'.block) {v v' : Value} (hv : VR ρ v v') {u : Value} (hu : w.cell? a = some u) : WR P ρ (w.setCell a v) (w'.setCell a' v') := by
 obtain ⟨o, o', h1, h2, ho⟩ := h.own hr
 have hc : ∃ c e fr, o = .cells c e fr := by
  unfold World.cell? at hu
  rw [h1] at hu
  cases ho <;> first | exact ⟨_, _, _, rfl⟩ | cases hu
 obtain ⟨c, e, fr, rfl⟩ := hc
 cases ho with
 | cells _ _ hcc =>
  refine h.turn hr (heap_set_eq h1) (heap_set_eq h2) ?_ (fun z hz => heap_set_ne hz) (fun z hz => heap_set_ne hz) (by simp [World.setCell]) (by simp [World.setCell]) rfl rfl
  rw [ha.spot, ha.off]
  split
  ·exact .cells _ _ hcc
  ·exact .cells _ _ (hcc.set _ hv)
theorem WR.new {P : Program} {ρ : Rn} {w w' : World} (h : WR P ρ w w') {o o' : Obj} (ho : ObjR ρ o o') :
  ∃ σ, Grow ρ σ w' { w' with heap := w'.heap.push o' } ∧ σ.r w.heap.size w'.heap.size ∧ WR P σ { w with heap := w.heap.push o } { w' with heap := w'.heap.push o' } := by
 have nx : ∀ z, ¬ ρ.r w.heap.size z := fun z hz => by have := (h.lt hz).1; omega
 have ny : ∀ z, ¬ ρ.r z w'.heap.size := fun z hz => by have := (h.lt hz).2; omega
 refine ⟨ρ.add w.heap.size w'.heap.size h.szL h.szR nx ny, ⟨Rn.le_add, fun x y hr => ?_⟩, .inr ⟨rfl, rfl⟩, ?_⟩
 ·rcases hr with hr | ⟨rfl, rfl⟩
  ·exact .inl hr
  ·exact .inr ⟨Nat.le_refl _, by simp⟩
 ·refine ⟨fun {x y} hr => ?_, fun z hz => ?_, fun z hz => ?_, h.os, by have := h.szL; simp; show ρ.B ≤ _; omega, by have := h.szR; simp; show ρ.B ≤ _; omega⟩
  ·rcases hr with hr | ⟨rfl, rfl⟩
   ·obtain ⟨p, p', k1, k2, k3⟩ := h.own hr
    have l := h.lt hr
    exact ⟨p, p', (Array.getElem?_push_lt l.1).trans (by rw [← k1, Array.getElem?_eq_getElem l.1]), (Array.getElem?_push_lt l.2).trans (by rw [← k2, Array.getElem?_eq_getElem l.2]), k3.mono Rn.le_add⟩
   ·exact ⟨o, o', by simp, by simp, ho.mono Rn.le_add⟩
  ·have hz' : ρ.K z := hz
   obtain ⟨c, e, n, k1, k2, k3, k4, k5⟩ := (h.low z hz').row
   have l1 := (Array.getElem?_eq_some_iff.1 k1).1
   have l2 := (Array.getElem?_eq_some_iff.1 k2).1
   exact ⟨c, e, n, (Array.getElem?_push_lt l1).trans (by rw [← k1, Array.getElem?_eq_getElem l1]), (Array.getElem?_push_lt l2).trans (by rw [← k2, Array.getElem?_eq_getElem l2]), k3, k4, k5.mono Rn.le_add⟩
  ·have hz' : ρ.T z := hz
   obtain ⟨c, e, fr, c', e', fr', k1, k2, k3⟩ := (h.tab z hz').row
   have l1 := (Array.getElem?_eq_some_iff.1 k1).1
   have l2 := (Array.getElem?_eq_some_iff.1 k2).1
   exact ⟨c, e, fr, c', e', fr', (Array.getElem?_push_lt l1).trans (by rw [← k1, Array.getElem?_eq_getElem l1]), (Array.getElem?_push_lt l2).trans (by rw [← k2, Array.getElem?_eq_getElem l2]), k3⟩
end Go.Pr
namespace Go.Pr
open Go
section
variable {P : Program} {ρ : Rn}
theorem VR.bytes {v v' : Value} (h : VR ρ v v') : v'.bytes? = v.bytes? := by cases h <;> rfl
theorem VR.ofBytes {v v' : Value} (h : VR ρ v v') (bs : List UInt8) : v'.ofBytes bs = v.ofBytes bs := by cases h <;> rfl
theorem vr_bytes {l v : Value} {bs : List UInt8} (h : l.ofBytes bs = some v) : VR ρ v v := by
 unfold Value.ofBytes at h
 split at h
 ·split at h <;> first | (cases h; exact .bool _) | cases h
 ·split at h
  ·cases h; exact .int _ _
  ·cases h
 ·split at h
  ·cases h; exact .float _ _
  ·cases h
 ·split at h
  ·cases h; exact .complex _ _ _
  ·cases h
 ·cases h
theorem seenCells_R {c c' : Array Value} (hc : AR ρ c c') (e : TypeId) : ∀ (f x stop : Nat), seenCells P c' e f x stop = seenCells P c e f x stop
 | 0, _, _ => rfl
 | f + 1, x, stop => by
  unfold seenCells
  split
  ·rfl
  ·dsimp only
   split
   ·rfl
   ·split
    ·rfl
    ·rename_i i s _
     rcases hc.get i with ⟨h1, h2⟩ | ⟨v, v', h1, h2, h3⟩
     ·rw [h1, h2]
     ·rw [h1, h2]
      dsimp only
      rw [h3.bytes]
      split
      ·rfl
      ·rfl
      ·rw [seenCells_R hc e f]
structure RowsR (ρ : Rn) (w w' : World) (a a' : Addr) (c c' : Array Value) (e : TypeId) (fr fr' : Nat × Nat) : Prop where
 left : w.heap[a.block]? = some (.cells c e fr)
 right : w'.heap[a'.block]? = some (.cells c' e fr')
 cells : AR ρ c c'
 kind : (ρ.r a.block a'.block ∧ fr' = fr) ∨ (ρ.K a.block ∧ fr.1 = 0 ∧ c.size < fr.2)
theorem WR.rows {w w' : World} (h : WR P ρ w w') {a a' : Addr} (ha : AddrR ρ a a') {c : Array Value} {e : TypeId} {fr : Nat × Nat} (hl : w.heap[a.block]? = some (.cells c e fr)) : ∃ c' fr', RowsR ρ w w' a a' c c' e fr fr' := by
 rcases ha.b with ⟨hk, e1⟩ | hr
 ·obtain ⟨c2, e2, n, k1, k2, k3, _, k5⟩ := (h.low _ hk).row
  have k1' := k1
  rw [hl] at k1
  cases k1
  exact ⟨c, (0, 0), hl, by rw [e1]; exact k2, k5, .inr ⟨hk, rfl, k3⟩⟩
 ·obtain ⟨o, o', h1, h2, ho⟩ := h.own hr
  rw [h1] at hl
  cases hl
  cases ho with
  | cells _ _ hc => exact ⟨_, _, h1, h2, hc, .inl ⟨hr, rfl⟩⟩
theorem thr {α : Type} (s : String) : (MonadExcept.throw s : Except String α) = .error s := rfl
theorem seen_row {w : World} {b a : Addr} {u : TypeId} {q : Bool} {z : Array Value × TypeId × (Nat × Nat) × Nat × Value × List (Nat × Nat × List UInt8)} (hs : w.seen P b u a q = .ok z) : w.heap[b.block]? = some (.cells z.1 z.2.1 z.2.2.1) := by
  unfold World.seen at hs
  simp only [bind, Except.bind, pure, Except.pure, thr] at hs
  cases h : w.heap[b.block]? with
  | none => rw [h] at hs; dsimp only at hs; repeat' split at hs
            all_goals cases hs
  | some o =>
    rw [h] at hs
    cases o <;> dsimp only at hs <;> repeat' split at hs
    all_goals first | (cases hs; done) | (cases hs; rfl)
theorem seen_R {w w' : World} (h : WR P ρ w w') {b b' a a' : Addr} (hb : AddrR ρ b b') (ha : AddrR ρ a a') (u : TypeId) (q : Bool) {c : Array Value} {e : TypeId} {fr : Nat × Nat} {first : Nat} {like : Value} {l : List (Nat × Nat × List UInt8)}
  (hs : w.seen P b u a q = .ok (c, e, fr, first, like, l)) : ∃ c' fr', RowsR ρ w w' b b' c c' e fr fr' ∧ w'.seen P b' u a' q = .ok (c', e, fr', first, like, l) := by
 have hl : w.heap[b.block]? = some (.cells c e fr) := seen_row hs
 obtain ⟨c', fr', hr⟩ := h.rows hb hl
 refine ⟨c', fr', hr, ?_⟩
 unfold World.seen at hs ⊢
 simp only [bind, Except.bind, pure, Except.pure, thr, hb.spot, ha.spot, hb.off, ha.off, hl, hr.right, seenCells_R hr.cells] at hs ⊢
 repeat' split at hs
 all_goals first | (cases hs; done) | (cases hs; simp only [*]; rfl) | (cases hs; simp [*])
inductive AsR (ρ : Rn) : List Addr → List Addr → Prop
 | nil : AsR ρ [] []
 | cons {a a' : Addr} {l l' : List Addr} : AddrR ρ a a' → AsR ρ l l' → AsR ρ (a :: l) (a' :: l')
theorem asR_map {b b' : Nat} (h : ρ.b b b') : ∀ l : List (Nat × Nat × List UInt8), AsR ρ (l.map fun (i, _, _) => { block := b, off := i }) (l.map fun (i, _, _) => { block := b', off := i })
 | [] => .nil
 | _ :: l => .cons ⟨h, rfl, rfl⟩ (asR_map h l)
theorem viewLoad_R {w w' : World} (h : WR P ρ w w') {b b' a a' : Addr} (hb : AddrR ρ b b') (ha : AddrR ρ a a') (u : TypeId) (q : Bool) {v : Value} {l : List Addr}
  (hs : w.viewLoad P b u a q = .ok (v, l)) : ∃ l', w'.viewLoad P b' u a' q = .ok (v, l') ∧ VR ρ v v ∧ AsR ρ l l' := by
 unfold World.viewLoad at hs ⊢
 simp only [bind, Except.bind, pure, Except.pure, thr] at hs ⊢
 split at hs
 ·cases hs
 ·rename_i z hz
  obtain ⟨c, e, fr, first, like, m⟩ := z
  obtain ⟨c', fr', hr, hz'⟩ := seen_R h hb ha u q hz
  rw [hz']
  dsimp only at hs ⊢
  split at hs
  ·rename_i v2 hv
   cases hs
   exact ⟨_, rfl, vr_bytes hv, asR_map hb.b m⟩
  ·cases hs
def stepV (fr : Nat × Nat) (first : Nat) (bytes : List UInt8) (c : Array Value) : Nat × Nat × List UInt8 → Except String (Array Value) := fun (i, s, bs) => do
 if s < first || s + bs.length > first + bytes.length then MonadExcept.throw "memory seen as another type: a part of a cell written"
 if fr.1 ≤ i && i < fr.2 then MonadExcept.throw "a write to bytes that a string shares"
 let some old := c[i]? | MonadExcept.throw "memory seen as another type: no such cell"
 let some new := old.ofBytes ((bytes.drop (s - first)).take bs.length) | MonadExcept.throw "memory seen as another type: a bool from a byte other than 0 or 1"
 pure (c.setIfInBounds i new)
theorem stepV_R {fr : Nat × Nat} {first : Nat} {bytes : List UInt8} {c c' d : Array Value} (hc : AR ρ c c') {x : Nat × Nat × List UInt8} (h : stepV fr first bytes c x = .ok d) : ∃ d', stepV fr first bytes c' x = .ok d' ∧ AR ρ d d' := by
 obtain ⟨i, s, bs⟩ := x
 unfold stepV at h ⊢
 simp only [bind, Except.bind, pure, Except.pure, thr] at h ⊢
 rcases hc.get i with ⟨h1, h2⟩ | ⟨v, v', h1, h2, h3⟩
 ·rw [h1] at h
  repeat' split at h
  all_goals first | (cases h; done) | contradiction
 ·rw [h1] at h
  rw [h2]
  dsimp only at h ⊢
  rw [h3.ofBytes]
  repeat' split at h
  all_goals first | (cases h; done) | (cases h; simp only [*]; exact ⟨_, rfl, hc.set _ (vr_bytes ‹_›)⟩)
theorem foldV_R {fr : Nat × Nat} {first : Nat} {bytes : List UInt8} : ∀ (l : List (Nat × Nat × List UInt8)) {c c' d : Array Value}, AR ρ c c' → l.foldlM (stepV fr first bytes) c = .ok d → ∃ d', l.foldlM (stepV fr first bytes) c' = .ok d' ∧ AR ρ d d'
 | [], c, c', d, hc, h => by cases h; exact ⟨c', rfl, hc⟩
 | x :: l, c, c', d, hc, h => by
  rw [List.foldlM_cons] at h ⊢
  simp only [bind, Except.bind] at h ⊢
  split at h
  ·cases h
  ·rename_i z hz
   obtain ⟨z', h1, h2⟩ := stepV_R hc hz
   rw [h1]
   exact foldV_R l h2 h
theorem foldV_K {fr : Nat × Nat} {first : Nat} {bytes : List UInt8} {c d : Array Value} (h0 : fr.1 = 0) (h1 : c.size < fr.2) : ∀ (l : List (Nat × Nat × List UInt8)), l.foldlM (stepV fr first bytes) c = .ok d → l = []
 | [], _ => rfl
 |(i, s, bs) :: l, h => by
  rw [List.foldlM_cons] at h
  simp only [bind, Except.bind] at h
  split at h
  ·cases h
  ·rename_i z hz
   exfalso
   unfold stepV at hz
   simp only [bind, Except.bind, pure, Except.pure, thr] at hz
   repeat' split at hz
   all_goals first | (cases hz; done) | skip
   rename_i k1 _ _ k2 _ _ _
   have := (Array.getElem?_eq_some_iff.1 k2).1
   simp at k1
   have := k1 (by omega)
   omega
theorem viewStore_R {w w' : World} (h : WR P ρ w w') {b b' a a' : Addr} (hb : AddrR ρ b b') (ha : AddrR ρ a a') (u : TypeId) (q : Bool) {v v' : Value} (hv : VR ρ v v') {l : List Addr} {w1 : World}
  (hs : w.viewStore P b u a v q = .ok (w1, l)) : ∃ c d c' d' e fr fr' l', RowsR ρ w w' b b' c c' e fr fr' ∧ AR ρ d d' ∧ w1 = { w with heap := w.heap.setIfInBounds b.block (.cells d e fr) } ∧
   w'.viewStore P b' u a' v' q = .ok ({ w' with heap := w'.heap.setIfInBounds b'.block (.cells d' e fr') }, l') ∧ AsR ρ l l' ∧ (ρ.r b.block b'.block ∨ (l = [] ∧ d = c ∧ d' = c')) := by
 unfold World.viewStore at hs ⊢
 simp only [bind, Except.bind, pure, Except.pure, thr] at hs ⊢
 split at hs
 ·cases hs
 ·split at hs
  ·cases hs
  ·rename_i ht _ z hz
   obtain ⟨c, e, fr, first, like, m⟩ := z
   obtain ⟨c', fr', hr, hz'⟩ := seen_R h hb ha u q hz
   rw [if_neg ht, hz']
   dsimp only at hs ⊢
   rw [hv.bytes]
   split at hs
   ·rename_i bytes hby
    split at hs
    ·cases hs
    ·rename_i hn
     split at hs
     ·cases hs
     ·rename_i d hd
      have hd' : m.foldlM (stepV fr first bytes) c = .ok d := hd
      injection hs with hs
      simp only [Prod.mk.injEq] at hs
      obtain ⟨rfl, rfl⟩ := hs
      have hh : ∃ d', m.foldlM (stepV fr' first bytes) c' = .ok d' ∧ AR ρ d d' ∧ (ρ.r b.block b'.block ∨ (m = [] ∧ d = c ∧ d' = c')) := by
       rcases hr.kind with ⟨k1, k2⟩ | ⟨k1, k2, k3⟩
       ·subst k2
        obtain ⟨d', h1, h2⟩ := foldV_R m hr.cells hd'
        exact ⟨d', h1, h2, .inl k1⟩
       ·have hm := foldV_K k2 k3 m hd'
        subst hm
        cases hd'
        exact ⟨c', rfl, hr.cells, .inr ⟨rfl, rfl, rfl⟩⟩
      obtain ⟨d', h1, h2, h3⟩ := hh
      refine ⟨c, d, c', d', e, fr, fr', _, hr, h2, rfl, ?_, asR_map hb.b m, h3.imp_right fun ⟨x, y, z⟩ => ⟨by rw [x]; rfl, y, z⟩⟩
      rw [if_neg hn]
      split
      ·rename_i er he
       exact absurd (he.symm.trans h1) (by simp)
      ·rename_i d2 he
       have := he.symm.trans h1
       injection this with this
       rw [this]
   ·cases hs
end
end Go.Pr
namespace Go.Pr
open Go
section
variable {P : Program} {α β : Type} {A : Rn → α → β → Prop} {ρ : Rn}
theorem on_cell (w : World) (T : Nat → Question → Nat) (a : Addr) : (on w T).cell? a = w.cell? a := rfl
theorem on_frozen (w : World) (T : Nat → Question → Nat) (a : Addr) : (on w T).frozen? a = w.frozen? a := rfl
theorem farLoad_no {w : World} {a : Addr} {b : Bool} (h2 : ∀ c e, w.heap[a.block]? ≠ some (.view c e)) : w.farLoad P a b = .error (w.noCell a "load: no such cell") := by
 unfold World.farLoad
 split
 ·rename_i c e hh; exact absurd hh (h2 c e)
 ·rfl
theorem farLoad_R {w w' : World} (h : WR P ρ w w') {a a' : Addr} (ha : AddrR ρ a a') : (∃ hh, dull hh = true ∧ w.farLoad P a false = .error hh) ∨ ∃ v l l', w.farLoad P a false = .ok (v, l) ∧ w'.farLoad P a' false = .ok (v, l') ∧ VR ρ v v ∧ AsR ρ l l' ∧ w'.cell? a' = none := by
 by_cases hv : ∃ at_ u, w.heap[a.block]? = some (.view at_ u)
 ·obtain ⟨at_, u, hv⟩ := hv
  rcases ha.b with ⟨hk, _⟩ | hr
  ·obtain ⟨c, e, n, k1, _⟩ := (h.low _ hk).row
   rw [hv] at k1
   cases k1
  ·obtain ⟨o, o', h1, h2, ho⟩ := h.own hr
   rw [hv] at h1
   cases h1
   cases ho with
   | view _ hat =>
    cases hl : w.viewLoad P at_ u a false with
    | error e => exact .inl ⟨.unsupported (.unsafePointer e), rfl, by unfold World.farLoad; rw [hv]; dsimp only; rw [hl]⟩
    | ok z =>
     obtain ⟨v, l⟩ := z
     obtain ⟨l', k1, k2, k3⟩ := viewLoad_R h hat ha u false hl
     refine .inr ⟨v, l, l', by unfold World.farLoad; rw [hv]; dsimp only; rw [hl], by unfold World.farLoad; rw [h2]; dsimp only; rw [k1], k2, k3, ?_⟩
     unfold World.cell?
     rw [h2]
 ·exact .inl ⟨_, noCell_dull (h.plain ha.b), farLoad_no fun c e k => hv ⟨c, e, k⟩⟩
theorem farStore_no {w : World} {a : Addr} {v : Value} {b : Bool} (h2 : ∀ c e, w.heap[a.block]? ≠ some (.view c e)) : w.farStore P a v b = .error (w.noCell a "store: no such cell") := by
 unfold World.farStore
 split
 ·rename_i c e hh; exact absurd hh (h2 c e)
 ·rfl
theorem heap_put {w : World} {x : Nat} {q : Obj} {z : Nat} (hz : z ≠ x) : ({ w with heap := w.heap.setIfInBounds x q } : World).heap[z]? = w.heap[z]? := by
 show (w.heap.setIfInBounds x q)[z]? = _
 rw [Array.getElem?_setIfInBounds, if_neg (fun e => hz e.symm)]
theorem heap_put_eq {w : World} {x : Nat} {q : Obj} (hx : x < w.heap.size) : ({ w with heap := w.heap.setIfInBounds x q } : World).heap[x]? = some q := by
 show (w.heap.setIfInBounds x q)[x]? = _
 rw [Array.getElem?_setIfInBounds, if_pos rfl, if_pos hx]
theorem heap_put_same {w : World} {x : Nat} {q : Obj} (hx : w.heap[x]? = some q) (z : Nat) : ({ w with heap := w.heap.setIfInBounds x q } : World).heap[z]? = w.heap[z]? := by
 by_cases e : z = x
 ·subst e
  rw [heap_put_eq (Array.getElem?_eq_some_iff.1 hx).1, hx]
 ·exact heap_put e
theorem WR.same {w w' w1 w1' : World} (h : WR P ρ w w') (h1 : ∀ z : Nat, w1.heap[z]? = w.heap[z]?) (h2 : ∀ z : Nat, w1'.heap[z]? = w'.heap[z]?) (s1 : w1.heap.size = w.heap.size) (s2 : w1'.heap.size = w'.heap.size) (o1 : w1.os = w.os) (o2 : w1'.os = w'.os) : WR P ρ w1 w1' where
 own hr := by
  obtain ⟨o, o', k1, k2, k3⟩ := h.own hr
  exact ⟨o, o', (h1 _).trans k1, (h2 _).trans k2, k3⟩
 low x hx := by
  obtain ⟨c, e, n, k1, k2, k3⟩ := (h.low x hx).row
  exact ⟨c, e, n, (h1 _).trans k1, (h2 _).trans k2, k3⟩
 tab x hx := by
  obtain ⟨c, e, fr, c', e', fr', k1, k2, k3⟩ := (h.tab x hx).row
  exact ⟨c, e, fr, c', e', fr', (h1 _).trans k1, (h2 _).trans k2, k3⟩
 os := o2.trans (h.os.trans o1.symm)
 szL := by rw [s1]; exact h.szL
 szR := by rw [s2]; exact h.szR
theorem viewStore_on (w : World) (T : Nat → Question → Nat) (b : Addr) (u : TypeId) (a : Addr) (v : Value) (q : Bool) : (on w T).viewStore P b u a v q = (w.viewStore P b u a v q).map fun (w, l) => (on w T, l) := by
 have e : (on w T).seen P b u a q = w.seen P b u a q := rfl
 unfold World.viewStore
 rw [e]
 simp only [bind, Except.bind, pure, Except.pure, thr]
 repeat' split
 all_goals rfl
theorem viewStore_at {w w1 : World} {b a : Addr} {u : TypeId} {v : Value} {q : Bool} {l : List Addr} (h : w.viewStore P b u a v q = .ok (w1, l)) : ∀ x ∈ l, x.block = b.block := by
 unfold World.viewStore at h
 simp only [bind, Except.bind, pure, Except.pure, thr] at h
 repeat' split at h
 all_goals first | (cases h; done) | (cases h; intro x hx; obtain ⟨y, _, rfl⟩ := List.mem_map.1 hx; rfl)
theorem farStore_R {w w' : World} (h : WR P ρ w w') {a a' : Addr} (ha : AddrR ρ a a') {v v' : Value} (hvr : VR ρ v v') : (∃ hh, dull hh = true ∧ ∀ T, (on w T).farStore P a v false = .error hh) ∨
  ∃ w1 w1' l l', (∀ T, (on w T).farStore P a v false = .ok (on w1 T, l)) ∧ w'.farStore P a' v' false = .ok (w1', l') ∧ AsR ρ l l' ∧ (l = [] ∨ ∃ b b' : Nat, ρ.r b b' ∧ (∀ x ∈ l, x.block = b) ∧ ∀ x ∈ l', x.block = b') ∧ w'.cell? a' = none ∧ WR P ρ w1 w1' ∧ Frm w' w1' (Own ρ) ∧ w1.drawn = w.drawn := by
 by_cases hv : ∃ at_ u, w.heap[a.block]? = some (.view at_ u)
 ·obtain ⟨at_, u, hv⟩ := hv
  rcases ha.b with ⟨hk, _⟩ | hr
  ·obtain ⟨c, e, n, k1, _⟩ := (h.low _ hk).row
   rw [hv] at k1
   cases k1
  ·obtain ⟨o, o', h1, h2, ho⟩ := h.own hr
   rw [hv] at h1
   cases h1
   cases ho with
   | view _ hat =>
    cases hl : w.viewStore P at_ u a v false with
    | error e =>
     refine .inl ⟨.unsupported (.unsafePointer e), rfl, fun T => ?_⟩
     unfold World.farStore
     have hv' : (on w T).heap[a.block]? = some (.view at_ u) := hv
     rw [hv']
     dsimp only
     rw [viewStore_on, hl]
     rfl
    | ok z =>
     obtain ⟨w1, l⟩ := z
     obtain ⟨c, d, c', d', e, fr, fr', l', g1, g2, rfl, g3, g4, g5⟩ := viewStore_R h hat ha u false hvr hl
     have z1 := (Array.getElem?_eq_some_iff.1 g1.left).1
     have g3' : ∀ z, w'.viewStore P _ u a' v' false = .ok z → w'.farStore P a' v' false = .ok z := fun z k => by
      unfold World.farStore
      rw [h2]
      dsimp only
      rw [k]
     have z2 := (Array.getElem?_eq_some_iff.1 g1.right).1
     refine .inr ⟨{ w with heap := w.heap.setIfInBounds at_.block (.cells d e fr) }, { w' with heap := w'.heap.setIfInBounds _ (.cells d' e fr') }, l, l', fun T => ?_, g3' _ g3, g4, ?_, ?_, ?_, ?_, rfl⟩
     ·unfold World.farStore
      have hv' : (on w T).heap[a.block]? = some (.view at_ u) := hv
      rw [hv']
      dsimp only
      rw [viewStore_on, hl]
      rfl
     ·rcases g5 with g5 | g5
      ·exact .inr ⟨_, _, g5, viewStore_at hl, viewStore_at g3⟩
      ·exact .inl g5.1
     ·unfold World.cell?
      rw [h2]
     ·rcases g5 with g5 | ⟨_, rfl, rfl⟩
      ·obtain ⟨_, rfl⟩ := g1.kind.resolve_right fun k => by
        have := ρ.kb k.1
        have := (ρ.lo g5).1
        omega
       exact h.turn g5 (heap_put_eq z1) (heap_put_eq z2) (.cells _ _ g2) (fun z hz => heap_put hz) (fun z hz => heap_put hz) (by simp) (by simp) rfl rfl
      ·exact h.same (heap_put_same g1.left) (heap_put_same g1.right) (by simp) (by simp) rfl rfl
     ·rcases g5 with g5 | ⟨_, rfl, rfl⟩
      ·exact Frm.turn g5 rfl rfl rfl rfl (by simp) (fun z hz => heap_put hz)
      ·exact ⟨rfl, rfl, rfl, Nat.le_refl _, by simp, fun y _ _ => heap_put_same g1.right y⟩
 ·exact .inl ⟨_, noCell_dull (h.plain ha.b), fun T => farStore_no fun c e k => hv ⟨c, e, k⟩⟩
theorem LsR.app {a a' b b' : List Event} : LsR ρ a a' → LsR ρ b b' → LsR ρ (a ++ b) (a' ++ b')
 | .nil, h => h
 | .cons x y, h => .cons x (LsR.app y h)
theorem AsR.evs {wr : Bool} : ∀ {l l' : List Addr}, AsR ρ l l' → (wr = true → ∃ b b' : Nat, ρ.r b b' ∧ (∀ x ∈ l, x.block = b) ∧ ∀ x ∈ l', x.block = b') → LsR ρ (l.map fun x => (⟨.cell x, wr, false⟩ : Event)) (l'.map fun x => (⟨.cell x, wr, false⟩ : Event))
 | _, _, .nil, _ => .nil
 | _, _, .cons (a := a) (a' := a') x y, h => .cons ⟨.cell x, rfl, rfl, fun b hb hw => by
   cases hb
   obtain ⟨c, c', h1, h2, h3⟩ := h hw
   have e1 := h2 a (by simp)
   have e2 := h3 a' (by simp)
   show ρ.r a.block a'.block
   rw [e1, e2]
   exact h1, fun _ => rfl⟩ (AsR.evs y fun hw => by
   obtain ⟨c, c', h1, h2, h3⟩ := h hw
   exact ⟨c, c', h1, fun x hx => h2 x (by simp [hx]), fun x hx => h3 x (by simp [hx])⟩)
theorem LsR.arr {es es' : Array Event} (h : LsR ρ es.toList es'.toList) {wr : Bool} {l l' : List Addr} (k : AsR ρ l l') (hw : wr = true → l = [] ∨ ∃ b b' : Nat, ρ.r b b' ∧ (∀ x ∈ l, x.block = b) ∧ ∀ x ∈ l', x.block = b') :
  LsR ρ (es ++ l.toArray.map fun x => (⟨.cell x, wr, false⟩ : Event)).toList (es' ++ l'.toArray.map fun x => (⟨.cell x, wr, false⟩ : Event)).toList := by
 rw [Array.toList_append, Array.toList_append, Array.toList_map, Array.toList_map]
 cases k with
 | nil => exact h.app .nil
 | cons x y => exact h.app ((AsR.cons x y).evs fun k => (hw k).resolve_left (by simp))
theorem AddrR.frozen {w w' : World} (h : WR P ρ w w') {a a' : Addr} (ha : AddrR ρ a a') (hr : ρ.r a.block a'.block) : w'.frozen? a' = w.frozen? a := by
 obtain ⟨o, o', h1, h2, ho⟩ := h.own hr
 unfold World.frozen?
 rw [h1, h2, ha.off]
 cases ho <;> rfl
theorem AddrR.frozenK {w w' : World} (h : WR P ρ w w') {a' : Addr} (hk : ρ.K a'.block) : w'.frozen? a' = false := by
 obtain ⟨c, e1, n, k1, k2, k3⟩ := (h.low _ hk).row
 unfold World.frozen?
 rw [k2]
 simp
theorem WR.storeK {w w' : World} (h : WR P ρ w w') {a : Addr} (hk : ρ.K a.block) {u : Value} (hu : w.cell? a = some u) : w.frozen? a = true := by
 obtain ⟨c, e, n, k1, k2, k3, _⟩ := (h.low _ hk).row
 unfold World.cell? at hu
 rw [k1] at hu
 dsimp only at hu
 split at hu
 ·cases hu
 ·have hj := (Array.getElem?_eq_some_iff.1 hu).1
  unfold World.frozen?
  rw [k1]
  simp
  omega
theorem AddrR.K {a a' : Addr} (h : AddrR ρ a a') (hk : ρ.K a.block) : a'.block = a.block := by
 rcases h.b with ⟨_, e⟩ | hr
 ·exact e
 ·have := ρ.kb hk; have := (ρ.lo hr).1; omega
theorem drew_of {w w1 : World} (h : w1.drawn = w.drawn) {m : Nat} {res : Result α × Array Event} (g : drew w1 m res) : drew w m res := by
 cases res with
 | mk r es1 =>
  cases r with
  | ok a u => exact (show u.drawn = w1.drawn + m from g).trans (by rw [h])
  | halt hh u => exact (show u.drawn = w1.drawn + m from g).trans (by rw [h])
theorem sk_dead {s : Sem α} (h : Sk (fun _ => False) s) : ∀ (w : World) (es : Array Event), ∃ hh es1, dull hh = true ∧ ∀ T, s.runT P (on w T) es = onR T (.halt hh w, es1) := by
 induction h with
 | pure k => exact k.elim
 | shape _ ih =>
  intro w es
  obtain ⟨hh, es1, h1, h2⟩ := ih (w.shape? _) w es
  exact ⟨hh, es1, h1, fun T => h2 T⟩
 | frozen _ ih =>
  intro w es
  obtain ⟨hh, es1, h1, h2⟩ := ih (w.frozen? _) w es
  exact ⟨hh, es1, h1, fun T => h2 T⟩
 | room _ ih =>
  intro w es
  obtain ⟨hh, es1, h1, h2⟩ := ih w (es.push ⟨.mark .noRoom, false, true⟩)
  exact ⟨hh, es1, h1, fun T => h2 T⟩
 | halt hd => intro w es; exact ⟨_, es, hd, fun T => rfl⟩
theorem SemR.run {s : Sem α} {s' : Sem β} (h : SemR P A ρ s s') : ∀ (w w' : World) (es es' : Array Event), WR P ρ w w' → LsR ρ es.toList es'.toList → RunT P A ρ s w es w' (s'.runT P w' es') := by
 induction h with
 | pure ha =>
  intro w w' es es' hw he
  exact ⟨0, fun _ _ => 0, (.ok _ w, es), fun T _ => rfl, rfl, .ok (Grow.refl _ _) ha hw he (Frm.refl _ _)⟩
 | @load ρ a a' k k' ha _ ih =>
  intro w w' es es' hw he
  cases hv : w.cell? a with
  | some v =>
   obtain ⟨v', hv', hvr⟩ := hw.cell ha hv
   have hls : LsR ρ (es.push ⟨.cell a, false, false⟩).toList (es'.push ⟨.cell a', false, false⟩).toList := by
    rw [Array.toList_push, Array.toList_push]
    exact LsR.snoc (e := ⟨.cell a, false, false⟩) (e' := ⟨.cell a', false, false⟩) ⟨.cell ha, rfl, rfl, fun b hb hwr => (by cases hwr), fun _ => rfl⟩ he
   obtain ⟨m, ts, res, h1, h2, h3⟩ := ih v v' hvr w w' _ _ hw hls
   have e : (Sem.load .plain a' k').runT P w' es' = (k' v').runT P w' (es'.push ⟨.cell a', false, false⟩) := by
    simp only [Sem.runT, hv']
    rfl
   rw [e]
   refine ⟨m, ts, res, fun T hT => ?_, h2, h3⟩
   have := h1 T hT
   simp only [Sem.runT, on_cell, hv]
   exact this
  | none =>
   rcases farLoad_R hw ha with ⟨hh, hd, hl⟩ | ⟨v, l, l', h1, h2, h3, h4, h5⟩
   ·refine ⟨0, fun _ _ => 0, (.halt hh w, es), fun T _ => ?_, rfl, .dull hd⟩
    have hl' : (on w T).farLoad P a false = .error hh := hl
    simp only [Sem.runT, on_cell, hv]
    show (match (on w T).farLoad P a false with | .ok (v, touched) => _ | .error h => _) = _
    rw [hl']
    rfl
   ·obtain ⟨m, ts, res, g1, g2, g3⟩ := ih v v h3 w w' _ _ hw (he.arr (wr := false) h4 fun k => by cases k)
    have e : (Sem.load .plain a' k').runT P w' es' = (k' v).runT P w' (es' ++ l'.toArray.map fun x => (⟨.cell x, false, false⟩ : Event)) := by
     simp only [Sem.runT, h5]
     show (match w'.farLoad P a' false with | .ok (v, touched) => _ | .error h => _) = _
     rw [h2]
     rfl
    rw [e]
    refine ⟨m, ts, res, fun T hT => ?_, g2, g3⟩
    have := g1 T hT
    have hl' : (on w T).farLoad P a false = .ok (v, l) := h1
    simp only [Sem.runT, on_cell, hv]
    show (match (on w T).farLoad P a false with | .ok (v, touched) => _ | .error h => _) = _
    rw [hl']
    exact this
 | @loadT ρ a k k' ha _ ih =>
  intro w w' es es' hw he
  obtain ⟨c, e, fr, c', e', fr', k1, k2, k3⟩ := (hw.tab _ ha).row
  cases hv : w.cell? a with
  | some v =>
   have hv' : w'.cell? a = some v ∧ Pl v := by
    unfold World.cell? at hv ⊢
    rw [k1] at hv
    rw [k2]
    dsimp only at hv ⊢
    split at hv
    ·cases hv
    ·rename_i hs
     rw [if_neg hs]
     exact k3 _ _ hv
   have hls : LsR ρ (es.push ⟨.cell a, false, false⟩).toList (es'.push ⟨.cell a, false, false⟩).toList := by
    rw [Array.toList_push, Array.toList_push]
    exact LsR.snoc (e := ⟨.cell a, false, false⟩) (e' := ⟨.cell a, false, false⟩) ⟨.tab ha, rfl, rfl, fun b hb hwr => (by cases hwr), fun _ => rfl⟩ he
   obtain ⟨m, ts, res, h1, h2, h3⟩ := ih v hv'.2 w w' _ _ hw hls
   have e : (Sem.load .plain a k').runT P w' es' = (k' v).runT P w' (es'.push ⟨.cell a, false, false⟩) := by
    simp only [Sem.runT, hv'.1]
    rfl
   rw [e]
   refine ⟨m, ts, res, fun T hT => ?_, h2, h3⟩
   have := h1 T hT
   simp only [Sem.runT, on_cell, hv]
   exact this
  | none =>
   have hl : w.farLoad P a false = .error (w.noCell a "load: no such cell") := farLoad_no fun c e k => by rw [k1] at k; cases k
   have hd : dull (w.noCell a "load: no such cell") = true := by
    unfold World.noCell
    rw [k1]
    rfl
   refine ⟨0, fun _ _ => 0, (.halt (w.noCell a "load: no such cell") w, es), fun T _ => ?_, rfl, .dull hd⟩
   have hl' : (on w T).farLoad P a false = .error (w.noCell a "load: no such cell") := hl
   simp only [Sem.runT, on_cell, hv]
   show (match (on w T).farLoad P a false with | .ok (v, touched) => _ | .error h => _) = _
   rw [hl']
   rfl
 | @store ρ a a' v v' k k' ha hvr _ ih =>
  intro w w' es es' hw he
  by_cases hag : (∃ c, v = .agg c) ∨ ∃ c, v = .tuple c
  ·refine ⟨0, fun _ _ => 0, (.halt (.stuck "store: not the value of one cell") w, es), fun T _ => ?_, rfl, .dull rfl⟩
   rcases hag with ⟨c, rfl⟩ | ⟨c, rfl⟩ <;> rfl
  ·have hag' : ¬ ((∃ c, v' = .agg c) ∨ ∃ c, v' = .tuple c) := by
    rintro (⟨c, rfl⟩ | ⟨c, rfl⟩) <;> cases hvr <;> first | exact hag (.inl ⟨_, rfl⟩) | exact hag (.inr ⟨_, rfl⟩)
   have hst : ∀ (W : World) (E : Array Event), (Sem.store .plain a v k).runT P W E = match W.cell? a with
    | some _ => if W.frozen? a then (.halt (.unsupported (.unsafePointer "a write to bytes that a string shares")) W, E) else k.runT P (W.setCell a v) (E.push ⟨.cell a, true, false⟩)
    | none => match W.farStore P a v false with
     | .ok (w, touched) => k.runT P w (E ++ touched.toArray.map (⟨.cell ·, true, false⟩))
     | .error h => (.halt h W, E) := by
    intro W E
    cases v <;> first | rfl | exact absurd (.inl ⟨_, rfl⟩) hag | exact absurd (.inr ⟨_, rfl⟩) hag
   have hst' : ∀ (W : World) (E : Array Event), (Sem.store .plain a' v' k').runT P W E = match W.cell? a' with
    | some _ => if W.frozen? a' then (.halt (.unsupported (.unsafePointer "a write to bytes that a string shares")) W, E) else k'.runT P (W.setCell a' v') (E.push ⟨.cell a', true, false⟩)
    | none => match W.farStore P a' v' false with
     | .ok (w, touched) => k'.runT P w (E ++ touched.toArray.map (⟨.cell ·, true, false⟩))
     | .error h => (.halt h W, E) := by
    intro W E
    cases v' <;> first | rfl | exact absurd (.inl ⟨_, rfl⟩) hag' | exact absurd (.inr ⟨_, rfl⟩) hag'
   cases hu : w.cell? a with
   | none =>
    rcases farStore_R hw ha hvr with ⟨hh, hd, hl⟩ | ⟨w1, w1', l, l', h1, h2, h3, h4, h5, h6, h7, h8⟩
    ·refine ⟨0, fun _ _ => 0, (.halt hh w, es), fun T _ => ?_, rfl, .dull hd⟩
     rw [hst, on_cell, hu, hl]
     rfl
    ·obtain ⟨m, ts, res, g1, g2, g3⟩ := ih w1 w1' _ _ h6 (he.arr (wr := true) h3 fun _ => h4)
     rw [hst', h5, h2]
     refine ⟨m, ts, res, fun T hT => ?_, drew_of h8 g2, g3.back ⟨Rn.Le.refl _, fun _ _ k => .inl k⟩ h7⟩
     rw [hst, on_cell, hu, h1 T]
     exact g1 T (fun i hi => by rw [h8]; exact hT i hi)
   | some u =>
    by_cases hf : w.frozen? a = true
    ·refine ⟨0, fun _ _ => 0, (.halt (.unsupported (.unsafePointer "a write to bytes that a string shares")) w, es), fun T _ => ?_, rfl, .dull rfl⟩
     rw [hst, on_cell, hu, on_frozen, hf]
     rfl
    ·have hr : ρ.r a.block a'.block := by
      rcases ha.b with ⟨hk, _⟩ | hr
      ·exact absurd (hw.storeK hk hu) hf
      ·exact hr
     obtain ⟨u', hu', _⟩ := hw.cell ha hu
     have hf' : w'.frozen? a' = false := by rw [AddrR.frozen hw ha hr]; simpa using hf
     have hls : LsR ρ (es.push ⟨.cell a, true, false⟩).toList (es'.push ⟨.cell a', true, false⟩).toList := by
      rw [Array.toList_push, Array.toList_push]
      exact LsR.snoc (e := ⟨.cell a, true, false⟩) (e' := ⟨.cell a', true, false⟩) ⟨.cell ha, rfl, rfl, fun b hb _ => (by cases hb; exact hr), fun _ => rfl⟩ he
     obtain ⟨m, ts, res, h1, h2, h3⟩ := ih (w.setCell a v) (w'.setCell a' v') _ _ (hw.store ha hr hvr hu) hls
     have hfr : Frm w' (w'.setCell a' v') (Own ρ) := Frm.turn hr rfl rfl rfl rfl (by simp [World.setCell]) (fun z hz => heap_set_ne hz)
     have e : (Sem.store .plain a' v' k').runT P w' es' = k'.runT P (w'.setCell a' v') (es'.push ⟨.cell a', true, false⟩) := by
      rw [hst', hu', hf']
      rfl
     rw [e]
     refine ⟨m, ts, res, fun T hT => ?_, h2, h3.back ⟨Rn.Le.refl _, fun _ _ k => .inl k⟩ hfr⟩
     rw [hst, on_cell, hu, on_frozen]
     simp only [hf]
     exact h1 T hT
 | @new ρ o o' k k' ho _ ih =>
  intro w w' es es' hw he
  obtain ⟨σ, hg, hr, hw2⟩ := hw.new ho
  obtain ⟨m, ts, res, h1, h2, h3⟩ := ih σ _ _ hg.le hr _ _ _ _ hw2 (he.mono hg.le)
  refine ⟨m, ts, res, fun T hT => h1 T hT, h2, h3.back hg ⟨rfl, rfl, rfl, Nat.le_refl _, by simp, fun y hy _ => by
   show (w'.heap.push o')[y]? = _
   rw [Array.getElem?_push_lt hy, ← Array.getElem?_eq_getElem hy]⟩⟩
 | @shape ρ r r' k k' hb _ ih =>
  intro w w' es es' hw he
  have hk1 : w.shape? r = w'.shape? r' := by
   rcases hb with ⟨hk, rfl⟩ | hr
   ·obtain ⟨c, e, n, k1, k2, _⟩ := (hw.low _ hk).row
    unfold World.shape?
    rw [k1, k2]
   ·obtain ⟨o, o', h1, h2, ho⟩ := hw.own hr
    unfold World.shape?
    rw [h1, h2]
    cases ho <;> first | rfl | (rename_i hc; simp [hc.size])
  have hk2 : ρ.K r → ∃ t n, w.shape? r = some (t, n) ∧ bare P t := fun hk => by
   obtain ⟨c, e, n, k1, _, _, k4, _⟩ := (hw.low _ hk).row
   exact ⟨e, c.size, by unfold World.shape?; rw [k1], k4⟩
  obtain ⟨m, ts, res, h1, h2, h3⟩ := ih _ hk2 w w' es es' hw he
  refine ⟨m, ts, res, fun T hT => h1 T hT, h2, ?_⟩
  simp only [Sem.runT]
  rw [← hk1]
  exact h3
 | shapeQ _ ih =>
  intro w w' es es' hw he
  exact ih _ w w' es es' hw he
 | @frozenQ ρ s a' k' hk _ ih =>
  intro w w' es es' hw he
  have := ih w w' es es' hw he
  simp only [Sem.runT]
  rw [AddrR.frozenK hw hk]
  exact this
 | @frozen ρ a a' k k' ha _ ih =>
  intro w w' es es' hw he
  obtain ⟨m, ts, res, h1, h2, h3⟩ := ih _ _ (fun hr => (AddrR.frozen hw ha hr).symm) (fun hk => AddrR.frozenK hw (by rw [ha.K hk]; exact hk)) w w' es es' hw he
  exact ⟨m, ts, res, fun T hT => h1 T hT, h2, h3⟩
 | @freeze ρ a a' n k k' ha hr _ ih =>
  intro w w' es es' hw he
  obtain ⟨o, o', h1, h2, ho⟩ := hw.own hr
  have f1 := freeze_rest w a n
  have f2 := freeze_rest w' a' n
  have hw2 : WR P ρ (w.freeze a n) (w'.freeze a' n) := by
   refine hw.turn hr (heap_frz_eq h1) (heap_frz_eq h2) ?_ (fun z hz => heap_frz_ne hz) (fun z hz => heap_frz_ne hz) f1.2.2.2.2 f2.2.2.2.2 f1.2.1 f2.2.1
   split
   ·exact ho
   ·exact frz_R ha.off n ho
  obtain ⟨m, ts, res, g1, g2, g3⟩ := ih _ _ es es' hw2 he
  refine ⟨m, ts, res, fun T hT => ?_, ?_, g3.back ⟨Rn.Le.refl _, fun _ _ k => .inl k⟩ (Frm.turn hr f2.1 f2.2.1 f2.2.2.1 f2.2.2.2.1 f2.2.2.2.2 (fun z hz => heap_frz_ne hz))⟩
  ·have e : (on w T).freeze a n = on (w.freeze a n) T := by
    unfold World.freeze
    split <;> rfl
   simp only [Sem.runT, e]
   exact g1 T (fun i hi => by rw [f1.2.2.2.1]; exact hT i hi)
  ·exact drew_of f1.2.2.2.1 g2
 | @getObj ρ r r' k k' hb _ ih =>
  intro w w' es es' hw he
  rcases hb with ⟨hk, rfl⟩ | hr
  ·obtain ⟨c, e1, n, k1, _⟩ := (hw.low _ hk).row
   refine ⟨0, fun _ _ => 0, (.halt (.stuck "getObj: a row of cells") w, es), fun T _ => ?_, rfl, .dull rfl⟩
   have : (on w T).heap[r']? = some (.cells c e1 (0, n)) := k1
   simp only [Sem.runT, this]
   rfl
  ·obtain ⟨o, o', h1, h2, ho⟩ := hw.own hr
   by_cases hc : ∃ c e fr, o = .cells c e fr
   ·obtain ⟨c, e, fr, rfl⟩ := hc
    refine ⟨0, fun _ _ => 0, (.halt (.stuck "getObj: a row of cells") w, es), fun T _ => ?_, rfl, .dull rfl⟩
    have : (on w T).heap[r]? = some (.cells c e fr) := h1
    simp only [Sem.runT, this]
    rfl
   ·have hch : o.isChan = false ∧ o'.isChan = false := by cases ho <;> exact ⟨rfl, rfl⟩
    have hc' : ¬ ∃ c e fr, o' = .cells c e fr := by
     rintro ⟨c, e, fr, rfl⟩
     cases ho
     exact hc ⟨_, _, _, rfl⟩
    have hL : ∀ (W : World) (E : Array Event), W.heap[r]? = some o → (Sem.getObj r k).runT P W E = (k o).runT P W (E.push ⟨.obj r, false, false⟩) := by
     intro W E hh
     simp only [Sem.runT, hh]
     cases o <;> first | rfl | exact absurd ⟨_, _, _, rfl⟩ hc | cases ho
    have hR : ∀ (W : World) (E : Array Event), W.heap[r']? = some o' → (Sem.getObj r' k').runT P W E = (k' o').runT P W (E.push ⟨.obj r', false, false⟩) := by
     intro W E hh
     simp only [Sem.runT, hh]
     cases o' <;> first | rfl | exact absurd ⟨_, _, _, rfl⟩ hc' | cases ho
    have hls : LsR ρ (es.push ⟨.obj r, false, false⟩).toList (es'.push ⟨.obj r', false, false⟩).toList := by
     rw [Array.toList_push, Array.toList_push]
     exact LsR.snoc (e := ⟨.obj r, false, false⟩) (e' := ⟨.obj r', false, false⟩) ⟨.obj hr, rfl, rfl, fun b hb _ => (by cases hb), fun _ => rfl⟩ he
    obtain ⟨m, ts, res, g1, g2, g3⟩ := ih o o' ho w w' _ _ hw hls
    rw [hR _ _ h2]
    exact ⟨m, ts, res, fun T hT => by rw [hL _ _ (show (on w T).heap[r]? = some o from h1)]; exact g1 T hT, g2, g3⟩
 | @setObj ρ r r' o o' k k' hb ho _ ih =>
  intro w w' es es' hw he
  rcases hb with ⟨hk, rfl⟩ | hr
  ·obtain ⟨c, e1, n, k1, _⟩ := (hw.low _ hk).row
   refine ⟨0, fun _ _ => 0, (.halt (.stuck "setObj: a row of cells") w, es), fun T _ => ?_, rfl, .dull rfl⟩
   have : (on w T).heap[r']? = some (.cells c e1 (0, n)) := k1
   simp only [Sem.runT, this]
   rfl
  ·obtain ⟨p, p', h1, h2, hp⟩ := hw.own hr
   by_cases hc : ∃ c e fr, p = .cells c e fr
   ·obtain ⟨c, e, fr, rfl⟩ := hc
    refine ⟨0, fun _ _ => 0, (.halt (.stuck "setObj: a row of cells") w, es), fun T _ => ?_, rfl, .dull rfl⟩
    have : (on w T).heap[r]? = some (.cells c e fr) := h1
    simp only [Sem.runT, this]
    rfl
   ·have hch : o.isChan = false ∧ o'.isChan = false := by cases ho <;> exact ⟨rfl, rfl⟩
    have hc' : ¬ ∃ c e fr, p' = .cells c e fr := by
     rintro ⟨c, e, fr, rfl⟩
     cases hp
     exact hc ⟨_, _, _, rfl⟩
    have hL : ∀ (W : World) (E : Array Event), W.heap[r]? = some p → (Sem.setObj r o k).runT P W E = k.runT P { W with heap := W.heap.setIfInBounds r o } (E.push ⟨.obj r, true, false⟩) := by
     intro W E hh
     simp only [Sem.runT, hh, hch.1]
     cases p <;> first | rfl | exact absurd ⟨_, _, _, rfl⟩ hc
    have hR : ∀ (W : World) (E : Array Event), W.heap[r']? = some p' → (Sem.setObj r' o' k').runT P W E = k'.runT P { W with heap := W.heap.setIfInBounds r' o' } (E.push ⟨.obj r', true, false⟩) := by
     intro W E hh
     simp only [Sem.runT, hh, hch.2]
     cases p' <;> first | rfl | exact absurd ⟨_, _, _, rfl⟩ hc'
    have hls : LsR ρ (es.push ⟨.obj r, true, false⟩).toList (es'.push ⟨.obj r', true, false⟩).toList := by
     rw [Array.toList_push, Array.toList_push]
     exact LsR.snoc (e := ⟨.obj r, true, false⟩) (e' := ⟨.obj r', true, false⟩) ⟨.obj hr, rfl, rfl, fun b hb _ => (by cases hb), fun _ => rfl⟩ he
    have l := hw.lt hr
    have hne : ∀ (W : World) (x : Nat) (q : Obj) (z : Nat), z ≠ x → ({ W with heap := W.heap.setIfInBounds x q } : World).heap[z]? = W.heap[z]? := fun W x q z hz => by
     show (W.heap.setIfInBounds x q)[z]? = _
     rw [Array.getElem?_setIfInBounds, if_neg (fun e => hz e.symm)]
    have heq : ∀ (W : World) (x : Nat) (q : Obj), x < W.heap.size → ({ W with heap := W.heap.setIfInBounds x q } : World).heap[x]? = some q := fun W x q hx => by
     show (W.heap.setIfInBounds x q)[x]? = _
     rw [Array.getElem?_setIfInBounds, if_pos rfl, if_pos hx]
    have hw2 : WR P ρ { w with heap := w.heap.setIfInBounds r o } { w' with heap := w'.heap.setIfInBounds r' o' } :=
     hw.turn hr (heq _ _ _ l.1) (heq _ _ _ l.2) ho (fun z hz => hne _ _ _ z hz) (fun z hz => hne _ _ _ z hz) (by simp) (by simp) rfl rfl
    obtain ⟨m, ts, res, g1, g2, g3⟩ := ih _ _ _ _ hw2 hls
    rw [hR _ _ h2]
    refine ⟨m, ts, res, fun T hT => ?_, g2, g3.back ⟨Rn.Le.refl _, fun _ _ k => .inl k⟩ (Frm.turn hr rfl rfl rfl rfl (by simp) (fun z hz => hne _ _ _ z hz))⟩
    rw [hL _ _ (show (on w T).heap[r]? = some p from h1)]
    exact g1 T hT
 | @choose ρ q k k' _ ih =>
  intro w w' es es' hw he
  cases hq : q.forced with
  | true =>
   obtain ⟨m, ts, res, g1, g2, g3⟩ := ih 0 w w' es es' hw he
   refine ⟨m, ts, res, fun T hT => ?_, g2, ?_⟩
   ·simp only [Sem.runT, hq, if_true]
    exact g1 T hT
   ·simp only [Sem.runT, hq, if_true]
    exact g3
  | false =>
   have hw2 : WR P ρ { w with drawn := w.drawn + 1 } { w' with drawn := w'.drawn + 1 } := ⟨hw.own, fun x hx => ⟨(hw.low x hx).row⟩, fun x hx => ⟨(hw.tab x hx).row⟩, hw.os, hw.szL, hw.szR⟩
   obtain ⟨m, ts, res, g1, g2, g3⟩ := ih (q.cut (w'.tape w'.drawn q)) _ _ es es' hw2 he
   refine ⟨m + 1, fun i => if i = 0 then w'.tape w'.drawn else ts (i - 1), res, fun T hT => ?_, ?_, ?_⟩
   ·have h0 := hT 0 (by omega)
    rw [Nat.add_zero] at h0
    have e : (on w T).tape (on w T).drawn = w'.tape w'.drawn := h0
    simp only [Sem.runT, hq, e]
    refine g1 T fun i hi => ?_
    have := hT (i + 1) (by omega)
    dsimp only at this
    rw [if_neg (by omega), Nat.add_sub_cancel] at this
    show T (w.drawn + 1 + i) = _
    rw [← this]
    congr 1
    omega
   ·cases res with
    | mk r es1 =>
     cases r with
     | ok a w1 => have : w1.drawn = w.drawn + 1 + m := g2; show w1.drawn = _; omega
     | halt h w1 => have : w1.drawn = w.drawn + 1 + m := g2; show w1.drawn = _; omega
   ·simp only [Sem.runT, hq]
    exact g3.back ⟨Rn.Le.refl _, fun _ _ k => .inl k⟩ ⟨rfl, rfl, rfl, Nat.le_succ _, Nat.le_refl _, fun _ _ _ => rfl⟩
 | @chooseL ρ q k c n hq hn _ ih =>
  intro w w' es es' hw he
  obtain ⟨t, ht⟩ := hn
  have hw2 : WR P ρ { w with drawn := w.drawn + 1 } w' := ⟨hw.own, fun x hx => ⟨(hw.low x hx).row⟩, fun x hx => ⟨(hw.tab x hx).row⟩, hw.os, hw.szL, hw.szR⟩
  obtain ⟨m, ts, res, g1, g2, g3⟩ := ih _ w' es es' hw2 he
  refine ⟨m + 1, fun i => if i = 0 then (fun _ => t) else ts (i - 1), res, fun T hT => ?_, ?_, g3⟩
  ·have h0 := hT 0 (by omega)
   rw [Nat.add_zero] at h0
   have e : (on w T).tape (on w T).drawn = fun _ => t := h0
   simp only [Sem.runT, hq, e, ht]
   refine g1 T fun i hi => ?_
   have := hT (i + 1) (by omega)
   dsimp only at this
   rw [if_neg (by omega), Nat.add_sub_cancel] at this
   show T (w.drawn + 1 + i) = _
   rw [← this]
   congr 1
   omega
  ·cases res with
   | mk r es1 =>
    cases r with
    | ok a w1 => have : w1.drawn = w.drawn + 1 + m := g2; show w1.drawn = _; omega
    | halt h w1 => have : w1.drawn = w.drawn + 1 + m := g2; show w1.drawn = _; omega
 | @program ρ k k' _ ih =>
  intro w w' es es' hw he
  obtain ⟨m, ts, res, h1, h2, h3⟩ := ih w w' es es' hw he
  exact ⟨m, ts, res, fun T hT => h1 T hT, h2, h3⟩
 | @ext ρ f k k' _ ih =>
  intro w w' es es' hw he
  obtain ⟨m, ts, res, h1, h2, h3⟩ := ih w w' (es.push ⟨.mark (.extern f), false, true⟩) (es'.push ⟨.mark (.extern f), false, true⟩) hw (by
   rw [Array.toList_push, Array.toList_push]
   exact LsR.snoc (e := ⟨.mark (.extern f), false, true⟩) (e' := ⟨.mark (.extern f), false, true⟩) ⟨.ext f, rfl, rfl, fun b hb _ => (by cases hb), fun h => (by cases h)⟩ he)
  exact ⟨m, ts, res, fun T hT => h1 T hT, h2, h3⟩
 | @room ρ k k' _ ih =>
  intro w w' es es' hw he
  obtain ⟨m, ts, res, h1, h2, h3⟩ := ih w w' (es.push ⟨.mark .noRoom, false, true⟩) (es'.push ⟨.mark .noRoom, false, true⟩) hw (by
   rw [Array.toList_push, Array.toList_push]
   exact LsR.snoc (e := ⟨.mark .noRoom, false, true⟩) (e' := ⟨.mark .noRoom, false, true⟩) ⟨.room, rfl, rfl, fun b hb _ => (by cases hb), fun h => (by cases h)⟩ he)
  exact ⟨m, ts, res, fun T hT => h1 T hT, h2, h3⟩
 | @env ρ k k' _ ih =>
  intro w w' es es' hw he
  have e : ∀ W : World, W.sys .env = (.strings W.os.env, W) := fun W => rfl
  obtain ⟨m, ts, res, h1, h2, h3⟩ := ih (.strings w.os.env) w w' (es.push ⟨.output, true, false⟩) (es'.push ⟨.output, true, false⟩) hw (by
   rw [Array.toList_push, Array.toList_push]
   exact LsR.snoc (e := ⟨.output, true, false⟩) (e' := ⟨.output, true, false⟩) ⟨.out, rfl, rfl, fun b hb _ => (by cases hb), fun h => (by cases h)⟩ he)
  refine ⟨m, ts, res, fun T hT => ?_, h2, ?_⟩
  ·simp only [Sem.runT, e]
   exact h1 T hT
  ·simp only [Sem.runT, e, hw.os]
   exact h3
 | dead hd =>
  intro w w' es es' hw he
  obtain ⟨h, es1, h1, h2⟩ := sk_dead (P := P) hd w es
  exact ⟨0, fun _ _ => 0, (.halt h w, es1), fun T _ => h2 T, rfl, .dull h1⟩
 | @panic ρ v v' hv =>
  intro w w' es es' hw he
  exact ⟨0, fun _ _ => 0, (.halt (.panic v) w, es), fun T _ => rfl, rfl, .panic (Grow.refl _ _) hv hw he (Frm.refl _ _)⟩
 | @halt ρ h c hd =>
  intro w w' es es' hw he
  exact ⟨0, fun _ _ => 0, (.halt h w, es), fun T _ => rfl, rfl, .dull hd⟩
end
end Go.Pr
namespace Go.Pr
open Go
structure PF (P : Program) : Prop where
 zero : ∀ ρ t i v, P.info? t = some i → i.zero = some v → VR ρ v v
structure KF (P : Program) (ρ : Rn) : Prop where
 handle : ρ.K P.globals.size
 max : ∀ g, P.globals.findIdx? (·.name == "internal/bytealg.MaxLen") = some g → ρ.K g
theorem KF.mono {P : Program} {ρ σ : Rn} (h : KF P ρ) (l : ρ.Le σ) : KF P σ := ⟨by rw [l.K]; exact h.handle, fun g hg => by rw [l.K]; exact h.max g hg⟩
abbrev EqR (α : Type) : Rn → α → α → Prop := fun _ a b => a = b
abbrev VRr : Rn → Value → Value → Prop := VR
section
variable {P : Program} {α β γ δ : Type} {A : Rn → α → β → Prop} {C : Rn → γ → δ → Prop} {ρ : Rn}
theorem R_bind {s : Sem α} {s' : Sem β} {f : α → Sem γ} {f' : β → Sem δ} (h : SemR P A ρ s s') (hf : ∀ σ a b, ρ.Le σ → A σ a b → SemR P C σ (f a) (f' b)) : SemR P C ρ (s >>= f) (s' >>= f') := SemR.bind h hf
theorem R_mono {C : Rn → α → β → Prop} {s : Sem α} {s' : Sem β} (h : SemR P A ρ s s') (hc : ∀ σ a b, ρ.Le σ → A σ a b → C σ a b) : SemR P C ρ s s' := by
 have e1 : s.bind Sem.pure = s := by
  clear h
  induction s <;> simp_all [Sem.bind]
  funext b
  cases b <;> simp_all
 have e2 : s'.bind Sem.pure = s' := by
  clear h
  induction s' <;> simp_all [Sem.bind]
  funext b
  cases b <;> simp_all
 rw [← e1, ← e2]
 exact SemR.bind h fun σ a b l k => .pure (hc σ a b l k)
theorem R_pure {a : α} {b : β} (h : A ρ a b) : SemR P A ρ (Pure.pure a) (Pure.pure b) := .pure h
theorem R_stuck {why : String} {c : Sem β} : SemR P A ρ (stuck why) c := .halt rfl
theorem R_unsup {u : Unsupported} {c : Sem β} (h : dull (.unsupported u) = true) : SemR P A ρ (unsupported u) c := .halt h
theorem R_panic {v v' : Value} (h : VR ρ v v') : SemR P A ρ (goPanic v) (goPanic v') := .panic h
theorem R_prog : SemR P (fun _ a b => a = P ∧ b = P) ρ Go.program Go.program := .program (.pure ⟨rfl, rfl⟩)
theorem R_choose (q : Question) : SemR P (EqR Nat) ρ (Go.choose q) (Go.choose q) := .choose fun _ => .pure rfl
theorem R_ifB {b b' : Bool} {x y : Sem α} {x' y' : Sem β} (h : b = b') (h1 : SemR P A ρ x x') (h2 : SemR P A ρ y y') : SemR P A ρ (if b then x else y) (if b' then x' else y') := by
 subst h
 split
 ·exact h1
 ·exact h2
theorem R_if {p p' : Prop} [Decidable p] [Decidable p'] {x y : Sem α} {x' y' : Sem β} (h : p ↔ p') (h1 : p → SemR P A ρ x x') (h2 : ¬ p → SemR P A ρ y y') : SemR P A ρ (if p then x else y) (if p' then x' else y') := by
 by_cases hp : p
 ·rw [if_pos hp, if_pos (h.1 hp)]; exact h1 hp
 ·rw [if_neg hp, if_neg (fun k => hp (h.2 k))]; exact h2 hp
theorem R_typeInfo (t : TypeId) : SemR P (fun _ i j => i = j ∧ P.info? t = some i) ρ (typeInfo t) (typeInfo t) := by
 unfold Go.typeInfo
 refine R_bind R_prog fun σ a b _ h => ?_
 obtain ⟨rfl, rfl⟩ := h
 split
 ·rename_i i hi
  exact R_pure ⟨rfl, hi⟩
 ·exact R_stuck
theorem R_underlying (t : TypeId) : SemR P (EqR TypeDesc) ρ (underlying t) (underlying t) := by
 unfold Go.underlying
 refine R_bind R_prog fun σ a b _ h => ?_
 obtain ⟨rfl, rfl⟩ := h
 split
 ·exact R_pure rfl
 ·exact R_stuck
theorem R_zeroValue (hP : PF P) (t : TypeId) : SemR P VRr ρ (zeroValue t) (zeroValue t) := by
 unfold Go.zeroValue
 refine R_bind (R_typeInfo t) fun σ a b _ h => ?_
 obtain ⟨rfl, hi⟩ := h
 split
 ·rename_i v hv
  exact R_pure (hP.zero σ t _ v hi hv)
 ·exact R_unsup rfl
theorem R_sizeOf (t : TypeId) : SemR P (EqR Nat) ρ (sizeOf t) (sizeOf t) := by
 unfold Go.sizeOf
 refine R_bind (R_typeInfo t) fun σ a b _ h => ?_
 obtain ⟨rfl, hi⟩ := h
 exact R_pure rfl
theorem R_isAgg (t : TypeId) : SemR P (EqR Bool) ρ (isAgg t) (isAgg t) := by
 unfold Go.isAgg
 refine R_bind (R_underlying t) fun σ a b _ h => ?_
 subst h
 split <;> exact R_pure rfl
theorem R_elemOf (t : TypeId) : SemR P (EqR TypeId) ρ (elemOf t) (elemOf t) := by
 unfold Go.elemOf
 refine R_bind (R_underlying t) fun σ a b _ h => ?_
 subst h
 split
 ·exact R_pure rfl
 ·exact R_stuck
theorem R_load {a a' : Addr} (h : AddrR ρ a a') : SemR P VRr ρ (Go.load a) (Go.load a') := .load h fun _ _ hv => .pure hv
theorem R_store {a a' : Addr} {v v' : Value} (h : AddrR ρ a a') (hv : VR ρ v v') : SemR P (fun _ _ _ => True) ρ (Go.store a v) (Go.store a' v') := .store h hv (.pure trivial)
theorem R_new {o o' : Obj} (h : ObjR ρ o o') : SemR P (fun σ r r' => σ.r r r') ρ (newObj o) (newObj o') := .new h fun _ _ _ _ hr => .pure hr
theorem AddrR.add {a a' : Addr} (h : AddrR ρ a a') (n : Nat) : AddrR ρ (a.add n) (a'.add n) := by
 unfold Addr.add
 split
 ·exact h
 ·exact ⟨h.b, by show a'.off + n = a.off + n; rw [h.off], rfl⟩
theorem R_loadCellsFrom : ∀ (n i : Nat) {ρ : Rn} {a a' : Addr} {acc acc' : Array Value}, AddrR ρ a a' → AR ρ acc acc' → SemR P AR ρ (loadCellsFrom a i n acc) (loadCellsFrom a' i n acc')
 | 0, _, _, _, _, _, _, _, h => R_pure h
 | n + 1, i, _, _, _, _, _, ha, h => R_bind (R_load (ha.add i)) fun _ _ _ l hv => R_loadCellsFrom n (i + 1) (ha.mono l) ((h.mono l).push hv)
theorem R_loadCells {a a' : Addr} (n : Nat) (h : AddrR ρ a a') : SemR P AR ρ (loadCells a n) (loadCells a' n) := R_loadCellsFrom n 0 h LR.nil
theorem R_storeCells : ∀ {l l' : List Value} {ρ : Rn} {a a' : Addr} (i : Nat), AddrR ρ a a' → LR ρ l l' → SemR P (fun _ _ _ => True) ρ (storeCells a l i) (storeCells a' l' i)
 | _, _, _, _, _, _, _, .nil => R_pure trivial
 | _, _, _, _, _, i, ha, .cons x y => R_bind (R_store (ha.add i) x) fun _ _ _ l _ => R_storeCells (i + 1) (ha.mono l) (LR.mono l y)
theorem R_loadVar (t : TypeId) {a a' : Addr} (h : AddrR ρ a a') : SemR P VRr ρ (loadVar t a) (loadVar t a') := by
 unfold Go.loadVar
 refine R_bind (R_isAgg t) fun σ b b' l hb => R_ifB hb ?_ (R_load (h.mono l))
 refine R_bind (R_sizeOf t) fun τ n n' l2 hn => ?_
 subst hn
 exact R_bind (R_loadCells n ((h.mono l).mono l2)) fun _ _ _ _ hc => R_pure (.agg hc)
theorem R_storeVar (t : TypeId) {a a' : Addr} {v v' : Value} (h : AddrR ρ a a') (hv : VR ρ v v') : SemR P (fun _ _ _ => True) ρ (storeVar t a v) (storeVar t a' v') := by
 unfold Go.storeVar
 refine R_bind (R_sizeOf t) fun σ n n' l hn => ?_
 subst hn
 have hc := hv.cells
 refine R_if (by rw [hc.size]) (fun _ => R_stuck) fun _ => ?_
 exact R_storeCells 0 (h.mono l) (LR.mono l hc)
theorem R_newRow (t : TypeId) {c c' : Array Value} (h : AR ρ c c') : SemR P AddrR ρ (newRow t c) (newRow t c') := by
 unfold Go.newRow
 exact R_bind (R_new (.cells t (0, 0) h)) fun _ _ _ _ hr => R_pure ⟨.inr hr, rfl, rfl⟩
theorem R_newVar (t : TypeId) {v v' : Value} (h : VR ρ v v') : SemR P AddrR ρ (newVar t v) (newVar t v') := R_newRow t h.cells
theorem R_part (t : TypeId) {c c' : Array Value} (n : Nat) (h : AR ρ c c') : SemR P VRr ρ (part t c n) (part t c' n) := by
 unfold Go.part
 refine R_bind (R_isAgg t) fun σ b b' l hb => R_ifB hb ?_ ?_
 ·refine R_bind (R_sizeOf t) fun τ m m' l2 hn => ?_
  subst hn
  exact R_pure (.agg (((h.mono l).mono l2).extract n (n + m)))
 ·rcases (h.mono l).get n with ⟨h1, h2⟩ | ⟨v, v', h1, h2, h3⟩
  ·rw [h1, h2]; exact R_stuck
  ·rw [h1, h2]; exact R_pure h3
theorem R_asIntOf {v v' : Value} (h : VR ρ v v') : SemR P (EqR (IntKind × Int)) ρ (asIntOf v) (asIntOf v') := by
 cases h <;> first | exact R_stuck | exact R_pure rfl | exact R_unsup rfl
theorem R_asInt {v v' : Value} (h : VR ρ v v') : SemR P (EqR Int) ρ (asInt v) (asInt v') := by
 unfold Go.asInt
 exact R_bind (R_asIntOf h) fun _ _ _ _ e => R_pure (by rw [e])
theorem R_asBool {v v' : Value} (h : VR ρ v v') : SemR P (EqR Bool) ρ (asBool v) (asBool v') := by
 cases h <;> first | exact R_stuck | exact R_pure rfl
theorem R_asAgg {v v' : Value} (h : VR ρ v v') : SemR P AR ρ (asAgg v) (asAgg v') := by
 cases h
 case agg a => exact R_pure a
 all_goals exact R_stuck
theorem vr_handle (hK : KF P ρ) (t : TypeId) : VR ρ (typeHandle P t) (typeHandle P t) := .ptr ⟨.inl ⟨hK.handle, rfl⟩, rfl, rfl⟩
theorem R_runtimePanic (hP : PF P) (hK : KF P ρ) (e : RuntimeError) : SemR P A ρ (runtimePanic e) (runtimePanic e) := by
 unfold Go.runtimePanic
 refine R_bind R_prog fun σ p q l h => ?_
 obtain ⟨rfl, rfl⟩ := h
 have hK' := hK.mono l
 cases e with
 | bounds x y s c => exact R_panic (.iface _ (.agg (.cons (.int _ _) (.cons (.int _ _) (.cons (.bool _) (.cons (.int _ _) .nil))))))
 | error m => exact R_panic (.iface _ (.string _))
 | plain m => exact R_panic (.iface _ (.string _))
 | nilDeref => exact R_panic (.iface _ (.string _))
 | typeAssertion i c a m =>
  refine R_bind (R_elemOf _) fun τ t t' l2 ht => ?_
  subst ht
  have hK2 := hK'.mono l2
  refine R_bind (R_newVar t (v := .agg _) (v' := .agg _) (.agg (.cons ?_ (.cons ?_ (.cons (vr_handle hK2 a) (.cons (.string _) .nil)))))) fun μ r r' l3 hr => R_panic (.iface _ (.ptr hr))
  ·cases i
   ·exact .ptr0
   ·exact vr_handle hK2 _
  ·cases c
   ·exact .ptr0
   ·exact vr_handle hK2 _
 | panicNil =>
  refine R_bind (R_elemOf _) fun τ t t' l2 ht => ?_
  subst ht
  exact R_bind (R_newVar t (v := .agg _) (v' := .agg _) (.agg .nil)) fun μ r r' l3 hr => R_panic (.iface _ (.ptr hr))
 | unhashable t => exact R_panic (.iface _ (.agg (.cons (vr_handle hK' t) .nil)))
theorem R_map {s : Sem α} {s' : Sem β} {f : α → γ} {f' : β → δ} (h : SemR P A ρ s s') (hf : ∀ σ a b, A σ a b → C σ (f a) (f' b)) : SemR P C ρ (f <$> s) (f' <$> s') :=
 SemR.bind h fun σ a b _ k => .pure (hf σ a b k)
theorem R_boundsPanic (hP : PF P) (hK : KF P ρ) (k : IntKind) (x y : Int) (c : BoundsCode) : SemR P A ρ (boundsPanic k x y c) (boundsPanic k x y c) := by
 unfold Go.boundsPanic
 dsimp only
 refine R_ifB rfl ?_ ?_
 ·refine R_bind (R_map (C := EqR Bool) (R_choose _) fun σ a b e => by rw [e]) fun σ a b l h => ?_
  subst h
  exact R_runtimePanic hP (hK.mono l) _
 ·exact R_runtimePanic hP hK (.bounds (IntKind.i64.wrap x) y (k != .u64) c)
theorem R_asAddr (hP : PF P) (hK : KF P ρ) {v v' : Value} (h : VR ρ v v') : SemR P AddrR ρ (asAddr v) (asAddr v') := by
 cases h
 case ptr0 => exact R_runtimePanic hP hK .nilDeref
 case ptr a => exact R_pure a
 all_goals exact R_stuck
theorem R_sureAddr {v v' : Value} (h : VR ρ v v') : SemR P AddrR ρ (Instr.sureAddr v) (Instr.sureAddr v') := by
 cases h
 case ptr a => exact R_pure a
 all_goals exact R_stuck
end
end Go.Pr
namespace Go.Pr
open Go
abbrev TrR (α β : Type) : Rn → α → β → Prop := fun _ _ _ => True
def OVR (ρ : Rn) (o o' : Option Value) : Prop := (o = none ∧ o' = none) ∨ ∃ v v', o = some v ∧ o' = some v' ∧ VR ρ v v'
inductive PsR (ρ : Rn) : List (Nat × Value) → List (Nat × Value) → Prop
 | nil : PsR ρ [] []
 | cons {i : Nat} {v v' : Value} {l l' : List (Nat × Value)} : VR ρ v v' → PsR ρ l l' → PsR ρ ((i, v) :: l) ((i, v') :: l')
section
variable {P : Program} {α β γ δ : Type} {A : Rn → α → β → Prop} {C : Rn → γ → δ → Prop} {ρ : Rn}
theorem R_alloc (hP : PF P) (t : TypeId) : SemR P VRr ρ (Instr.alloc t true (.tuple #[])) (Instr.alloc t true (.tuple #[])) := by
 unfold Instr.alloc
 refine R_bind (R_zeroValue hP t) fun σ z z' l hz => ?_
 exact R_bind (R_newVar t hz) fun _ _ _ _ h => R_pure (.ptr h)
theorem R_box (t : TypeId) {v v' : Value} (h : VR ρ v v') : SemR P VRr ρ (Instr.box t v) (Instr.box t v') := by
 unfold Instr.box
 exact R_bind (R_newVar t h) fun _ _ _ _ h => R_pure (.ptr h)
theorem R_loadAt (t : TypeId) {v v' : Value} (h : VR ρ v v') : SemR P VRr ρ (Instr.loadAt t v) (Instr.loadAt t v') := by
 unfold Instr.loadAt
 exact R_bind (R_sureAddr h) fun _ _ _ _ h => R_loadVar t h
theorem R_storeAt (t : TypeId) {v v' x x' : Value} (h : VR ρ v v') (hx : VR ρ x x') : SemR P (TrR Unit Unit) ρ (Instr.storeAt t v x) (Instr.storeAt t v' x') := by
 unfold Instr.storeAt
 exact R_bind (R_sureAddr h) fun _ _ _ l h => R_storeVar t h (hx.mono l)
theorem R_underlying' (t : TypeId) : SemR P (fun _ d d' => d = d' ∧ P.underlying t = some d) ρ (underlying t) (underlying t) := by
 unfold Go.underlying
 refine R_bind R_prog fun σ a b _ h => ?_
 obtain ⟨rfl, rfl⟩ := h
 split
 ·rename_i d hd
  exact R_pure ⟨rfl, hd⟩
 ·exact R_stuck
theorem R_field (t : TypeId) (i : Nat) {v v' : Value} (h : VR ρ v v') : SemR P VRr ρ (Instr.field t v i) (Instr.field t v' i) := by
 unfold Instr.field
 refine R_bind (R_underlying t) fun σ d d' l hd => ?_
 subst hd
 split
 ·split
  ·exact R_bind (R_asAgg (h.mono l)) fun _ _ _ _ k => R_part _ _ k
  ·exact R_stuck
 ·exact R_stuck
theorem R_extract {v v' : Value} (i : Nat) (h : VR ρ v v') : SemR P VRr ρ (Instr.extract v i) (Instr.extract v' i) := by
 cases h
 case tuple hh =>
  show SemR P VRr ρ (match _ with | some v => Pure.pure v | none => _) (match _ with | some v => Pure.pure v | none => _)
  rcases AR.get hh i with ⟨h1, h2⟩ | ⟨v, v', h1, h2, h3⟩
  ·rw [h1, h2]; exact R_stuck
  ·rw [h1, h2]; exact R_pure h3
 all_goals exact R_stuck
theorem R_makeInterface (t : TypeId) {v v' : Value} (h : VR ρ v v') : SemR P VRr ρ (Instr.makeInterface t v) (Instr.makeInterface t v') := by
 unfold Instr.makeInterface
 refine R_bind (R_underlying t) fun σ d d' l hd => ?_
 subst hd
 split
 ·exact R_stuck
 ·exact R_pure (.iface t (h.mono l))
theorem R_makeFunc {fn fn' : Fn} {xs xs' ys ys' : Array Value} (hf : FnR ρ fn fn') (hx : AR ρ xs xs') (hy : AR ρ ys ys') : SemR P VRr ρ (Instr.makeFunc fn xs ys) (Instr.makeFunc fn' xs' ys') := R_pure (.func hf hx hy)
theorem R_makeMap (t : TypeId) {o o' : Option Value} (h : OVR ρ o o') : SemR P VRr ρ (Instr.makeMap t o) (Instr.makeMap t o') := by
 unfold Instr.makeMap
 have h0 : ∀ σ, SemR P VRr σ (do Pure.pure (Value.map (some (← newObj (.map #[] 0))))) (do Pure.pure (Value.map (some (← newObj (.map #[] 0))))) := fun σ =>
  R_bind (R_new (.map 0 .nil)) fun _ _ _ _ k => R_pure (.map k)
 rcases h with ⟨rfl, rfl⟩ | ⟨v, v', rfl, rfl, hv⟩
 ·exact h0 ρ
 ·dsimp only
  refine R_bind (R_underlying t) fun σ d d' l hd => ?_
  subst hd
  split
  ·exact R_bind (R_asInt (hv.mono l)) fun τ _ _ _ _ => h0 τ
  ·exact R_stuck
theorem vr_default : VR ρ (default : Value) (default : Value) := .bool _
theorem AR.getB {z z' : Array Value} (h : AR ρ z z') (i : Nat) : VR ρ z[i]! z'[i]! := by
 rw [Array.getElem!_eq_getD, Array.getElem!_eq_getD]
 exact h.getD i vr_default
theorem AR.mapNat (l : Array Nat) {f f' : Nat → Value} (h : ∀ i, VR ρ (f i) (f' i)) : AR ρ (l.map f) (l.map f') := by
 unfold AR
 rw [Array.toList_map, Array.toList_map]
 generalize l.toList = m
 induction m with
 | nil => exact .nil
 | cons i l ih => exact .cons (h i) ih
theorem AR.range {z z' : Array Value} (h : AR ρ z z') (n : Nat) : AR ρ ((Array.range n).map (z[· % z.size]!)) ((Array.range n).map (z'[· % z'.size]!)) :=
 AR.mapNat _ fun i => by
  rw [h.size]
  exact h.getB _
end
end Go.Pr
