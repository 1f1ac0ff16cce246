/- Part 11 of the proof: SysSpec, SysLaw, SysLaw2. -/
import Derived.Test.YtdhekhlmdefcnabPart8
import Derived.Test.YtdhekhlmdefcnabPart9
namespace Go.Proofs.Ytdhekhlmdefcnab
open Go.RowKit
abbrev Cm := Int × Int × Int
def Cm.zero : Cm := (0, 0, 0)
def frm (k fr cy : Int) (c : Cm) : List Int := [k, fr, cy, c.1, c.2.1, c.2.2] ++ List.replicate 17 0
def frmK (fr cy : Int) (s : St) : List Int := [5, fr, cy, 0, 0, 0] ++ ((s.set : Int) :: (zs s.used ++ zs s.idle))
def cmOf (f : List Int) : Cm := (f.getD 3 0, f.getD 4 0, f.getD 5 0)
def stOf (f : List Int) : List Int := f.drop 6
def nat (x : Int) : Nat := x.toNat
def stNat (l : List Int) : St := ⟨(l.getD 0 0).toNat, ((l.drop 1).take 8).map Int.toNat, ((l.drop 9).take 8).map Int.toNat⟩
structure Vo where
 trace : List Cm
 votes : List (Cm × Bool)
 out : Nat
 time : Int
 window : Int
 latched : Bool
def noVotes : List (Cm × Bool) := List.replicate 3 (Cm.zero, false)
def Vo.new (n : Int) : Vo := ⟨[], noVotes, 0, n, n, false⟩
def voShown (v : Vo) : Int := if v.latched then 0 else match v.trace.getLast? with | some c => c.2.2 | none => 0
def voDone (v : Vo) (k : Nat) : List Int := frm 3 3 k (v.trace.getD k Cm.zero)
def voTick (v : Vo) : Vo := if v.latched then v else if v.time - 1 = 0 then { v with time := v.time - 1, latched := true } else { v with time := v.time - 1 }
def voOut (votes : List (Cm × Bool)) (c : Cm) (out : Nat) : Nat → Nat
 | 0 => out
 | k + 1 => let x := votes.getD k (Cm.zero, false)
  if x.2 = true ∧ x.1.1 = c.1 ∧ x.1.2.1 = c.2.1 ∧ x.1.2.2 ≠ c.2.2 then voOut votes c out k ||| 1 <<< k else voOut votes c out k
def manyOut (o : Nat) : Bool := decide (o = 3) || decide (o = 5) || decide (o = 6) || decide (o = 7)
def voCommits (v : Vo) (c : Cm) : Vo :=
 let o := voOut v.votes c v.out 3
 { v with out := o, trace := v.trace ++ [c], votes := noVotes, time := v.window, latched := v.latched || manyOut o || decide (1000 ≤ v.trace.length + 1) }
def alike (votes : List (Cm × Bool)) (j : Nat) (c : Cm) : Bool := (List.range 3).any fun r => decide (r ≠ j) && (votes.getD r (Cm.zero, false)).2 && decide ((votes.getD r (Cm.zero, false)).1 = c)
def voHears (v : Vo) (f : List Int) : Bool :=
 (decide (f.getD 0 0 = 2) || decide (f.getD 0 0 = 4)) && decide (0 ≤ f.getD 1 0) && decide (f.getD 1 0 < 3) && decide (0 ≤ f.getD 2 0) && !v.out.testBit (f.getD 1 0).toNat
def voTake (v : Vo) (f : List Int) : Vo × List (List Int) × Bool :=
 if voHears v f = false then (v, [], false) else
 if f.getD 2 0 = (v.trace.length : Int) - 1 then (v, [voDone v (f.getD 2 0).toNat], false) else
 if f.getD 2 0 < v.trace.length then (v, [voDone v (f.getD 2 0).toNat, voDone v (v.trace.length - 1)], false) else
 if (v.trace.length : Int) < f.getD 2 0 ∨ v.latched = true ∨ f.getD 0 0 = 4 then (v, [], false) else
 let v' := { v with votes := v.votes.set (f.getD 1 0).toNat (cmOf f, true) }
 if alike v'.votes (f.getD 1 0).toNat (cmOf f) then (voCommits v' (cmOf f), [voDone (voCommits v' (cmOf f)) v.trace.length], true) else (v', [], false)
structure Re where
 id : Nat
 cycle : Nat
 state : St
 field : Int × Int
 seen : List (Nat × Nat)
 some : List Bool
 came : List Nat
 told : List (Nat × St × Bool)
 ticks : Nat
 ahead : Nat
def noSeen : List (Nat × Nat) := List.replicate 3 (0, 0)
def noSome : List Bool := List.replicate 3 false
def noTold : List (Nat × St × Bool) := List.replicate 3 (0, St.zero, false)
def Re.new (k : Nat) : Re := ⟨k, 0, St.zero, (0, 0), noSeen, noSome, List.replicate 3 0, noTold, 0, 0⟩
def fit (L : Lay) (c : Int × Int) : Nat × Nat := (msk c.1 L.secs, msk c.2 L.routes.length)
def fuseTo (r : Re) : Nat → (Nat × Nat) × (Nat × Nat)
 | 0 => ((0, 0), (0, 0))
 | k + 1 => let t := fuseTo r k
  if r.some.getD k false then
   let s := r.seen.getD k (0, 0)
   ((t.1.1 ||| (t.2.1 &&& s.1), t.1.2 ||| (t.2.2 &&& s.2)), (t.2.1 ||| s.1, t.2.2 ||| s.2))
  else t
def fused (r : Re) : Nat × Nat := (fuseTo r 3).1
def howMany (l : List Bool) : Nat := (l.filter id).length
def asks (r : Re) : List Int := frm 4 r.id r.cycle Cm.zero
def reTicked (L : Lay) (r : Re) : Re :=
  let t := r.ticks + 1
  { r with ticks := t, seen := r.seen.set r.id (fit L r.field), came := r.came.set r.id t,
           some := ((List.range 3).map fun i => r.some.getD i false && decide (t < r.came.getD i 0 + 3)).set r.id true }
def reTick (L : Lay) (r : Re) : Re × List Int × List Int × Bool :=
 let q := reTicked L r
 let x := q.seen.getD q.id (0, 0)
 let sample := frm 1 q.id q.cycle (x.1, x.2, 0)
 let m := howMany q.some
 if m = 1 ∧ 3 ≤ q.ticks then (q, sample, asks q, true) else
 if m = 1 ∨ m = 2 ∧ q.ticks < 3 then (q, sample, zeroF, false) else
 let i := fused q
 (q, sample, frm 2 q.id q.cycle (i.1, i.2, ((step L i.1 i.2 q.state).2 : Nat)), true)
def goes (r : Re) (k : Nat) : Re := { r with cycle := k, seen := noSeen, some := noSome, told := noTold, ticks := 0 }
def rightAt (L : Lay) (set : Int) (u d : List Int) (i : Nat) : Bool :=
 if L.routes.length ≤ i ∨ set.toNat.testBit i = false then decide (u.getD i 0 = 0) && decide (d.getD i 0 = 0)
 else decide (set.toNat &&& conf L.routes i = 0) && decide (0 ≤ u.getD i 0) && decide (nb (u.getD i 0).toNat (L.routes.getD i 0) = 0) && decide (0 ≤ d.getD i 0) && decide (d.getD i 0 ≤ 1000) && !(decide (u.getD i 0 = 0) && decide ((L.delay : Int) < d.getD i 0))
def rightB (L : Lay) (l : List Int) : Bool :=
 decide (0 ≤ l.getD 0 0) && decide (l.getD 0 0 < 2 ^ L.routes.length) && (List.range 8).all (rightAt L (l.getD 0 0) ((l.drop 1).take 8) ((l.drop 9).take 8))
def same2 (a b : Nat × St × Bool) : Bool := decide (a.1 = b.1) && decide (a.2.1.set = b.2.1.set) && decide (a.2.1.used = b.2.1.used) && decide (a.2.1.idle = b.2.1.idle) && (a.2.2 == b.2.2)
def other (r : Re) (f : List Int) : Bool := decide (0 ≤ f.getD 1 0) && decide (f.getD 1 0 < 3) && decide (f.getD 1 0 ≠ r.id)
def toldAlike (told : List (Nat × St × Bool)) (j : Nat) : Bool := (List.range 3).any fun i => decide (i ≠ j) && same2 (told.getD i (0, St.zero, false)) (told.getD j (0, St.zero, false))
def reTake (L : Lay) (r : Re) (f : List Int) : Re × List (List Int) :=
 let k := f.getD 0 0
 let j := (f.getD 1 0).toNat
 let cy := f.getD 2 0
 if k = 1 ∧ other r f = true ∧ cy = r.cycle then
  ({ r with seen := r.seen.set j (fit L (f.getD 3 0, f.getD 4 0)), some := r.some.set j true, came := r.came.set j r.ticks }, [])
 else if k = 3 ∧ f.getD 1 0 = 3 ∧ (r.cycle : Int) ≤ cy then
  let r1 := { r with ahead := max r.ahead cy.toNat }
  let r2 := if cy = r.cycle then goes { r1 with state := (step L (f.getD 3 0) (f.getD 4 0) r.state).1 } (r.cycle + 1) else r1
  (r2, if r2.cycle ≤ r2.ahead then [asks r2] else [])
 else if k = 4 ∧ other r f = true then (r, [frmK r.id r.cycle r.state])
 else if k = 5 ∧ other r f = true ∧ (r.cycle : Int) < cy ∧ rightB L (stOf f) = true then
  let r1 := { r with told := r.told.set j (cy.toNat, stNat (stOf f), true) }
  (if toldAlike r1.told j then goes { r1 with state := stNat (stOf f) } cy.toNat else r1, [])
 else (r, [])
structure Gram where
 src : Nat
 dst : Nat
 bytes : List UInt8
structure Sys where
 rs : List Re
 v : Vo
 way : List Gram
 lost : Nat
def Sys.new (n : Int) : Sys := ⟨[Re.new 0, Re.new 1, Re.new 2], Vo.new n, [], 0⟩
def sysPut (s : Sys) (g : Gram) : Sys := if 120 ≤ s.way.length then { s with lost := s.lost + 1 } else { s with way := s.way ++ [g] }
def sysSend (s : Sys) (a b : Nat) (f : List Int) : Sys := if mayB f then sysPut s ⟨a, b, encB f⟩ else s
def others (k : Nat) : List Nat := [0, 1, 2].filter fun x => decide (x ≠ k)
def sendAll (s : Sys) (a : Nat) (l : List Nat) (f : List Int) : Sys := l.foldl (fun s b => sysSend s a b f) s
def re (s : Sys) (k : Nat) : Re := s.rs.getD k (Re.new k)
def sysSee (s : Sys) (k : Nat) (x : Int × Int) : Sys := { s with rs := s.rs.set k { re s k with field := x } }
def tickR (L : Lay) (s : Sys) (k : Nat) : Sys :=
 let q := reTick L (re s k)
 let s1 := sendAll { s with rs := s.rs.set k q.1 } k (others k) q.2.1
 if q.2.2.2 then sysSend s1 k 3 q.2.2.1 else s1
def sysTick (L : Lay) (s : Sys) (k : Nat) : Sys := if k = 3 then { s with v := voTick s.v } else tickR L s k
def sysAsks (s : Sys) (k : Nat) : Sys := sendAll s k (others k) (asks (re s k))
def toAll (s : Sys) (all : Bool) (b : Nat) (x : List Int) : Sys := (List.range 3).foldl (fun s k => if all = true ∨ k = b then sysSend s 3 k x else s) s
def deliver (L : Lay) (s : Sys) (i : Nat) : Sys :=
 match s.way[i]? with
 | none => s
 | some g =>
  let s1 := { s with way := s.way.eraseIdx i }
  if (dec g.bytes).1 = 0 ∧ (dec g.bytes).2.getD 1 0 = g.src then
   if g.dst = 3 then
    let t := voTake s1.v (dec g.bytes).2
    t.2.1.foldl (fun s x => toAll s t.2.2 g.src x) { s1 with v := t.1 }
   else
    let t := reTake L (re s1 g.dst) (dec g.bytes).2
    t.2.foldl (fun s x => sysSend s g.dst g.src x) { s1 with rs := s1.rs.set g.dst t.1 }
  else s1
def sysLose (s : Sys) (i : Nat) : Sys := { s with way := s.way.eraseIdx i }
def sysTwice (s : Sys) (i : Nat) : Sys := match s.way[i]? with | none => s | some g => sysPut s g
def within (n at_ what : Nat) : Bool := (List.range 32).all fun k => !what.testBit (31 - k) || decide (at_ + k < 8 * n)
def sysSpoil (s : Sys) (i at_ what : Nat) : Sys :=
 match s.way[i]? with
 | none => s
 | some g =>
  if 8 * g.bytes.length ≤ at_ ∨ what = 0 ∨ within g.bytes.length at_ what = false ∨ (dec g.bytes).1 ≠ 0 then s
  else { s with way := s.way.set i { g with bytes := Crc.flips g.bytes at_ what 32 } }
def sysCrash (s : Sys) (k : Nat) : Sys := { s with rs := s.rs.set k (Re.new k) }
def sysSays (s : Sys) (k dst : Nat) (b : List UInt8) : Sys := if k = dst ∨ 80 < b.length then s else sysPut s ⟨k, dst, b⟩
def sysLatch (s : Sys) : Sys := { s with v := { s.v with latched := true } }
def flows (L : Lay) (s : Sys) : Nat → Sys
 | 0 => s
 | n + 1 => if s.way.length = 0 then s else flows L (deliver L s 0) n
def halfRound (L : Lay) (N : Nat) (s : Sys) : Sys := flows L (tickR L (tickR L (tickR L s 0) 1) 2) N
def calm (L : Lay) (N : Nat) (s : Sys) : Nat → Sys
 | 0 => s
 | n + 1 =>
  let s3 := halfRound L N (halfRound L N (flows L s N))
  calm L N { s3 with v := voTick s3.v } n
end Go.Proofs.Ytdhekhlmdefcnab
namespace Go.Proofs.Ytdhekhlmdefcnab
structure Sight where
 src : Nat
 cycle : Nat
 on : Bool
 c : Int
 w : Int
def Sight.okAt (x : Sight) (i : Nat) : Prop := x.cycle = i ∨ x.on = true ∧ x.cycle ≤ i
def foldN (L : Lay) (t : List Cm) (n : Nat) : St := (t.take n).foldl (fun s c => (step L c.1 c.2.1 s).1) St.zero
theorem foldN_zero (L : Lay) (t : List Cm) : foldN L t 0 = St.zero := by simp [foldN]
theorem foldN_succ {L : Lay} {t : List Cm} {n : Nat} {c : Cm} (h : t[n]? = some c) : foldN L t (n + 1) = (step L c.1 c.2.1 (foldN L t n)).1 := by
 obtain ⟨hn, he⟩ := List.getElem?_eq_some_iff.1 h
 unfold foldN
 rw [List.take_succ_eq_append_getElem hn, List.foldl_append, he]
 rfl
theorem foldN_pre {L : Lay} {t t' : List Cm} (h : t <+: t') {n : Nat} (hn : n ≤ t.length) : foldN L t' n = foldN L t n := by
 obtain ⟨u, rfl⟩ := h
 unfold foldN
 rw [List.take_append_of_le_length hn]
def SawC (L : Lay) (ℓ : Nat) (σ : List Sight) (i b : Nat) : Prop := ∃ y ∈ σ, y.src ≠ ℓ ∧ y.okAt i ∧ (msk y.c L.secs).testBit b = true
def SawW (L : Lay) (ℓ : Nat) (σ : List Sight) (i b : Nat) : Prop := ∃ y ∈ σ, y.src ≠ ℓ ∧ y.okAt i ∧ (msk y.w L.routes.length).testBit b = true
structure Good (L : Lay) (ℓ : Nat) (σ : List Sight) (t : List Cm) (i : Nat) (cm : Cm) : Prop where
 out : cm.2.2 = ((step L cm.1 cm.2.1 (foldN L t i)).2 : Nat)
 bits : ∃ c w : Nat, cm.1 = c ∧ cm.2.1 = w ∧ (∀ b, c.testBit b = true → SawC L ℓ σ i b) ∧ (∀ b, w.testBit b = true → SawW L ℓ σ i b)
theorem Good.mono {L : Lay} {ℓ : Nat} {σ σ' : List Sight} {t t' : List Cm} {i : Nat} {cm : Cm} (h : Good L ℓ σ t i cm) (ht : t <+: t') (hσ : ∀ y ∈ σ, y ∈ σ') (hi : i ≤ t.length) : Good L ℓ σ' t' i cm := by
 obtain ⟨h1, c, w, e1, e2, h2, h3⟩ := h
 refine ⟨by rw [foldN_pre ht hi]; exact h1, c, w, e1, e2, fun b hb => ?_, fun b hb => ?_⟩
 ·obtain ⟨y, hy, r⟩ := h2 b hb; exact ⟨y, hσ y hy, r⟩
 ·obtain ⟨y, hy, r⟩ := h3 b hb; exact ⟨y, hσ y hy, r⟩
theorem Good.one {L : Lay} {ℓ : Nat} {σ : List Sight} {t : List Cm} {i : Nat} {a b : Cm} (ha : Good L ℓ σ t i a) (hb : Good L ℓ σ t i b) (h1 : a.1 = b.1) (h2 : a.2.1 = b.2.1) : a.2.2 = b.2.2 := by
 rw [ha.out, hb.out, h1, h2]
def SampleOk (L : Lay) (σ : List Sight) (j cy : Nat) (x : Nat × Nat) : Prop := ∃ y ∈ σ, y.src = j ∧ y.okAt cy ∧ x = fit L (y.c, y.w)
theorem msk_id {x n : Nat} (h : x < 2 ^ n) : msk (x : Int) n = x := by
 unfold msk
 have h2 : ((x : Int) % 2 ^ n) = ((x % 2 ^ n : Nat) : Int) := by simp
 rw [h2, Int.toNat_natCast, Nat.mod_eq_of_lt h]
theorem fit_fit (L : Lay) (y : Int × Int) : fit L (((fit L y).1 : Nat), ((fit L y).2 : Nat)) = fit L y := by
 unfold fit
 dsimp only
 rw [msk_id (msk_lt _ _), msk_id (msk_lt _ _)]
def Hon (ℓ k : Nat) : Prop := k = 3 ∨ k ≠ ℓ
instance (ℓ k : Nat) : Decidable (Hon ℓ k) := by unfold Hon; infer_instance
structure FrameOk (L : Lay) (ℓ : Nat) (σ : List Sight) (t : List Cm) (a : Nat) (f : List Int) : Prop where
 src : f.getD 1 0 = (a : Int)
 kind : a = 3 → f.getD 0 0 = 3
 sample : f.getD 0 0 = 1 → ∃ cy x, f.getD 2 0 = ((cy : Nat) : Int) ∧ f.getD 3 0 = ((x : Nat × Nat).1 : Int) ∧ f.getD 4 0 = (x.2 : Int) ∧ SampleOk L σ a cy x
 vote : f.getD 0 0 = 2 → ∃ cy : Nat, f.getD 2 0 = (cy : Int) ∧ cy ≤ t.length ∧ Good L ℓ σ t cy (cmOf f)
 done : f.getD 0 0 = 3 → ∃ cy : Nat, f.getD 2 0 = (cy : Int) ∧ t[cy]? = some (cmOf f)
 known : f.getD 0 0 = 5 → ∃ cy : Nat, f.getD 2 0 = (cy : Int) ∧ cy ≤ t.length ∧ stNat (stOf f) = foldN L t cy
section
variable {L : Lay} {ℓ : Nat} {σ σ' : List Sight} {t t' : List Cm}
theorem SampleOk.mono {j cy : Nat} {x : Nat × Nat} (h : SampleOk L σ j cy x) (hσ : ∀ y ∈ σ, y ∈ σ') : SampleOk L σ' j cy x := by
 obtain ⟨y, hy, r⟩ := h
 exact ⟨y, hσ y hy, r⟩
theorem FrameOk.mono {a : Nat} {f : List Int} (h : FrameOk L ℓ σ t a f) (ht : t <+: t') (hσ : ∀ y ∈ σ, y ∈ σ') : FrameOk L ℓ σ' t' a f := by
 obtain ⟨h0, hk, h1, h2, h3, h4⟩ := h
 refine ⟨h0, hk, fun e => ?_, fun e => ?_, fun e => ?_, fun e => ?_⟩
 ·obtain ⟨cy, x, a, b, c, d⟩ := h1 e; exact ⟨cy, x, a, b, c, d.mono hσ⟩
 ·obtain ⟨cy, a, b, c⟩ := h2 e; exact ⟨cy, a, Nat.le_trans b ht.length_le, c.mono ht hσ b⟩
 ·obtain ⟨cy, a, b⟩ := h3 e; refine ⟨cy, a, ?_⟩; obtain ⟨u, rfl⟩ := ht; rw [List.getElem?_append_left (List.getElem?_eq_some_iff.1 b).1]; exact b
 ·obtain ⟨cy, a, b, c⟩ := h4 e; exact ⟨cy, a, Nat.le_trans b ht.length_le, by rw [foldN_pre ht b]; exact c⟩
end
structure ReOk (L : Lay) (ℓ : Nat) (σ : List Sight) (t : List Cm) (r : Re) : Prop where
 cycle : r.cycle ≤ t.length
 state : r.state = foldN L t r.cycle
 seen : ∀ j, j ≠ ℓ → r.some.getD j false = true → SampleOk L σ j r.cycle (r.seen.getD j (0, 0))
 told : ∀ j, j ≠ ℓ → (r.told.getD j (0, St.zero, false)).2.2 = true → (r.told.getD j (0, St.zero, false)).1 ≤ t.length ∧ (r.told.getD j (0, St.zero, false)).2.1 = foldN L t (r.told.getD j (0, St.zero, false)).1
theorem ReOk.mono {L : Lay} {ℓ : Nat} {σ σ' : List Sight} {t t' : List Cm} {r : Re} (h : ReOk L ℓ σ t r) (ht : t <+: t') (hσ : ∀ y ∈ σ, y ∈ σ') : ReOk L ℓ σ' t' r := by
 obtain ⟨h1, h2, h3, h4⟩ := h
 refine ⟨Nat.le_trans h1 ht.length_le, by rw [foldN_pre ht h1]; exact h2, fun j hj hs => (h3 j hj hs).mono hσ, fun j hj hs => ?_⟩
 obtain ⟨a, b⟩ := h4 j hj hs
 exact ⟨Nat.le_trans a ht.length_le, by rw [foldN_pre ht a]; exact b⟩
def GramOk (L : Lay) (ℓ : Nat) (σ : List Sight) (t : List Cm) (g : Gram) : Prop :=
 (g.src ≤ 3 ∧ g.dst ≤ 3) ∧ (Hon ℓ g.src → (∃ f, mayB f = true ∧ g.bytes = encB f ∧ FrameOk L ℓ σ t g.src f) ∨ (dec g.bytes).1 ≠ 0)
theorem GramOk.mono {L : Lay} {ℓ : Nat} {σ σ' : List Sight} {t t' : List Cm} {g : Gram} (h : GramOk L ℓ σ t g) (ht : t <+: t') (hσ : ∀ y ∈ σ, y ∈ σ') : GramOk L ℓ σ' t' g := by
 refine ⟨h.1, fun hh => ?_⟩
 rcases h.2 hh with ⟨f, a, b, c⟩ | hd
 ·exact .inl ⟨f, a, b, c.mono ht hσ⟩
 ·exact .inr hd
structure VoOk (L : Lay) (ℓ : Nat) (σ : List Sight) (v : Vo) : Prop where
 len : v.votes.length = 3
 votes : ∀ j, j ≠ ℓ → (v.votes.getD j (Cm.zero, false)).2 = true → Good L ℓ σ v.trace v.trace.length (v.votes.getD j (Cm.zero, false)).1
 trace : ∀ i c, v.trace[i]? = some c → Good L ℓ σ v.trace i c
 out : ∀ j, v.out.testBit j = true → j < 3 ∧ j = ℓ
structure SysOk (L : Lay) (ℓ : Nat) (σ : List Sight) (s : Sys) : Prop where
 three : s.rs.length = 3
 ids : ∀ k, k < 3 → (re s k).id = k
 lens : ∀ k, k < 3 → (re s k).seen.length = 3 ∧ (re s k).some.length = 3 ∧ (re s k).told.length = 3
 reps : ∀ k, k < 3 → k ≠ ℓ → ReOk L ℓ σ s.v.trace (re s k)
 voter : VoOk L ℓ σ s.v
 way : ∀ g ∈ s.way, GramOk L ℓ σ s.v.trace g
section
variable {L : Lay} {ℓ : Nat} {σ σ' : List Sight} {s : Sys}
theorem SysOk.more (h : SysOk L ℓ σ s) (hσ : ∀ y ∈ σ, y ∈ σ') : SysOk L ℓ σ' s :=
  ⟨h.three, h.ids, h.lens, fun k hk hl => (h.reps k hk hl).mono (List.prefix_refl _) hσ,
   ⟨h.voter.len, fun j hj hs => (h.voter.votes j hj hs).mono (List.prefix_refl _) hσ (Nat.le_refl _), fun i c hc => (h.voter.trace i c hc).mono (List.prefix_refl _) hσ (Nat.le_of_lt (List.getElem?_eq_some_iff.1 hc).1), h.voter.out⟩,
   fun g hg => (h.way g hg).mono (List.prefix_refl _) hσ⟩
theorem put_rest (s : Sys) (g : Gram) : (sysPut s g).rs = s.rs ∧ (sysPut s g).v = s.v := by unfold sysPut; split <;> exact ⟨rfl, rfl⟩
theorem SysOk.put (h : SysOk L ℓ σ s) {g : Gram} (hg : GramOk L ℓ σ s.v.trace g) : SysOk L ℓ σ (sysPut s g) := by
 unfold sysPut
 split
 ·exact ⟨h.three, h.ids, h.lens, h.reps, h.voter, h.way⟩
 ·refine ⟨h.three, h.ids, h.lens, h.reps, h.voter, fun x hx => ?_⟩
  rcases List.mem_append.1 hx with hx | hx
  ·exact h.way x hx
  ·rw [List.mem_singleton.1 hx]; exact hg
theorem send_rest (s : Sys) (a b : Nat) (f : List Int) : (sysSend s a b f).rs = s.rs ∧ (sysSend s a b f).v = s.v := by
 unfold sysSend; split
 ·exact put_rest _ _
 ·exact ⟨rfl, rfl⟩
theorem SysOk.send (h : SysOk L ℓ σ s) {a b : Nat} {f : List Int} (ha : a ≤ 3) (hb : b ≤ 3) (hf : Hon ℓ a → FrameOk L ℓ σ s.v.trace a f) : SysOk L ℓ σ (sysSend s a b f) := by
 unfold sysSend
 split
 ·rename_i hm
  exact h.put ⟨⟨ha, hb⟩, fun hh => .inl ⟨f, hm, rfl, hf hh⟩⟩
 ·exact h
theorem sendAll_rest (a : Nat) (f : List Int) : ∀ (l : List Nat) (s : Sys), (sendAll s a l f).rs = s.rs ∧ (sendAll s a l f).v = s.v
 | [], _ => ⟨rfl, rfl⟩
 | b :: l, s => by
  have h1 := send_rest s a b f
  have h2 := sendAll_rest a f l (sysSend s a b f)
  exact ⟨h2.1.trans h1.1, h2.2.trans h1.2⟩
theorem SysOk.sendAll {a : Nat} {f : List Int} (ha : a ≤ 3) : ∀ (l : List Nat) {s : Sys}, (∀ b ∈ l, b ≤ 3) → SysOk L ℓ σ s → (Hon ℓ a → FrameOk L ℓ σ s.v.trace a f) → SysOk L ℓ σ (sendAll s a l f)
 | [], _, _, h, _ => h
 | b :: l, s, hl, h, hf => SysOk.sendAll ha l (fun x hx => hl x (List.mem_cons_of_mem _ hx)) (h.send (b := b) ha (hl b (List.mem_cons_self ..)) hf) (by rw [(send_rest s a b f).2]; exact hf)
theorem toAll_rest (s : Sys) (all : Bool) (b : Nat) (x : List Int) : (toAll s all b x).rs = s.rs ∧ (toAll s all b x).v = s.v := by
 unfold toAll
 generalize List.range 3 = l
 induction l generalizing s with
 | nil => exact ⟨rfl, rfl⟩
 | cons k l ih =>
  rw [List.foldl_cons]
  split
  ·have h1 := send_rest s 3 k x
   have h2 := ih (sysSend s 3 k x)
   exact ⟨h2.1.trans h1.1, h2.2.trans h1.2⟩
  ·exact ih s
theorem SysOk.toAll (h : SysOk L ℓ σ s) (all : Bool) (b : Nat) {x : List Int} (hf : FrameOk L ℓ σ s.v.trace 3 x) : SysOk L ℓ σ (toAll s all b x) := by
 unfold Proofs.Ytdhekhlmdefcnab.toAll
 have hl : ∀ k ∈ List.range 3, k ≤ 3 := by decide
 generalize List.range 3 = l at hl
 induction l generalizing s with
 | nil => exact h
 | cons k l ih =>
  rw [List.foldl_cons]
  have hl' : ∀ k ∈ l, k ≤ 3 := fun x hx => hl x (List.mem_cons_of_mem _ hx)
  split
  ·exact ih (h.send (by decide) (hl k (List.mem_cons_self ..)) fun _ => hf) (by rw [(send_rest s 3 k x).2]; exact hf) hl'
  ·exact ih h hf hl'
end
theorem getD_set_same {α : Type} {l : List α} {i : Nat} (h : i < l.length) (a d : α) : (l.set i a).getD i d = a := by simp [List.getD_eq_getElem?_getD, h]
theorem getD_set_other {α : Type} {l : List α} {i j : Nat} (h : i ≠ j) (a d : α) : (l.set i a).getD j d = l.getD j d := by simp [List.getD_eq_getElem?_getD, h]
theorem re_set {s : Sys} {k : Nat} (hk : k < s.rs.length) (r : Re) (j : Nat) : re { s with rs := s.rs.set k r } j = if j = k then r else re s j := by
 unfold re
 by_cases h : j = k
 ·subst h; rw [if_pos rfl]; exact getD_set_same hk _ _
 ·rw [if_neg h]; exact getD_set_other (Ne.symm h) _ _
theorem SysOk.turn {L : Lay} {ℓ : Nat} {σ : List Sight} {s : Sys} (h : SysOk L ℓ σ s) {k : Nat} (hk : k < 3) {r : Re} (hid : r.id = k) (hl : r.seen.length = 3 ∧ r.some.length = 3 ∧ r.told.length = 3)
  (hr : k ≠ ℓ → ReOk L ℓ σ s.v.trace r) : SysOk L ℓ σ { s with rs := s.rs.set k r } := by
 have h3 : k < s.rs.length := by rw [h.three]; exact hk
 refine ⟨by simpa using h.three, fun j hj => ?_, fun j hj => ?_, fun j hj hjl => ?_, h.voter, h.way⟩
 ·rw [re_set h3]; split
  ·rename_i e; subst e; exact hid
  ·exact h.ids j hj
 ·rw [re_set h3]; split
  ·exact hl
  ·exact h.lens j hj
 ·rw [re_set h3]; split
  ·rename_i e; subst e; exact hr hjl
  ·exact h.reps j hj hjl
theorem noSome_flag (j : Nat) : noSome.getD j false = false := by
 unfold noSome
 rw [List.getD_eq_getElem?_getD, List.getElem?_replicate]
 split <;> rfl
theorem noTold_flag (j : Nat) : (noTold.getD j (0, St.zero, false)).2.2 = false := by
 unfold noTold
 rw [List.getD_eq_getElem?_getD, List.getElem?_replicate]
 split <;> rfl
theorem new_ok_re (L : Lay) (ℓ : Nat) (σ : List Sight) (t : List Cm) (k : Nat) : ReOk L ℓ σ t (Re.new k) :=
 ⟨Nat.zero_le _, (foldN_zero _ _).symm, fun j _ h => absurd h (by show ¬ noSome.getD j false = true; rw [noSome_flag]; decide), fun j _ h => absurd h (by show ¬ (noTold.getD j (0, St.zero, false)).2.2 = true; rw [noTold_flag]; decide)⟩
end Go.Proofs.Ytdhekhlmdefcnab
namespace Go.Proofs.Ytdhekhlmdefcnab
theorem hon_of {ℓ k : Nat} (h : k ≠ ℓ) : Hon ℓ k := .inr h
theorem of_hon {ℓ k : Nat} (hk : k < 3) (h : Hon ℓ k) : k ≠ ℓ := by
 rcases h with h | h
 ·omega
 ·exact h
theorem fuse_bits (r : Re) (b : Nat) : ∀ k,
  ((fuseTo r k).2.1.testBit b = true → ∃ j, j < k ∧ r.some.getD j false = true ∧ (r.seen.getD j (0, 0)).1.testBit b = true) ∧
  ((fuseTo r k).2.2.testBit b = true → ∃ j, j < k ∧ r.some.getD j false = true ∧ (r.seen.getD j (0, 0)).2.testBit b = true) ∧
  ((fuseTo r k).1.1.testBit b = true → ∃ i j, i < j ∧ j < k ∧ r.some.getD i false = true ∧ r.some.getD j false = true ∧ (r.seen.getD i (0, 0)).1.testBit b = true ∧ (r.seen.getD j (0, 0)).1.testBit b = true) ∧
  ((fuseTo r k).1.2.testBit b = true → ∃ i j, i < j ∧ j < k ∧ r.some.getD i false = true ∧ r.some.getD j false = true ∧ (r.seen.getD i (0, 0)).2.testBit b = true ∧ (r.seen.getD j (0, 0)).2.testBit b = true)
 | 0 => by simp [fuseTo]
 | k + 1 => by
  obtain ⟨h1, h2, h3, h4⟩ := fuse_bits r b k
  have u1 : ∀ {p : Nat → Prop}, (∃ j, j < k ∧ p j) → ∃ j, j < k + 1 ∧ p j := fun ⟨j, a, c⟩ => ⟨j, by omega, c⟩
  have u2 : ∀ {p : Nat → Nat → Prop}, (∃ i j, i < j ∧ j < k ∧ p i j) → ∃ i j, i < j ∧ j < k + 1 ∧ p i j := fun ⟨i, j, a, c, d⟩ => ⟨i, j, a, by omega, d⟩
  rw [fuseTo]
  dsimp only
  split
  ·rename_i hs
   dsimp only
   simp only [Nat.testBit_or, Nat.testBit_and, Bool.or_eq_true, Bool.and_eq_true]
   refine ⟨fun h => ?_, fun h => ?_, fun h => ?_, fun h => ?_⟩
   ·rcases h with h | h
    ·exact u1 (h1 h)
    ·exact ⟨k, by omega, hs, h⟩
   ·rcases h with h | h
    ·exact u1 (h2 h)
    ·exact ⟨k, by omega, hs, h⟩
   ·rcases h with h | ⟨h, h'⟩
    ·exact u2 (h3 h)
    ·obtain ⟨j, a, c, d⟩ := h1 h; exact ⟨j, k, a, by omega, c, hs, d, h'⟩
   ·rcases h with h | ⟨h, h'⟩
    ·exact u2 (h4 h)
    ·obtain ⟨j, a, c, d⟩ := h2 h; exact ⟨j, k, a, by omega, c, hs, d, h'⟩
  ·exact ⟨fun h => u1 (h1 h), fun h => u1 (h2 h), fun h => u2 (h3 h), fun h => u2 (h4 h)⟩
section
variable {L : Lay} {ℓ : Nat} {σ : List Sight} {t : List Cm}
theorem fused_saw {r : Re} (h : ReOk L ℓ σ t r) : (∀ b, (fused r).1.testBit b = true → SawC L ℓ σ r.cycle b) ∧ (∀ b, (fused r).2.testBit b = true → SawW L ℓ σ r.cycle b) := by
 constructor
 ·intro b hb
  obtain ⟨i, j, hij, _, si, sj, bi, bj⟩ := (fuse_bits r b 3).2.2.1 hb
  have : ∃ m, m ≠ ℓ ∧ r.some.getD m false = true ∧ (r.seen.getD m (0, 0)).1.testBit b = true := by
   by_cases hi : i = ℓ
   ·exact ⟨j, by omega, sj, bj⟩
   ·exact ⟨i, hi, si, bi⟩
  obtain ⟨m, hm, sm, bm⟩ := this
  obtain ⟨y, hy, e1, e2, e3⟩ := h.seen m hm sm
  refine ⟨y, hy, by rw [e1]; exact hm, e2, ?_⟩
  rw [e3] at bm
  exact bm
 ·intro b hb
  obtain ⟨i, j, hij, _, si, sj, bi, bj⟩ := (fuse_bits r b 3).2.2.2 hb
  have : ∃ m, m ≠ ℓ ∧ r.some.getD m false = true ∧ (r.seen.getD m (0, 0)).2.testBit b = true := by
   by_cases hi : i = ℓ
   ·exact ⟨j, by omega, sj, bj⟩
   ·exact ⟨i, hi, si, bi⟩
  obtain ⟨m, hm, sm, bm⟩ := this
  obtain ⟨y, hy, e1, e2, e3⟩ := h.seen m hm sm
  refine ⟨y, hy, by rw [e1]; exact hm, e2, ?_⟩
  rw [e3] at bm
  exact bm
theorem fold_fits (hL : L.Ok) : ∀ n, (foldN L t n).Fits (8 * t.length) := by
 have key : ∀ (u : List Cm) (s : St) (M : Nat), s.Fits M → (u.foldl (fun s c => (step L c.1 c.2.1 s).1) s).Fits (M + 8 * u.length) := by
  intro u
  induction u with
  | nil => intro s M h; exact h
  | cons c u ih =>
   intro s M h
   have := ih _ _ (step_fits (c := c.1) (d := c.2.1) hL h)
   rw [List.length_cons, show M + 8 * (u.length + 1) = M + 8 + 8 * u.length by omega]
   exact this
 intro n
 have hz : St.zero.Fits 0 := by
  refine ⟨by decide, rfl, rfl, fun x hx => ?_, fun x hx => ?_⟩
  ·have := List.eq_of_mem_replicate hx; omega
  ·have := List.eq_of_mem_replicate hx; omega
 obtain ⟨h1, h2, h3, h4, h5⟩ := key (t.take n) St.zero 0 hz
 exact ⟨h1, h2, h3, h4, fun x hx => Nat.le_trans (h5 x hx) (by rw [List.length_take]; omega)⟩
theorem toNat_zs (l : List Nat) : (zs l).map Int.toNat = l := by
 unfold zs
 rw [List.map_map]
 conv => rhs; rw [← List.map_id l]
 apply List.map_congr_left
 intro x _
 simp
theorem stNat_frmK (fr cy : Int) (s : St) (h1 : s.used.length = 8) (h2 : s.idle.length = 8) : stNat (stOf (frmK fr cy s)) = s := by
 have e : stOf (frmK fr cy s) = (s.set : Int) :: (zs s.used ++ zs s.idle) := by simp [stOf, frmK]
 rw [e]
 unfold stNat
 have hu : (zs s.used).length = 8 := by rw [zs_length, h1]
 have hi : (zs s.idle).length = 8 := by rw [zs_length, h2]
 have e1 : (((s.set : Int) :: (zs s.used ++ zs s.idle)).drop 1).take 8 = zs s.used := by
  rw [List.drop_one, List.tail_cons, List.take_append_of_le_length (by omega), List.take_of_length_le (by omega)]
 have e2 : (((s.set : Int) :: (zs s.used ++ zs s.idle)).drop 9).take 8 = zs s.idle := by
  rw [List.drop_succ_cons, List.drop_append_of_le_length (by omega), List.drop_of_length_le (by omega), List.nil_append, List.take_of_length_le (by omega)]
 rw [e1, e2, toNat_zs, toNat_zs]
 rfl
end
theorem ne_of_kind {f : List Int} {a b : Int} (h : f.getD 0 0 = a) (hne : a ≠ b) {p : Prop} : f.getD 0 0 = b → p := fun e => absurd (h.symm.trans e) hne
theorem done_ok {L : Lay} {ℓ : Nat} {σ : List Sight} {v : Vo} {t : List Cm} (ht : v.trace = t) {n : Nat} (hn : n < t.length) : FrameOk L ℓ σ t 3 (voDone v n) := by
 refine ⟨rfl, fun _ => rfl, ne_of_kind (a := 3) rfl (by decide), ne_of_kind (a := 3) rfl (by decide), fun _ => ⟨n, rfl, ?_⟩, ne_of_kind (a := 3) rfl (by decide)⟩
 have : cmOf (voDone v n) = v.trace.getD n Cm.zero := rfl
 rw [this, ht, List.getD_eq_getElem?_getD, List.getElem?_eq_getElem hn]
 rfl
theorem ask_ok {L : Lay} {ℓ : Nat} {σ : List Sight} {t : List Cm} {k : Nat} (hk : k < 3) {r : Re} (hid : r.id = k) : FrameOk L ℓ σ t k (asks r) :=
 ⟨by rw [← hid]; rfl, fun h => by omega, ne_of_kind (a := 4) rfl (by decide), ne_of_kind (a := 4) rfl (by decide), ne_of_kind (a := 4) rfl (by decide), ne_of_kind (a := 4) rfl (by decide)⟩
def Covered (σ : List Sight) (s : Sys) (k : Nat) : Prop := ∃ y ∈ σ, y.src = k ∧ y.okAt (re s k).cycle ∧ (y.c, y.w) = (re s k).field
theorem ticked_ok {L : Lay} {ℓ : Nat} {σ : List Sight} {t : List Cm} {r : Re} (h : ReOk L ℓ σ t r) (hl : r.seen.length = 3 ∧ r.some.length = 3 ∧ r.told.length = 3) (hk : r.id < 3)
  (hc : ∃ y ∈ σ, y.src = r.id ∧ y.okAt r.cycle ∧ (y.c, y.w) = r.field) : ReOk L ℓ σ t (reTicked L r) := by
 refine ⟨h.cycle, h.state, fun j hj hs => ?_, h.told⟩
 by_cases hji : r.id = j
 ·subst hji
  obtain ⟨y, hy, e1, e2, e3⟩ := hc
  refine ⟨y, hy, e1, e2, ?_⟩
  show (r.seen.set r.id (fit L r.field)).getD r.id (0, 0) = _
  rw [getD_set_same (by omega), e3]
 ·have e1 : (reTicked L r).seen.getD j (0, 0) = r.seen.getD j (0, 0) := getD_set_other hji _ _
  rw [e1]
  refine h.seen j hj ?_
  have e2 : (reTicked L r).some.getD j false = ((List.range 3).map fun i => r.some.getD i false && decide (r.ticks + 1 < r.came.getD i 0 + 3)).getD j false := getD_set_other hji _ _
  rw [e2, List.getD_eq_getElem?_getD, List.getElem?_map] at hs
  cases hr : (List.range 3)[j]? with
  | none => rw [hr] at hs; simp at hs
  | some i =>
   rw [hr] at hs
   have : i = j := by
    obtain ⟨hlt, he⟩ := List.getElem?_eq_some_iff.1 hr
    simpa using he.symm
   subst this
   simp at hs
   rw [List.getD_eq_getElem?_getD]
   exact hs.1
theorem reTick_fst (L : Lay) (r : Re) : (reTick L r).1 = reTicked L r := by
 unfold reTick
 dsimp only
 split
 ·rfl
 ·split <;> rfl
theorem reTick_ok {L : Lay} {ℓ : Nat} {σ : List Sight} {t : List Cm} {r : Re} (h : ReOk L ℓ σ t r) (hl : r.seen.length = 3 ∧ r.some.length = 3 ∧ r.told.length = 3) {k : Nat} (hid : r.id = k) (hk : k < 3) (hkl : k ≠ ℓ)
  (hc : ∃ y ∈ σ, y.src = r.id ∧ y.okAt r.cycle ∧ (y.c, y.w) = r.field) :
  FrameOk L ℓ σ t k (reTick L r).2.1 ∧ ((reTick L r).2.2.2 = true → FrameOk L ℓ σ t k (reTick L r).2.2.1) := by
 have hq := ticked_ok h hl (by omega) hc
 have hqi : (reTicked L r).id = k := hid
 have hss : (reTicked L r).some.getD k false = true := by
  show (List.set _ r.id true).getD k false = true
  rw [hid]
  exact getD_set_same (by simp; exact hk) _ _
 have hsm : FrameOk L ℓ σ t k (frm 1 (reTicked L r).id (reTicked L r).cycle (((reTicked L r).seen.getD (reTicked L r).id (0, 0)).1, ((reTicked L r).seen.getD (reTicked L r).id (0, 0)).2, 0)) := by
  rw [hqi]
  exact ⟨rfl, fun h => by omega, fun _ => ⟨_, _, rfl, rfl, rfl, hq.seen k hkl hss⟩, ne_of_kind (a := 1) rfl (by decide), ne_of_kind (a := 1) rfl (by decide), ne_of_kind (a := 1) rfl (by decide)⟩
 unfold reTick
 dsimp only
 split
 ·exact ⟨hsm, fun _ => ask_ok hk hqi⟩
 ·split
  ·exact ⟨hsm, fun h => by cases h⟩
  ·refine ⟨hsm, fun _ => ?_⟩
   rw [hqi]
   refine ⟨rfl, fun h => by omega, ne_of_kind (a := 2) rfl (by decide), fun _ => ⟨_, rfl, hq.cycle, ?_, ?_⟩, ne_of_kind (a := 2) rfl (by decide), ne_of_kind (a := 2) rfl (by decide)⟩
   ·rw [← hq.state]; rfl
   ·obtain ⟨a, b⟩ := fused_saw hq
    exact ⟨_, _, rfl, rfl, a, b⟩
theorem others_le (k : Nat) : ∀ b ∈ others k, b ≤ 3 := by
 intro b hb
 have := (List.mem_filter.1 hb).1
 simp at this
 omega
theorem SysOk.tick {L : Lay} {ℓ : Nat} {σ : List Sight} {s : Sys} (h : SysOk L ℓ σ s) {k : Nat} (hk : k < 3) (hc : k ≠ ℓ → Covered σ s k) : SysOk L ℓ σ (tickR L s k) := by
 have hid := h.ids k hk
 have hl := h.lens k hk
 have hc' : k ≠ ℓ → ∃ y ∈ σ, y.src = (re s k).id ∧ y.okAt (re s k).cycle ∧ (y.c, y.w) = (re s k).field := fun hne => by rw [hid]; exact hc hne
 have h1 : SysOk L ℓ σ { s with rs := s.rs.set k (reTick L (re s k)).1 } := by
  rw [reTick_fst]
  refine h.turn hk hid ?_ fun hne => ticked_ok (h.reps k hk hne) hl (by omega) (hc' hne)
  unfold reTicked
  simpa using ⟨hl.1, hl.2.2⟩
 have hf : k ≠ ℓ → FrameOk L ℓ σ s.v.trace k (reTick L (re s k)).2.1 ∧ ((reTick L (re s k)).2.2.2 = true → FrameOk L ℓ σ s.v.trace k (reTick L (re s k)).2.2.1) := fun hne => reTick_ok (h.reps k hk hne) hl hid hk hne (hc' hne)
 have h2 := SysOk.sendAll (f := (reTick L (re s k)).2.1) (a := k) (by omega) (others k) (others_le k) h1 fun hh => (hf (of_hon hk hh)).1
 unfold tickR
 dsimp only
 split
 ·rename_i hb
  refine h2.send (by omega) (by decide) fun hh => ?_
  rw [(sendAll_rest _ _ _ _).2]
  exact (hf (of_hon hk hh)).2 hb
 ·exact h2
theorem voOut_bit (votes : List (Cm × Bool)) (c : Cm) (out j : Nat) : ∀ k, (voOut votes c out k).testBit j = true → out.testBit j = true ∨ j < k ∧ (votes.getD j (Cm.zero, false)).2 = true ∧ (votes.getD j (Cm.zero, false)).1.1 = c.1 ∧ (votes.getD j (Cm.zero, false)).1.2.1 = c.2.1 ∧ (votes.getD j (Cm.zero, false)).1.2.2 ≠ c.2.2
 | 0, h => .inl h
 | k + 1, h => by
  rw [voOut] at h
  have ih := voOut_bit votes c out j k
  split at h
  ·rename_i hc
   rw [testBit_or1] at h
   by_cases hk : k = j
   ·subst hk; exact .inr ⟨by omega, hc⟩
   ·have h' : (voOut votes c out k).testBit j = true := by simpa [hk] using h
    rcases ih h' with a | ⟨a, b⟩
    ·exact .inl a
    ·exact .inr ⟨by omega, b⟩
  ·rcases ih h with a | ⟨a, b⟩
   ·exact .inl a
   ·exact .inr ⟨by omega, b⟩
theorem noVotes_flag (j : Nat) : (noVotes.getD j (Cm.zero, false)).2 = false := by
 unfold noVotes
 rw [List.getD_eq_getElem?_getD, List.getElem?_replicate]
 split <;> rfl
theorem voCommits_ok {L : Lay} {ℓ : Nat} {σ : List Sight} {v : Vo} {c : Cm} (h : VoOk L ℓ σ v) (hc : Good L ℓ σ v.trace v.trace.length c) : VoOk L ℓ σ (voCommits v c) := by
 have hp : v.trace <+: v.trace ++ [c] := List.prefix_append _ _
 refine ⟨rfl, fun j _ hf => ?_, fun i x hx => ?_, fun j hj => ?_⟩
 ·exact absurd hf (by show ¬ (noVotes.getD j (Cm.zero, false)).2 = true; rw [noVotes_flag]; decide)
 ·have hx' : (v.trace ++ [c])[i]? = some x := hx
  show Good L ℓ σ (v.trace ++ [c]) i x
  by_cases hi : i < v.trace.length
  ·rw [List.getElem?_append_left hi] at hx'
   exact (h.trace i x hx').mono hp (fun _ h => h) (Nat.le_of_lt hi)
  ·have hi2 : i = v.trace.length := by
    have := (List.getElem?_eq_some_iff.1 hx').1
    simp at this
    omega
   subst hi2
   simp at hx'
   subst hx'
   exact hc.mono hp (fun _ h => h) (Nat.le_refl _)
 ·rcases voOut_bit v.votes c v.out j 3 hj with a | ⟨a, b1, b2, b3, b4⟩
  ·exact h.out j a
  ·refine ⟨a, Decidable.byContradiction fun hne => b4 ?_⟩
   exact (h.votes j hne b1).one hc b2 b3
theorem VoOk.vote {L : Lay} {ℓ : Nat} {σ : List Sight} {v : Vo} {c : Cm} {j : Nat} (h : VoOk L ℓ σ v) (hj : j < 3) (hc : j ≠ ℓ → Good L ℓ σ v.trace v.trace.length c) : VoOk L ℓ σ { v with votes := v.votes.set j (c, true) } := by
 refine ⟨by simpa using h.len, fun i hi hf => ?_, h.trace, h.out⟩
 have hf' : ((v.votes.set j (c, true)).getD i (Cm.zero, false)).2 = true := hf
 show Good L ℓ σ v.trace v.trace.length ((v.votes.set j (c, true)).getD i (Cm.zero, false)).1
 by_cases e : j = i
 ·subst e
  rw [getD_set_same (by rw [h.len]; exact hj)]
  exact hc hi
 ·rw [getD_set_other e] at hf' ⊢
  exact h.votes i hi hf'
theorem voTake_ok {L : Lay} {ℓ : Nat} {σ : List Sight} {v : Vo} {f : List Int} {a : Nat} (h : VoOk L ℓ σ v) (ha : f.getD 1 0 = (a : Int)) (hf : Hon ℓ a → FrameOk L ℓ σ v.trace a f) :
  VoOk L ℓ σ (voTake v f).1 ∧ v.trace <+: (voTake v f).1.trace ∧ ∀ x ∈ (voTake v f).2.1, FrameOk L ℓ σ (voTake v f).1.trace 3 x := by
 have triv : VoOk L ℓ σ v ∧ v.trace <+: v.trace ∧ ∀ x ∈ ([] : List (List Int)), FrameOk L ℓ σ v.trace 3 x := ⟨h, List.prefix_refl _, fun x hx => by cases hx⟩
 unfold voTake
 split
 ·exact triv
 ·rename_i hh
  have hh' : voHears v f = true := by simpa using hh
  unfold voHears at hh'
  simp only [Bool.and_eq_true, Bool.or_eq_true, decide_eq_true_eq] at hh'
  obtain ⟨⟨⟨⟨hk, h0⟩, h3⟩, hcy⟩, _⟩ := hh'
  have ha3 : a < 3 := by omega
  split
  ·rename_i he
   refine ⟨h, List.prefix_refl _, fun x hx => ?_⟩
   rw [List.mem_singleton.1 hx]
   have hlt : (f.getD 2 0).toNat < v.trace.length := by omega
   exact done_ok (t := v.trace) rfl hlt
  ·split
   ·refine ⟨h, List.prefix_refl _, fun x hx => ?_⟩
    simp only [List.mem_cons, List.not_mem_nil, or_false] at hx
    have hlt : (f.getD 2 0).toNat < v.trace.length := by omega
    have hlt2 : v.trace.length - 1 < v.trace.length := by omega
    rcases hx with rfl | rfl
    ·exact done_ok (t := v.trace) rfl hlt
    ·exact done_ok (t := v.trace) rfl hlt2
   ·split
    ·exact triv
    ·rename_i hn hno
     have hk2 : f.getD 0 0 = 2 := by
      rcases hk with hk | hk
      ·exact hk
      ·exact absurd (.inr (.inr hk)) hno
     have hcl : f.getD 2 0 = (v.trace.length : Int) := by
      have : ¬ (v.trace.length : Int) < f.getD 2 0 := fun h => hno (.inl h)
      omega
     have hga : a ≠ ℓ → Good L ℓ σ v.trace v.trace.length (cmOf f) := fun hne => by
      obtain ⟨cy, e1, _, e3⟩ := (hf (hon_of hne)).vote hk2
      have : cy = v.trace.length := by omega
      rw [← this]
      exact e3
     have hat : (f.getD 1 0).toNat = a := by omega
     dsimp only
     rw [hat]
     have hv := h.vote ha3 hga
     split
     ·rename_i hal
      unfold alike at hal
      rw [List.any_eq_true] at hal
      obtain ⟨r, hr, hal⟩ := hal
      simp only [Bool.and_eq_true, decide_eq_true_eq] at hal
      obtain ⟨⟨hra, hrf⟩, hrc⟩ := hal
      have hgood : Good L ℓ σ v.trace v.trace.length (cmOf f) := by
       by_cases e : a = ℓ
       ·rw [← hrc]; exact hv.votes r (by omega) hrf
       ·exact hga e
      refine ⟨voCommits_ok hv hgood, List.prefix_append _ _, fun x hx => ?_⟩
      rw [List.mem_singleton.1 hx]
      refine done_ok rfl ?_
      show v.trace.length < (v.trace ++ [cmOf f]).length
      simp
     ·exact ⟨hv, List.prefix_refl _, fun x hx => by cases hx⟩
theorem goes_ok {L : Lay} {ℓ : Nat} {σ : List Sight} {t : List Cm} {r : Re} {k : Nat} (h1 : k ≤ t.length) (h2 : r.state = foldN L t k) : ReOk L ℓ σ t (goes r k) :=
 ⟨h1, h2, fun j _ h => absurd h (by show ¬ noSome.getD j false = true; rw [noSome_flag]; decide), fun j _ h => absurd h (by show ¬ (noTold.getD j (0, St.zero, false)).2.2 = true; rw [noTold_flag]; decide)⟩
theorem same2_eq {a b : Nat × St × Bool} (h : same2 a b = true) : a = b := by
 unfold same2 at h
 simp only [Bool.and_eq_true, decide_eq_true_eq, beq_iff_eq] at h
 obtain ⟨a1, ⟨s1, u1, i1⟩, f1⟩ := a
 obtain ⟨a2, ⟨s2, u2, i2⟩, f2⟩ := b
 obtain ⟨⟨⟨⟨rfl, rfl⟩, rfl⟩, rfl⟩, rfl⟩ := h
 rfl
theorem reTake_ok {L : Lay} {ℓ : Nat} {σ : List Sight} {t : List Cm} {r : Re} {f : List Int} {a k : Nat} (hL : L.Ok) (hid : r.id = k) (hk : k < 3) (hl : r.seen.length = 3 ∧ r.some.length = 3 ∧ r.told.length = 3)
  (h : ReOk L ℓ σ t r) (ha : f.getD 1 0 = (a : Int)) (hf : Hon ℓ a → FrameOk L ℓ σ t a f) :
  ReOk L ℓ σ t (reTake L r f).1 ∧ ∀ x ∈ (reTake L r f).2, FrameOk L ℓ σ t k x := by
 have hat : (f.getD 1 0).toNat = a := by omega
 unfold reTake
 dsimp only
 rw [hat]
 split
 ·rename_i hc
  obtain ⟨hk1, ho, hcy⟩ := hc
  refine ⟨⟨h.cycle, h.state, fun j hj hs => ?_, h.told⟩, fun x hx => by cases hx⟩
  unfold other at ho
  simp only [Bool.and_eq_true, decide_eq_true_eq] at ho
  have ha3 : a < 3 := by omega
  show SampleOk L σ j r.cycle ((r.seen.set a (fit L (f.getD 3 0, f.getD 4 0))).getD j (0, 0))
  by_cases e : a = j
  ·subst e
   rw [getD_set_same (by omega)]
   obtain ⟨cy, x, e1, e2, e3, y, hy, q1, q2, q3⟩ := (hf (hon_of hj)).sample hk1
   have ecy : cy = r.cycle := by omega
   subst ecy
   refine ⟨y, hy, q1, q2, ?_⟩
   rw [e2, e3, q3, fit_fit]
  ·rw [getD_set_other e]
   refine h.seen j hj ?_
   have hs' : (r.some.set a true).getD j false = true := hs
   rwa [getD_set_other e] at hs'
 ·split
  ·rename_i hc
   obtain ⟨hk3, hv, hcy⟩ := hc
   have ha3 : a = 3 := by omega
   obtain ⟨cy, e1, e2⟩ := (hf (.inl ha3)).done hk3
   have hlt := (List.getElem?_eq_some_iff.1 e2).1
   have hmain : ReOk L ℓ σ t (if f.getD 2 0 = (r.cycle : Int) then goes { { r with ahead := max r.ahead (f.getD 2 0).toNat } with state := (step L (f.getD 3 0) (f.getD 4 0) r.state).1 } (r.cycle + 1) else { r with ahead := max r.ahead (f.getD 2 0).toNat }) := by
    split
    ·rename_i hc
     have ecy : cy = r.cycle := by omega
     subst ecy
     refine goes_ok hlt ?_
     rw [foldN_succ e2, ← h.state]
     rfl
    ·exact ⟨h.cycle, h.state, h.seen, h.told⟩
   refine ⟨hmain, fun x hx => ?_⟩
   have hidd : ∀ q : Re, q = (if f.getD 2 0 = (r.cycle : Int) then goes { { r with ahead := max r.ahead (f.getD 2 0).toNat } with state := (step L (f.getD 3 0) (f.getD 4 0) r.state).1 } (r.cycle + 1) else { r with ahead := max r.ahead (f.getD 2 0).toNat }) → q.id = k := by
    intro q hq
    subst hq
    split <;> exact hid
   generalize (if f.getD 2 0 = (r.cycle : Int) then goes { { r with ahead := max r.ahead (f.getD 2 0).toNat } with state := (step L (f.getD 3 0) (f.getD 4 0) r.state).1 } (r.cycle + 1) else { r with ahead := max r.ahead (f.getD 2 0).toNat }) = q at hx hidd
   split at hx
   ·rw [List.mem_singleton.1 hx]; exact ask_ok hk (hidd q rfl)
   ·cases hx
  ·split
   ·refine ⟨h, fun x hx => ?_⟩
    rw [List.mem_singleton.1 hx]
    have hff := fold_fits (L := L) (t := t) hL r.cycle
    rw [← h.state] at hff
    exact ⟨by rw [← hid]; rfl, fun h => by omega, ne_of_kind (a := 5) rfl (by decide), ne_of_kind (a := 5) rfl (by decide), ne_of_kind (a := 5) rfl (by decide),
     fun _ => ⟨r.cycle, rfl, h.cycle, by rw [stNat_frmK _ _ _ hff.used8 hff.idle8]; exact h.state⟩⟩
   ·split
    ·rename_i hc
     obtain ⟨hk5, ho, hcy, _⟩ := hc
     unfold other at ho
     simp only [Bool.and_eq_true, decide_eq_true_eq] at ho
     have ha3 : a < 3 := by omega
     have hga : a ≠ ℓ → (f.getD 2 0).toNat ≤ t.length ∧ stNat (stOf f) = foldN L t (f.getD 2 0).toNat := fun hne => by
      obtain ⟨cy, e1, e2, e3⟩ := (hf (hon_of hne)).known hk5
      rw [e1]
      exact ⟨e2, e3⟩
     have hset : (r.told.set a ((f.getD 2 0).toNat, stNat (stOf f), true)).getD a (0, St.zero, false) = ((f.getD 2 0).toNat, stNat (stOf f), true) := getD_set_same (by omega) _ _
     refine ⟨?_, fun x hx => by cases hx⟩
     split
     ·rename_i hal
      unfold toldAlike at hal
      rw [List.any_eq_true] at hal
      obtain ⟨i, hi, hal⟩ := hal
      simp only [Bool.and_eq_true, decide_eq_true_eq] at hal
      obtain ⟨hia, hsm⟩ := hal
      have hsame := same2_eq hsm
      have hgood : (f.getD 2 0).toNat ≤ t.length ∧ stNat (stOf f) = foldN L t (f.getD 2 0).toNat := by
       by_cases e : a = ℓ
       ·have hi2 : i ≠ ℓ := by omega
        rw [getD_set_other (Ne.symm hia), hset] at hsame
        have := h.told i hi2 (by rw [hsame])
        rw [hsame] at this
        exact this
       ·exact hga e
      exact goes_ok hgood.1 hgood.2
     ·refine ⟨h.cycle, h.state, h.seen, fun j hj hs => ?_⟩
      have hs' : ((r.told.set a ((f.getD 2 0).toNat, stNat (stOf f), true)).getD j (0, St.zero, false)).2.2 = true := hs
      show ((r.told.set a ((f.getD 2 0).toNat, stNat (stOf f), true)).getD j (0, St.zero, false)).1 ≤ t.length ∧ _ = foldN L t ((r.told.set a ((f.getD 2 0).toNat, stNat (stOf f), true)).getD j (0, St.zero, false)).1
      by_cases e : a = j
      ·subst e
       show _ ∧ ((r.told.set a ((f.getD 2 0).toNat, stNat (stOf f), true)).getD a (0, St.zero, false)).2.1 = _
       rw [hset]
       exact hga hj
      ·show _ ∧ ((r.told.set a ((f.getD 2 0).toNat, stNat (stOf f), true)).getD j (0, St.zero, false)).2.1 = _
       rw [getD_set_other e] at hs' ⊢
       exact h.told j hj hs'
    ·exact ⟨h, fun x hx => by cases hx⟩
theorem reTake_id (L : Lay) (r : Re) (f : List Int) : (reTake L r f).1.id = r.id ∧ ((r.seen.length = 3 ∧ r.some.length = 3 ∧ r.told.length = 3) → ((reTake L r f).1.seen.length = 3 ∧ (reTake L r f).1.some.length = 3 ∧ (reTake L r f).1.told.length = 3)) ∧ r.cycle ≤ (reTake L r f).1.cycle ∧ (reTake L r f).1.field = r.field := by
 unfold reTake
 dsimp only
 split
 ·exact ⟨rfl, fun h => by simpa using h, Nat.le_refl _, rfl⟩
 ·split
  ·split
   ·exact ⟨rfl, fun _ => ⟨rfl, rfl, rfl⟩, Nat.le_succ _, rfl⟩
   ·exact ⟨rfl, fun h => h, Nat.le_refl _, rfl⟩
  ·split
   ·exact ⟨rfl, fun h => h, Nat.le_refl _, rfl⟩
   ·split
    ·rename_i hc
     split
     ·exact ⟨rfl, fun _ => ⟨rfl, rfl, rfl⟩, by show r.cycle ≤ (f.getD 2 0).toNat; omega, rfl⟩
     ·exact ⟨rfl, fun h => by simpa using h, Nat.le_refl _, rfl⟩
    ·exact ⟨rfl, fun h => h, Nat.le_refl _, rfl⟩
theorem foldl_send {L : Lay} {ℓ : Nat} {σ : List Sight} {a b : Nat} (ha : a ≤ 3) (hb : b ≤ 3) : ∀ (l : List (List Int)) {s : Sys}, SysOk L ℓ σ s → (Hon ℓ a → ∀ x ∈ l, FrameOk L ℓ σ s.v.trace a x) → SysOk L ℓ σ (l.foldl (fun s x => sysSend s a b x) s)
 | [], _, h, _ => h
 | x :: l, s, h, hf => foldl_send ha hb l (h.send ha hb fun hh => hf hh x (List.mem_cons_self ..)) fun hh y hy => by
  rw [(send_rest s a b x).2]; exact hf hh y (List.mem_cons_of_mem _ hy)
theorem foldl_all {L : Lay} {ℓ : Nat} {σ : List Sight} (all : Bool) (b : Nat) : ∀ (l : List (List Int)) {s : Sys}, SysOk L ℓ σ s → (∀ x ∈ l, FrameOk L ℓ σ s.v.trace 3 x) → SysOk L ℓ σ (l.foldl (fun s x => toAll s all b x) s)
 | [], _, h, _ => h
 | x :: l, s, h, hf => foldl_all all b l (h.toAll all b (hf x (List.mem_cons_self ..))) fun y hy => by
  rw [(toAll_rest s all b x).2]; exact hf y (List.mem_cons_of_mem _ hy)
theorem SysOk.lose {L : Lay} {ℓ : Nat} {σ : List Sight} {s : Sys} (h : SysOk L ℓ σ s) (i : Nat) : SysOk L ℓ σ (sysLose s i) :=
 ⟨h.three, h.ids, h.lens, h.reps, h.voter, fun g hg => h.way g (List.mem_of_mem_eraseIdx hg)⟩
theorem SysOk.withV {L : Lay} {ℓ : Nat} {σ : List Sight} {s : Sys} (h : SysOk L ℓ σ s) {v : Vo} (hv : VoOk L ℓ σ v) (ht : s.v.trace <+: v.trace) : SysOk L ℓ σ { s with v := v } :=
 ⟨h.three, h.ids, h.lens, fun k hk hl => (h.reps k hk hl).mono ht fun _ h => h, hv, fun g hg => (h.way g hg).mono ht fun _ h => h⟩
theorem SysOk.deliver {L : Lay} {ℓ : Nat} {σ : List Sight} {s : Sys} (hL : L.Ok) (h : SysOk L ℓ σ s) (i : Nat) : SysOk L ℓ σ (deliver L s i) := by
 unfold Proofs.Ytdhekhlmdefcnab.deliver
 split
 ·exact h
 ·rename_i g hg
  have h1 := h.lose i
  obtain ⟨⟨hs3, hd3⟩, hok⟩ := h.way g (List.mem_of_getElem? hg)
  dsimp only
  split
  ·rename_i hc
   obtain ⟨hd, hsrc⟩ := hc
   have hF : Hon ℓ g.src → FrameOk L ℓ σ s.v.trace g.src (dec g.bytes).2 := fun hh => by
    rcases hok hh with ⟨f, hm, hb, hf⟩ | hbad
    ·rw [hb, dec_enc hm]; exact hf
    ·exact absurd hd hbad
   split
   ·obtain ⟨a, b, c⟩ := voTake_ok h.voter hsrc hF
    exact foldl_all _ _ _ (h1.withV a b) c
   ·rename_i hd3'
    have hk : g.dst < 3 := by omega
    obtain ⟨i1, i2, _⟩ := reTake_id L (re s g.dst) (dec g.bytes).2
    have hid := h.ids g.dst hk
    have hl := h.lens g.dst hk
    have hr : g.dst ≠ ℓ → _ := fun hne => reTake_ok hL hid hk hl (h.reps g.dst hk hne) hsrc hF
    exact foldl_send (by omega) hs3 _ (h1.turn hk (i1.trans hid) (i2 hl) fun hne => (hr hne).1) fun hh => (hr (of_hon hk hh)).2
  ·exact h1
end Go.Proofs.Ytdhekhlmdefcnab
