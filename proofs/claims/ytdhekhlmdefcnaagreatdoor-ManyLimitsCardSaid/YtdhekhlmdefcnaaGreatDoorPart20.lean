/- Part 20 of the proof: SysSpec, SysLaw, SysLaw2, SysLaw3, SysLaw4. -/
import Derived.Test.YtdhekhlmdefcnaaGreatDoorPart18
import Derived.Test.YtdhekhlmdefcnaaGreatDoorPart19
namespace Go.Proofs.YtdhekhlmdefcnaaGreatDoor
open Go.RowKit
abbrev Cm := Int × Int × Int
def Cm.zero : Cm := (0, 0, 0)
def frm (k fr cy : Int) (c : Cm) : List Int := [k, fr, cy, c.1, c.2.1, c.2.2] ++ List.replicate 17 0
def frmK (fr cy : Int) (s : St) : List Int := [5, fr, cy, 0, 0, 0] ++ ((s.set : Int) :: (zs s.used ++ zs s.idle))
def cmOf (f : List Int) : Cm := (f.getD 3 0, f.getD 4 0, f.getD 5 0)
def stOf (f : List Int) : List Int := f.drop 6
def stNat (l : List Int) : St := ⟨(l.getD 0 0).toNat, ((l.drop 1).take 8).map Int.toNat, ((l.drop 9).take 8).map Int.toNat⟩
structure Vo where
 trace : List Cm
 votes : List (Cm × Bool)
 out : Nat
 time : Int
 window : Int
 latched : Bool
def noVotes : List (Cm × Bool) := List.replicate 3 (Cm.zero, false)
def Vo.new (n : Int) : Vo := ⟨[], noVotes, 0, n, n, false⟩
def voShown (v : Vo) : Int := if v.latched then 0 else match v.trace.getLast? with | some c => c.2.2 | none => 0
def voDone (v : Vo) (k : Nat) : List Int := frm 3 3 k (v.trace.getD k Cm.zero)
def voTick (v : Vo) : Vo := if v.latched then v else if v.time - 1 = 0 then { v with time := v.time - 1, latched := true } else { v with time := v.time - 1 }
def voOut (votes : List (Cm × Bool)) (c : Cm) (out : Nat) : Nat → Nat
 | 0 => out
 | k + 1 => let x := votes.getD k (Cm.zero, false)
  if x.2 = true ∧ x.1.1 = c.1 ∧ x.1.2.1 = c.2.1 ∧ x.1.2.2 ≠ c.2.2 then voOut votes c out k ||| 1 <<< k else voOut votes c out k
def manyOut (o : Nat) : Bool := decide (o = 3) || decide (o = 5) || decide (o = 6) || decide (o = 7)
def voCommits (v : Vo) (c : Cm) : Vo :=
 let o := voOut v.votes c v.out 3
 { v with out := o, trace := v.trace ++ [c], votes := noVotes, time := v.window, latched := v.latched || manyOut o || decide (1000 ≤ v.trace.length + 1) }
def alike (votes : List (Cm × Bool)) (j : Nat) (c : Cm) : Bool := (List.range 3).any fun r => decide (r ≠ j) && (votes.getD r (Cm.zero, false)).2 && decide ((votes.getD r (Cm.zero, false)).1 = c)
def voHears (v : Vo) (f : List Int) : Bool :=
 (decide (f.getD 0 0 = 2) || decide (f.getD 0 0 = 4)) && decide (0 ≤ f.getD 1 0) && decide (f.getD 1 0 < 3) && decide (0 ≤ f.getD 2 0) && !v.out.testBit (f.getD 1 0).toNat
def voTake (v : Vo) (f : List Int) : Vo × List (List Int) × Bool :=
 if voHears v f = false then (v, [], false) else
 if f.getD 2 0 = (v.trace.length : Int) - 1 then (v, [voDone v (f.getD 2 0).toNat], false) else
 if f.getD 2 0 < v.trace.length then (v, [voDone v (f.getD 2 0).toNat, voDone v (v.trace.length - 1)], false) else
 if (v.trace.length : Int) < f.getD 2 0 ∨ v.latched = true ∨ f.getD 0 0 = 4 then (v, [], false) else
 let v' := { v with votes := v.votes.set (f.getD 1 0).toNat (cmOf f, true) }
 if alike v'.votes (f.getD 1 0).toNat (cmOf f) then (voCommits v' (cmOf f), [voDone (voCommits v' (cmOf f)) v.trace.length], true) else (v', [], false)
structure Re where
 id : Nat
 cycle : Nat
 state : St
 field : Int × Int
 seen : List (Nat × Nat)
 some : List Bool
 came : List Nat
 told : List (Nat × St × Bool)
 ticks : Nat
 ahead : Nat
def noSeen : List (Nat × Nat) := List.replicate 3 (0, 0)
def noSome : List Bool := List.replicate 3 false
def noTold : List (Nat × St × Bool) := List.replicate 3 (0, St.zero, false)
def Re.new (k : Nat) : Re := ⟨k, 0, St.zero, (0, 0), noSeen, noSome, List.replicate 3 0, noTold, 0, 0⟩
def fit (L : Lay) (c : Int × Int) : Nat × Nat := (msk c.1 L.secs, msk c.2 L.routes.length)
def fuseTo (r : Re) : Nat → (Nat × Nat) × (Nat × Nat)
 | 0 => ((0, 0), (0, 0))
 | k + 1 => let t := fuseTo r k
  if r.some.getD k false then
   let s := r.seen.getD k (0, 0)
   ((t.1.1 ||| (t.2.1 &&& s.1), t.1.2 ||| (t.2.2 &&& s.2)), (t.2.1 ||| s.1, t.2.2 ||| s.2))
  else t
def fused (r : Re) : Nat × Nat := (fuseTo r 3).1
def howMany (l : List Bool) : Nat := (l.filter id).length
def asks (r : Re) : List Int := frm 4 r.id r.cycle Cm.zero
def reTicked (L : Lay) (r : Re) : Re :=
  let t := r.ticks + 1
  { r with ticks := t, seen := r.seen.set r.id (fit L r.field), came := r.came.set r.id t,
           some := ((List.range 3).map fun i => r.some.getD i false && decide (t < r.came.getD i 0 + 3)).set r.id true }
def reTick (L : Lay) (r : Re) : Re × List Int × List Int × Bool :=
 let q := reTicked L r
 let x := q.seen.getD q.id (0, 0)
 let sample := frm 1 q.id q.cycle (x.1, x.2, 0)
 let m := howMany q.some
 if m = 1 ∧ 3 ≤ q.ticks then (q, sample, asks q, true) else
 if m = 1 ∨ m = 2 ∧ q.ticks < 3 then (q, sample, zeroF, false) else
 let i := fused q
 (q, sample, frm 2 q.id q.cycle (i.1, i.2, ((step L i.1 i.2 q.state).2 : Nat)), true)
def goes (r : Re) (k : Nat) : Re := { r with cycle := k, seen := noSeen, some := noSome, told := noTold, ticks := 0 }
def rightAt (L : Lay) (set : Int) (u d : List Int) (i : Nat) : Bool :=
 if L.routes.length ≤ i ∨ set.toNat.testBit i = false then decide (u.getD i 0 = 0) && decide (d.getD i 0 = 0)
 else decide (set.toNat &&& conf L.routes i = 0) && decide (0 ≤ u.getD i 0) && decide (nb (u.getD i 0).toNat (L.routes.getD i 0) = 0) && decide (0 ≤ d.getD i 0) && decide (d.getD i 0 ≤ 1000) && !(decide (u.getD i 0 = 0) && decide ((L.delay : Int) < d.getD i 0))
def rightB (L : Lay) (l : List Int) : Bool :=
 decide (0 ≤ l.getD 0 0) && decide (l.getD 0 0 < 2 ^ L.routes.length) && (List.range 8).all (rightAt L (l.getD 0 0) ((l.drop 1).take 8) ((l.drop 9).take 8))
def same2 (a b : Nat × St × Bool) : Bool := decide (a.1 = b.1) && decide (a.2.1.set = b.2.1.set) && decide (a.2.1.used = b.2.1.used) && decide (a.2.1.idle = b.2.1.idle) && (a.2.2 == b.2.2)
def other (r : Re) (f : List Int) : Bool := decide (0 ≤ f.getD 1 0) && decide (f.getD 1 0 < 3) && decide (f.getD 1 0 ≠ r.id)
def toldAlike (told : List (Nat × St × Bool)) (j : Nat) : Bool := (List.range 3).any fun i => decide (i ≠ j) && same2 (told.getD i (0, St.zero, false)) (told.getD j (0, St.zero, false))
def reTake (L : Lay) (r : Re) (f : List Int) : Re × List (List Int) :=
 let k := f.getD 0 0
 let j := (f.getD 1 0).toNat
 let cy := f.getD 2 0
 if k = 1 ∧ other r f = true ∧ cy = r.cycle then
  ({ r with seen := r.seen.set j (fit L (f.getD 3 0, f.getD 4 0)), some := r.some.set j true, came := r.came.set j r.ticks }, [])
 else if k = 3 ∧ f.getD 1 0 = 3 ∧ (r.cycle : Int) ≤ cy then
  let r1 := { r with ahead := max r.ahead cy.toNat }
  let r2 := if cy = r.cycle then goes { r1 with state := (step L (f.getD 3 0) (f.getD 4 0) r.state).1 } (r.cycle + 1) else r1
  (r2, if r2.cycle ≤ r2.ahead then [asks r2] else [])
 else if k = 4 ∧ other r f = true then (r, [frmK r.id r.cycle r.state])
 else if k = 5 ∧ other r f = true ∧ (r.cycle : Int) < cy ∧ rightB L (stOf f) = true then
  let r1 := { r with told := r.told.set j (cy.toNat, stNat (stOf f), true) }
  (if toldAlike r1.told j then goes { r1 with state := stNat (stOf f) } cy.toNat else r1, [])
 else (r, [])
structure Gram where
 src : Nat
 dst : Nat
 bytes : List UInt8
structure Sys where
 rs : List Re
 v : Vo
 way : List Gram
 lost : Nat
def Sys.new (n : Int) : Sys := ⟨[Re.new 0, Re.new 1, Re.new 2], Vo.new n, [], 0⟩
def sysPut (s : Sys) (g : Gram) : Sys := if 120 ≤ s.way.length then { s with lost := s.lost + 1 } else { s with way := s.way ++ [g] }
def sysSend (s : Sys) (a b : Nat) (f : List Int) : Sys := if mayB f then sysPut s ⟨a, b, encB f⟩ else s
def others (k : Nat) : List Nat := [0, 1, 2].filter fun x => decide (x ≠ k)
def sendAll (s : Sys) (a : Nat) (l : List Nat) (f : List Int) : Sys := l.foldl (fun s b => sysSend s a b f) s
def re (s : Sys) (k : Nat) : Re := s.rs.getD k (Re.new k)
def sysSee (s : Sys) (k : Nat) (x : Int × Int) : Sys := { s with rs := s.rs.set k { re s k with field := x } }
def tickR (L : Lay) (s : Sys) (k : Nat) : Sys :=
 let q := reTick L (re s k)
 let s1 := sendAll { s with rs := s.rs.set k q.1 } k (others k) q.2.1
 if q.2.2.2 then sysSend s1 k 3 q.2.2.1 else s1
def sysTick (L : Lay) (s : Sys) (k : Nat) : Sys := if k = 3 then { s with v := voTick s.v } else tickR L s k
def sysAsks (s : Sys) (k : Nat) : Sys := sendAll s k (others k) (asks (re s k))
def toAll (s : Sys) (all : Bool) (b : Nat) (x : List Int) : Sys := (List.range 3).foldl (fun s k => if all = true ∨ k = b then sysSend s 3 k x else s) s
def deliver (L : Lay) (s : Sys) (i : Nat) : Sys :=
 match s.way[i]? with
 | none => s
 | some g =>
  let s1 := { s with way := s.way.eraseIdx i }
  if (dec g.bytes).1 = 0 ∧ (dec g.bytes).2.getD 1 0 = g.src then
   if g.dst = 3 then
    let t := voTake s1.v (dec g.bytes).2
    t.2.1.foldl (fun s x => toAll s t.2.2 g.src x) { s1 with v := t.1 }
   else
    let t := reTake L (re s1 g.dst) (dec g.bytes).2
    t.2.foldl (fun s x => sysSend s g.dst g.src x) { s1 with rs := s1.rs.set g.dst t.1 }
  else s1
def sysLose (s : Sys) (i : Nat) : Sys := { s with way := s.way.eraseIdx i }
def sysTwice (s : Sys) (i : Nat) : Sys := match s.way[i]? with | none => s | some g => sysPut s g
def sysCrash (s : Sys) (k : Nat) : Sys := { s with rs := s.rs.set k (Re.new k) }
def sysLatch (s : Sys) : Sys := { s with v := { s.v with latched := true } }
def flows (L : Lay) (s : Sys) : Nat → Sys
 | 0 => s
 | n + 1 => if s.way.length = 0 then s else flows L (deliver L s 0) n
def halfRound (L : Lay) (N : Nat) (s : Sys) : Sys := flows L (tickR L (tickR L (tickR L s 0) 1) 2) N
def calm (L : Lay) (N : Nat) (s : Sys) : Nat → Sys
 | 0 => s
 | n + 1 =>
  let s3 := halfRound L N (halfRound L N (flows L s N))
  calm L N { s3 with v := voTick s3.v } n
end Go.Proofs.YtdhekhlmdefcnaaGreatDoor
namespace Go.Proofs.YtdhekhlmdefcnaaGreatDoor
structure Sight where
 src : Nat
 cycle : Nat
 on : Bool
 c : Int
 w : Int
section
variable {L : Lay} {ℓ : Nat} {σ σ' : List Sight} {t t' : List Cm}
end
section
variable {L : Lay} {ℓ : Nat} {σ σ' : List Sight} {s : Sys}
end
end Go.Proofs.YtdhekhlmdefcnaaGreatDoor
namespace Go.Proofs.YtdhekhlmdefcnaaGreatDoor
section
variable {L : Lay} {ℓ : Nat} {σ : List Sight} {t : List Cm}
end
end Go.Proofs.YtdhekhlmdefcnaaGreatDoor
namespace Go.Proofs.YtdhekhlmdefcnaaGreatDoor
section
variable {L : Lay} {ℓ : Nat} {σ : List Sight} {s : Sys}
end
section
variable {L : Lay} {ℓ : Nat} {σ : List Sight} {s : Sys}
end
end Go.Proofs.YtdhekhlmdefcnaaGreatDoor
namespace Go.Proofs.YtdhekhlmdefcnaaGreatDoor
end Go.Proofs.YtdhekhlmdefcnaaGreatDoor
