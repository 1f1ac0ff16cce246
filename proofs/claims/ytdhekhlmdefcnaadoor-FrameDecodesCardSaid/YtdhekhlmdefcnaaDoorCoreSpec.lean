/- What layout and core compute: plain functions, and their values in memory. -/
import Derived.Test.YtdhekhlmdefcnaaDoorBits
import Derived.Test.YtdhekhlmdefcnaaDoorMem
namespace Go.Proofs.YtdhekhlmdefcnaaDoor
open Go.RowKit

/-- a layout that may be -/
structure Lay where
  secs : Nat
  routes : List Nat
  delay : Nat
structure Lay.Ok (L : Lay) : Prop where
  secs1 : 1 ≤ L.secs
  secs2 : L.secs ≤ 12
  many1 : 1 ≤ L.routes.length
  many2 : L.routes.length ≤ 8
  delay : L.delay ≤ 20
  low : ∀ r ∈ L.routes, 1 ≤ r
  high : ∀ r ∈ L.routes, r < 2 ^ L.secs
  apart : L.routes.Nodup
/-- a state -/
structure St where
  set : Nat
  used : List Nat
  idle : List Nat
def St.zero : St := ⟨0, List.replicate 8 0, List.replicate 8 0⟩
structure St.Fits (s : St) (M : Nat) : Prop where
  set : s.set < 256
  used8 : s.used.length = 8
  idle8 : s.idle.length = 8
  used : ∀ x ∈ s.used, x < 4096
  idle : ∀ x ∈ s.idle, x ≤ M
def stL (s : St) : List Value := I s.set :: (ints (zs s.used) ++ ints (zs s.idle))
def stC (s : St) : Array Value := (stL s).toArray

/-- an error: none, a bare number, or one at a place -/
inductive Err where
  | ok
  | bare (e : Int)
  | place (e : Int) (p : Nat)
/-- the first route that has no sections, or such as there are not -/
def badRoute (S : Int) (rs : List Int) : Option Nat := rs.findIdx? fun r => decide (r ≤ 0) || decide (2 ^ S.toNat ≤ r)
def twice (rs : List Int) (i : Nat) : Bool := (rs.take i).contains (rs.getD i 0)
/-- the first route that is the same as one ahead -/
def twiceAt (rs : List Int) : Option Nat := (List.range rs.length).find? (twice rs)
def outOf (S : Int) (n : Nat) (d : Int) : Prop := S < 1 ∨ 12 < S ∨ n < 1 ∨ 8 < n ∨ d < 0 ∨ 20 < d
instance (S : Int) (n : Nat) (d : Int) : Decidable (outOf S n d) := by unfold outOf; infer_instance
/-- layout.Check -/
def chk (S : Int) (rs : List Int) (d : Int) : Err :=
  if outOf S rs.length d then .bare 2 else
  match badRoute S rs with
  | some i => .place 1 i
  | none => match twiceAt rs with
    | some i => .place 9 i
    | none => .ok

/-- who is in conflict with route i: the first k are asked -/
def confTo (rs : List Nat) (i : Nat) : Nat → Nat
  | 0 => 0
  | k + 1 => if k ≠ i ∧ rs.getD i 0 &&& rs.getD k 0 ≠ 0 then confTo rs i k ||| 1 <<< k else confTo rs i k
def conf (rs : List Nat) (i : Nat) : Nat := confTo rs i rs.length
def confs (rs : List Nat) : List Nat := (List.range rs.length).map (conf rs)

/-- a route that is set, behind what is seen -/
def one (delay clear wanted : Nat) (s : St) (k r : Nat) : St :=
  if s.set.testBit k then
    let u := s.used.getD k 0 ||| nb r clear
    let i := if wanted.testBit k then 0 else s.idle.getD k 0 + 1
    if u = r ∧ nb r clear = 0 ∨ u = 0 ∧ delay < i then ⟨nb s.set (1 <<< k), s.used.set k 0, s.idle.set k 0⟩
    else ⟨s.set, s.used.set k u, s.idle.set k i⟩
  else s
def letGo (L : Lay) (clear wanted : Nat) (s : St) : Nat → St
  | 0 => s
  | k + 1 => one L.delay clear wanted (letGo L clear wanted s k) k (L.routes.getD k 0)
def newOne (rs : List Nat) (clear wanted set k : Nat) : Bool :=
  wanted.testBit k && !set.testBit k && decide (set &&& conf rs k = 0) && decide (nb (rs.getD k 0) clear = 0)
def setTo (rs : List Nat) (clear wanted set : Nat) : Nat → Nat
  | 0 => set
  | k + 1 => if newOne rs clear wanted (setTo rs clear wanted set k) k then setTo rs clear wanted set k ||| 1 <<< k else setTo rs clear wanted set k
def shows (rs : List Nat) (clear wanted : Nat) (s : St) (k : Nat) : Bool :=
  s.set.testBit k && decide (s.used.getD k 0 = 0) && decide (nb (rs.getD k 0) clear = 0) && wanted.testBit k
def outTo (rs : List Nat) (clear wanted : Nat) (s : St) : Nat → Nat
  | 0 => 0
  | k + 1 => if shows rs clear wanted s k then outTo rs clear wanted s k ||| 1 <<< k else outTo rs clear wanted s k
def stepS (L : Lay) (clear wanted : Nat) (s : St) : St :=
  let t := letGo L clear wanted s L.routes.length
  { t with set := setTo L.routes clear wanted t.set L.routes.length }
/-- Step of core. -/
def step (L : Lay) (c w : Int) (s : St) : St × Nat :=
  let clear := msk c L.secs
  let wanted := msk w L.routes.length
  (stepS L clear wanted s, outTo L.routes clear wanted (stepS L clear wanted s) L.routes.length)
end Go.Proofs.YtdhekhlmdefcnaaDoor
