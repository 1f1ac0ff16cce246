/- Part 11 of the proof: Ma2, Ma3, Ma4, Ma5, Ma6, Ma7, Ma8, Ma9, Ma10, Ma11, Mb1. -/
import Derived.Test.YtdhekhlmdefcnaaGreatDoorPart9
import Derived.Test.YtdhekhlmdefcnaaGreatDoorPart10
import Derived.Orders
import Derived.Laws.MakeOwn
import Derived.Conc.AppendWalk
import Derived.DuoClaim
namespace Go.Mx
open Go Go.Conc Go.Pr
open Go.RowKit Go.Conc.Lib Go.ConcR.Gen Go.ConcN.Gen Go.Proofs
open Go.ConcN (WgLive)
open Go.ConcR (KK WgAt stA smA rd wr mk DC0)
structure Dat where
 bn : Nat
 bt : Nat
 bo : Nat
 ta : Option Addr
 tc : Nat
 txt : Nat → ByteArray
 ρ : Rn
 wL : World
structure MK (G : Geo) (D : Dat) (w : World) : Prop where
 nx : w.cell? ⟨D.bn, 0, none⟩ = some (.chan (some G.Ch))
 tx : w.cell? ⟨D.bt, 0, none⟩ = some (.slice D.ta G.N D.tc)
 ot : w.cell? ⟨D.bo, 0, none⟩ = some (.slice (some ⟨G.O, 0, none⟩) G.N G.N)
 el : ∀ i, i < G.N → ∃ a, D.ta = some a ∧ G.base a.block ∧ w.cell? (a.add i) = some (.string (D.txt i))
 live : WgLive G.ty G.Wg w
 row : RowLive G w
 wr : WR Tryz.prog D.ρ D.wL w
 sz : ∀ b, G.base b → b < w.heap.size
structure DatOk (G : Geo) (D : Dat) : Prop where
 bn : G.base D.bn
 bt : G.base D.bt
 bo : G.base D.bo
 low : ∀ b, D.ρ.K b ∨ D.ρ.T b → G.base b
 r : ∀ x y, ¬ D.ρ.r x y
 n : G.N ≤ 4611686018427387904
theorem cell_base {G : Geo} {M : Nat → Prop} {w w1 : World} (r : Rel G M w w1) {a : Addr} (h : G.base a.block) : w1.cell? a = w.cell? a := by
 unfold World.cell?
 rw [r.fix a.block (.inl h)]
theorem MK.rely {G : Geo} {D : Dat} {M : Nat → Prop} {w w1 : World} (ok : DatOk G D) (h : MK G D w) (r : Rel G M w w1) : MK G D w1 where
 nx := (cell_base r ok.bn).trans h.nx
 tx := (cell_base r ok.bt).trans h.tx
 ot := (cell_base r ok.bo).trans h.ot
 el i hi := by
  obtain ⟨a, h1, h2, h3⟩ := h.el i hi
  exact ⟨a, h1, h2, (cell_base r (by rw [Pr.add_block]; exact h2)).trans h3⟩
 live := r.live h.live
 row := r.row h.row
 wr := wr_rely h.wr (fun b hb => r.fix b (by
  rcases hb with hb | hb | ⟨x, hb⟩
  ·exact .inl (ok.low b (.inl hb))
  ·exact .inl (ok.low b (.inr hb))
  ·exact absurd hb (ok.r x b))) r.os r.size
 sz b hb := Nat.lt_of_lt_of_le (h.sz b hb) r.size
theorem MK.sep {G : Geo} {D : Dat} {w : World} (h : MK G D w) : Sep G (fun _ => False) w := by
 refine ⟨fun b hb => hb.elim, h.sz, ?_, ?_⟩
 ·obtain ⟨st, sm, h⟩ := h.live
  exact World.block_lt_of_cell? w _ h.cellSt
 ·obtain ⟨cs, h1, _⟩ := h.row
  exact (Array.getElem?_eq_some_iff.1 h1).1
noncomputable def body11 : Code := Tryz.f11.body.getD .skip
noncomputable def bot : Frame := { (default : Frame) with fn := Tryz.prog.funcs.size, defers := [], mode := .panicking [goexitEntry] }
def call11 (G : Geo) (D : Dat) : Deferred := { target := .fn (.func 11) #[.pointer (some ⟨G.Wg, 0, none⟩), .pointer (some ⟨D.bn, 0, none⟩), .pointer (some ⟨D.bt, 0, none⟩), .pointer (some ⟨D.bo, 0, none⟩)], args := #[] }
theorem born_step (G : Geo) (D : Dat) (w : World) : stepG Tryz.prog false (born Tryz.prog (call11 G D)) w =
  .go (Conc.G ((baseD 11).at ⟨#[.pointer (some ⟨G.Wg, 0, none⟩), .pointer (some ⟨D.bn, 0, none⟩), .pointer (some ⟨D.bt, 0, none⟩), .pointer (some ⟨D.bo, 0, none⟩)] ++ Array.replicate 13 undef, []⟩ [.code body11]) [bot]) w #[] := by
 simp [born, call11, stepG, unwind, callDeferred, invoke, callFunc, Tryz.func11, Tryz.f11, seen, GStep.after, Conc.G, Frame.enter, Frame.at, baseD, bot, body11]
theorem quitsTail (T : Array Value) : QuitsD Tryz.prog 2 0 (Conc.G { (baseD 11).at ⟨T, []⟩ [] with mode := .returning } [bot]) := by
 refine QuitsD.ctl (g' := Conc.G bot []) rfl (fun w => ?_) ?_
 ·simp [Conc.G, stepG, unwind, doReturn, results, Frame.at, baseD, bot, Tryz.func11, Tryz.f11, seen, GStep.after, goexitEntry]
 refine QuitsD.ctl (g' := { Conc.G bot [] with status := .finished }) rfl (fun w => ?_) ⟨rfl, rfl⟩
 simp [Conc.G, stepG, unwind, bot, goexitEntry, Frame.catches]
 rfl
section
variable {G : Geo} {D : Dat} {H X M : Nat → Prop} {k : Nat}
theorem growM_same (M : Nat → Prop) (w : World) : growM M w w = M := by
 funext b
 exact propext ⟨fun h => h.elim id fun ⟨h1, h2⟩ => by omega, .inl⟩
theorem EBW.read {P : Program} {p : Ph} {g : Goroutine} {w : World} (hp : p = .run ∨ p = .shut) (hs : g.status = .running) (h : ∀ w1, Rel G M w w1 → (stepG P false g w1).goes fun g' w' es => w' = w1 ∧ g'.status = .running ∧ (∀ e ∈ es, ∃ a : Addr, e = ⟨.cell a, false, false⟩ ∧ G.base a.block) ∧ EBW G P ⟨p, g', w1, M, H, X, k⟩) : EBW G P ⟨p, g, w, M, H, X, k⟩ := by
 refine EBW.act hs fun w1 hr => ?_
 have h := h w1 hr
 cases e : stepG P false g w1 with
 | go g' w' es =>
  rw [e] at h
  obtain ⟨rfl, h2, h3, h4⟩ := h
  refine .quiet hp e h2 (Gu.refl ..) (fun e he => ?_) (by rw [growM_same]; exact h4)
  obtain ⟨a, rfl, ha⟩ := h3 e he
  refine ⟨fun m hm => (by cases hm), fun x hx _ => ?_⟩
  simp only [MemAct.ofEvent, MemAct.touch?] at hx
  cases hx
  exact ⟨rfl, a.block, rfl, .inr ⟨rfl, ha⟩⟩
 | _ => rw [e] at h; exact h.elim
end
end Go.Mx
namespace Go.Mx
open Go Go.Conc Go.Pr
open Go.RowKit Go.Conc.Lib Go.ConcR.Gen Go.ConcN.Gen Go.Proofs
open Go.ConcN (WgLive)
open Go.ConcR (KK WgAt stA smA rd wr mk DC0)
theorem stepG_draw {P : Program} {main : Bool} {b : Frame} {a : Act} {k : List Item} {cs : List Frame} {w : World} {id : Nat} {ops : Array Oper} :
  stepG P main (Conc.G (b.at a (.code (.region id ops true) :: k)) cs) w =
   .go (Conc.G (b.at a (.inRegion ops (Region.schedule (P.follows .mixedOrders) ops (w.tape w.drawn (.order b.fn id))) :: k)) cs) { w with drawn := w.drawn + 1 } #[] := by
 simp [Conc.G, stepG, stepG.exec, Frame.at, choose, Sem.run, Question.forced, Question.cut]
abbrev lin (ops : Array Oper) (n t : Nat) (l : Array Bool) : List Nat := Region.linearise.go .any ops n t l []
theorem lin_step (ops : Array Oper) (n t : Nat) (l : Array Bool) : (Region.ready .any ops l = [] ∧ lin ops (n + 1) t l = []) ∨ ∃ i t', i ∈ Region.ready .any ops l ∧ lin ops (n + 1) t l = i :: lin ops n t' (l.setIfInBounds i true) := by
 have e : lin ops (n + 1) t l = match (Region.ready .any ops l)[t % (Region.ready .any ops l).length]? with
   | some i => Region.linearise.go .any ops n (t / (Region.ready .any ops l).length) (l.setIfInBounds i true) [i]
   | none => [].reverse := rfl
 cases hi : (Region.ready .any ops l)[t % (Region.ready .any ops l).length]? with
 | none =>
  rw [hi] at e
  refine .inl ⟨?_, e⟩
  cases hr : Region.ready .any ops l with
  | nil => rfl
  | cons x xs =>
   rw [hr] at hi
   have hlt : t % (x :: xs).length < (x :: xs).length := Nat.mod_lt _ (by simp)
   simp at hi
   simp at hlt
   omega
 | some i =>
  rw [hi] at e
  refine .inr ⟨i, t / (Region.ready .any ops l).length, List.mem_of_getElem? hi, ?_⟩
  exact e.trans (linearise_go_acc .any ops n _ _ [i])
noncomputable def ops4 : Array Oper := match Tryz.f11.body with
 | some (.seq _ (.seq _ (.block _ (.loop (.seq _ (.seq _ (.block _ (.seq _ (.region _ ops _))))))))) => ops
 | _ => #[]
def chk (b0 b1 b2 b3 b4 b5 b6 b7 b8 : Bool) : Nat → Bool
 | 0 => !b0 | 1 => !b1 | 2 => !b2 | 3 => !b3 | 4 => !b4 && (b2 && b3) | 5 => !b5 && b4 | 6 => !b6 && b5 | 7 => !b7 && (b0 && b1) | 8 => !b8 && (b6 && b7) | _ => false
noncomputable def okR (b0 b1 b2 b3 b4 b5 b6 b7 b8 : Bool) : Bool := match Region.ready .any ops4 #[b0, b1, b2, b3, b4, b5, b6, b7, b8] with
 | [] => b0 && b1 && b2 && b3 && b4 && b5 && b6 && b7 && b8
 | r => r.all (chk b0 b1 b2 b3 b4 b5 b6 b7 b8)
theorem okR_all : ∀ b0 b1 b2 b3 b4 b5 b6 b7 b8, okR b0 b1 b2 b3 b4 b5 b6 b7 b8 = true := by decide +kernel
def cntF (b0 b1 b2 b3 b4 b5 b6 b7 b8 : Bool) : Nat := (!b0).toNat + (!b1).toNat + (!b2).toNat + (!b3).toNat + (!b4).toNat + (!b5).toNat + (!b6).toNat + (!b7).toNat + (!b8).toNat
section
variable {P : Program} {main : Bool} {b : Frame} {a : Act} {kk : List Item} {cs : List Frame} {w : World} {ops : Array Oper} {i : Nat} {rest : List Nat} {o : Oper}
theorem stepG_callE {f : FuncId} {fn : Func} {c : Code} {args : Array Operand} {ats : Array TypeId}
  (ho : ops[i]? = some o) (hw : Region.wanted o (yielded ops a.tmps) = true) (hk : b.kind ≠ .early) (hop : o.op = .call { callee := .value (.func f), args, argTypes := ats })
  (hf : P.funcs[f]? = some fn) (hname : (fn.name == "runtime.NumGoroutine") = false) (hb : fn.body = some c) {xs : Array Value} (hx : args.map a.eval = xs) :
  stepG P main (Conc.G (b.at a (.inRegion ops (i :: rest) :: kk)) cs) w = .go (Conc.G (Frame.enter P f xs .normal) (b.at a (.inRegion ops (i :: rest) :: kk) :: cs)) w #[] := by
 have hb' : fn.body.isNone = false := by rw [hb]; rfl
 subst hx
 rw [stepG_enter ho hw hk (run_call_body hop hf hname hb')]
 have : listed P b.fn a o w = #[] := by unfold listed; rw [events_call_body hop hf hname hb']; exact seen_none P _
 rw [this]
theorem stepG_store9 {x y : Operand} (ho : ops[i]? = some o) (hw : Region.wanted o (yielded ops a.tmps) = true) (hk : b.kind ≠ .early) (hop : o.op = .store 9 x y)
  {ad : Addr} {v : ByteArray} {u : Value} (hx : a.eval x = .pointer (some ad)) (hy : a.eval y = .string v) (hc : w.cell? ad = some u) (hz : w.frozen? ad = false) (hq : (Tryz.prog.funcs[b.fn]?).any (·.norace) = false) :
  stepG Tryz.prog main (Conc.G (b.at a (.inRegion ops (i :: rest) :: kk)) cs) w = .go (Conc.G (b.at (a.put o.dst undef) (.inRegion ops rest :: kk)) cs) (w.setCell ad (.string v)) #[⟨.cell ad, true, false⟩] := by
 have hr : (execOp a.eval o).run Tryz.prog w = .ok .skip (w.setCell ad (.string v)) := by
  unfold execOp
  simp only [hop, hx, hy]
  simp [go_sem, stored, hc, hz]
 have he : (execOp a.eval o).events Tryz.prog w #[] = #[⟨.cell ad, true, false⟩] := by
  unfold execOp
  simp only [hop, hx, hy]
  have h9 := events_store Tryz.prog w #[] ad (.string v) .plain rfl
  simp [go_sem, h9, storedEv, hc, hz]
 rw [stepG_none ho hw hk hr]
 unfold listed
 rw [he, seen_eq hq (by simp)]
end
theorem loud11 : (Tryz.prog.funcs[(baseD 11).fn]?).any (·.norace) = false := by kernel_rfl
theorem nm8 : (Tryz.f8.name == "runtime.NumGoroutine") = false := by kernel_rfl
theorem row_cell {G : Geo} {w : World} (h : RowLive G w) {i : Nat} (hi : i < G.N) : ∃ u, w.cell? (oCell G i) = some u ∧ w.frozen? (oCell G i) = false := by
 obtain ⟨cs, h1, h2⟩ := h
 exact ⟨cs[i]'(by omega), by simp [World.cell?, oCell, h1, h2, hi], by simp [World.frozen?, oCell, h1]⟩
theorem sk_rely {G : Geo} {D : Dat} {M : Nat → Prop} {w w1 : World} (ok : DatOk G D) (h : Sep G M w ∧ MK G D w) (r : Rel G M w w1) : Sep G M w1 ∧ MK G D w1 := ⟨h.1.rely r.size, h.2.rely ok r⟩
theorem MK.quiet {G : Geo} {D : Dat} {w w1 : World} (ok : DatOk G D) (h : MK G D w) (r : Rel G (fun _ => False) w w1) : MK G D w1 := h.rely ok r
theorem MK.store {G : Geo} {D : Dat} {w : World} (ok : DatOk G D) (hO : ¬ G.base G.O) (hWO : G.Wg ≠ G.O) (h : MK G D w) {i : Nat} (hi : i < G.N) (v : Value) : MK G D (w.setCell (oCell G i) v) := by
 have hr : Rel G (fun _ => False) w (w.setCell (oCell G i) v) := by
  have hA := aside_setCell w (oCell G i) v
  refine ⟨fun b hb => hA.block b (fun e => ?_), fun ⟨st, sm, hl⟩ => ⟨st, sm, hl.of_block (hA.block G.Wg hWO)⟩, fun ⟨cs, h1, h2⟩ => ?_, hA.os, hA.tape, hA.output, Nat.le_of_eq hA.size.symm⟩
  ·subst e
   exact hb.elim hO id
  ·refine ⟨cs.setIfInBounds i v, ?_, by simpa using h2⟩
   show (w.setCell ⟨G.O, i, none⟩ v).heap[G.O]? = _
   rw [setCell_eq_setRow w G.O i cs _ (0, 0) _ h1, setRow_heap w G.O _ _ _ _ h1]
 exact h.quiet ok hr
section
variable {G : Geo} {D : Dat} {H X : Nat → Prop} {κ ii : Nat}
set_option maxRecDepth 100000 in
set_option maxHeartbeats 8000000 in
theorem reg4 (ok : DatOk G D) {Sx : Nat → Nat → Bool} (E : Env Tryz.prog D.ρ Sx) (hok : D.ρ.ok 8) (hsp : ∀ f, ¬ D.ρ.sp f) (ans : Nat → ByteArray) (hans : ∀ i, G.ans i = .string (ans i))
  (hS : ∀ i, i < G.N → ∀ T, Calls Tryz.prog 8 #[.string (D.txt i)] (on D.wL T) fun e _ => ∃ v, e = .returned v ∧ v = .string (ans i)) (gO : ¬ G.base G.O) (gW : G.Wg ≠ G.O) (hi : ii < G.N) (hH : H ii) {K : List Item} {ds : List Deferred}
  (hE : ∀ (v6 v7 v8 v9 v10 v11 v12 v13 v14 v15 v16 : Value) (M : Nat → Prop) (w : World), Sep G M w ∧ MK G D w → EBW G Tryz.prog ⟨.run, Conc.G ((baseD 11).at ⟨#[.pointer (some ⟨G.Wg, 0, none⟩), .pointer (some ⟨D.bn, 0, none⟩), .pointer (some ⟨D.bt, 0, none⟩), .pointer (some ⟨D.bo, 0, none⟩), .int .i64 ii, .chan (some G.Ch), v6, v7, v8, v9, v10, v11, v12, v13, v14, v15, v16], ds⟩ (.inRegion ops4 [] :: K)) [bot], w, M, H, fun j => X j ∨ j = ii, κ⟩) :
  ∀ (n t : Nat) (b0 b1 b2 b3 b4 b5 b6 b7 b8 : Bool) (v6 v7 v8 v9 v10 v11 v12 v13 v14 v15 v16 : Value) (X' M : Nat → Prop) (w : World), cntF b0 b1 b2 b3 b4 b5 b6 b7 b8 ≤ n →
   (b0 = true → v9 = .slice (some ⟨G.O, 0, none⟩) G.N G.N) → (b1 = true → v10 = .int .i64 ii) → (b2 = true → v11 = .slice D.ta G.N D.tc) → (b3 = true → v12 = .int .i64 ii) →
   (b4 = true → ∃ a, D.ta = some a ∧ v13 = .pointer (some (a.add ii))) → (b5 = true → v14 = .string (D.txt ii)) → (b6 = true → v15 = .string (ans ii)) → (b7 = true → v16 = .pointer (some (oCell G ii))) →
   (b8 = true → X' = fun j => X j ∨ j = ii) → (b8 = false → X' = X) → Sep G M w ∧ MK G D w →
   EBW G Tryz.prog ⟨.run, Conc.G ((baseD 11).at ⟨#[.pointer (some ⟨G.Wg, 0, none⟩), .pointer (some ⟨D.bn, 0, none⟩), .pointer (some ⟨D.bt, 0, none⟩), .pointer (some ⟨D.bo, 0, none⟩), .int .i64 ii, .chan (some G.Ch), v6, v7, v8, v9, v10, v11, v12, v13, v14, v15, v16], ds⟩ (.inRegion ops4 (lin ops4 n t #[b0, b1, b2, b3, b4, b5, b6, b7, b8]) :: K)) [bot], w, M, H, X', κ⟩ := by
 intro n
 induction n with
 | zero =>
  intro t b0 b1 b2 b3 b4 b5 b6 b7 b8 v6 v7 v8 v9 v10 v11 v12 v13 v14 v15 v16 X' M w hc h0 h1 h2 h3 h4 h5 h6 h7 h8 h8' hF
  have hb : b8 = true := by
   cases b8
   ·simp [cntF] at hc
   ·rfl
  rw [h8 hb]
  exact hE _ _ _ _ _ _ _ _ _ _ _ M w hF
 | succ n ih =>
  intro t b0 b1 b2 b3 b4 b5 b6 b7 b8 v6 v7 v8 v9 v10 v11 v12 v13 v14 v15 v16 X' M w hc h0 h1 h2 h3 h4 h5 h6 h7 h8 h8' hF
  have hokR := okR_all b0 b1 b2 b3 b4 b5 b6 b7 b8
  unfold okR at hokR
  rcases lin_step ops4 n t #[b0, b1, b2, b3, b4, b5, b6, b7, b8] with ⟨hr, hl⟩ | ⟨i, t', hi', hl⟩
  ·rw [hl]
   rw [hr] at hokR
   have hb : b8 = true := by simp at hokR; exact hokR.2
   rw [h8 hb]
   exact hE _ _ _ _ _ _ _ _ _ _ _ M w hF
  ·rw [hl]
   have hck : chk b0 b1 b2 b3 b4 b5 b6 b7 b8 i = true := by
    cases hr : Region.ready .any ops4 #[b0, b1, b2, b3, b4, b5, b6, b7, b8] with
    | nil => rw [hr] at hi'; cases hi'
    | cons x xs =>
     rw [hr] at hokR hi'
     exact List.all_eq_true.1 hokR i hi'
   clear hokR hl hi'
   have hi0 : (0 : Int) ≤ (ii : Int) := by omega
   have hilt : (ii : Int) < (G.N : Int) := by omega
   obtain ⟨rest, hrest⟩ : ∃ rest, rest = lin ops4 n t' (Array.setIfInBounds #[b0, b1, b2, b3, b4, b5, b6, b7, b8] i true) := ⟨_, rfl⟩
   rw [← hrest]
   have ih' := ih t'
   clear ih
   match i, hck with
   | 0, hck =>
    obtain rfl : b0 = false := by simpa [chk] using hck
    refine EBW.read (.inl rfl) rfl (fun w1 hr => ?_)
    replace hF := sk_rely ok hF hr
    simp only [ops4, Tryz.f11]
    refine goes_oper_k rfl rfl (by k_ne) (fun Kx hKx => ?_)
    have hld := hF.2.ot
    go_simp
    refine hKx _ _ ⟨rfl, rfl, fun e he => ?_, ?_⟩
    ·have hm := mem_listed he
     clear ih' hE hKx E hS
     simp [go_sem, *] at hm
     exact ⟨_, hm, ok.bo⟩
    ·clear hKx Kx
     subst hrest
     exact ih' true b1 b2 b3 b4 b5 b6 b7 b8 _ _ _ _ _ _ _ _ _ _ _ X' M w1 (by simp [cntF] at hc ⊢; omega) (fun _ => rfl) h1 h2 h3 h4 h5 h6 h7 h8 h8' hF
   | 1, hck =>
    obtain rfl : b1 = false := by simpa [chk] using hck
    simp only [ops4, Tryz.f11]
    refine EBW.walk (by simp) (n := 3) ?_
    u_op (sk_rely ok) hF
    refine Goes.stop (fun w1 hr => ?_)
    replace hF := sk_rely ok hF hr
    subst hrest
    exact ih' b0 true b2 b3 b4 b5 b6 b7 b8 _ _ _ _ _ _ _ _ _ _ _ X' M w1 (by simp [cntF] at hc ⊢; omega) h0 (fun _ => rfl) h2 h3 h4 h5 h6 h7 h8 h8' hF
   | 2, hck =>
    obtain rfl : b2 = false := by simpa [chk] using hck
    refine EBW.read (.inl rfl) rfl (fun w1 hr => ?_)
    replace hF := sk_rely ok hF hr
    simp only [ops4, Tryz.f11]
    refine goes_oper_k rfl rfl (by k_ne) (fun Kx hKx => ?_)
    have hld := hF.2.tx
    go_simp
    refine hKx _ _ ⟨rfl, rfl, fun e he => ?_, ?_⟩
    ·have hm := mem_listed he
     clear ih' hE hKx E hS
     simp [go_sem, *] at hm
     exact ⟨_, hm, ok.bt⟩
    ·clear hKx Kx
     subst hrest
     exact ih' b0 b1 true b3 b4 b5 b6 b7 b8 _ _ _ _ _ _ _ _ _ _ _ X' M w1 (by simp [cntF] at hc ⊢; omega) h0 h1 (fun _ => rfl) h3 h4 h5 h6 h7 h8 h8' hF
   | 3, hck =>
    obtain rfl : b3 = false := by simpa [chk] using hck
    simp only [ops4, Tryz.f11]
    refine EBW.walk (by simp) (n := 3) ?_
    u_op (sk_rely ok) hF
    refine Goes.stop (fun w1 hr => ?_)
    replace hF := sk_rely ok hF hr
    subst hrest
    exact ih' b0 b1 b2 true b4 b5 b6 b7 b8 _ _ _ _ _ _ _ _ _ _ _ X' M w1 (by simp [cntF] at hc ⊢; omega) h0 h1 h2 (fun _ => rfl) h4 h5 h6 h7 h8 h8' hF
   | 4, hck =>
    obtain ⟨rfl, rfl, rfl⟩ : b4 = false ∧ b2 = true ∧ b3 = true := by simpa [chk] using hck
    obtain rfl := h2 rfl
    obtain rfl := h3 rfl
    obtain ⟨a, ha, -, -⟩ := hF.2.el ii hi
    rw [ha]
    simp only [ops4, Tryz.f11]
    refine EBW.walk (by simp) (n := 3) ?_
    u_op (sk_rely ok) hF
    refine Goes.stop (fun w1 hr => ?_)
    replace hF := sk_rely ok hF hr
    subst hrest
    exact ih' b0 b1 true true true b5 b6 b7 b8 _ _ _ _ _ _ _ _ _ _ _ X' M w1 (by simp [cntF] at hc ⊢; omega) h0 h1 (fun _ => by rw [ha]) h3 (fun _ => ⟨_, ha, rfl⟩) h5 h6 h7 h8 h8' hF
   | 5, hck =>
    obtain ⟨rfl, rfl⟩ : b5 = false ∧ b4 = true := by simpa [chk] using hck
    obtain ⟨a, ha, rfl⟩ := h4 rfl
    refine EBW.read (.inl rfl) rfl (fun w1 hr => ?_)
    replace hF := sk_rely ok hF hr
    simp only [ops4, Tryz.f11]
    refine goes_oper_k rfl rfl (by k_ne) (fun Kx hKx => ?_)
    obtain ⟨a', ha', hab, hel⟩ := hF.2.el ii hi
    obtain rfl : a = a' := by rw [ha] at ha'; exact Option.some.inj ha'
    go_simp
    refine hKx _ _ ⟨rfl, rfl, fun e he => ?_, ?_⟩
    ·have hm := mem_listed he
     clear ih' hE hKx E hS
     simp [go_sem, *] at hm
     exact ⟨_, hm, (by rw [Pr.add_block]; exact hab)⟩
    ·clear hKx Kx
     subst hrest
     exact ih' b0 b1 b2 b3 true true b6 b7 b8 _ _ _ _ _ _ _ _ _ _ _ X' M w1 (by simp [cntF] at hc ⊢; omega) h0 h1 h2 h3 h4 (fun _ => rfl) h6 h7 h8 h8' hF
   | 6, hck =>
    obtain ⟨rfl, rfl⟩ : b6 = false ∧ b5 = true := by simpa [chk] using hck
    obtain rfl := h5 rfl
    simp only [ops4, Tryz.f11]
    refine EBW.act rfl (fun w1 hr => ?_)
    replace hF := sk_rely ok hF hr
    clear hr
    refine .idle (by simp) (stepG_callE (xs := #[.string (D.txt ii)]) rfl rfl (by k_ne) rfl Tryz.func8 nm8 rfl (by simp [Act.eval])) rfl ?_
    generalize hcf : (baseD 11).at _ (Item.inRegion _ (6 :: rest) :: K) = c11
    show EBW G Tryz.prog ⟨.run, gr (Frame.enter Tryz.prog 8 #[.string (D.txt ii)] .normal) ([] ++ [c11, bot]), w1, M, H, X', κ⟩
    obtain ⟨r, hse⟩ := sess_of_lone (Q := DoneQ 8 2 (fun v => v = .string (ans ii))) E (Pr.enter_R (kind := .normal) E hok (xs := #[.string (D.txt ii)]) (xs' := #[.string (D.txt ii)]) (.cons (.string _) .nil) (.inl rfl)) ⟨rfl, rfl⟩ hF.2.wr (fun s T => DoneQ.on s T) (fun T => lone_calls Tryz.func8 rfl (hS ii hi) T)
    refine sess_W (fun s hs e => by rw [hs.1] at e; cases e) r (fun s hs => ?_) hse ok.low (fun y hy => absurd hy.choose_spec (ok.r _ _)) hF.1 (fun σ r1 s1 l1 l1' fr1' w1' M1 k1 k2 k3 k4 => ?_)
    ·obtain ⟨e1, ops, i, rest, k', o, e2, e3, c, f, a1, a2, a3⟩ := hs
     exact absurd a3 (hsp f)
    ·obtain ⟨-, rfl, q1, q2, q3, q4, v, rfl, q5⟩ := Go.Mx.Sess.done k1 k2 Tryz.func8 rfl
     refine EBW.act rfl (fun w2 hr2 => ?_)
     refine .idle (by simp) (leave_gr q1 q2 q3 q4 Tryz.func8 rfl) rfl ?_
     generalize fr1'.tmps.getD 2 undef = u at q5
     have hu : u = .string (ans ii) := by cases q5; rfl
     subst hu
     have hF2 : Sep G M1 w2 ∧ MK G D w2 := sk_rely ok ⟨k3, hF.2.quiet ok k4⟩ hr2
     clear hF k1 k2 k3 k4 hr2 q1 q2 q3 q4 q5
     show EBW G Tryz.prog ⟨.run, Conc.G (c11.finish (.string (ans ii))) [bot], w2, M1, H, X', κ⟩
     rw [← hcf, Frame.finish_at]
     subst hrest
     exact ih' b0 b1 b2 b3 b4 true true b7 b8 _ _ _ _ _ _ _ _ _ _ _ X' M1 w2 (by simp [cntF] at hc ⊢; omega) h0 h1 h2 h3 h4 h5 (fun _ => rfl) h7 h8 h8' hF2
   | 7, hck =>
    obtain ⟨rfl, rfl, rfl⟩ : b7 = false ∧ b0 = true ∧ b1 = true := by simpa [chk] using hck
    obtain rfl := h0 rfl
    obtain rfl := h1 rfl
    simp only [ops4, Tryz.f11]
    refine EBW.walk (by simp) (n := 3) ?_
    u_op (sk_rely ok) hF
    refine Goes.stop (fun w1 hr => ?_)
    replace hF := sk_rely ok hF hr
    subst hrest
    exact ih' true true b2 b3 b4 b5 b6 true b8 _ _ _ _ _ _ _ _ _ _ _ X' M w1 (by simp [cntF] at hc ⊢; omega) h0 h1 h2 h3 h4 h5 h6 (fun _ => rfl) h8 h8' hF
   | 8, hck =>
    obtain ⟨rfl, rfl, rfl⟩ : b8 = false ∧ b6 = true ∧ b7 = true := by simpa [chk] using hck
    obtain rfl := h6 rfl
    obtain rfl := h7 rfl
    obtain rfl := h8' rfl
    simp only [ops4, Tryz.f11]
    refine EBW.act rfl (fun w1 hr => ?_)
    replace hF := sk_rely ok hF hr
    clear hr
    obtain ⟨u, hu1, hu2⟩ := row_cell hF.2.row hi
    refine .store ii rfl hH hi (by rw [hans]; exact stepG_store9 rfl rfl (by k_ne) rfl rfl rfl hu1 hu2 loud11) rfl ?_
    subst hrest
    refine ih' b0 b1 b2 b3 b4 b5 true true true _ _ _ _ _ _ _ _ _ _ _ _ M _ (by simp [cntF] at hc ⊢; omega) h0 h1 h2 h3 h4 h5 h6 h7 (fun _ => rfl) (fun h => by cases h) ⟨?_, ?_⟩
    ·exact hF.1.rely (by simp)
    ·exact hF.2.store ok gO gW hi _
end
end Go.Mx
namespace Go.Mx
open Go Go.Conc Go.Pr
open Go.RowKit Go.Conc.Lib Go.ConcR.Gen Go.ConcN.Gen Go.Proofs
open Go.ConcN (WgLive)
open Go.ConcR (KK WgAt stA smA rd wr mk DC0)
noncomputable def lb11 : Code := match Tryz.f11.body with
 | some (.seq _ (.seq _ (.block _ (.loop c)))) => c
 | _ => .skip
theorem mixedT : Tryz.prog.follows .mixedOrders = true := by kernel_rfl
section
variable {G : Geo} {D : Dat} {H X M : Nat → Prop} {κ : Nat}
noncomputable def gL (G : Geo) (D : Dat) (v4 v6 v7 v8 v9 v10 v11 v12 v13 v14 v15 v16 : Value) : Goroutine :=
 Conc.G ((baseD 11).at ⟨#[.pointer (some ⟨G.Wg, 0, none⟩), .pointer (some ⟨D.bn, 0, none⟩), .pointer (some ⟨D.bt, 0, none⟩), .pointer (some ⟨D.bo, 0, none⟩), v4, .chan (some G.Ch), v6, v7, v8, v9, v10, v11, v12, v13, v14, v15, v16], [dcall 12 #[.pointer (some ⟨G.Wg, 0, none⟩)]]⟩ [.code lb11, .inLoop lb11, .inBlock 0]) [bot]
set_option maxRecDepth 100000 in
set_option maxHeartbeats 8000000 in
theorem loopW (ok : DatOk G D) (hty : G.ty = 45) (hz : G.z = .int .i64 0) {Sx : Nat → Nat → Bool} (E : Env Tryz.prog D.ρ Sx) (hok : D.ρ.ok 8) (hsp : ∀ f, ¬ D.ρ.sp f) (ans : Nat → ByteArray) (hans : ∀ i, G.ans i = .string (ans i))
  (hS : ∀ i, i < G.N → ∀ T, Calls Tryz.prog 8 #[.string (D.txt i)] (on D.wL T) fun e _ => ∃ v, e = .returned v ∧ v = .string (ans i)) (gO : ¬ G.base G.O) (gW : G.Wg ≠ G.O) :
  ∀ (κ : Nat) (v4 v6 v7 v8 v9 v10 v11 v12 v13 v14 v15 v16 : Value) (H X M : Nat → Prop) (w : World), (∀ i, H i → X i) → Sep G M w ∧ MK G D w → EBW G Tryz.prog ⟨.run, gL G D v4 v6 v7 v8 v9 v10 v11 v12 v13 v14 v15 v16, w, M, H, X, κ⟩ := by
 intro κ
 induction κ using Nat.strongRecOn with
 | _ κ ih =>
  intro v4 v6 v7 v8 v9 v10 v11 v12 v13 v14 v15 v16 H X M w hHX hF
  refine EBW.walk (by simp) (n := 10) ?_
  simp only [gL, lb11, Tryz.f11]
  u_c stepG_seq (sk_rely ok) hF
  u_reg (sk_rely ok) hF
  refine Goes.stop (fun w1 h1 => ?_)
  replace hF := sk_rely ok hF h1
  clear h1
  refine EBW.recv rfl (fun w2 h2 => ?_)
  replace hF := sk_rely ok hF h2
  clear h2
  refine ⟨rfl, ?_, fun i k' hk hi => ?_, ?_⟩
  ·rw [hz, stepG_comm (cases := #[rcase G.Ch (.int .i64 0)]) (blocking := true) (shape := .recv true) (w' := w2) rfl rfl (by k_ne) (by simp [go_sem, rcase])]
   simp [Conc.G, listed, go_sem, seen]
  ·simp only at hk
   simp only [served_G]
   refine EBW.walk (by simp) (n := 30) ?_
   walk_nrm
   simp only [recvd]
   u_op (sk_rely ok) hF
   u_c stepG_region_end (sk_rely ok) hF
   u_c stepG_seq (sk_rely ok) hF
   u_cond true (sk_rely ok) hF
   u_c stepG_skip (sk_rely ok) hF
   u_c stepG_block (sk_rely ok) hF
   u_c stepG_seq (sk_rely ok) hF
   u_reg (sk_rely ok) hF
   u_op (sk_rely ok) hF
   u_op (sk_rely ok) hF
   u_c stepG_region_end (sk_rely ok) hF
   refine Goes.stop (fun w1 h1 => ?_)
   replace hF := sk_rely ok hF h1
   clear h1
   refine EBW.act rfl (fun w3 h3 => ?_)
   replace hF := sk_rely ok hF h3
   clear h3
   refine .quiet (.inl rfl) stepG_draw rfl ⟨fun _ _ _ => rfl, rfl, rfl, rfl, Nat.le_refl _⟩ (by simp) ?_
   have e9 : growM M w3 { w3 with drawn := w3.drawn + 1 } = M := growM_same M w3
   rw [e9]
   have esch : ∀ t, Region.schedule (Tryz.prog.follows .mixedOrders) ops4 t = lin ops4 9 t #[false, false, false, false, false, false, false, false, false] := fun t => by
    rw [mixedT]
    rfl
   have hF3 : Sep G M { w3 with drawn := w3.drawn + 1 } ∧ MK G D { w3 with drawn := w3.drawn + 1 } := sk_rely ok hF ⟨fun _ _ => rfl, id, id, rfl, rfl, rfl, Nat.le_refl _⟩
   generalize { w3 with drawn := w3.drawn + 1 } = w4 at hF3 ⊢
   generalize w3.tape w3.drawn _ = tq
   show EBW G Tryz.prog ⟨.run, Conc.G ((baseD 11).at _ (.inRegion ops4 (Region.schedule (Tryz.prog.follows .mixedOrders) ops4 tq) :: _)) [bot], w4, M, _, X, k'⟩
   rw [esch]
   refine reg4 (H := fun j => H j ∨ j = i) (X := X) ok E hok hsp ans hans hS gO gW hi (.inr rfl) (fun v6 v7 v8 v9 v10 v11 v12 v13 v14 v15 v16 M w hF => ?_) 9 tq _ _ _ _ _ _ _ _ _ _ _ _ _ _ _ _ _ _ _ _ X M w4 (by simp [cntF]) (fun h => by cases h) (fun h => by cases h) (fun h => by cases h) (fun h => by cases h) (fun h => by cases h) (fun h => by cases h) (fun h => by cases h) (fun h => by cases h) (fun h => by cases h) (fun _ => rfl) hF3
   refine EBW.walk (by simp) (n := 10) ?_
   u_c stepG_region_end (sk_rely ok) hF
   u_c stepG_inBlock (sk_rely ok) hF
   u_c stepG_inLoop (sk_rely ok) hF
   refine Goes.stop (fun w1 h1 => ?_)
   exact ih k' (by omega) _ _ _ _ _ _ _ _ _ _ _ _ _ _ M w1 (fun j hj => hj.imp (hHX j) id) (sk_rely ok hF h1)
  ·simp only [served_G]
   rw [hz]
   refine EBW.walk (by simp) (n := 30) ?_
   walk_nrm
   simp only [recvd]
   u_op (sk_rely ok) hF
   u_c stepG_region_end (sk_rely ok) hF
   u_c stepG_seq (sk_rely ok) hF
   u_cond false (sk_rely ok) hF
   u_exit (sk_rely ok) hF
   u_c stepG_end (sk_rely ok) hF
   u_in (sk_rely ok) hF
   rw [stepG_unwind_enter rfl Tryz.func12 (nm_done Tryz.link) rfl]
   simp only [goes_go]
   refine ⟨by u_nil, ?_⟩
   refine Goes.stop (fun w1 h1 => ?_)
   replace hF := sk_rely ok hF h1
   exact done_W (L := Tryz.link) Tryz.wgLib hty rfl (quitsTail _) hHX w1 hF.2.live
set_option maxRecDepth 100000 in
set_option maxHeartbeats 8000000 in
theorem workW (ok : DatOk G D) (hty : G.ty = 45) (hz : G.z = .int .i64 0) {Sx : Nat → Nat → Bool} (E : Env Tryz.prog D.ρ Sx) (hok : D.ρ.ok 8) (hsp : ∀ f, ¬ D.ρ.sp f) (ans : Nat → ByteArray) (hans : ∀ i, G.ans i = .string (ans i))
  (hS : ∀ i, i < G.N → ∀ T, Calls Tryz.prog 8 #[.string (D.txt i)] (on D.wL T) fun e _ => ∃ v, e = .returned v ∧ v = .string (ans i)) (gO : ¬ G.base G.O) (gW : G.Wg ≠ G.O) (κ : Nat) (w : World) (hF : Sep G (fun _ => False) w ∧ MK G D w) :
  EBW G Tryz.prog ⟨.run, born Tryz.prog (call11 G D), w, fun _ => False, fun _ => False, fun _ => False, κ⟩ := by
 refine EBW.act rfl (fun w1 h1 => ?_)
 replace hF := sk_rely ok hF h1
 clear h1
 refine .idle (by simp) (born_step G D w1) rfl ?_
 refine EBW.walk (by simp) (n := 10) ?_
 simp only [body11, Tryz.f11, Option.getD_some]
 walk_nrm
 u_c stepG_seq (sk_rely ok) hF
 u_reg (sk_rely ok) hF
 u_defer (sk_rely ok) hF
 u_c stepG_region_end (sk_rely ok) hF
 u_c stepG_seq (sk_rely ok) hF
 u_reg (sk_rely ok) hF
 refine Goes.stop (fun w2 h2 => ?_)
 replace hF := sk_rely ok hF h2
 clear h2
 refine EBW.read (.inl rfl) rfl (fun w3 hr => ?_)
 replace hF := sk_rely ok hF hr
 clear hr
 refine goes_oper_k rfl rfl (by k_ne) (fun Kx hKx => ?_)
 have hld := hF.2.nx
 go_simp
 refine hKx _ _ ⟨rfl, rfl, fun e he => ?_, ?_⟩
 ·have hm := mem_listed he
  clear hKx E hS
  simp [go_sem, *] at hm
  exact ⟨_, hm, ok.bn⟩
 ·clear hKx Kx
  refine EBW.walk (by simp) (n := 10) ?_
  u_c stepG_region_end (sk_rely ok) hF
  u_c stepG_block (sk_rely ok) hF
  u_c stepG_loop (sk_rely ok) hF
  refine Goes.stop (fun w4 h4 => ?_)
  exact loopW ok hty hz E hok hsp ans hans hS gO gW κ _ _ _ _ _ _ _ _ _ _ _ _ _ _ _ w4 (fun _ h => h) (sk_rely ok hF h4)
end
end Go.Mx
namespace Go.Mx
open Go Go.Conc Go.Pr
open Go.RowKit Go.Conc.Lib Go.ConcR.Gen Go.ConcN.Gen Go.Proofs
open Go.ConcN (WgLive)
open Go.ConcR (KK WgAt stA smA rd wr mk DC0)
theorem array43 (T : Array Value) (h : T.size = 43) : ∃ v0 v1 v2 v3 v4 v5 v6 v7 v8 v9 v10 v11 v12 v13 v14 v15 v16 v17 v18 v19 v20 v21 v22 v23 v24 v25 v26 v27 v28 v29 v30 v31 v32 v33 v34 v35 v36 v37 v38 v39 v40 v41 v42 : Value, T = #[v0, v1, v2, v3, v4, v5, v6, v7, v8, v9, v10, v11, v12, v13, v14, v15, v16, v17, v18, v19, v20, v21, v22, v23, v24, v25, v26, v27, v28, v29, v30, v31, v32, v33, v34, v35, v36, v37, v38, v39, v40, v41, v42] := by
 obtain ⟨l⟩ := T
 match l, h with
 | v0 :: v1 :: v2 :: v3 :: v4 :: v5 :: v6 :: v7 :: v8 :: v9 :: v10 :: v11 :: v12 :: v13 :: v14 :: v15 :: v16 :: v17 :: v18 :: v19 :: v20 :: v21 :: v22 :: v23 :: v24 :: v25 :: v26 :: v27 :: v28 :: v29 :: v30 :: v31 :: v32 :: v33 :: v34 :: v35 :: v36 :: v37 :: v38 :: v39 :: v40 :: v41 :: v42 :: [], _ => exact ⟨v0, v1, v2, v3, v4, v5, v6, v7, v8, v9, v10, v11, v12, v13, v14, v15, v16, v17, v18, v19, v20, v21, v22, v23, v24, v25, v26, v27, v28, v29, v30, v31, v32, v33, v34, v35, v36, v37, v38, v39, v40, v41, v42, rfl⟩
section
variable {P : Program} {main : Bool} {b : Frame} {a : Act} {kk : List Item} {cs : List Frame} {w : World} {ops : Array Oper} {i : Nat} {rest : List Nat} {o : Oper}
theorem stepG_shut {x : Operand} {ats : Array TypeId} (ho : ops[i]? = some o) (hw : Region.wanted o (yielded ops a.tmps) = true) (hk : b.kind ≠ .early) (hop : o.op = .call { callee := .builtin .close, args := #[x], argTypes := ats })
  {c cap s r : Nat} {buf : Array Value} {tm : Bool} (hx : a.eval x = .chan (some c)) (hc : w.heap[c]? = some (.chan cap buf false s r tm)) (hq : (P.funcs[b.fn]?).any (·.norace) = false) :
  stepG P main (Conc.G (b.at a (.inRegion ops (i :: rest) :: kk)) cs) w = .go (Conc.G (b.at (a.put o.dst (.tuple #[])) (.inRegion ops rest :: kk)) cs) { w with heap := w.heap.setIfInBounds c (.chan cap buf true s r tm) } #[⟨.obj c, false, true⟩, ⟨.obj c, true, true⟩] := by
 simp only [Act.eval, Array.getD_eq_getD_getElem?] at hx
 have hr : (execOp a.eval o).run P w = .ok (.value (.tuple #[])) { w with heap := w.heap.setIfInBounds c (.chan cap buf true s r tm) } := by
  unfold execOp
  simp only [hop]
  simp [go_sem, hx, run_close_open _ _ hc]
 have he : (execOp a.eval o).events P w #[] = #[⟨.obj c, false, true⟩, ⟨.obj c, true, true⟩] := by
  unfold execOp
  simp only [hop]
  simp [go_sem, hx, events_close_open _ _ hc]
 rw [stepG_value ho hw hk hr]
 unfold listed
 rw [he, seen_eq hq (by intro e he f; simp only [List.mem_toArray, List.mem_cons, List.not_mem_nil, or_false] at he; rcases he with rfl | rfl <;> simp)]
end
theorem stepG_spawn0 {P : Program} {main : Bool} {b : Frame} {a : Act} {k : List Item} {cs : List Frame} {w : World} {ops : Array Oper} {i : Nat} {rest : List Nat} {o : Oper} {d : Deferred} {w' : World} {f : Fn} {c : Array Value} (ho : ops[i]? = some o) (hw : Region.wanted o (yielded ops a.tmps) = true)
  (hk : b.kind ≠ .early) (hr : (execOp a.eval o).run P w = .ok (.spawn d) w') (hd : d.target = .fn f c) (he : (execOp a.eval o).events P w #[] = #[]) :
  stepG P main (Conc.G (b.at a (.inRegion ops (i :: rest) :: k)) cs) w = .spawn (Conc.G (b.at (a.put o.dst undef) (.inRegion ops rest :: k)) cs) (born P d) w' #[] := by
 rw [stepG_spawn ho hw hk hr hd]
 unfold listed
 rw [he, seen_none]
theorem loud6 : (Tryz.prog.funcs[(base 6).fn]?).any (·.norace) = false := by kernel_rfl
section
variable {G : Geo} {D : Dat} {Fin : Goroutine → Prop}
theorem EBM.read {P : Program} {tag : MTag} {d : Nat} {g : Goroutine} {w : World} (hs : g.status = .running) (h : ∀ w1, Rel G (fun _ => False) w w1 → (stepG P true g w1).goes fun g' w' es => w' = w1 ∧ g'.status = .running ∧ (∀ e ∈ es, ∃ a : Addr, e = ⟨.cell a, false, false⟩ ∧ G.base a.block) ∧ EBM G P Fin ⟨tag, d, g', w1⟩) : EBM G P Fin ⟨tag, d, g, w⟩ := by
 refine EBM.act hs fun w1 hr => ?_
 have h := h w1 hr
 cases e : stepG P true g w1 with
 | go g' w' es =>
  rw [e] at h
  obtain ⟨rfl, h2, h3, h4⟩ := h
  refine .quiet e h2 ⟨rfl, rfl, rfl, rfl⟩ (fun e he => ?_) h4
  obtain ⟨a, rfl, ha⟩ := h3 e he
  refine .inl ⟨fun m hm => (by cases hm), fun x hx _ => ?_⟩
  simp only [MemAct.ofEvent, MemAct.touch?] at hx
  cases hx
  exact ⟨rfl, a.block, rfl, .inr ⟨rfl, ha⟩⟩
 | _ => rw [e] at h; exact h.elim
noncomputable def cAll : Code := Tryz.f6.body.getD .skip
def lp (c : Code) : Code := match c with | .seq _ (.block _ (.loop c)) => c | _ => .skip
def sndC (c : Code) : Code := match c with | .seq _ b => b | _ => .skip
def fstC (c : Code) : Code := match c with | .seq a _ => a | _ => .skip
def opsC (c : Code) : Array Oper := match c with | .region _ ops _ => ops | _ => #[]
noncomputable def r6 : Code := sndC (sndC (sndC (sndC (sndC cAll))))
noncomputable def ls6 : Code := lp (fstC r6)
noncomputable def s6 : Code := sndC r6
noncomputable def lt6 : Code := lp (fstC s6)
noncomputable def c6 : Code := sndC s6
noncomputable def w6 : Code := sndC c6
noncomputable def e6 : Code := sndC w6
structure TS (G : Geo) (D : Dat) (R : Nat) (T : Array Value) : Prop where
 size : T.size = 43
 t1 : T[1]? = some (.int .i64 R)
 t2 : T[2]? = some (.pointer (some ⟨D.bt, 0, none⟩))
 t6 : T[6]? = some (.pointer (some ⟨D.bo, 0, none⟩))
 t7 : T[7]? = some (.pointer (some ⟨D.bn, 0, none⟩))
 t8 : T[8]? = some (.pointer (some ⟨G.Wg, 0, none⟩))
def FinA (D : Dat) (cs : List Frame) (g : Goroutine) : Prop := ∃ T : Array Value, T.size = 43 ∧ T[6]? = some (.pointer (some ⟨D.bo, 0, none⟩)) ∧ FinW Tryz.prog (Conc.G ((base 6).at ⟨T, []⟩ (.inRegion (opsC (fstC w6)) [] :: [.code e6])) cs) g
section
variable {cs : List Frame}
theorem MK.wg {w : World} (ok : DatOk G D) (gB : ¬ G.base G.Wg) (gW : G.Wg ≠ G.O) (h : MK G D w) (v : Value) (hl : WgLive G.ty G.Wg (w.setCell (stA G.Wg) v)) : MK G D (w.setCell (stA G.Wg) v) := by
 have hA := aside_setCell w (stA G.Wg) v
 refine h.rely (M := fun _ => False) ok ⟨fun b hb => hA.block b (fun e => ?_), fun _ => hl, fun ⟨cs, h1, h2⟩ => ⟨cs, (hA.block G.O (fun e => gW e.symm)).trans h1, h2⟩, hA.os, hA.tape, hA.output, Nat.le_of_eq hA.size.symm⟩
 subst e
 exact hb.elim gB id
set_option maxRecDepth 100000 in
set_option maxHeartbeats 8000000 in
theorem spawnM (ok : DatOk G D) (hty : G.ty = 45) (gB : ¬ G.base G.Wg) (gO : ¬ G.base G.O) (gW : G.Wg ≠ G.O) {R : Nat} (hR : R ≤ 16) (hw : ∀ w, MK G D w → EBW G Tryz.prog ⟨.run, born Tryz.prog (call11 G D), w, fun _ => False, fun _ => False, fun _ => False, G.N⟩)
  (hsend : ∀ T w, TS G D R T → MK G D w → EBM G Tryz.prog (FinA D cs) ⟨.sd 0, 0, Conc.G ((base 6).at ⟨T, []⟩ [.code s6]) cs, w⟩) :
  ∀ (r j : Nat) (T : Array Value) (w : World), j + r = R → TS G D R T → T[26]? = some (.int .i64 R) → T[27]? = some (.int .i64 j) → MK G D w →
   EBM G Tryz.prog (FinA D cs) ⟨spNext r, 0, Conc.G ((base 6).at ⟨T, []⟩ [.code ls6, .inLoop ls6, .inBlock 0, .code s6]) cs, w⟩ := by
 intro r
 induction r with
 | zero =>
  intro j T w hj hT t26 t27 hF
  obtain rfl : j = R := by omega
  obtain ⟨hs, t1, t2, t6, t7, t8⟩ := hT
  obtain ⟨v0, v1, v2, v3, v4, v5, v6, v7, v8, v9, v10, v11, v12, v13, v14, v15, v16, v17, v18, v19, v20, v21, v22, v23, v24, v25, v26, v27, v28, v29, v30, v31, v32, v33, v34, v35, v36, v37, v38, v39, v40, v41, v42, rfl⟩ := array43 T hs
  simp only [List.getElem?_toArray, List.getElem?_cons_succ, List.getElem?_cons_zero, Option.some.injEq] at t1 t2 t6 t7 t8 t26 t27
  subst t1 t2 t6 t7 t8 t26 t27
  have hnl : ¬ ((j : Int) < (j : Int)) := by omega
  refine EBM.walk (n := 30) ?_
  simp only [ls6, r6, cAll, Tryz.f6, Option.getD_some, sndC, fstC, lp]
  generalize hs6 : s6 = sc
  u_c stepG_seq (MK.rely ok) hF
  u_reg (MK.rely ok) hF
  u_op (MK.rely ok) hF
  u_c stepG_region_end (MK.rely ok) hF
  u_c stepG_seq (MK.rely ok) hF
  u_cond false (MK.rely ok) hF
  u_exit (MK.rely ok) hF
  refine Goes.stop (fun w1 h1 => ?_)
  subst hs6
  exact hsend _ w1 ⟨by simp, by simp, by simp, by simp, by simp, by simp⟩ (hF.rely ok h1)
 | succ r ih =>
  intro j T w hj hT t26 t27 hF
  obtain ⟨hs, t1, t2, t6, t7, t8⟩ := hT
  obtain ⟨v0, v1, v2, v3, v4, v5, v6, v7, v8, v9, v10, v11, v12, v13, v14, v15, v16, v17, v18, v19, v20, v21, v22, v23, v24, v25, v26, v27, v28, v29, v30, v31, v32, v33, v34, v35, v36, v37, v38, v39, v40, v41, v42, rfl⟩ := array43 T hs
  simp only [List.getElem?_toArray, List.getElem?_cons_succ, List.getElem?_cons_zero, Option.some.injEq] at t1 t2 t6 t7 t8 t26 t27
  subst t1 t2 t6 t7 t8 t26 t27
  have hlt : (j : Int) < (R : Int) := by omega
  have hwr : IntKind.i64.wrap ((j : Int) + 1) = ((j + 1 : Nat) : Int) := by rw [IntKind.wrap_i64]; omega
  refine EBM.walk (n := 30) ?_
  simp only [ls6, r6, cAll, Tryz.f6, Option.getD_some, sndC, fstC, lp]
  generalize hs6 : s6 = sc
  u_c stepG_seq (MK.rely ok) hF
  u_reg (MK.rely ok) hF
  u_op (MK.rely ok) hF
  u_c stepG_region_end (MK.rely ok) hF
  u_c stepG_seq (MK.rely ok) hF
  u_cond true (MK.rely ok) hF
  u_c stepG_skip (MK.rely ok) hF
  u_c stepG_seq (MK.rely ok) hF
  u_c stepG_block (MK.rely ok) hF
  u_c stepG_seq (MK.rely ok) hF
  u_reg (MK.rely ok) hF
  u_in (MK.rely ok) hF
  refine goes_call rfl rfl (by k_ne) rfl Tryz.func10 (nm_add Tryz.link) rfl ⟨by u_nil, ?_⟩
  refine Goes.stop (fun w1 h1 => ?_)
  replace hF := hF.rely ok h1
  clear h1
  show EBM G Tryz.prog (FinA D cs) ⟨.sp (r + 1) false, 0, _, w1⟩
  simp only [Act.eval, List.map_toArray, List.map_cons, List.map_nil]
  have f1 : ∀ {w}, MK G D w → WgLive G.ty G.Wg w := fun h => h.live
  have f2 : ∀ {w w1}, MK G D w → Rel G (fun _ => False) w w1 → MK G D w1 := fun h r => h.rely ok r
  have f3 : ∀ {w} v, MK G D w → WgLive G.ty G.Wg (w.setCell (stA G.Wg) v) → MK G D (w.setCell (stA G.Wg) v) := fun v h hl => h.wg ok gB gW v hl
  refine add_M (F := MK G D) (L := Tryz.link) Tryz.wgLib hty f1 f2 f3 (fun w hF => ?_) w1 hF
  refine EBM.walk (n := 30) ?_
  walk_nrm
  u_c stepG_region_end (MK.rely ok) hF
  u_reg (MK.rely ok) hF
  have hmf : ∀ (xs : Array Value) (w : World) (es : Array Event), (Instr.makeFunc (.func 11) #[] xs).events Tryz.prog w es = es := fun _ _ _ => rfl
  u_op (MK.rely ok) hF
  clear hmf
  refine Goes.stop (fun w2 h2 => ?_)
  replace hF := hF.rely ok h2
  clear h2
  refine EBM.act rfl (fun w3 h3 => ?_)
  replace hF := hF.rely ok h3
  clear h3
  try walk_nrm
  refine .go (child := born Tryz.prog (call11 G D)) r rfl rfl (stepG_spawn0 (d := call11 G D) (w' := w3) (f := .func 11) (c := #[.pointer (some ⟨G.Wg, 0, none⟩), .pointer (some ⟨D.bn, 0, none⟩), .pointer (some ⟨D.bt, 0, none⟩), .pointer (some ⟨D.bo, 0, none⟩)]) rfl rfl (by k_ne) (by simp [go_sem, call11, Deferred.ofValue]) rfl (by simp [go_sem, Deferred.ofValue])) rfl (hw w3 hF) ?_
  refine EBM.walk (n := 30) ?_
  walk_nrm
  u_c stepG_region_end (MK.rely ok) hF
  u_c stepG_inBlock (MK.rely ok) hF
  u_reg (MK.rely ok) hF
  u_op (MK.rely ok) hF
  u_op (MK.rely ok) hF
  u_c stepG_region_end (MK.rely ok) hF
  u_c stepG_inLoop (MK.rely ok) hF
  refine Goes.stop (fun w4 h4 => ?_)
  subst hs6
  refine ih (j + 1) _ w4 (by omega) ⟨by simp, by simp, by simp, by simp, by simp, by simp⟩ (by simp) (by simp) (hF.rely ok h4)
end
end
end Go.Mx
namespace Go.Mx
open Go Go.Conc Go.Pr
open Go.RowKit Go.Conc.Lib Go.ConcR.Gen Go.ConcN.Gen Go.Proofs
open Go.ConcN (WgLive)
open Go.ConcR (KK WgAt stA smA rd wr mk DC0)
section
variable {G : Geo} {D : Dat} {Fin : Goroutine → Prop} {cs : List Frame} {R : Nat}
set_option maxRecDepth 100000 in
set_option maxHeartbeats 8000000 in
theorem sendsM (ok : DatOk G D) (hz : G.zs = .tuple #[]) (hN : G.N ≤ 50)
  (hclose : ∀ T w, TS G D R T → MK G D w → EBM G Tryz.prog (FinA D cs) ⟨.sd G.N, 0, Conc.G ((base 6).at ⟨T, []⟩ [.code c6]) cs, w⟩) :
  ∀ (r i : Nat) (T : Array Value) (w : World), i + r = G.N → TS G D R T → T[33]? = some (.int .i64 G.N) → T[34]? = some (.int .i64 i) → MK G D w →
   EBM G Tryz.prog (FinA D cs) ⟨.sd i, 0, Conc.G ((base 6).at ⟨T, []⟩ [.code lt6, .inLoop lt6, .inBlock 2, .code c6]) cs, w⟩ := by
 intro r
 induction r with
 | zero =>
  intro i T w hj hT t33 t34 hF
  obtain ⟨hs, t1, t2, t6, t7, t8⟩ := hT
  obtain ⟨v0, v1, v2, v3, v4, v5, v6, v7, v8, v9, v10, v11, v12, v13, v14, v15, v16, v17, v18, v19, v20, v21, v22, v23, v24, v25, v26, v27, v28, v29, v30, v31, v32, v33, v34, v35, v36, v37, v38, v39, v40, v41, v42, rfl⟩ := array43 T hs
  obtain rfl : i = G.N := by omega
  simp only [List.getElem?_toArray, List.getElem?_cons_succ, List.getElem?_cons_zero, Option.some.injEq] at t1 t2 t6 t7 t8 t33 t34
  subst t1 t2 t6 t7 t8 t33 t34
  have hnl : ¬ ((G.N : Int) < (G.N : Int)) := by omega
  refine EBM.walk (n := 30) ?_
  simp only [lt6, s6, r6, cAll, Tryz.f6, Option.getD_some, sndC, fstC, lp]
  generalize hs6 : c6 = sc
  u_c stepG_seq (MK.rely ok) hF
  u_reg (MK.rely ok) hF
  u_op (MK.rely ok) hF
  u_c stepG_region_end (MK.rely ok) hF
  u_c stepG_seq (MK.rely ok) hF
  u_cond false (MK.rely ok) hF
  u_exit (MK.rely ok) hF
  refine Goes.stop (fun w1 h1 => ?_)
  subst hs6
  exact hclose _ w1 ⟨by simp, by simp, by simp, by simp, by simp, by simp⟩ (hF.rely ok h1)
 | succ r ih =>
  intro i T w hj hT t33 t34 hF
  obtain ⟨hs, t1, t2, t6, t7, t8⟩ := hT
  obtain ⟨v0, v1, v2, v3, v4, v5, v6, v7, v8, v9, v10, v11, v12, v13, v14, v15, v16, v17, v18, v19, v20, v21, v22, v23, v24, v25, v26, v27, v28, v29, v30, v31, v32, v33, v34, v35, v36, v37, v38, v39, v40, v41, v42, rfl⟩ := array43 T hs
  simp only [List.getElem?_toArray, List.getElem?_cons_succ, List.getElem?_cons_zero, Option.some.injEq] at t1 t2 t6 t7 t8 t33 t34
  subst t1 t2 t6 t7 t8 t33 t34
  have hlt : (i : Int) < (G.N : Int) := by omega
  have hwr : IntKind.i64.wrap ((i : Int) + 1) = ((i + 1 : Nat) : Int) := by rw [IntKind.wrap_i64]; omega
  refine EBM.walk (n := 30) ?_
  simp only [lt6, s6, r6, cAll, Tryz.f6, Option.getD_some, sndC, fstC, lp]
  generalize hs6 : c6 = sc
  u_c stepG_seq (MK.rely ok) hF
  u_reg (MK.rely ok) hF
  u_op (MK.rely ok) hF
  u_c stepG_region_end (MK.rely ok) hF
  u_c stepG_seq (MK.rely ok) hF
  u_cond true (MK.rely ok) hF
  u_c stepG_skip (MK.rely ok) hF
  u_c stepG_seq (MK.rely ok) hF
  u_c stepG_block (MK.rely ok) hF
  u_c stepG_seq (MK.rely ok) hF
  u_reg (MK.rely ok) hF
  u_op (MK.rely ok) hF
  u_op (MK.rely ok) hF
  u_c stepG_region_end (MK.rely ok) hF
  u_reg (MK.rely ok) hF
  refine Goes.stop (fun w1 h1 => ?_)
  replace hF := hF.rely ok h1
  clear h1
  refine EBM.read rfl (fun w2 hr => ?_)
  replace hF := hF.rely ok hr
  clear hr
  refine goes_oper_k rfl rfl (by k_ne) (fun Kx hKx => ?_)
  have hld := hF.nx
  go_simp
  refine hKx _ _ ⟨rfl, rfl, fun e he => ?_, ?_⟩
  ·have hm := mem_listed he
   clear hKx
   simp [go_sem, hld] at hm
   exact ⟨_, hm, ok.bn⟩
  clear hKx Kx hld
  refine EBM.walk (n := 30) ?_
  try walk_nrm
  u_op (MK.rely ok) hF
  refine Goes.stop (fun w3 h3 => ?_)
  replace hF := hF.rely ok h3
  clear h3
  refine EBM.send rfl i (fun w4 h4 => ?_)
  replace hF := hF.rely ok h4
  clear h4
  refine ⟨rfl, by omega, ?_, ?_⟩
  ·rw [hz, stepG_comm (cases := #[scase G.Ch (.int .i64 i) (.tuple #[])]) (blocking := true) (shape := .send) (w' := w4) rfl rfl (by k_ne) (by simp [go_sem, scase])]
   simp [Conc.G, listed, go_sem, seen]
  ·simp only [served_G]
   refine EBM.walk (n := 30) ?_
   try walk_nrm
   u_c stepG_region_end (MK.rely ok) hF
   u_c stepG_inBlock (MK.rely ok) hF
   u_reg (MK.rely ok) hF
   u_op (MK.rely ok) hF
   u_op (MK.rely ok) hF
   u_c stepG_region_end (MK.rely ok) hF
   u_c stepG_inLoop (MK.rely ok) hF
   refine Goes.stop (fun w5 h5 => ?_)
   subst hs6
   exact ih (i + 1) _ w5 (by omega) ⟨by simp, by simp, by simp, by simp, by simp, by simp⟩ (by simp) (by simp) (hF.rely ok h5)
set_option maxRecDepth 100000 in
set_option maxHeartbeats 8000000 in
theorem sendM (ok : DatOk G D) (hz : G.zs = .tuple #[]) (hN : G.N ≤ 50)
  (hclose : ∀ T w, TS G D R T → MK G D w → EBM G Tryz.prog (FinA D cs) ⟨.sd G.N, 0, Conc.G ((base 6).at ⟨T, []⟩ [.code c6]) cs, w⟩) (T : Array Value) (w : World) (hT : TS G D R T) (hF : MK G D w) :
  EBM G Tryz.prog (FinA D cs) ⟨.sd 0, 0, Conc.G ((base 6).at ⟨T, []⟩ [.code s6]) cs, w⟩ := by
  obtain ⟨hs, t1, t2, t6, t7, t8⟩ := hT
  obtain ⟨v0, v1, v2, v3, v4, v5, v6, v7, v8, v9, v10, v11, v12, v13, v14, v15, v16, v17, v18, v19, v20, v21, v22, v23, v24, v25, v26, v27, v28, v29, v30, v31, v32, v33, v34, v35, v36, v37, v38, v39, v40, v41, v42, rfl⟩ := array43 T hs
  simp only [List.getElem?_toArray, List.getElem?_cons_succ, List.getElem?_cons_zero, Option.some.injEq] at t1 t2 t6 t7 t8
  subst t1 t2 t6 t7 t8
  have hall := sendsM (R := R) ok hz hN hclose G.N 0
  refine EBM.walk (n := 30) ?_
  simp only [s6, r6, cAll, Tryz.f6, Option.getD_some, sndC, fstC, lp]
  u_c stepG_seq (MK.rely ok) hF
  u_c stepG_seq (MK.rely ok) hF
  u_reg (MK.rely ok) hF
  refine Goes.stop (fun w1 h1 => ?_)
  replace hF := hF.rely ok h1
  clear h1
  refine EBM.read rfl (fun w2 hr => ?_)
  replace hF := hF.rely ok hr
  clear hr
  refine goes_oper_k rfl rfl (by k_ne) (fun Kx hKx => ?_)
  have hld := hF.tx
  go_simp
  refine hKx _ _ ⟨rfl, rfl, fun e he => ?_, ?_⟩
  ·have hm := mem_listed he
   clear hKx
   simp [go_sem, hld] at hm
   exact ⟨_, hm, ok.bt⟩
  clear hKx Kx hld
  refine EBM.walk (n := 30) ?_
  try walk_nrm
  u_op (MK.rely ok) hF
  u_op (MK.rely ok) hF
  u_c stepG_region_end (MK.rely ok) hF
  u_c stepG_block (MK.rely ok) hF
  u_c stepG_loop (MK.rely ok) hF
  refine Goes.stop (fun w5 h5 => ?_)
  exact hall _ w5 (by omega) ⟨by simp, by simp, by simp, by simp, by simp, by simp⟩ (by simp) (by simp) (hF.rely ok h5)
set_option maxRecDepth 100000 in
set_option maxHeartbeats 8000000 in
theorem closeM (ok : DatOk G D) (hty : G.ty = 45) (gC : G.Wg ≠ G.Ch) (T : Array Value) (w : World) (hT : TS G D R T) (hF : MK G D w) : EBM G Tryz.prog (FinA D cs) ⟨.sd G.N, 0, Conc.G ((base 6).at ⟨T, []⟩ [.code c6]) cs, w⟩ := by
 obtain ⟨hs, t1, t2, t6, t7, t8⟩ := hT
 obtain ⟨v0, v1, v2, v3, v4, v5, v6, v7, v8, v9, v10, v11, v12, v13, v14, v15, v16, v17, v18, v19, v20, v21, v22, v23, v24, v25, v26, v27, v28, v29, v30, v31, v32, v33, v34, v35, v36, v37, v38, v39, v40, v41, v42, rfl⟩ := array43 T hs
 simp only [List.getElem?_toArray, List.getElem?_cons_succ, List.getElem?_cons_zero, Option.some.injEq] at t1 t2 t6 t7 t8
 subst t1 t2 t6 t7 t8
 refine EBM.walk (n := 30) ?_
 simp only [c6, s6, r6, cAll, Tryz.f6, Option.getD_some, sndC, fstC, lp]
 u_c stepG_seq (MK.rely ok) hF
 u_reg (MK.rely ok) hF
 refine Goes.stop (fun w1 h1 => ?_)
 replace hF := hF.rely ok h1
 clear h1
 refine EBM.read rfl (fun w2 hr => ?_)
 replace hF := hF.rely ok hr
 clear hr
 refine goes_oper_k rfl rfl (by k_ne) (fun Kx hKx => ?_)
 have hld := hF.nx
 go_simp
 refine hKx _ _ ⟨rfl, rfl, fun e he => ?_, ?_⟩
 ·have hm := mem_listed he
  clear hKx
  simp [go_sem, hld] at hm
  exact ⟨_, hm, ok.bn⟩
 clear hKx Kx hld
 try walk_nrm
 refine EBM.act rfl (fun w3 h3 => ?_)
 replace hF := hF.rely ok h3
 clear h3
 refine .close rfl rfl (fun a b hch => ?_)
 refine ⟨_, stepG_shut rfl rfl (by k_ne) rfl (by simp [Act.eval]) hch loud6, rfl, fun v => ?_⟩
 have hl : WgLive G.ty G.Wg { w3 with heap := w3.heap.setIfInBounds G.Ch (.chan 0 #[] true a b false) } := by
  obtain ⟨st, sm, h⟩ := hF.live
  exact ⟨st, sm, h.of_block (Array.getElem?_setIfInBounds_ne (Ne.symm gC))⟩
 generalize { w3 with heap := w3.heap.setIfInBounds G.Ch (.chan 0 #[] true a b false) } = w4 at hl ⊢
 clear hF hch
 refine EBM.walk (n := 30) ?_
 try walk_nrm
 u_c stepG_region_end live_rely hl
 u_c stepG_seq live_rely hl
 u_reg live_rely hl
 u_in live_rely hl
 refine goes_call rfl rfl (by k_ne) rfl Tryz.func13 (nm_wait Tryz.link) rfl ⟨by u_nil, ?_⟩
 refine Goes.stop (fun w5 h5 => ?_)
 replace hl := live_rely hl h5
 clear h5
 simp only [Act.eval, List.map_toArray, List.map_cons, List.map_nil]
 refine wait_M (L := Tryz.link) Tryz.wgLib hty (fun g hg => ?_) v w5 hl
 exact ⟨_, by simp [Act.put], by simp [Act.put], hg⟩
end
end Go.Mx
namespace Go.Mx
open Go Go.Conc Go.Pr
open Go.RowKit Go.Conc.Lib Go.ConcR.Gen Go.ConcN.Gen Go.Proofs
open Go.ConcN (WgLive)
open Go.ConcR (KK WgAt stA smA rd wr mk DC0)
section
variable {G : Geo} {D : Dat} {cs : List Frame} {R : Nat}
theorem sp_eq {R : Nat} (h : 1 ≤ R) : spNext R = .sp R false := by unfold spNext; rw [if_neg (by omega)]
set_option maxRecDepth 100000 in
set_option maxHeartbeats 8000000 in
theorem roundM (ok : DatOk G D) (hty : G.ty = 45) (hz : G.z = .int .i64 0) (hzs : G.zs = .tuple #[]) (hN : G.N ≤ 50) (gB : ¬ G.base G.Wg) (gO : ¬ G.base G.O) (gW : G.Wg ≠ G.O) (gC : G.Wg ≠ G.Ch) (hR1 : 1 ≤ R) (hR : R ≤ 16)
  {Sx : Nat → Nat → Bool} (E : Env Tryz.prog D.ρ Sx) (hok : D.ρ.ok 8) (hsp : ∀ f, ¬ D.ρ.sp f) (ans : Nat → ByteArray) (hans : ∀ i, G.ans i = .string (ans i))
  (hS : ∀ i, i < G.N → ∀ T, Calls Tryz.prog 8 #[.string (D.txt i)] (on D.wL T) fun e _ => ∃ v, e = .returned v ∧ v = .string (ans i))
  (T : Array Value) (w : World) (hT : TS G D R T) (hF : MK G D w) : EBM G Tryz.prog (FinA D cs) ⟨.sp R false, 0, Conc.G ((base 6).at ⟨T, []⟩ [.code r6]) cs, w⟩ := by
 have h0 := spawnM (cs := cs) ok hty gB gO gW hR (fun w hF => workW ok hty hz E hok hsp ans hans hS gO gW G.N w ⟨hF.sep, hF⟩) (fun T w hT hF => sendM ok hzs hN (fun T w hT hF => closeM ok hty gC T w hT hF) T w hT hF) R 0
 rw [sp_eq hR1] at h0
 obtain ⟨hs, t1, t2, t6, t7, t8⟩ := hT
 obtain ⟨v0, v1, v2, v3, v4, v5, v6, v7, v8, v9, v10, v11, v12, v13, v14, v15, v16, v17, v18, v19, v20, v21, v22, v23, v24, v25, v26, v27, v28, v29, v30, v31, v32, v33, v34, v35, v36, v37, v38, v39, v40, v41, v42, rfl⟩ := array43 T hs
 simp only [List.getElem?_toArray, List.getElem?_cons_succ, List.getElem?_cons_zero, Option.some.injEq] at t1 t2 t6 t7 t8
 subst t1 t2 t6 t7 t8
 refine EBM.walk (n := 30) ?_
 simp only [r6, cAll, Tryz.f6, Option.getD_some, sndC]
 u_c stepG_seq (MK.rely ok) hF
 u_c stepG_seq (MK.rely ok) hF
 u_reg (MK.rely ok) hF
 u_op (MK.rely ok) hF
 u_op (MK.rely ok) hF
 u_c stepG_region_end (MK.rely ok) hF
 u_c stepG_block (MK.rely ok) hF
 u_c stepG_loop (MK.rely ok) hF
 refine Goes.stop (fun w5 h5 => ?_)
 exact h0 _ w5 (by omega) ⟨by simp, by simp, by simp, by simp, by simp, by simp⟩ (by simp) (by simp) (hF.rely ok h5)
end
end Go.Mx
namespace Go.Mx
open Go Go.Conc Go.Pr
open Go.RowKit Go.Conc.Lib Go.ConcR.Gen Go.ConcN.Gen Go.Proofs
open Go.ConcN (WgLive)
open Go.ConcR (KK WgAt stA smA rd wr mk DC0)
def AtR (w w1 : World) : Prop := ∃ d, w1 = w.at d
theorem AtR.refl (w : World) : AtR w w := ⟨w.drawn, rfl⟩
theorem AtR.trans {a b c : World} (h : AtR a b) (k : AtR b c) : AtR a c := by
 obtain ⟨d, rfl⟩ := h
 obtain ⟨e, rfl⟩ := k
 exact ⟨e, rfl⟩
theorem Same.cell {w0 w : World} (h : Same w0 w) (a : Addr) : w.cell? a = w0.cell? a := by unfold World.cell?; rw [h.heap]
theorem Same.frozen {w0 w : World} (h : Same w0 w) (a : Addr) : w.frozen? a = w0.frozen? a := by unfold World.frozen?; rw [h.heap]
theorem Same.alloc {w0 w : World} (h : Same w0 w) (o : Obj) : Same (w0.alloc o) (w.alloc o) := ⟨by show w.heap.push o = w0.heap.push o; rw [h.heap], h.os, h.tape, h.output⟩
theorem Same.set {w0 w : World} (h : Same w0 w) (a : Addr) (v : Value) : Same (w0.setCell a v) (w.setCell a v) := by
 have h1 := aside_setCell w0 a v
 have h2 := aside_setCell w a v
 refine ⟨?_, h2.os.trans (h.os.trans h1.os.symm), h2.tape.trans (h.tape.trans h1.tape.symm), h2.output.trans (h.output.trans h1.output.symm)⟩
 unfold World.setCell
 simp only [h.heap]
section
variable {P : Program} {S : Nat → Prop} {L : CS → Prop} {T : Nat → Prop}
theorem EBC.running {s : CS} (h : EBC P S L s) : s.g.status = .running := by
 obtain ⟨r, h⟩ := h
 cases r with
 | leaf => exact h.1
 | node f => exact h.1
theorem EBC.walk {n : Nat} {g : Goroutine} {w : World} (hT : ∀ b, T b → b < w.heap.size ∧ ¬ S b) (hL : ∀ s d, L s → L { s with w := s.w.at d }) (h : Conc.Goes P true AtR DC0 (fun g w => EBC P S L ⟨g, w, T⟩) n g w) : EBC P S L ⟨g, w, T⟩ := by
 induction n generalizing g w with
 | zero => exact h w (AtR.refl w)
 | succ n ih =>
  rcases h with h | ⟨hs, h⟩
  ·exact h w (AtR.refl w)
  ·refine EBC.act hs fun d => ?_
   have k := h (w.at d) ⟨d, rfl⟩
   generalize e : stepG P true g (w.at d) = r at k
   cases r with
   | go g' w' es =>
    obtain ⟨⟨e1, e2⟩, k2⟩ := k
    subst e1 e2
    exact ⟨g', w.at d, #[], T, rfl, by intro e he; simp at he, fun _ h => h, hT, Nat.le_refl _, ih (w := w.at d) hT k2⟩
   | _ => exact k.elim
theorem EBC.step1 {T' : Nat → Prop} {g : Goroutine} {w : World} (hs : g.status = .running) (hT : ∀ b, T b → T' b) (h : ∀ w1, AtR w w1 → (stepG P true g w1).goes fun g' w' es => (∀ e ∈ es, ∃ (a : Addr) (wr : Bool), e = ⟨.cell a, wr, false⟩ ∧ T' a.block) ∧ (∀ b, T' b → b < w'.heap.size ∧ ¬ S b) ∧ w1.heap.size ≤ w'.heap.size ∧ EBC P S L ⟨g', w', T'⟩) : EBC P S L ⟨g, w, T⟩ := by
 refine EBC.act hs fun d => ?_
 have k := h (w.at d) ⟨d, rfl⟩
 generalize e : stepG P true g (w.at d) = r at k
 cases r with
 | go g' w' es =>
  obtain ⟨k1, k2, k3, k4⟩ := k
  refine ⟨g', w', es, T', rfl, fun x hx => ?_, hT, k2, k3, k4⟩
  obtain ⟨a, wr, rfl, ha⟩ := k1 x hx
  refine ⟨fun m hm => (by cases hm), fun x hx _ => ?_⟩
  have hx' : x = ⟨.cell a, wr, .plain⟩ := by cases wr <;> simp [MemAct.ofEvent, MemAct.touch?] at hx <;> exact hx.symm
  subst hx'
  exact ⟨rfl, a.block, rfl, .inl ha⟩
 | _ => exact k.elim
end
structure AC (W w : World) (N : Nat) (bs : List Obj) : Prop where
 sz : W.heap.size = N
 heap : w.heap = W.heap ++ bs.toArray
 os : w.os = W.os
 tape : w.tape = W.tape
 output : w.output = W.output
section
variable {W w w1 : World} {N : Nat} {bs : List Obj}
theorem AC.start (W : World) : AC W W W.heap.size [] := ⟨rfl, by simp, rfl, rfl, rfl⟩
theorem AC.rely (h : AC W w N bs) (r : AtR w w1) : AC W w1 N bs := by
 obtain ⟨d, rfl⟩ := r
 exact ⟨h.sz, h.heap, h.os, h.tape, h.output⟩
theorem AC.size (h : AC W w N bs) : w.heap.size = N + bs.length := by rw [h.heap]; simp [h.sz]
theorem AC.alloc (h : AC W w N bs) (o : Obj) : AC W (w.alloc o) N (bs ++ [o]) := by
 refine ⟨h.sz, ?_, h.os, h.tape, h.output⟩
 show w.heap.push o = _
 rw [h.heap]
 simp
theorem AC.get (h : AC W w N bs) {k : Nat} {o : Obj} (hk : bs[k]? = some o) : w.heap[N + k]? = some o := by
 rw [h.heap, Array.getElem?_append_right (by rw [h.sz]; omega), h.sz]
 simpa using hk
theorem AC.old (h : AC W w N bs) {b : Nat} (hb : b < N) : w.heap[b]? = W.heap[b]? := by
 rw [h.heap, Array.getElem?_append_left (by rw [h.sz]; exact hb)]
theorem AC.cell (h : AC W w N bs) {k : Nat} {c : Array Value} {e : TypeId} {fr : Nat × Nat} (hk : bs[k]? = some (.cells c e fr)) (i : Nat) : w.cell? ⟨N + k, i, none⟩ = c[i]? := by
 unfold World.cell?
 rw [h.get hk]
 rfl
theorem AC.set (h : AC W w N bs) {k : Nat} {c : Array Value} {e : TypeId} (hk : bs[k]? = some (.cells c e (0, 0))) (i : Nat) (v : Value) : AC W (w.setCell ⟨N + k, i, none⟩ v) N (bs.set k (.cells (c.setIfInBounds i v) e (0, 0))) := by
 have hA := aside_setCell w ⟨N + k, i, none⟩ v
 refine ⟨h.sz, ?_, hA.os.trans h.os, hA.tape.trans h.tape, hA.output.trans h.output⟩
 have hl : k < bs.length := (List.getElem?_eq_some_iff.1 hk).1
 apply Array.ext'
 apply List.ext_getElem?
 intro j
 rw [Array.getElem?_toList, Array.getElem?_toList]
 by_cases e1 : j = N + k
 ·subst e1
  rw [setCell_eq_setRow w (N + k) i c _ (0, 0) _ (h.get hk), setRow_heap w (N + k) _ _ _ _ (h.get hk), Array.getElem?_append_right (by rw [h.sz]; omega), h.sz]
  simp [hl]
 ·rw [hA.block j e1, h.heap]
  by_cases e2 : j < N
  ·rw [Array.getElem?_append_left (by rw [h.sz]; exact e2), Array.getElem?_append_left (by rw [h.sz]; exact e2)]
  ·rw [Array.getElem?_append_right (by rw [h.sz]; omega), Array.getElem?_append_right (by rw [h.sz]; omega), h.sz]
   simp only [List.getElem?_toArray]
   rw [List.getElem?_set_ne (by omega)]
theorem AC.frozen (h : AC W w N bs) {k : Nat} {c : Array Value} {e : TypeId} (hk : bs[k]? = some (.cells c e (0, 0))) (i : Nat) : w.frozen? ⟨N + k, i, none⟩ = false := by
 unfold World.frozen?
 rw [h.get hk]
 simp
def TT (T : Nat → Prop) (N k : Nat) : Nat → Prop := fun b => T b ∨ (N ≤ b ∧ b < N + k ∧ b ≠ N + 3)
theorem TT.up (T : Nat → Prop) (N : Nat) {k k' : Nat} (h : k ≤ k') {b : Nat} (hb : TT T N k b) : TT T N k' b := hb.imp id fun ⟨h1, h2, h3⟩ => ⟨h1, by omega, h3⟩
theorem TT.ok {T S : Nat → Prop} {k : Nat} (hT : ∀ b, T b → b < N ∧ ¬ S b) (hS : ∀ b, S b → b < N) (h : AC W w N bs) (hk : k ≤ bs.length) : ∀ b, TT T N k b → b < w.heap.size ∧ ¬ S b := fun b hb => by
 rw [h.size]
 rcases hb with hb | ⟨h1, h2, h3⟩
 ·exact ⟨by have := (hT b hb).1; omega, (hT b hb).2⟩
 ·exact ⟨by omega, fun e => by have := hS b e; omega⟩
end
theorem i9 : (Tryz.prog.info? 9).map (fun i => (i.zero, i.bytes, i.size)) = some (some (.string ⟨#[]⟩), 16, 1) := by kernel_rfl
theorem make_run (w : World) (n : Nat) (hn : n ≤ 55) : (Instr.makeSlice 22 (.int .i64 n) (.int .i64 n)).run Tryz.prog w = .ok (.slice (some ⟨w.heap.size, 0, none⟩) n n) (w.alloc (.cells (Array.replicate n (.string ⟨#[]⟩)) 9)) := by
 obtain ⟨i, hi, e⟩ := Option.map_eq_some_iff.1 i9
 simp only [Prod.mk.injEq] at e
 obtain ⟨hz, hb, hs⟩ := e
 have h := run_makeSlice (P := Tryz.prog) w 22 9 i (.string ⟨#[]⟩) Tryz.underlying22 hi hz .i64 .i64 n n (by omega) (Int.le_refl _) (by rw [hs]; omega) (by rw [hb]; omega) (by omega)
 have e : madeCells (Value.string ⟨#[]⟩).cells n = Array.replicate n (.string ⟨#[]⟩) := by
  apply Array.ext
  ·simp [size_madeCells]
  ·intro j h1 h2
   simp [madeCells, Value.cells, Nat.mod_one]
 rw [h]
 simp only [Int.toNat_natCast, hs, Nat.mul_one, e]
theorem make_ev (w : World) (n : Nat) (hn : n ≤ 55) (es : Array Event) : (Instr.makeSlice 22 (.int .i64 n) (.int .i64 n)).events Tryz.prog w es = es := by
 obtain ⟨i, hi, e⟩ := Option.map_eq_some_iff.1 i9
 simp only [Prod.mk.injEq] at e
 obtain ⟨hz, hb, hs⟩ := e
 exact Go.Conc.events_make (P := Tryz.prog) w 22 9 i (.string ⟨#[]⟩) Tryz.underlying22 hi hz .i64 .i64 n n (by omega) (Int.le_refl _) (by rw [hb]; omega) (by omega) (by rw [hb]; omega) es
theorem i3 : (Tryz.prog.info? 3).map (fun i => i.bytes) = some 8 := by kernel_rfl
theorem chan_run (w : World) : (Instr.makeChan 35 (.int .i64 0)).run Tryz.prog w = .ok (.chan (some w.heap.size)) (w.alloc (.chan 0 #[] false 0 0 false)) := by
 obtain ⟨i, hi, e⟩ := Option.map_eq_some_iff.1 i3
 exact run_makeChan Tryz.underlying35 hi .i64 0 (by omega) (by rw [e]; omega)
theorem chan_ev (w : World) (es : Array Event) : (Instr.makeChan 35 (.int .i64 0)).events Tryz.prog w es = es := by
 obtain ⟨i, hi, e⟩ := Option.map_eq_some_iff.1 i3
 exact events_makeChan Tryz.underlying35 hi .i64 0 (by omega) (by rw [e]; omega) es
end Go.Mx
namespace Go.Mx
open Go Go.Conc Go.Pr
open Go.RowKit Go.Conc.Lib Go.ConcR.Gen Go.ConcN.Gen Go.Proofs
open Go.ConcN (WgLive)
open Go.ConcR (KK WgAt stA smA rd wr mk DC0)
def bs6 (N n : Nat) (ta : Option Addr) (tc : Nat) : List Obj := [.cells #[.slice ta n tc] 22, .cells (Array.replicate n (.string ⟨#[]⟩)) 9, .cells #[.slice (some ⟨N + 1, 0, none⟩) n n] 22, .chan 0 #[] false 0 0 false, .cells #[.chan (some (N + 3))] 35, .cells #[.int .u64 0, .int .u32 0] 45]
section
variable {S : Nat → Prop} {L : CS → Prop} {T : Nat → Prop} {cs : List Frame}
set_option maxRecDepth 100000 in
set_option maxHeartbeats 8000000 in
theorem allC (hL : ∀ s d, L s → L { s with w := s.w.at d }) {n R N : Nat} (hn : n ≤ 50) (hR1 : 1 ≤ R) (hR : R ≤ 16) (ta : Option Addr) (tc : Nat) (W : World) (hN : W.heap.size = N) (hT : ∀ b, T b → b < N ∧ ¬ S b) (hSb : ∀ b, S b → b < N)
  (hend : ∀ (T1 : Array Value) (w1 : World), T1.size = 43 → T1[1]? = some (.int .i64 R) → T1[2]? = some (.pointer (some ⟨N, 0, none⟩)) → T1[6]? = some (.pointer (some ⟨N + 2, 0, none⟩)) → T1[7]? = some (.pointer (some ⟨N + 4, 0, none⟩)) → T1[8]? = some (.pointer (some ⟨N + 5, 0, none⟩)) → AC W w1 N (bs6 N n ta tc) → EBC Tryz.prog S L ⟨Conc.G ((base 6).at ⟨T1, []⟩ [.code r6]) cs, w1, TT T N 5⟩) :
  EBC Tryz.prog S L ⟨Conc.G (Frame.enter Tryz.prog 6 #[.slice ta n tc, .int .i64 R] .normal) cs, W, T⟩ := by
 rw [enter_at (c := cAll) _ Tryz.func6 rfl]
 have hF : AC W W N [] := hN ▸ AC.start W
 have q1 : ¬ (50 : Int) < (n : Int) := by omega
 have q2 : ¬ (R : Int) < 1 := by omega
 have q3 : ¬ (16 : Int) < (R : Int) := by omega
 have q4 : (0 : Int) ≤ (n : Int) := by omega
 refine EBC.walk (n := 30) (fun b hb => by rw [hN]; exact hT b hb) hL ?_
 simp only [cAll, Tryz.f6, Option.getD_some]
 generalize hrr : (Code.seq (Code.seq (Code.region 6 _ false) _) _) = rr
 walk_nrm
 u_c stepG_seq AC.rely hF
 u_reg AC.rely hF
 refine Goes.stop (fun w1 h1 => ?_)
 replace hF := hF.rely h1
 clear h1
 refine EBC.step1 (T' := TT T N 1) rfl (fun b hb => .inl hb) (fun w2 h2 => ?_)
 replace hF := hF.rely h2
 clear h2
 refine goes_oper_k rfl rfl (by k_ne) (fun Kx hKx => ?_)
 have hsz := hF.size
 simp only [List.length_append, List.length_cons, List.length_nil, List.length_set, Nat.reduceAdd, Nat.zero_add] at hsz
 go_simp
 try rw [hsz]
 have hF' := hF.alloc (.cells #[.slice ta n tc] 22)
 simp only [List.nil_append] at hF'
 refine hKx _ _ ⟨fun e he => ?_, TT.ok hT hSb hF' (by simp), by simp [World.size_alloc], ?_⟩
 ·have hm := mem_listed he
  clear hKx
  simp [go_sem] at hm
 clear hKx Kx hsz
 replace hF := hF'
 clear hF'
 refine EBC.walk (n := 40) (TT.ok hT hSb hF (by simp)) hL ?_
 try walk_nrm
 u_op AC.rely hF
 u_op AC.rely hF
 u_c stepG_region_end AC.rely hF
 u_c stepG_seq AC.rely hF
 u_c stepG_seq AC.rely hF
 u_reg AC.rely hF
 refine Goes.stop (fun w1 h1 => ?_)
 replace hF := hF.rely h1
 clear h1
 refine EBC.step1 (T' := TT T N 1) rfl (fun b hb => hb.elim .inl (fun x => .inr ⟨x.1, by have := x.2.1; omega, x.2.2⟩)) (fun w2 h2 => ?_)
 replace hF := hF.rely h2
 clear h2
 refine goes_oper_k rfl rfl (by k_ne) (fun Kx hKx => ?_)
 have hsz := hF.size
 simp only [List.length_append, List.length_cons, List.length_nil, List.length_set, Nat.reduceAdd, Nat.zero_add] at hsz
 have hld := hF.cell (k := 0) rfl 0
 simp only [Nat.add_zero] at hld
 have hld : w2.cell? ⟨N, 0, none⟩ = some (.slice ta n tc) := hld
 go_simp
 have hF' := hF
 refine hKx _ _ ⟨fun e he => ?_, TT.ok hT hSb hF' (by simp), by simp [World.size_alloc], ?_⟩
 ·have hm := mem_listed he
  clear hKx
  simp [go_sem, hld] at hm
  exact ⟨_, false, hm, .inr ⟨Nat.le_refl N, by show N < N + 1; omega, by show N ≠ N + 3; omega⟩⟩
 clear hKx Kx hsz hld
 replace hF := hF'
 clear hF'
 refine EBC.walk (n := 40) (TT.ok hT hSb hF (by simp)) hL ?_
 try walk_nrm
 u_op AC.rely hF
 u_op AC.rely hF
 u_op AC.rely hF
 u_op AC.rely hF
 u_op AC.rely hF
 u_op AC.rely hF
 u_op AC.rely hF
 u_op AC.rely hF
 u_op AC.rely hF
 u_op AC.rely hF
 u_c stepG_region_end AC.rely hF
 u_cond false AC.rely hF
 u_c stepG_skip AC.rely hF
 u_c stepG_seq AC.rely hF
 u_reg AC.rely hF
 refine Goes.stop (fun w1 h1 => ?_)
 replace hF := hF.rely h1
 clear h1
 refine EBC.step1 (T' := TT T N 1) rfl (fun b hb => hb.elim .inl (fun x => .inr ⟨x.1, by have := x.2.1; omega, x.2.2⟩)) (fun w2 h2 => ?_)
 replace hF := hF.rely h2
 clear h2
 refine goes_oper_k rfl rfl (by k_ne) (fun Kx hKx => ?_)
 have hsz := hF.size
 simp only [List.length_append, List.length_cons, List.length_nil, List.length_set, Nat.reduceAdd, Nat.zero_add] at hsz
 have hld := hF.cell (k := 0) rfl 0
 simp only [Nat.add_zero] at hld
 have hld : w2.cell? ⟨N, 0, none⟩ = some (.slice ta n tc) := hld
 go_simp
 have hF' := hF
 refine hKx _ _ ⟨fun e he => ?_, TT.ok hT hSb hF' (by simp), by simp [World.size_alloc], ?_⟩
 ·have hm := mem_listed he
  clear hKx
  simp [go_sem, hld] at hm
  exact ⟨_, false, hm, .inr ⟨Nat.le_refl N, by show N < N + 1; omega, by show N ≠ N + 3; omega⟩⟩
 clear hKx Kx hsz hld
 replace hF := hF'
 clear hF'
 refine EBC.walk (n := 40) (TT.ok hT hSb hF (by simp)) hL ?_
 try walk_nrm
 u_op AC.rely hF
 refine Goes.stop (fun w1 h1 => ?_)
 replace hF := hF.rely h1
 clear h1
 refine EBC.step1 (T' := TT T N 2) rfl (fun b hb => hb.elim .inl (fun x => .inr ⟨x.1, by have := x.2.1; omega, x.2.2⟩)) (fun w2 h2 => ?_)
 replace hF := hF.rely h2
 clear h2
 refine goes_oper_k rfl rfl (by k_ne) (fun Kx hKx => ?_)
 have hsz := hF.size
 simp only [List.length_append, List.length_cons, List.length_nil, List.length_set, Nat.reduceAdd, Nat.zero_add] at hsz
 have hmk := make_run w2 n (by omega)
 have hmv := make_ev w2 n (by omega)
 go_simp
 try rw [hsz]
 have hF' := hF.alloc (.cells (Array.replicate n (.string ⟨#[]⟩)) 9)
 simp only [List.cons_append, List.nil_append] at hF'
 refine hKx _ _ ⟨fun e he => ?_, TT.ok hT hSb hF' (by simp), by simp [World.size_alloc], ?_⟩
 ·have hm := mem_listed he
  clear hKx
  simp [go_sem, hmv] at hm
 clear hKx Kx hsz hmk hmv
 replace hF := hF'
 clear hF'
 refine EBC.walk (n := 40) (TT.ok hT hSb hF (by simp)) hL ?_
 try walk_nrm
 refine Goes.stop (fun w1 h1 => ?_)
 replace hF := hF.rely h1
 clear h1
 refine EBC.step1 (T' := TT T N 3) rfl (fun b hb => hb.elim .inl (fun x => .inr ⟨x.1, by have := x.2.1; omega, x.2.2⟩)) (fun w2 h2 => ?_)
 replace hF := hF.rely h2
 clear h2
 refine goes_oper_k rfl rfl (by k_ne) (fun Kx hKx => ?_)
 have hsz := hF.size
 simp only [List.length_append, List.length_cons, List.length_nil, List.length_set, Nat.reduceAdd, Nat.zero_add] at hsz
 go_simp
 try rw [hsz]
 have hF' := hF.alloc (.cells #[.slice none 0 0] 22)
 simp only [List.cons_append, List.nil_append] at hF'
 refine hKx _ _ ⟨fun e he => ?_, TT.ok hT hSb hF' (by simp), by simp [World.size_alloc], ?_⟩
 ·have hm := mem_listed he
  clear hKx
  simp [go_sem] at hm
 clear hKx Kx hsz
 replace hF := hF'
 clear hF'
 refine EBC.walk (n := 40) (TT.ok hT hSb hF (by simp)) hL ?_
 try walk_nrm
 refine Goes.stop (fun w1 h1 => ?_)
 replace hF := hF.rely h1
 clear h1
 refine EBC.step1 (T' := TT T N 3) rfl (fun b hb => hb.elim .inl (fun x => .inr ⟨x.1, by have := x.2.1; omega, x.2.2⟩)) (fun w2 h2 => ?_)
 replace hF := hF.rely h2
 clear h2
 refine goes_oper_k rfl rfl (by k_ne) (fun Kx hKx => ?_)
 have hsz := hF.size
 simp only [List.length_append, List.length_cons, List.length_nil, List.length_set, Nat.reduceAdd, Nat.zero_add] at hsz
 have hld := hF.cell (k := 2) rfl 0
 have hlf := hF.frozen (k := 2) rfl 0
 have hld : w2.cell? ⟨N + 2, 0, none⟩ = some (.slice none 0 0) := hld
 have hse := fun es => events_store Tryz.prog w2 es ⟨N + 2, 0, none⟩ (.slice (some ⟨N + 1, 0, none⟩) n n) .plain rfl
 go_simp
 have hF' := hF.set (k := 2) rfl 0 (.slice (some ⟨N + 1, 0, none⟩) n n)
 simp only [List.set_cons_succ, List.set_cons_zero] at hF'
 refine hKx _ _ ⟨fun e he => ?_, TT.ok hT hSb hF' (by simp), by simp [World.size_alloc], ?_⟩
 ·have hm := mem_listed he
  clear hKx
  simp [go_sem, hld, hlf, hse, storedEv] at hm
  exact ⟨_, true, hm, .inr ⟨by show N ≤ N + 2; omega, by show N + 2 < N + 3; omega, by show N + 2 ≠ N + 3; omega⟩⟩
 clear hKx Kx hsz hld hlf hse
 replace hF := hF'
 clear hF'
 refine EBC.walk (n := 40) (TT.ok hT hSb hF (by simp)) hL ?_
 try walk_nrm
 u_c stepG_region_end AC.rely hF
 u_c stepG_seq AC.rely hF
 u_reg AC.rely hF
 refine Goes.stop (fun w1 h1 => ?_)
 replace hF := hF.rely h1
 clear h1
 refine EBC.step1 (T' := TT T N 3) rfl (fun b hb => hb.elim .inl (fun x => .inr ⟨x.1, by have := x.2.1; omega, x.2.2⟩)) (fun w2 h2 => ?_)
 replace hF := hF.rely h2
 clear h2
 refine goes_oper_k rfl rfl (by k_ne) (fun Kx hKx => ?_)
 have hsz := hF.size
 simp only [List.length_append, List.length_cons, List.length_nil, List.length_set, Nat.reduceAdd, Nat.zero_add] at hsz
 have hmk := chan_run w2
 have hmv := chan_ev w2
 go_simp
 try rw [hsz]
 have hF' := hF.alloc (.chan 0 #[] false 0 0 false)
 simp only [List.cons_append, List.nil_append] at hF'
 refine hKx _ _ ⟨fun e he => ?_, TT.ok hT hSb hF' (by simp), by simp [World.size_alloc], ?_⟩
 ·have hm := mem_listed he
  clear hKx
  simp [go_sem, hmv] at hm
 clear hKx Kx hsz hmk hmv
 replace hF := hF'
 clear hF'
 refine EBC.walk (n := 40) (TT.ok hT hSb hF (by simp)) hL ?_
 try walk_nrm
 refine Goes.stop (fun w1 h1 => ?_)
 replace hF := hF.rely h1
 clear h1
 refine EBC.step1 (T' := TT T N 5) rfl (fun b hb => hb.elim .inl (fun x => .inr ⟨x.1, by have := x.2.1; omega, x.2.2⟩)) (fun w2 h2 => ?_)
 replace hF := hF.rely h2
 clear h2
 refine goes_oper_k rfl rfl (by k_ne) (fun Kx hKx => ?_)
 have hsz := hF.size
 simp only [List.length_append, List.length_cons, List.length_nil, List.length_set, Nat.reduceAdd, Nat.zero_add] at hsz
 go_simp
 try rw [hsz]
 have hF' := hF.alloc (.cells #[.chan none] 35)
 simp only [List.cons_append, List.nil_append] at hF'
 refine hKx _ _ ⟨fun e he => ?_, TT.ok hT hSb hF' (by simp), by simp [World.size_alloc], ?_⟩
 ·have hm := mem_listed he
  clear hKx
  simp [go_sem] at hm
 clear hKx Kx hsz
 replace hF := hF'
 clear hF'
 refine EBC.walk (n := 40) (TT.ok hT hSb hF (by simp)) hL ?_
 try walk_nrm
 refine Goes.stop (fun w1 h1 => ?_)
 replace hF := hF.rely h1
 clear h1
 refine EBC.step1 (T' := TT T N 5) rfl (fun b hb => hb.elim .inl (fun x => .inr ⟨x.1, by have := x.2.1; omega, x.2.2⟩)) (fun w2 h2 => ?_)
 replace hF := hF.rely h2
 clear h2
 refine goes_oper_k rfl rfl (by k_ne) (fun Kx hKx => ?_)
 have hsz := hF.size
 simp only [List.length_append, List.length_cons, List.length_nil, List.length_set, Nat.reduceAdd, Nat.zero_add] at hsz
 have hld := hF.cell (k := 4) rfl 0
 have hlf := hF.frozen (k := 4) rfl 0
 have hld : w2.cell? ⟨N + 4, 0, none⟩ = some (.chan none) := hld
 have hse := fun es => events_store Tryz.prog w2 es ⟨N + 4, 0, none⟩ (.chan (some (N + 3))) .plain rfl
 go_simp
 have hF' := hF.set (k := 4) rfl 0 (.chan (some (N + 3)))
 simp only [List.set_cons_succ, List.set_cons_zero] at hF'
 refine hKx _ _ ⟨fun e he => ?_, TT.ok hT hSb hF' (by simp), by simp [World.size_alloc], ?_⟩
 ·have hm := mem_listed he
  clear hKx
  simp [go_sem, hld, hlf, hse, storedEv] at hm
  exact ⟨_, true, hm, .inr ⟨by show N ≤ N + 4; omega, by show N + 4 < N + 5; omega, by show N + 4 ≠ N + 3; omega⟩⟩
 clear hKx Kx hsz hld hlf hse
 replace hF := hF'
 clear hF'
 refine EBC.walk (n := 40) (TT.ok hT hSb hF (by simp)) hL ?_
 try walk_nrm
 u_c stepG_region_end AC.rely hF
 u_c stepG_seq AC.rely hF
 u_reg AC.rely hF
 refine Goes.stop (fun w1 h1 => ?_)
 replace hF := hF.rely h1
 clear h1
 refine EBC.step1 (T' := TT T N 5) rfl (fun b hb => hb.elim .inl (fun x => .inr ⟨x.1, by have := x.2.1; omega, x.2.2⟩)) (fun w2 h2 => ?_)
 replace hF := hF.rely h2
 clear h2
 refine goes_oper_k rfl rfl (by k_ne) (fun Kx hKx => ?_)
 have hsz := hF.size
 simp only [List.length_append, List.length_cons, List.length_nil, List.length_set, Nat.reduceAdd, Nat.zero_add] at hsz
 go_simp
 try rw [hsz]
 have hF' := hF.alloc (.cells #[.int .u64 0, .int .u32 0] 45)
 simp only [List.cons_append, List.nil_append] at hF'
 refine hKx _ _ ⟨fun e he => ?_, TT.ok hT hSb hF' (by simp), by simp [World.size_alloc], ?_⟩
 ·have hm := mem_listed he
  clear hKx
  simp [go_sem] at hm
 clear hKx Kx hsz
 replace hF := hF'
 clear hF'
 refine EBC.walk (n := 40) (TT.ok hT hSb hF (by simp)) hL ?_
 try walk_nrm
 u_c stepG_region_end AC.rely hF
 refine Goes.stop (fun w1 h1 => ?_)
 replace hF := hF.rely h1
 subst hrr
 exact hend _ w1 (by simp) (by simp) (by simp) (by simp) (by simp) (by simp) hF
end
end Go.Mx
namespace Go.Mx
open Go Go.Conc Go.Pr
open Go.RowKit Go.Conc.Lib Go.ConcR.Gen Go.ConcN.Gen Go.Proofs
open Go.ConcN (WgLive)
open Go.ConcR (KK WgAt stA smA rd wr mk DC0)
section
variable {S : Nat → Prop} {L : CS → Prop} {T : Nat → Prop} {c : Frame} {cs : List Frame}
theorem leave2 {P : Program} {main : Bool} {b : Frame} {a : Act} {w : World} {fn : Func} {todo : List Item} {t u : Tmp} (hn : b.kind = .normal) (hd : a.defers = []) (hf : P.funcs[b.fn]? = some fn) (hr : fn.results = #[.tmp t, .tmp u]) :
  stepG P main (Conc.G { b.at a todo with mode := .returning } (c :: cs)) w = .go (Conc.G (c.finish (.tuple #[a.tmps.getD t undef, a.tmps.getD u undef])) cs) w #[] :=
 stepG_leave hn hd hf (results_tmp2 hr _ P w) (events_results_tmp2 hr _ _)
set_option maxRecDepth 100000 in
set_option maxHeartbeats 8000000 in
theorem finC (hL : ∀ s d, L s → L { s with w := s.w.at d }) {D : Dat} {v : Value} {g : Goroutine} {w : World} (hg : FinA D (c :: cs) g) (hT : ∀ b, T b → b < w.heap.size ∧ ¬ S b) (hTb : T D.bo) (hv : w.cell? ⟨D.bo, 0, none⟩ = some v)
  (hend : ∀ w1, AtR w w1 → EBC Tryz.prog S L ⟨Conc.G (c.finish (.tuple #[v, .nilIface])) cs, w1, T⟩) : EBC Tryz.prog S L ⟨g, w, T⟩ := by
 obtain ⟨TV, hs, t6, hgo⟩ := hg
 refine EBC.walk (n := 40) hT hL (hgo AtR _ (AtR w) (fun h r => h.trans r) (fun w1 hF => ?_) w (AtR.refl w))
 clear hgo
 obtain ⟨v0, v1, v2, v3, v4, v5, v6, v7, v8, v9, v10, v11, v12, v13, v14, v15, v16, v17, v18, v19, v20, v21, v22, v23, v24, v25, v26, v27, v28, v29, v30, v31, v32, v33, v34, v35, v36, v37, v38, v39, v40, v41, v42, rfl⟩ := array43 TV hs
 simp only [List.getElem?_toArray, List.getElem?_cons_succ, List.getElem?_cons_zero, Option.some.injEq] at t6
 subst t6
 have hTt : ∀ w1, AtR w w1 → ∀ b, T b → b < w1.heap.size ∧ ¬ S b := fun w1 ⟨d, e⟩ => by subst e; exact hT
 refine EBC.walk (n := 40) (hTt _ hF) hL ?_
 simp only [e6, w6, c6, s6, r6, cAll, Tryz.f6, Option.getD_some, sndC, fstC, lp, opsC]
 u_c stepG_region_end AtR.trans hF
 u_c stepG_seq AtR.trans hF
 u_reg AtR.trans hF
 refine Goes.stop (fun w2 h2 => ?_)
 replace hF := hF.trans h2
 clear h2
 refine EBC.step1 (T' := T) rfl (fun b hb => hb) (fun w3 h3 => ?_)
 replace hF := hF.trans h3
 clear h3
 refine goes_oper_k rfl rfl (by k_ne) (fun Kx hKx => ?_)
 have hld : w3.cell? ⟨D.bo, 0, none⟩ = some v := by obtain ⟨d, rfl⟩ := hF; exact hv
 go_simp
 refine hKx _ _ ⟨fun e he => ?_, hTt _ hF, Nat.le_refl _, ?_⟩
 ·have hm := mem_listed he
  clear hKx
  simp [go_sem, hld] at hm
  exact ⟨_, false, hm, hTb⟩
 clear hKx Kx hld
 refine EBC.walk (n := 40) (hTt _ hF) hL ?_
 try walk_nrm
 u_op AtR.trans hF
 u_op AtR.trans hF
 u_c stepG_region_end AtR.trans hF
 u_c stepG_ret' AtR.trans hF
 refine Goes.step rfl (fun w4 h4 => ?_)
 replace hF := hF.trans h4
 clear h4
 rw [leave2 rfl rfl Tryz.func6 rfl]
 simp only [goes_go]
 refine ⟨by u_nil, ?_⟩
 refine Goes.stop (fun w5 h5 => ?_)
 simpa using hend w5 (hF.trans h5)
theorem mi_ev (w : World) (es : Array Event) : (Instr.makeInterface 31 (.int .i64 4)).events Tryz.prog w es = es := by
 simp [Instr.makeInterface, run_underlying Tryz.underlying31]
set_option maxRecDepth 100000 in
set_option maxHeartbeats 8000000 in
theorem errC (hL : ∀ s d, L s → L { s with w := s.w.at d }) {n N : Nat} {R : Int} (hbad : 50 < n ∨ R < 1 ∨ 16 < R) (ta : Option Addr) (tc : Nat) (W : World) (hN : W.heap.size = N) (hT : ∀ b, T b → b < N ∧ ¬ S b) (hSb : ∀ b, S b → b < N)
  (hend : ∀ w1, AC W w1 N [.cells #[.slice ta n tc] 22] → EBC Tryz.prog S L ⟨Conc.G (c.finish (.tuple #[.slice none 0 0, .iface 31 (.int .i64 4)])) cs, w1, TT T N 1⟩) :
  EBC Tryz.prog S L ⟨Conc.G (Frame.enter Tryz.prog 6 #[.slice ta n tc, .int .i64 R] .normal) (c :: cs), W, T⟩ := by
 rw [enter_at (c := cAll) _ Tryz.func6 rfl]
 have hF : AC W W N [] := hN ▸ AC.start W
 refine EBC.walk (n := 30) (fun b hb => by rw [hN]; exact hT b hb) hL ?_
 simp only [cAll, Tryz.f6, Option.getD_some]
 generalize hrr : (Code.seq (Code.region 3 _ false) _) = rr
 clear hrr
 walk_nrm
 u_c stepG_seq AC.rely hF
 u_reg AC.rely hF
 refine Goes.stop (fun w1 h1 => ?_)
 replace hF := hF.rely h1
 clear h1
 refine EBC.step1 (T' := TT T N 1) rfl (fun b hb => .inl hb) (fun w2 h2 => ?_)
 replace hF := hF.rely h2
 clear h2
 refine goes_oper_k rfl rfl (by k_ne) (fun Kx hKx => ?_)
 have hsz := hF.size
 simp only [List.length_append, List.length_cons, List.length_nil, List.length_set, Nat.reduceAdd, Nat.zero_add] at hsz
 go_simp
 try rw [hsz]
 have hF' := hF.alloc (.cells #[.slice ta n tc] 22)
 simp only [List.nil_append] at hF'
 refine hKx _ _ ⟨fun e he => ?_, TT.ok hT hSb hF' (by simp), by simp, ?_⟩
 ·have hm := mem_listed he
  clear hKx
  simp [go_sem] at hm
 clear hKx Kx hsz
 replace hF := hF'
 clear hF'
 refine EBC.walk (n := 40) (TT.ok hT hSb hF (by simp)) hL ?_
 try walk_nrm
 u_op AC.rely hF
 u_op AC.rely hF
 u_c stepG_region_end AC.rely hF
 u_c stepG_seq AC.rely hF
 u_c stepG_seq AC.rely hF
 u_reg AC.rely hF
 refine Goes.stop (fun w1 h1 => ?_)
 replace hF := hF.rely h1
 clear h1
 refine EBC.step1 (T' := TT T N 1) rfl (fun b hb => hb.elim .inl (fun x => .inr ⟨x.1, by have := x.2.1; omega, x.2.2⟩)) (fun w2 h2 => ?_)
 replace hF := hF.rely h2
 clear h2
 refine goes_oper_k rfl rfl (by k_ne) (fun Kx hKx => ?_)
 have hsz := hF.size
 simp only [List.length_append, List.length_cons, List.length_nil, List.length_set, Nat.reduceAdd, Nat.zero_add] at hsz
 have hld := hF.cell (k := 0) rfl 0
 simp only [Nat.add_zero] at hld
 have hld : w2.cell? ⟨N, 0, none⟩ = some (.slice ta n tc) := hld
 go_simp
 have hF' := hF
 refine hKx _ _ ⟨fun e he => ?_, TT.ok hT hSb hF' (by simp), by simp, ?_⟩
 ·have hm := mem_listed he
  clear hKx
  simp [go_sem, hld] at hm
  exact ⟨_, false, hm, .inr ⟨Nat.le_refl N, by show N < N + 1; omega, by show N ≠ N + 3; omega⟩⟩
 clear hKx Kx hsz hld
 replace hF := hF'
 clear hF'
 refine EBC.walk (n := 40) (TT.ok hT hSb hF (by simp)) hL ?_
 try walk_nrm
 u_op AC.rely hF
 rcases Nat.lt_or_ge 50 n with q | q
 ·have q1 : (50 : Int) < (n : Int) := by omega
  u_op AC.rely hF
  u_op AC.rely hF
  u_skip AC.rely hF
  u_skip AC.rely hF
  u_op AC.rely hF
  u_op AC.rely hF
  u_skip AC.rely hF
  u_skip AC.rely hF
  u_op AC.rely hF
  u_c stepG_region_end AC.rely hF
  u_cond true AC.rely hF
  u_c stepG_seq AC.rely hF
  u_reg AC.rely hF
  have hmi := mi_ev
  u_op AC.rely hF
  u_op AC.rely hF
  u_op AC.rely hF
  u_c stepG_region_end AC.rely hF
  u_c stepG_ret' AC.rely hF
  refine Goes.step rfl (fun w4 h4 => ?_)
  replace hF := hF.rely h4
  clear h4
  rw [leave2 rfl rfl Tryz.func6 rfl]
  simp only [goes_go]
  refine ⟨by u_nil, ?_⟩
  refine Goes.stop (fun w5 h5 => ?_)
  simpa using hend w5 (hF.rely h5)
 ·have q1 : ¬ (50 : Int) < (n : Int) := by omega
  replace hbad := hbad.resolve_left (by omega)
  rcases Int.lt_or_le R 1 with q2 | q2
  ·u_op AC.rely hF
   u_op AC.rely hF
   u_op AC.rely hF
   u_op AC.rely hF
   u_op AC.rely hF
   u_op AC.rely hF
   u_skip AC.rely hF
   u_skip AC.rely hF
   u_op AC.rely hF
   u_c stepG_region_end AC.rely hF
   u_cond true AC.rely hF
   u_c stepG_seq AC.rely hF
   u_reg AC.rely hF
   have hmi := mi_ev
   u_op AC.rely hF
   u_op AC.rely hF
   u_op AC.rely hF
   u_c stepG_region_end AC.rely hF
   u_c stepG_ret' AC.rely hF
   refine Goes.step rfl (fun w4 h4 => ?_)
   replace hF := hF.rely h4
   clear h4
   rw [leave2 rfl rfl Tryz.func6 rfl]
   simp only [goes_go]
   refine ⟨by u_nil, ?_⟩
   refine Goes.stop (fun w5 h5 => ?_)
   simpa using hend w5 (hF.rely h5)
  ·have q3 : 16 < R := by omega
   have q2 : ¬ R < 1 := by omega
   u_op AC.rely hF
   u_op AC.rely hF
   u_op AC.rely hF
   u_op AC.rely hF
   u_op AC.rely hF
   u_op AC.rely hF
   u_op AC.rely hF
   u_op AC.rely hF
   u_op AC.rely hF
   u_c stepG_region_end AC.rely hF
   u_cond true AC.rely hF
   u_c stepG_seq AC.rely hF
   u_reg AC.rely hF
   have hmi := mi_ev
   u_op AC.rely hF
   u_op AC.rely hF
   u_op AC.rely hF
   u_c stepG_region_end AC.rely hF
   u_c stepG_ret' AC.rely hF
   refine Goes.step rfl (fun w4 h4 => ?_)
   replace hF := hF.rely h4
   clear h4
   rw [leave2 rfl rfl Tryz.func6 rfl]
   simp only [goes_go]
   refine ⟨by u_nil, ?_⟩
   refine Goes.stop (fun w5 h5 => ?_)
   simpa using hend w5 (hF.rely h5)
end
end Go.Mx
namespace Go.Mx
open Go Go.Conc Go.Pr
open Go.RowKit Go.Conc.Lib Go.ConcR.Gen Go.ConcN.Gen Go.Proofs
open Go.ConcN (WgLive sumTo)
open Go.ConcR (KK WgAt stA smA rd wr mk DC0)
def Runs (P : Program) (m : Machine) (t : Trace) (m' : Machine) (t' : Trace) : Prop := ∃ N, runNT P N m t = (.next m', t')
theorem Runs.refl (P : Program) (m : Machine) (t : Trace) : Runs P m t m t := ⟨0, rfl⟩
theorem Runs.trans {P : Program} {m m1 m2 : Machine} {t t1 t2 : Trace} (h : Runs P m t m1 t1) (k : Runs P m1 t1 m2 t2) : Runs P m t m2 t2 := by
 obtain ⟨a, h⟩ := h
 obtain ⟨b, k⟩ := k
 exact ⟨a + b, by rw [runNT_add, h]; exact k⟩
def CM (P : Program) (S T : Nat → Prop) (g : Goroutine) (w : World) (m : Machine) (t : Trace) : Prop := ∃ n gs sl Q, m = crowd gs w sl ∧ gs[0]? = some g ∧ Calm P S T n gs w t Q
theorem CM.run {P : Program} {S T : Nat → Prop} {g : Goroutine} {w : World} {m : Machine} {t : Trace} {L : CS → Prop} (hL : ∀ s d, L s → L { s with w := s.w.at d }) (h : CM P S T g w m t) (hb : EBC P S L ⟨g, w, T⟩) :
  ∃ m' t' g' w' T', Runs P m t m' t' ∧ CM P S T' g' w' m' t' ∧ g'.status = .running ∧ L ⟨g', w', T'⟩ := by
 obtain ⟨n, gs, sl, Q, rfl, h2, h3⟩ := h
 obtain ⟨r, hb⟩ := hb
 obtain ⟨N, gs', w', sl', t', T', Q', a', k1, k2, k3, k4, k5⟩ := calm_run hL r _ (sl := sl) (Nat.le_refl _) h3 h2 hb
 exact ⟨_, t', a', w', T', ⟨N, k1⟩, ⟨n, gs', sl', Q', rfl, k2, k3⟩, k4, k5⟩
theorem CM.round {P : Program} {S0 T0 S : Nat → Prop} {G : Geo} {Fin : Goroutine → Prop} {a : Goroutine} {w : World} {m : Machine} {t : Trace} {R : Nat} (h : CM P S0 T0 a w m t) (hS : ∀ b, S b ↔ S0 b ∨ b = G.Wg ∨ b = G.Ch) (hgk : GeoOk G S) (hT : ¬ T0 G.Wg ∧ ¬ T0 G.Ch) (hS0 : ¬ S0 G.Wg ∧ ¬ S0 G.Ch)
  (hwg : WgAt G.ty G.Wg w 0 0) (hrow : RowLive G w) (hch : ∃ s r, w.heap[G.Ch]? = some (.chan 0 #[] false s r false)) (hbase : ∀ b, G.base b → b < w.heap.size) (hR1 : 1 ≤ R) (hR : R < 2147483647) (hb : EBM G P Fin ⟨.sp R false, 0, a, w⟩) :
  ∃ m' t' g' w', Runs P m t m' t' ∧ CM P S (fun b => b < w'.heap.size ∧ ¬ S b) g' w' m' t' ∧ Fin g' ∧ Rel G (fun _ => False) w w' ∧ RowLive G w' ∧ ∀ x, x < G.N → w'.cell? (oCell G x) = some (G.ans x) := by
 obtain ⟨n, gs, sl, Q, rfl, h2, h3⟩ := h
 obtain ⟨rm, hb⟩ := hb
 obtain ⟨N, m', t', k1, n', gs', w', sl', Q', a', rfl, k3, k4, k5, k6, k7, k8, k9⟩ := round_start h3 h2 hS hgk hT hS0 hwg hrow hch hbase hR1 hR hb sl
 exact ⟨_, t', a', w', ⟨N, k1⟩, ⟨n', gs', sl', Q', rfl, k3, k6⟩, k5, k7, k8, k9⟩
def gAll (S : Nat → Prop) (N n : Nat) (ans : Nat → ByteArray) : Geo where
 base b := b < N + 6 ∧ b ≠ N + 1 ∧ b ≠ N + 3 ∧ b ≠ N + 5 ∧ ¬ S b
 Wg := N + 5
 Ch := N + 3
 O := N + 1
 N := n
 ty := 45
 tyS := 9
 z := .int .i64 0
 zs := .tuple #[]
 ans i := .string (ans i)
def dAll (N : Nat) (ta : Option Addr) (tc : Nat) (txt : Nat → ByteArray) (ρ : Rn) (wL : World) : Dat := ⟨N + 4, N, N + 2, ta, tc, txt, ρ, wL⟩
section
variable {S T : Nat → Prop} {c : Frame} {cs : List Frame}
structure Pre (S : Nat → Prop) (N n : Nat) (ta : Option Addr) (txt ans : Nat → ByteArray) (ρ : Rn) (wL W : World) : Prop where
 sz : W.heap.size = N
 sN : ∀ b, S b → b < N
 n50 : n ≤ 50
 el : ∀ i, i < n → ∃ a, ta = some a ∧ a.block < N ∧ ¬ S a.block ∧ W.cell? (a.add i) = some (.string (txt i))
 wr : WR Tryz.prog ρ wL W
 r : ∀ x y, ¬ ρ.r x y
 low : ∀ b, ρ.K b ∨ ρ.T b → b < N ∧ ¬ S b
 ok : ρ.ok 8
 sp : ∀ f, ¬ ρ.sp f
 env : ∃ Sx, Env Tryz.prog ρ Sx
 ses : ∀ i, i < n → ∀ T, Calls Tryz.prog 8 #[.string (txt i)] (on wL T) fun e _ => ∃ v, e = .returned v ∧ v = .string (ans i)
theorem all_ok {N n R : Nat} {ta : Option Addr} {tc : Nat} {txt ans : Nat → ByteArray} {ρ : Rn} {wL W : World} (hp : Pre S N n ta txt ans ρ wL W) (hR1 : 1 ≤ R) (hR : R ≤ 16) {m : Machine} {t : Trace}
  (hT : ∀ b, T b → b < N ∧ ¬ S b) (hc : CM Tryz.prog S T (Conc.G (Frame.enter Tryz.prog 6 #[.slice ta n tc, .int .i64 R] .normal) (c :: cs)) W m t) :
  ∃ m' t' w' S', Runs Tryz.prog m t m' t' ∧ CM Tryz.prog S' (fun b => b < w'.heap.size ∧ ¬ S' b) (Conc.G (c.finish (.tuple #[.slice (some ⟨N + 1, 0, none⟩) n n, .nilIface])) cs) w' m' t' ∧
   (∀ b, S' b ↔ S b ∨ b = N + 5 ∨ b = N + 3) ∧ (∀ b, b < N → ¬ S b → w'.heap[b]? = W.heap[b]?) ∧ w'.os = W.os ∧ w'.tape = W.tape ∧ w'.output = W.output ∧ N + 6 ≤ w'.heap.size ∧
   ∃ row : Array Value, w'.heap[N + 1]? = some (.cells row 9 (0, 0)) ∧ row.size = n ∧ ∀ i, i < n → row[i]? = some (.string (ans i)) := by
 obtain ⟨Sx, E⟩ := hp.env
 let Lx : CS → Prop := fun s => (∃ T1 : Array Value, T1.size = 43 ∧ T1[1]? = some (.int .i64 R) ∧ T1[2]? = some (.pointer (some ⟨N, 0, none⟩)) ∧ T1[6]? = some (.pointer (some ⟨N + 2, 0, none⟩)) ∧ T1[7]? = some (.pointer (some ⟨N + 4, 0, none⟩)) ∧ T1[8]? = some (.pointer (some ⟨N + 5, 0, none⟩)) ∧ s.g = Conc.G ((base 6).at ⟨T1, []⟩ [.code r6]) (c :: cs)) ∧ AC W s.w N (bs6 N n ta tc) ∧ s.T = TT T N 5
 have hLx : ∀ s d, Lx s → Lx { s with w := s.w.at d } := fun s d h => ⟨h.1, h.2.1.rely ⟨d, rfl⟩, h.2.2⟩
 obtain ⟨m1, t1, g1, w1, T1, hr1, hc1, hg1, ⟨TV, s0, s1, s2, s6, s7, s8, rfl⟩, hA, rfl⟩ := hc.run hLx (allC hLx hp.n50 hR1 hR ta tc W hp.sz hT hp.sN fun TV w1 s0 s1 s2 s6 s7 s8 hA => EBC.stop rfl ⟨⟨TV, s0, s1, s2, s6, s7, s8, rfl⟩, hA, rfl⟩)
 let G := gAll S N n ans
 let D := dAll N ta tc txt ρ wL
 let S' : Nat → Prop := fun b => S b ∨ b = N + 5 ∨ b = N + 3
 have hsz1 : w1.heap.size = N + 6 := hA.size
 have nS : ∀ k, ¬ S (N + k) := fun k h => by have := hp.sN _ h; omega
 have hbase : ∀ b, G.base b → b < w1.heap.size := fun b hb => by rw [hsz1]; exact hb.1
 have hok : DatOk G D := by
  refine ⟨⟨?_, ?_, ?_, ?_, nS 4⟩, ⟨?_, ?_, ?_, ?_, nS 0⟩, ⟨?_, ?_, ?_, ?_, nS 2⟩, fun b hb => ?_, hp.r, ?_⟩
  all_goals try (simp only [D, dAll]; omega)
  ·obtain ⟨h1, h2⟩ := hp.low b hb
   exact ⟨by omega, by omega, by omega, by omega, h2⟩
  ·have := hp.n50
   simp only [G, gAll]
   omega
 have hwg : WgAt G.ty G.Wg w1 0 0 := hA.get (k := 5) rfl
 have hrow : RowLive G w1 := ⟨_, hA.get (k := 1) rfl, by simp [G, gAll]⟩
 have hMK : MK G D w1 := by
  refine ⟨hA.cell (k := 4) rfl 0, ?_, hA.cell (k := 2) rfl 0, fun i hi => ?_, ⟨0, 0, hwg⟩, hrow, ?_, hbase⟩
  ·exact hA.cell (k := 0) rfl 0
  ·obtain ⟨a, h1, h2, h3, h4⟩ := hp.el i hi
   refine ⟨a, h1, ⟨by omega, by omega, by omega, by omega, h3⟩, ?_⟩
   refine Eq.trans ?_ h4
   unfold World.cell?
   rw [Pr.add_block, hA.old h2]
  ·refine wr_rely hp.wr (fun b hb => hA.old ?_) hA.os (by rw [hsz1, hp.sz]; omega)
   rcases hb with hb | hb | ⟨x, hb⟩
   ·exact (hp.low b (.inl hb)).1
   ·exact (hp.low b (.inr hb)).1
   ·exact absurd hb (hp.r _ _)
 have g1 : ¬ S' (N + 1) := by
  rintro (h | h | h)
  ·exact nS 1 h
  ·exact absurd h (by omega)
  ·exact absurd h (by omega)
 have g2 : ∀ b, G.base b → ¬ S' b := fun b hb h => by
  rcases h with h | h | h
  ·exact hb.2.2.2.2 h
  ·exact hb.2.2.2.1 h
  ·exact hb.2.2.1 h
 have g3 : ¬ TT T N 5 (N + 5) := by
  rintro (h | ⟨h1, h2, h3⟩)
  ·exact absurd (hT _ h).1 (by omega)
  ·omega
 have g4 : ¬ TT T N 5 (N + 3) := by
  rintro (h | ⟨h1, h2, h3⟩)
  ·exact absurd (hT _ h).1 (by omega)
  ·exact h3 rfl
 have g5 : ¬ S' (N + 2) := by
  rintro (h | h | h)
  ·exact nS 2 h
  ·exact absurd h (by omega)
  ·exact absurd h (by omega)
 obtain ⟨m2, t2, gg2, w2, hr2, hc2, hf2, hR2, hrow2, hcells⟩ := hc1.round (S := S') (G := G) (Fin := FinA D (c :: cs)) (R := R) (fun b => Iff.rfl) ⟨.inr (.inl rfl), .inr (.inr rfl), by show N + 5 ≠ N + 3; omega, g1, fun h => h.2.1 rfl, g2⟩ ⟨g3, g4⟩ ⟨nS 5, nS 3⟩ hwg hrow ⟨0, 0, hA.get (k := 3) rfl⟩ hbase hR1 (by omega)
  (roundM hok rfl rfl rfl hp.n50 (fun h => h.2.2.2.1 rfl) (fun h => h.2.1 rfl) (by show N + 5 ≠ N + 1; omega) (by show N + 5 ≠ N + 3; omega) hR1 hR E hp.ok hp.sp ans (fun i => rfl) hp.ses TV w1 ⟨s0, s1, s2, s6, s7, s8⟩ hMK)
 let Ly : CS → Prop := fun s => s.g = Conc.G (c.finish (.tuple #[.slice (some ⟨N + 1, 0, none⟩) n n, .nilIface])) cs ∧ AtR w2 s.w ∧ s.T = fun b => b < w2.heap.size ∧ ¬ S' b
 have hLy : ∀ s d, Ly s → Ly { s with w := s.w.at d } := fun s d h => ⟨h.1, h.2.1.trans ⟨d, rfl⟩, h.2.2⟩
 have hsz2 : N + 6 ≤ w2.heap.size := by rw [← hsz1]; exact hR2.size
 obtain ⟨m3, t3, g3, w3, T3, hr3, hc3, hg3, rfl, ⟨d, rfl⟩, rfl⟩ := hc2.run hLy (finC (v := .slice (some ⟨N + 1, 0, none⟩) n n) hLy hf2 (fun b hb => hb) ⟨by show N + 2 < _; omega, g5⟩ ((cell_base hR2 hok.bo).trans hMK.ot) fun w3 h3 => EBC.stop rfl ⟨rfl, h3, rfl⟩)
 obtain ⟨row, q1, q2⟩ := hrow2
 refine ⟨m3, t3, w2.at d, S', (hr1.trans hr2).trans hr3, hc3, fun b => Iff.rfl, fun b hb hs => ?_, hR2.os.trans hA.os, hR2.tape.trans hA.tape, hR2.output.trans hA.output, hsz2, row, q1, q2, fun i hi => ?_⟩
 ·exact (hR2.fix b (.inl ⟨by omega, by omega, by omega, by omega, hs⟩)).trans (hA.old hb)
 ·have q3 : w2.heap[N + 1]? = some (.cells row 9 (0, 0)) := q1
  have q4 : w2.cell? ⟨N + 1, i, none⟩ = some (.string (ans i)) := hcells i hi
  unfold World.cell? at q4
  rw [q3] at q4
  simpa using q4
end
end Go.Mx
namespace Go.Mx
open Go Go.Conc Go.Pr
open Go.RowKit Go.Conc.Lib Go.ConcR.Gen Go.ConcN.Gen Go.Proofs
open Go.ConcN (WgLive sumTo)
open Go.ConcR (KK WgAt stA smA rd wr mk DC0)
def Fu (S : Nat → Prop) (w : World) : Nat → Prop := fun b => b < w.heap.size ∧ ¬ S b
def EBF (S : Nat → Prop) (L : CS → Prop) (g : Goroutine) (w : World) : Prop := EBC Tryz.prog S L ⟨g, w, Fu S w⟩
structure Kept (w w1 : World) : Prop where
 old : ∀ b, b < w.heap.size → w1.heap[b]? = w.heap[b]?
 os : w1.os = w.os
 tape : w1.tape = w.tape
 output : w1.output = w.output
 size : w.heap.size ≤ w1.heap.size
theorem Kept.refl (w : World) : Kept w w := ⟨fun _ _ => rfl, rfl, rfl, rfl, Nat.le_refl _⟩
theorem Kept.trans {a b c : World} (h : Kept a b) (k : Kept b c) : Kept a c :=
 ⟨fun x hx => (k.old x (Nat.lt_of_lt_of_le hx h.size)).trans (h.old x hx), k.os.trans h.os, k.tape.trans h.tape, k.output.trans h.output, Nat.le_trans h.size k.size⟩
theorem Kept.at {w w1 : World} (h : AtR w w1) : Kept w w1 := by
 obtain ⟨d, rfl⟩ := h
 exact ⟨fun _ _ => rfl, rfl, rfl, rfl, Nat.le_refl _⟩
theorem Kept.alloc (w : World) (o : Obj) : Kept w (w.alloc o) := ⟨fun b hb => by
 show (w.heap.push o)[b]? = _
 rw [Array.getElem?_push_lt hb, Array.getElem?_eq_getElem hb], rfl, rfl, rfl, by simp⟩
theorem Kept.cell {w w1 : World} (h : Kept w w1) {a : Addr} {v : Value} (hv : w.cell? a = some v) : w1.cell? a = some v := by
 have hlt := World.block_lt_of_cell? w a hv
 rw [← hv]
 unfold World.cell?
 rw [h.old _ hlt]
theorem Kept.heap {w w1 : World} (h : Kept w w1) {b : Nat} {o : Obj} (ho : w.heap[b]? = some o) : w1.heap[b]? = some o := by
 rw [h.old _ (Array.getElem?_eq_some_iff.1 ho).1]
 exact ho
section
variable {S : Nat → Prop} {L : CS → Prop} {c : Frame} {cs : List Frame}
theorem fu_ok (w : World) : ∀ b, Fu S w b → b < w.heap.size ∧ ¬ S b := fun b h => h
theorem EBF.walk {n : Nat} {g : Goroutine} {w : World} (hL : ∀ s d, L s → L { s with w := s.w.at d }) (h : Conc.Goes Tryz.prog true AtR DC0 (fun g w1 => AtR w w1 → EBF S L g w1) n g w) : EBF S L g w := by
 unfold EBF
 refine EBC.walk (n := n) (fu_ok w) hL ?_
 have key : ∀ (n : Nat) (g : Goroutine) (w1 : World), AtR w w1 → Conc.Goes Tryz.prog true AtR DC0 (fun g w1 => AtR w w1 → EBF S L g w1) n g w1 → Conc.Goes Tryz.prog true AtR DC0 (fun g w1 => EBC Tryz.prog S L ⟨g, w1, Fu S w⟩) n g w1 := by
  have fin : ∀ (g : Goroutine) (w1 : World), AtR w w1 → EBF S L g w1 → EBC Tryz.prog S L ⟨g, w1, Fu S w⟩ := fun g w1 ⟨d, e⟩ h => by
   subst e
   exact h
  intro n
  induction n with
  | zero => exact fun g w1 h1 h w2 h2 => fin g w2 (h1.trans h2) (h w2 h2 (h1.trans h2))
  | succ n ih =>
   intro g w1 h1 h
   rcases h with h | ⟨hs, h⟩
   ·exact .inl fun w2 h2 => fin g w2 (h1.trans h2) (h w2 h2 (h1.trans h2))
   ·refine .inr ⟨hs, fun w2 h2 => ?_⟩
    have k := h w2 h2
    generalize stepG Tryz.prog true g w2 = r at k
    cases r with
    | go g' w' es =>
     obtain ⟨⟨e1, e2⟩, k2⟩ := k
     subst e1 e2
     exact ⟨⟨rfl, rfl⟩, ih g' _ (h1.trans h2) k2⟩
    | _ => exact k.elim
 exact key n g w (AtR.refl w) h
theorem EBF.step1 {g : Goroutine} {w : World} (hs : g.status = .running) (h : ∀ w1, AtR w w1 → (stepG Tryz.prog true g w1).goes fun g' w' es => (∀ e ∈ es, ∃ (a : Addr) (wr : Bool), e = ⟨.cell a, wr, false⟩ ∧ a.block < w'.heap.size ∧ ¬ S a.block) ∧ w1.heap.size ≤ w'.heap.size ∧ EBF S L g' w') : EBF S L g w := by
 refine EBC.act hs fun d => ?_
 have k := h (w.at d) ⟨d, rfl⟩
 generalize e : stepG Tryz.prog true g (w.at d) = r at k
 cases r with
 | go g' w' es =>
  obtain ⟨k1, k2, k3⟩ := k
  refine ⟨g', w', es, Fu S w', rfl, fun x hx => ?_, fun b hb => ⟨Nat.lt_of_lt_of_le hb.1 k2, hb.2⟩, fu_ok w', k2, k3⟩
  obtain ⟨a, wr, rfl, ha⟩ := k1 x hx
  refine ⟨fun m hm => (by cases hm), fun x hx _ => ?_⟩
  have hx' : x = ⟨.cell a, wr, .plain⟩ := by cases wr <;> simp [MemAct.ofEvent, MemAct.touch?] at hx <;> exact hx.symm
  subst hx'
  exact ⟨rfl, a.block, rfl, .inl ha⟩
 | _ => exact k.elim
structure Low (S : Nat → Prop) (ρ : Rn) (wL w : World) : Prop where
 wr : WR Tryz.prog ρ wL w
 low : ∀ b, ρ.K b ∨ ρ.T b → b < w.heap.size ∧ ¬ S b
 sN : ∀ b, S b → b < w.heap.size
 r : ∀ x y, ¬ ρ.r x y
 sp : ∀ f, ¬ ρ.sp f
 env : ∃ Sx, Env Tryz.prog ρ Sx
theorem Low.kept {ρ : Rn} {wL w w1 : World} (h : Low S ρ wL w) (k : Kept w w1) : Low S ρ wL w1 := by
 refine ⟨wr_rely h.wr (fun b hb => k.old b ?_) k.os k.size, fun b hb => ⟨Nat.lt_of_lt_of_le (h.low b hb).1 k.size, (h.low b hb).2⟩, fun b hb => Nat.lt_of_lt_of_le (h.sN b hb) k.size, h.r, h.sp, h.env⟩
 rcases hb with hb | hb | ⟨x, hb⟩
 ·exact (h.low b (.inl hb)).1
 ·exact (h.low b (.inr hb)).1
 ·exact absurd hb (h.r _ _)
theorem callC (hL : ∀ s d, L s → L { s with w := s.w.at d }) {ρ : Rn} {wL w : World} (h : Low S ρ wL w) {f : FuncId} {fn : Func} {t : Tmp} (hf : Tryz.prog.funcs[f]? = some fn) (hr : fn.results = #[.tmp t]) (hok : ρ.ok f) {xs : Array Value} (hx : AR ρ xs xs) {v : Value} (hv : ∀ (σ : Rn) (u : Value), VR σ v u → u = v)
  (hc : ∀ T, Calls Tryz.prog f xs (on wL T) fun e _ => ∃ u, e = .returned u ∧ u = v) (hend : ∀ w1, Kept w w1 → EBF S L (gr (c.finish v) cs) w1) : EBF S L (gr (Frame.enter Tryz.prog f xs .normal) (c :: cs)) w := by
 obtain ⟨Sx, E⟩ := h.env
 obtain ⟨r, hse⟩ := sess_of_lone (Q := DoneQ f t (fun u => u = v)) E (Pr.enter_R (kind := .normal) E hok hx (.inl rfl)) ⟨rfl, rfl⟩ h.wr (fun s T => DoneQ.on s T) (fun T => lone_calls hf hr hc T)
 refine sess_C (l' := []) (ext := c :: cs) (fun s hs e => by rw [hs.1] at e; cases e) r (fun s hs => ?_) hse (fun b hb => ?_) (fu_ok w) h.sN (fun σ r1 s1 l1 l1' fr1' w1' T1 k1 k2 k3 k4 k5 k6 k7 => ?_)
 ·obtain ⟨e1, ops, i, rest, k', o, e2, e3, c, f, a1, a2, a3⟩ := hs
  exact absurd a3 (h.sp f)
 ·rcases hb with hb | hb | ⟨x, hb⟩
  ·exact h.low b (.inl hb)
  ·exact h.low b (.inr hb)
  ·exact absurd hb (h.r _ _)
 ·obtain ⟨-, rfl, q1, q2, q3, q4, u, rfl, q5⟩ := Go.Mx.Sess.done k1 k2 hf hr
  have hu := hv _ _ q5
  have hk : Kept w w1' := ⟨fun b hb => k7.old b hb fun ⟨x, hx⟩ => h.r _ _ hx, k7.os, k7.tape, k7.output, k7.size⟩
  refine EBC.act rfl fun d => ⟨_, _, _, Fu S w1', leave_gr q1 q2 q3 q4 hf hr, by intro e he; simp at he, fun b hb => k3 b hb, fu_ok w1', Nat.le_refl _, ?_⟩
  rw [hu]
  exact hend _ (hk.trans (Kept.at ⟨d, rfl⟩))
end
end Go.Mx
