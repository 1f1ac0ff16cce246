/- Part 4 of the proof: Pr36, Pr37, Pr38. -/
import Derived.Test.YtdhekhlmdefcnaaGreatDoorPart3
import Derived.Calls
import GoSem.Extern.ReflectliteValue
namespace Go.Pr
open Go
structure LSt where
 fr : Frame
 cs : List Frame
 w : World
def LStep (P : Program) (s s1 : LSt) : Prop := ∃ m ts, s1.w.drawn = s.w.drawn + m ∧ ∀ T, Ans s.w m ts T → ∃ es, stepG P true (gr s.fr s.cs) (on s.w T) = .go (gr s1.fr s1.cs) (on s1.w T) es
def LEnd (P : Program) (s : LSt) : Prop := ∃ m ts, ∀ T, Ans s.w m ts T → ∃ o w1 es, stepG P true (gr s.fr s.cs) (on s.w T) = .ended o w1 es
inductive LT (P : Program) (Q : LSt → Prop) : LSt → Prop
 | stop {s : LSt} : Q s → LT P Q s
 | step {s : LSt} : ¬ LEnd P s → (∀ s1, LStep P s s1 → LT P Q s1) → LT P Q s
theorem glue {β : Type} [Inhabited β] (d m : Nat → Nat) (ts : Nat → Nat → β) (hd : ∀ j, d (j + 1) = d j + m j) : ∃ T : Nat → β, ∀ j i, i < m j → T (d j + i) = ts j i := by
 have mono : ∀ j k, d (j + 1) ≤ d (j + 1 + k) := fun j k => by
  induction k with
  | zero => exact Nat.le_refl _
  | succ k ih => have := hd (j + 1 + k); rw [← Nat.add_assoc]; omega
 have uniq : ∀ j j' p, d j ≤ p → p < d j + m j → d j' ≤ p → p < d j' + m j' → j = j' := fun j j' p h1 h2 h3 h4 => by
  rcases Nat.lt_trichotomy j j' with h | h | h
  ·have := mono j (j' - (j + 1)); rw [show j + 1 + (j' - (j + 1)) = j' by omega] at this; have := hd j; omega
  ·exact h
  ·have := mono j' (j - (j' + 1)); rw [show j' + 1 + (j - (j' + 1)) = j by omega] at this; have := hd j'; omega
 classical
 refine ⟨fun p => if h : ∃ j, d j ≤ p ∧ p < d j + m j then ts (Classical.choose h) (p - d (Classical.choose h)) else default, fun j i hi => ?_⟩
 have h : ∃ k, d k ≤ d j + i ∧ d j + i < d k + m k := ⟨j, by omega, by omega⟩
 dsimp only
 rw [dif_pos h]
 have hc := Classical.choose_spec h
 have e := uniq _ j _ hc.1 hc.2 (by omega) (by omega)
 rw [e, Nat.add_sub_cancel_left]
theorem step_lone {P : Program} {s s1 : LSt} {T : Nat → Question → Nat} {es : Array Event} (h : stepG P true (gr s.fr s.cs) (on s.w T) = .go (gr s1.fr s1.cs) (on s1.w T) es) : step P (lone s.fr s.cs (on s.w T)) = .next (lone s1.fr s1.cs (on s1.w T)) :=
 step_lone_go (by
  have : stepG P true { frame := s.fr, callers := s.cs, status := .running, dying := none } (on s.w T) = .go (gr s1.fr s1.cs) (on s1.w T) es := h
  rw [this]
  rfl)
theorem step_lone_end {P : Program} {s : LSt} {T : Nat → Question → Nat} {o : Outcome} {w1 : World} {es : Array Event} (h : stepG P true (gr s.fr s.cs) (on s.w T) = .ended o w1 es) : step P (lone s.fr s.cs (on s.w T)) = .ended o w1 :=
 step_lone_ended (by
  have : stepG P true { frame := s.fr, callers := s.cs, status := .running, dying := none } (on s.w T) = .ended o w1 es := h
  rw [this]
  rfl)
theorem LT_of {P : Program} {Q : LSt → Prop} (hQ : ∀ s T, Q ⟨s.fr, s.cs, on s.w T⟩ → Q s) (s : LSt)
  (h : ∀ T, ∃ n fr' cs' w', runN P n (lone s.fr s.cs (on s.w T)) = .next (lone fr' cs' w') ∧ Q ⟨fr', cs', w'⟩) : LT P Q s := by
 classical
 apply Classical.byContradiction
 intro hbad
 have nq : ∀ s, ¬ LT P Q s → ¬ Q s := fun s h k => h (.stop k)
 have nx : ∀ s, ¬ LT P Q s → ¬ (∃ s1, LStep P s s1 ∧ ¬ LT P Q s1) → LEnd P s := fun s h k => Classical.byContradiction fun e => h (.step e fun s1 h1 => Classical.byContradiction fun h2 => k ⟨s1, h1, h2⟩)
 let F : LSt → LSt := fun s => if h : ∃ s1, LStep P s s1 ∧ ¬ LT P Q s1 then Classical.choose h else s
 let sq : Nat → LSt := fun k => Nat.rec s (fun _ x => F x) k
 have sq0 : sq 0 = s := rfl
 have sqS : ∀ k, sq (k + 1) = F (sq k) := fun k => rfl
 have bad : ∀ k, ¬ LT P Q (sq k) := fun k => by
  induction k with
  | zero => exact hbad
  | succ k ih =>
   rw [sqS]
   show ¬ LT P Q (if h : ∃ s1, LStep P (sq k) s1 ∧ ¬ LT P Q s1 then Classical.choose h else sq k)
   split
   ·rename_i h; exact (Classical.choose_spec h).2
   ·exact ih
 -- the data of each step
 have dat : ∀ k, ∃ m ts, (∀ T, Ans (sq k).w m ts T → (∃ o w1 es, stepG P true (gr (sq k).fr (sq k).cs) (on (sq k).w T) = .ended o w1 es) ∨ ((sq (k + 1)).w.drawn = (sq k).w.drawn + m ∧ ∃ es, stepG P true (gr (sq k).fr (sq k).cs) (on (sq k).w T) = .go (gr (sq (k + 1)).fr (sq (k + 1)).cs) (on (sq (k + 1)).w T) es)) ∧
   ((∀ T, Ans (sq k).w m ts T → ∃ o w1 es, stepG P true (gr (sq k).fr (sq k).cs) (on (sq k).w T) = .ended o w1 es) ∨ (sq (k + 1)).w.drawn = (sq k).w.drawn + m) := fun k => by
  by_cases hk : ∃ s1, LStep P (sq k) s1 ∧ ¬ LT P Q s1
  ·have e : sq (k + 1) = Classical.choose hk := by rw [sqS]; show (if h : ∃ s1, LStep P (sq k) s1 ∧ ¬ LT P Q s1 then Classical.choose h else sq k) = _; rw [dif_pos hk]
   obtain ⟨⟨m, ts, h1, h2⟩, _⟩ := Classical.choose_spec hk
   rw [e]
   exact ⟨m, ts, fun T hT => .inr ⟨h1, h2 T hT⟩, .inr h1⟩
  ·obtain ⟨m, ts, h1⟩ := nx _ (bad k) hk
   exact ⟨m, ts, fun T hT => .inl (h1 T hT), .inl h1⟩
 -- the first end, if there is one
 let m : Nat → Nat := fun k => Classical.choose (dat k)
 let ts : Nat → Nat → Question → Nat := fun k => Classical.choose (Classical.choose_spec (dat k))
 have hdat : ∀ k, _ := fun k => Classical.choose_spec (Classical.choose_spec (dat k))
 let d : Nat → Nat := fun k => Nat.rec s.w.drawn (fun j x => x + m j) k
 have dS : ∀ k, d (k + 1) = d k + m k := fun k => rfl
 obtain ⟨T, hT⟩ := glue d m ts dS
 have key : ∀ k, (∃ j, j < k ∧ ∃ o w1, runN P (j + 1) (lone s.fr s.cs (on s.w T)) = .ended o w1) ∨ (d k = (sq k).w.drawn ∧ runN P k (lone s.fr s.cs (on s.w T)) = .next (lone (sq k).fr (sq k).cs (on (sq k).w T))) := fun k => by
  induction k with
  | zero => exact .inr ⟨rfl, rfl⟩
  | succ k ih =>
   rcases ih with ⟨j, hj, e⟩ | ⟨hd, hr⟩
   ·exact .inl ⟨j, by omega, e⟩
   ·have ha : Ans (sq k).w (m k) (ts k) T := fun i hi => by rw [← hd]; exact hT k i hi
    rcases (hdat k).1 T ha with ⟨o, w1, es, e⟩ | ⟨h1, es, e⟩
    ·refine .inl ⟨k, by omega, o, w1, ?_⟩
     rw [runN_add, hr]
     simp only [runN, step_lone_end e]
    ·refine .inr ⟨by rw [dS, hd, h1], ?_⟩
     rw [runN_add, hr]
     simp only [runN, step_lone e]
 obtain ⟨n, fr', cs', w', hn, hq⟩ := h T
 rcases key n with ⟨j, hj, o, w1, e⟩ | ⟨_, hr⟩
 ·have : runN P ((j + 1) + (n - (j + 1))) (lone s.fr s.cs (on s.w T)) = .ended o w1 := by rw [runN_add, e]
  rw [show (j + 1) + (n - (j + 1)) = n by omega, hn] at this
  cases this
 ·rw [hn] at hr
  have e : lone fr' cs' w' = lone (sq n).fr (sq n).cs (on (sq n).w T) := by injection hr
  simp only [lone, Machine.mk.injEq, Array.mk.injEq, List.cons.injEq, Goroutine.mk.injEq, and_true] at e
  obtain ⟨e1, e2, e3⟩ := e
  subst e1 e2 e3
  exact nq _ (bad n) (hQ (sq n) T hq)
inductive Rk : Type
 | zero : Rk
 | node : (LSt → Rk) → Rk
def Rk.Lt : Rk → Rk → Prop
 | _, .zero => False
 | r, .node f => ∃ s, r = f s
theorem Rk.wf : WellFounded Rk.Lt := ⟨fun r => by
 induction r with
 | zero => exact ⟨_, fun y hy => hy.elim⟩
 | node f ih => exact ⟨_, fun y hy => by obtain ⟨s, rfl⟩ := hy; exact ih s⟩⟩
def HasRk (P : Program) (Q : LSt → Prop) : Rk → LSt → Prop
 | .zero, s => Q s
 | .node f, s => Q s ∨ (¬ LEnd P s ∧ ∀ s1, LStep P s s1 → HasRk P Q (f s1) s1)
theorem LT.rk {P : Program} {Q : LSt → Prop} {s : LSt} (h : LT P Q s) : ∃ r, HasRk P Q r s := by
 classical
 induction h with
 | stop hq => exact ⟨.zero, hq⟩
 | @step s hn _ ih => exact ⟨.node fun s1 => if h : LStep P s s1 then Classical.choose (ih s1 h) else .zero, .inr ⟨hn, fun s1 h => by
   show HasRk P Q (if h : LStep P s s1 then Classical.choose (ih s1 h) else .zero) s1
   rw [dif_pos h]
   exact Classical.choose_spec (ih s1 h)⟩⟩
theorem HasRk.next {P : Program} {Q : LSt → Prop} {r : Rk} {s : LSt} (h : HasRk P Q r s) : Q s ∨ (¬ LEnd P s ∧ ∀ s1, LStep P s s1 → ∃ r1, Rk.Lt r1 r ∧ HasRk P Q r1 s1) := by
 cases r with
 | zero => exact .inl h
 | node f => exact h.imp id fun ⟨h1, h2⟩ => ⟨h1, fun s1 k => ⟨f s1, ⟨s1, rfl⟩, h2 s1 k⟩⟩
end Go.Pr
namespace Go.Pr
open Go
def c0 : Frame := { fn := 0, tmps := #[], todo := [.code (.refuse "")], defers := [{ target := .nil, args := #[] }], mode := .run, kind := .normal }
section
variable {P : Program} {ρ : Rn} {S : Nat → Nat → Bool} {ext : List Frame} {Q : LSt → Prop}
theorem c0_end (w : World) (v : Value) : LEnd P ⟨c0.finish v, [], w⟩ := ⟨0, fun _ _ => 0, fun T _ => ⟨_, _, _, by
 show stepG P true (gr c0 []) (on w T) = _
 unfold stepG gr c0
 dsimp only
 unfold stepG.exec
 dsimp only⟩⟩
theorem c0_end2 (w : World) (ch : List PanicEntry) : LEnd P ⟨c0.raise ch, [], w⟩ := ⟨0, fun _ _ => 0, fun T _ => ⟨_, _, _, by
 show stepG P true (gr { c0 with mode := .panicking ch } []) (on w T) = _
 unfold stepG gr c0
 dsimp only
 unfold unwind
 dsimp only
 unfold callDeferred
 rw [if_pos (by rfl)]⟩⟩
structure Sess (P : Program) (S : Nat → Nat → Bool) (Q : LSt → Prop) (r : Rk) (ρ : Rn) (s : LSt) (l : List Frame) (fr' : Frame) (l' : List Frame) (w' : World) : Prop where
 rk : HasRk P Q r s
 cs : s.cs = l ++ [c0]
 top : FrR P ρ S s.fr fr'
 rest : FsR P ρ S l l'
 bot : Bot s.fr l
 wr : WR P ρ s.w w'
 env : Env P ρ S
theorem Sess.bottom {r : Rk} {s : LSt} {l : List Frame} {fr' : Frame} {l' : List Frame} {w' : World} (h : Sess P S Q r ρ s l fr' l' w') (hQ : ∀ s, Q s → s.cs ≠ []) (hm : s.fr.mode ≠ .run) (hd : s.fr.defers = []) (hl : l = []) : Q s := by
 rcases h.rk.next with k | ⟨k1, k2⟩
 ·exact k
 exfalso
 obtain ⟨fr, cs, w⟩ := s
 have hcs : cs = [c0] := by have := h.cs; rw [hl] at this; exact this
 subst hcs
 have hkd : fr.kind = .normal := by have := h.bot.1; rw [hl] at this; simpa [Bot] using this
 have dead : ∀ s1, LStep P ⟨fr, [c0], w⟩ s1 → s1.cs = [] → LEnd P s1 → False := fun s1 h1 h2 h3 => by
  obtain ⟨r1, _, h4⟩ := k2 s1 h1
  rcases h4.next with h5 | ⟨h5, _⟩
  ·exact hQ _ h5 h2
  ·exact h5 h3
 have hlt : fr.fn < P.funcs.size := h.env.fns _ h.top.ok
 have hfn : P.funcs[fr.fn]? = some P.funcs[fr.fn] := Array.getElem?_eq_getElem hlt
 have e2 : ∀ (W : World), stepG P true (gr fr [c0]) W = unwind P true fr [c0] none W := fun W => by
  unfold stepG gr
  dsimp only
  cases hx : fr.mode with
  | run => exact absurd hx hm
  | _ => rfl
 cases hmd : fr.mode with
 | run => exact hm hmd
 | panicking ch =>
  refine dead ⟨c0.raise ch, [], w⟩ ⟨0, fun _ _ => 0, rfl, fun T _ => ⟨#[], ?_⟩⟩ rfl (c0_end2 w ch)
  show stepG P true (gr fr [c0]) (on w T) = _
  rw [e2]
  unfold unwind
  rw [hd, hmd]
  dsimp only
  have cat : fr.catches P = false := by
   unfold Frame.catches
   rw [hfn]
  rw [if_neg (by rw [cat]; simp)]
  rfl
 | returning =>
  obtain ⟨m, ts, res, h1, h2, h3⟩ := (results_R h.env h.top.ok hfn h.top.tmps).run w w' #[] #[] h.wr .nil
  have er : ∀ T, stepG P true (gr fr [c0]) (on w T) = match (results P.funcs[fr.fn] fr.tmps).runT P (on w T) #[] with
    |(r, es) => GStep.after (seen P fr.fn es) (match r with
     | .ok v w => doReturn P true fr [c0] none v w
     | .halt (.stuck s) w => .ended (.stuck s (fr.pos P)) w
     | .halt _ w => .ended (.stuck "return: the result variables cannot be read" (fr.pos P)) w) := fun T => by
   rw [e2]
   unfold unwind
   rw [hd, hmd]
   dsimp only
   rw [hfn]
   rfl
  generalize (results P.funcs[fr.fn] fr'.tmps).runT P w' #[] = res' at h3
  cases h3 with
  | @dull hh _ _ _ hdu => exact k1 ⟨m, ts, fun T hT => by
    show ∃ o w1 es, stepG P true (gr fr [c0]) (on w T) = .ended o w1 es
    rw [er, h1 T hT]
    cases hh <;> first | (cases hdu; done) | exact ⟨_, _, _, rfl⟩⟩
  | panic hg hv hw1 hls hfr => exact k1 ⟨m, ts, fun T hT => by
    show ∃ o w1 es, stepG P true (gr fr [c0]) (on w T) = .ended o w1 es
    rw [er, h1 T hT]
    exact ⟨_, _, _, rfl⟩⟩
  | @ok σ a b w1 w1' es1 es1' hg hA hw1 hls hfr =>
   refine dead ⟨c0.finish a, [], w1⟩ ⟨m, ts, h2, fun T hT => ⟨seen P fr.fn es1 ++ #[], ?_⟩⟩ rfl (c0_end w1 a)
   show stepG P true (gr fr [c0]) (on w T) = _
   rw [er, h1 T hT]
   show GStep.after _ (doReturn P true fr [c0] none a (on w1 T)) = _
   simp only [doReturn, hkd]
   rfl
def AtStop (ρ : Rn) (s : LSt) : Prop := s.fr.mode = .run ∧ ∃ ops i rest k o, s.fr.todo = .inRegion ops (i :: rest) :: k ∧ ops[i]? = some o ∧ Stp ρ o
theorem Sess.step {r : Rk} {s : LSt} {l : List Frame} {fr' : Frame} {l' : List Frame} {w' : World} (h : Sess P S Q r ρ s l fr' l' w') (hQ : ∀ s, Q s → s.cs ≠ []) (hQS : ∀ s, AtStop ρ s → Q s) (hq : ¬ Q s) {main : Bool} :
  ∃ r1 σ s1 l1 fr1' l1' w1' es es', Rk.Lt r1 r ∧ Sess P S Q r1 σ s1 l1 fr1' l1' w1' ∧ stepG P main (gr fr' (l' ++ ext)) w' = .go (gr fr1' (l1' ++ ext)) w1' es' ∧ Grow ρ σ w' w1' ∧ LsR σ es es'.toList ∧ Frm w' w1' (Own ρ) := by
 have hn : s.fr.mode ≠ .run → s.fr.defers = [] → l ≠ [] := fun h1 h2 h3 => hq (h.bottom hQ h1 h2 h3)
 obtain ⟨m, ts, k⟩ := step_R (c0 := c0) (ext := ext) h.env h.top h.rest h.bot hn (fun h1 ops i rest k h2 o h3 h4 => hq (hQS s ⟨h1, ops, i, rest, k, o, h2, h3, h4⟩)) h.wr (main := main)
 obtain ⟨fr, cs, w⟩ := s
 have hcs : cs = l ++ [c0] := h.cs
 subst hcs
 rcases h.rk.next with k2 | ⟨k2, k3⟩
 ·exact absurd k2 hq
 rcases k with k | ⟨fr1, l1, w1, fr1', l1', w1', es, es', σ, g1, g2, g3, g4, g5, g6, g7, g8, g9⟩
 ·exact absurd ⟨m, ts, k⟩ k2
 ·obtain ⟨r1, hr1, hk⟩ := k3 ⟨fr1, l1 ++ [c0], w1⟩ ⟨m, ts, g1, fun T hT => ⟨es, g2 T hT⟩⟩
  exact ⟨r1, σ, ⟨fr1, l1 ++ [c0], w1⟩, l1, fr1', l1', w1', es.toList, es', hr1, ⟨hk, rfl, g4.cons_inv.1, g4.cons_inv.2, g5, g7, h.env.mono g6.le⟩, g3, g6, g8, g9⟩
end
end Go.Pr
namespace Go.Pr
open Go
inductive St (P : Program) {α : Type} : Sem α → Prop
 | pure (a : α) : St P (.pure a)
 | program {k : Program → Sem α} : St P (k P) → St P (.program k)
 | halt {h : Halt} : dull h = true → St P (.halt h)
 | panic {v : Value} : Pl v → St P (.halt (.panic v))
section
variable {P : Program} {α β : Type} {ρ : Rn}
theorem St.bind {s : Sem α} {f : α → Sem β} (h : St P s) (hf : ∀ a, St P (f a)) : St P (s >>= f) := by
 show St P (s.bind f)
 induction h with
 | pure a => exact hf a
 | program _ ih => exact .program ih
 | halt hd => exact .halt hd
 | panic hv => exact .panic hv
theorem St.R {s : Sem α} (h : St P s) : SemR P (EqR α) ρ s s := by
 induction h with
 | pure a => exact .pure rfl
 | program _ ih => exact .program ih
 | halt hd => exact .halt hd
 | panic hv => exact .panic (hv ρ)
theorem st_pure (a : α) : St P (Pure.pure a : Sem α) := .pure a
theorem st_prog : St P Go.program := .program (.pure P)
theorem st_unsup {u : Unsupported} (h : dull (.unsupported u) = true) : St P (unsupported u : Sem α) := .halt h
theorem st_stuck {w : String} : St P (stuck w : Sem α) := .halt rfl
theorem st_ite {c : Prop} [Decidable c] {x y : Sem α} (hx : St P x) (hy : St P y) : St P (if c then x else y) := by split <;> assumption
theorem st_panicS (m : String) : St P (panicString m : Sem α) := st_prog.bind fun _ => .panic fun _ => .iface _ (.string _)
theorem st_typeInfo (t : TypeId) : St P (typeInfo t) := st_prog.bind fun p => by
 cases p.info? t with
 | none => exact st_stuck
 | some i => exact st_pure _
theorem st_cutType (n : String) : St P (cutType n) := st_prog.bind fun p => by
 cases p.cutTypes.find? (·.1 == n) with
 | none => exact st_stuck
 | some i => exact st_pure _
theorem st_noPack (s : String) (t : TypeId) : St P (Extern.Rtype.noPack s t) := st_prog.bind fun _ => st_ite (st_unsup rfl) (st_pure _)
theorem st_noPackNamed (s : String) (t : TypeId) : St P (Extern.Rtype.noPackNamed s t) := st_prog.bind fun _ => st_prog.bind fun _ => st_ite (st_unsup rfl) (st_pure _)
theorem st_noPackMethods (s : String) (t : TypeId) : St P (Extern.Rtype.noPackMethods s t) := st_prog.bind fun _ => st_prog.bind fun _ => st_ite (st_unsup rfl) (st_pure _)
theorem st_spelt (t : TypeId) : St P (Extern.Rtype.spelt t) := (st_noPackNamed _ _).bind fun _ => (st_typeInfo t).bind fun _ => st_ite (st_unsup rfl) (st_pure _)
theorem st_under (t : TypeId) : St P (Extern.Rtype.under t) := (st_typeInfo t).bind fun i => by
 cases i.desc with
 | named q u => exact (st_typeInfo u).bind fun _ => st_pure _
 | _ => exact st_pure _
theorem st_kind (t : TypeId) : St P (Extern.Rtype.kind t) := (st_under t).bind fun x => by
 obtain ⟨_, i⟩ := x
 dsimp only
 split <;> first | exact st_pure _ | exact st_stuck
theorem st_hasName (t : TypeId) : St P (Extern.Rtype.hasName t) := (st_typeInfo t).bind fun i => by split <;> exact st_pure _
theorem st_elem? (t : TypeId) : St P (Extern.Rtype.elem? t) := (st_under t).bind fun i => by split <;> exact st_pure _
theorem st_implements (a b : TypeId) : St P (Extern.Rtype.implements a b) := (st_noPackMethods _ _).bind fun _ => (st_noPackMethods _ _).bind fun _ => (st_under a).bind fun x => (st_under b).bind fun y => by
 split
 ·exact st_pure _
 ·exact (st_typeInfo b).bind fun _ => st_pure _
 ·exact st_pure _
theorem st_direct (a b : TypeId) : St P (Extern.Rtype.directlyAssignable a b) := by
 unfold Extern.Rtype.directlyAssignable
 refine st_ite (st_pure _) ?_
 have fin : St P (do
   let (t, ti) ← Extern.Rtype.under a
   let (v, vi) ← Extern.Rtype.under b
   match ti.desc, vi.desc with
   | .chan _ e, .chan .both e' => Pure.pure (t == v || e == e')
   | _, _ => Pure.pure (t == v)) := (st_under a).bind fun x => (st_under b).bind fun y => by
  obtain ⟨y1, y2⟩ := y
  dsimp only
  split <;> exact st_pure _
 exact (st_hasName a).bind fun x => (st_hasName b).bind fun y => st_ite (st_pure _) fin
theorem st_assignable (a b : TypeId) : St P (Extern.ReflectliteType.assignableTo a b) := by
 unfold Extern.ReflectliteType.assignableTo
 have fin : St P (do Pure.pure ((← Extern.Rtype.directlyAssignable a b) || (← Extern.Rtype.implements a b))) := (st_direct a b).bind fun _ => (st_implements a b).bind fun _ => st_pure _
 exact st_ite ((st_noPackMethods _ _).bind fun _ => (st_noPackMethods _ _).bind fun _ => fin) fin
theorem st_implements_ (a b : TypeId) : St P (Extern.ReflectliteType.implements_ a b) := by
 unfold Extern.ReflectliteType.implements_
 refine (st_kind a).bind fun k => ?_
 exact st_ite (St.bind (st_panicS _) fun _ => (st_noPackMethods _ _).bind fun _ => (st_noPack _ _).bind fun _ => st_implements a b) ((st_noPackMethods _ _).bind fun _ => (st_noPack _ _).bind fun _ => st_implements a b)
theorem R_ofHandle (hK : KF P ρ) {h h' : Value} (hh : VR ρ h h') : SemR P (EqR TypeId) ρ (Extern.Rtype.ofHandle h) (Extern.Rtype.ofHandle h') := by
 unfold Extern.Rtype.ofHandle
 refine R_bind R_prog fun σ p q l e => ?_
 rw [e.1, e.2]
 have : handleType P h' = handleType P h := by
  cases hh <;> try rfl
  rename_i a a' ha
  show (if a'.block == P.globals.size then some a'.off else none) = (if a.block == P.globals.size then some a.off else none)
  rcases ha.b with ⟨hk, e⟩ | hr
  ·rw [e, ha.off]
  ·have h1 := (ρ.lo hr).1
   have h2 := (ρ.lo hr).2
   have h3 := ρ.kb hK.handle
   rw [if_neg (by simp; omega), if_neg (by simp; omega)]
 rw [this]
 cases handleType P h with
 | none => exact R_stuck
 | some t => exact R_pure rfl
theorem R_handle (hK : KF P ρ) (t : TypeId) : SemR P VRr ρ (Extern.Rtype.handle t) (Extern.Rtype.handle t) := by
 unfold Extern.Rtype.handle
 refine R_bind R_prog fun σ p q l e => ?_
 rw [e.1, e.2]
 exact R_pure (vr_handle (hK.mono l) t)
theorem R_toType (hK : KF P ρ) (t : TypeId) : SemR P VRr ρ (Extern.ReflectliteType.toType t) (Extern.ReflectliteType.toType t) := by
 unfold Extern.ReflectliteType.toType
 refine R_bind (st_cutType _).R fun σ a b l e => ?_
 have e : a = b := e
 subst e
 refine R_bind (R_handle (hK.mono l) t) fun τ x y l2 h => R_pure (.iface _ (.agg (.cons h .nil)))
theorem R_ofRtype (hK : KF P ρ) {h h' : Value} (hh : VR ρ h h') : SemR P (EqR TypeId) ρ (Extern.ReflectliteType.ofRtype h) (Extern.ReflectliteType.ofRtype h') := by
 unfold Extern.ReflectliteType.ofRtype
 cases hh
 case agg xs xs' hx =>
  obtain ⟨xs⟩ := xs
  obtain ⟨xs'⟩ := xs'
  have hx : LR ρ xs xs' := hx
  cases hx with
  | nil => exact R_stuck
  | cons x y =>
   cases y with
   | cons _ _ => exact R_stuck
   | nil =>
    refine R_bind (R_ofHandle hK x) fun σ t t' l e => ?_
    subst e
    exact R_bind (st_noPack _ _).R fun _ _ _ _ _ => R_pure rfl
 all_goals exact R_stuck
theorem R_typeOf (hK : KF P ρ) {xs xs' : Array Value} (hx : AR ρ xs xs') : SemR P VRr ρ (Extern.ReflectliteType.typeOf xs) (Extern.ReflectliteType.typeOf xs') := by
 obtain ⟨xs⟩ := xs
 obtain ⟨xs'⟩ := xs'
 have hx : LR ρ xs xs' := hx
 unfold Extern.ReflectliteType.typeOf
 cases hx with
 | nil => exact R_stuck
 | cons x y =>
  cases y with
  | cons _ _ => cases x <;> exact R_stuck
  | nil =>
   cases x
   case nilIface => exact R_pure .nilIface
   case iface t h => exact R_toType hK t
   all_goals exact R_stuck
theorem R_methodT (hK : KF P ρ) {f : TypeId → Sem Value} (hf : ∀ σ t, ρ.Le σ → SemR P VRr σ (f t) (f t)) {xs xs' : Array Value} (hx : AR ρ xs xs') : SemR P VRr ρ (Extern.ReflectliteType.method f xs) (Extern.ReflectliteType.method f xs') := by
 obtain ⟨xs⟩ := xs
 obtain ⟨xs'⟩ := xs'
 have hx : LR ρ xs xs' := hx
 unfold Extern.ReflectliteType.method
 cases hx with
 | nil => exact R_stuck
 | cons x y =>
  cases y with
  | cons _ _ => exact R_stuck
  | nil =>
   refine R_bind (R_ofRtype hK x) fun σ t t' l e => ?_
   subst e
   exact hf σ t l
theorem R_panicS {α β : Type} {A : Rn → α → β → Prop} (m : String) : SemR P A ρ (panicString m) (panicString m) := by
 unfold Go.panicString
 refine R_bind R_prog fun σ p q l e => ?_
 rw [e.1, e.2]
 exact R_panic (.iface _ (.string _))
theorem R_elemT (hK : KF P ρ) (t : TypeId) : SemR P VRr ρ (Extern.ReflectliteType.elem t) (Extern.ReflectliteType.elem t) := by
 unfold Extern.ReflectliteType.elem
 refine R_bind (st_elem? t).R fun σ a b l e => ?_
 have e : a = b := e
 subst e
 cases a with
 | some u => exact R_toType (hK.mono l) u
 | none =>
  refine R_bind (st_spelt t).R fun τ x y _ e => ?_
  have e : x = y := e
  subst e
  exact R_panicS _
theorem R_relation (hK : KF P ρ) (w : String) {f : TypeId → TypeId → Sem Bool} (hf : ∀ a b, St P (f a b)) {xs xs' : Array Value} (hx : AR ρ xs xs') : SemR P VRr ρ (Extern.ReflectliteType.relation w f xs) (Extern.ReflectliteType.relation w f xs') := by
 obtain ⟨xs⟩ := xs
 obtain ⟨xs'⟩ := xs'
 have hx : LR ρ xs xs' := hx
 unfold Extern.ReflectliteType.relation
 cases hx with
 | nil => exact R_stuck
 | cons x y =>
  cases y with
  | nil => exact R_stuck
  | cons y z =>
   cases z with
   | cons _ _ => cases y <;> exact R_stuck
   | nil =>
    cases y
    case nilIface => exact R_panicS _
    case iface t h =>
     refine R_bind (R_ofRtype hK h) fun σ u u' l e => ?_
     subst e
     refine R_bind (R_ofRtype (hK.mono l) (x.mono l)) fun τ v v' l2 e => ?_
     subst e
     refine R_bind (hf u v).R fun μ b b' _ e => ?_
     have e : b = b' := e
     subst e
     exact R_pure (.bool _)
    all_goals exact R_stuck
theorem R_abiMethod (hK : KF P ρ) {f : TypeId → Sem Value} (hf : ∀ σ t, ρ.Le σ → SemR P VRr σ (f t) (f t)) {xs xs' : Array Value} (hx : AR ρ xs xs') : SemR P VRr ρ (Extern.ReflectliteType.abiMethod f xs) (Extern.ReflectliteType.abiMethod f xs') := by
 obtain ⟨xs⟩ := xs
 obtain ⟨xs'⟩ := xs'
 have hx : LR ρ xs xs' := hx
 unfold Extern.ReflectliteType.abiMethod
 cases hx with
 | nil => exact R_stuck
 | cons x y =>
  cases y with
  | cons _ _ => exact R_stuck
  | nil =>
   refine R_bind (R_ofHandle hK x) fun σ t t' l e => ?_
   subst e
   exact R_bind (st_noPack _ _).R fun τ _ _ l2 _ => hf τ t (l.trans l2)
theorem R_kindInt (t : TypeId) : SemR P VRr ρ (do Pure.pure (.int .u8 (← Extern.Rtype.kind t))) (do Pure.pure (.int .u8 (← Extern.Rtype.kind t))) :=
 R_bind (st_kind t).R fun _ a b _ e => by
  have e : a = b := e
  subst e
  exact R_pure (.int _ _)
theorem R_mkV (hK : KF P ρ) (t : TypeId) {a a' : Addr} (ha : AddrR ρ a a') (n : Nat) : SemR P VRr ρ (Extern.ReflectliteValue.mk t a n) (Extern.ReflectliteValue.mk t a' n) := by
 unfold Extern.ReflectliteValue.mk
 refine R_bind (R_handle hK t) fun σ x y l h => R_bind (st_kind t).R fun τ k k' l2 e => ?_
 have e : k = k' := e
 subst e
 exact R_pure (.agg (.cons (h.mono l2) (.cons (.ptr ((ha.mono l).mono l2)) (.cons (.int _ _) .nil))))
theorem zeroV_R : VR ρ Extern.ReflectliteValue.zeroV Extern.ReflectliteValue.zeroV := .agg (.cons .ptr0 (.cons .ptr0 (.cons (.int _ _) .nil)))
theorem R_unpack (hK : KF P ρ) {x x' : Value} (hx : VR ρ x x') : SemR P VRr ρ (Extern.ReflectliteValue.unpack x) (Extern.ReflectliteValue.unpack x') := by
 cases hx
 case nilIface => exact R_pure zeroV_R
 case iface t h => exact R_bind (R_newVar t h) fun σ a a' l ha => R_mkV (hK.mono l) t ha 0
 all_goals exact R_stuck
theorem R_valueError {α β : Type} {A : Rn → α → β → Prop} (m : String) (k : Nat) : SemR P A ρ (Extern.ReflectliteValue.valueError m k) (Extern.ReflectliteValue.valueError m k) := by
 unfold Extern.ReflectliteValue.valueError
 refine R_bind (st_cutType _).R fun σ t t' l e => ?_
 have e : t = t' := e
 subst e
 refine R_bind (R_elemOf t) fun τ u u' l2 e => ?_
 subst e
 exact R_bind (R_newVar u (v := .agg _) (v' := .agg _) (.agg (.cons (.string _) (.cons (.int _ _) .nil)))) fun μ a a' l3 ha => R_panic (.iface t (.ptr ha))
def VpR (ρ : Rn) (x y : Option (TypeId × Addr × Nat)) : Prop := (x = none ∧ y = none) ∨ ∃ t a a' n, x = some (t, a, n) ∧ y = some (t, a', n) ∧ AddrR ρ a a'
theorem R_partsAny (hK : KF P ρ) {x x' : Value} (hx : VR ρ x x') : SemR P VpR ρ (Extern.ReflectliteValue.partsAny x) (Extern.ReflectliteValue.partsAny x') := by
 unfold Extern.ReflectliteValue.partsAny
 cases hx
 case agg xs xs' hx =>
  obtain ⟨xs⟩ := xs
  obtain ⟨xs'⟩ := xs'
  have hx : LR ρ xs xs' := hx
  cases hx with
  | nil => exact R_stuck
  | cons x y =>
   cases y with
   | nil => exact R_stuck
   | cons y z =>
    cases z with
    | nil => exact R_stuck
    | cons z u =>
     cases u with
     | cons _ _ => exact R_stuck
     | nil =>
      have go : ∀ {h h' : Value} {a a' : Addr} (n : Int), VR ρ h h' → AddrR ρ a a' → SemR P VpR ρ (do Pure.pure (some (← Extern.Rtype.ofHandle h, a, n.toNat))) (do Pure.pure (some (← Extern.Rtype.ofHandle h', a', n.toNat))) := fun n hh ha =>
       R_bind (R_ofHandle hK hh) fun σ t t' l e => by
        subst e
        exact R_pure (.inr ⟨_, _, _, _, rfl, rfl, ha.mono l⟩)
      cases z
      case int k n =>
       cases k
       case u64 =>
        cases n with
        | ofNat m =>
         cases m with
         | zero => cases y <;> exact R_pure (.inl ⟨rfl, rfl⟩)
         | succ m =>
          cases y
          case ptr a a' ha => exact go (Int.ofNat (m + 1)) x ha
          all_goals exact R_stuck
        | negSucc m =>
         cases y
         case ptr a a' ha => exact go (Int.negSucc m) x ha
         all_goals exact R_stuck
       all_goals cases y <;> exact R_stuck
      all_goals cases y <;> exact R_stuck
 all_goals exact R_stuck
theorem VpR.mono {σ : Rn} (l : ρ.Le σ) {x y : Option (TypeId × Addr × Nat)} (h : VpR ρ x y) : VpR σ x y := h.imp id fun ⟨t, a, a', n, h1, h2, h3⟩ => ⟨t, a, a', n, h1, h2, h3.mono l⟩
theorem R_parts (hK : KF P ρ) {x x' : Value} (hx : VR ρ x x') : SemR P VpR ρ (Extern.ReflectliteValue.parts x) (Extern.ReflectliteValue.parts x') := by
 unfold Extern.ReflectliteValue.parts
 refine R_bind (R_partsAny hK hx) fun σ p q l h => ?_
 rcases h with ⟨rfl, rfl⟩ | ⟨t, a, a', n, rfl, rfl, ha⟩
 ·exact R_pure (.inl ⟨rfl, rfl⟩)
 ·exact R_bind (st_noPack _ _).R fun τ _ _ l2 _ => R_pure (.inr ⟨t, a, a', n, rfl, rfl, ha.mono l2⟩)
theorem R_methodV (hK : KF P ρ) {z : Sem Value} (hz : ∀ σ, ρ.Le σ → SemR P VRr σ z z) {f : TypeId → Addr → Nat → Nat → Sem Value} (hf : ∀ σ t a a' n k, ρ.Le σ → AddrR σ a a' → SemR P VRr σ (f t a n k) (f t a' n k)) {xs xs' : Array Value} (hx : AR ρ xs xs') :
  SemR P VRr ρ (Extern.ReflectliteValue.method z f xs) (Extern.ReflectliteValue.method z f xs') := by
 obtain ⟨xs⟩ := xs
 obtain ⟨xs'⟩ := xs'
 have hx : LR ρ xs xs' := hx
 unfold Extern.ReflectliteValue.method
 cases hx with
 | nil => exact R_stuck
 | cons x y =>
  cases y with
  | cons _ _ => exact R_stuck
  | nil =>
   refine R_bind (R_parts hK x) fun σ p q l h => ?_
   rcases h with ⟨rfl, rfl⟩ | ⟨t, a, a', n, rfl, rfl, ha⟩
   ·exact hz σ l
   ·exact hf σ t a a' n _ l ha
theorem R_methodAny (hK : KF P ρ) {z : Sem Value} (hz : ∀ σ, ρ.Le σ → SemR P VRr σ z z) {f : TypeId → Addr → Nat → Nat → Sem Value} (hf : ∀ σ t a a' n k, ρ.Le σ → AddrR σ a a' → SemR P VRr σ (f t a n k) (f t a' n k)) {xs xs' : Array Value} (hx : AR ρ xs xs') :
  SemR P VRr ρ (Extern.ReflectliteValue.methodAny z f xs) (Extern.ReflectliteValue.methodAny z f xs') := by
 obtain ⟨xs⟩ := xs
 obtain ⟨xs'⟩ := xs'
 have hx : LR ρ xs xs' := hx
 unfold Extern.ReflectliteValue.methodAny
 cases hx with
 | nil => exact R_stuck
 | cons x y =>
  cases y with
  | cons _ _ => exact R_stuck
  | nil =>
   refine R_bind (R_partsAny hK x) fun σ p q l h => ?_
   rcases h with ⟨rfl, rfl⟩ | ⟨t, a, a', n, rfl, rfl, ha⟩
   ·exact hz σ l
   ·exact hf σ t a a' n _ l ha
theorem R_isNilV (t : TypeId) {a a' : Addr} (ha : AddrR ρ a a') (n k : Nat) : SemR P VRr ρ (Extern.ReflectliteValue.isNil t a n k) (Extern.ReflectliteValue.isNil t a' n k) := by
 unfold Extern.ReflectliteValue.isNil
 refine R_ifB rfl (R_dead (R_valueError _ _)) ?_
 refine R_bind (R_loadVar t ha) fun σ v v' l hv => ?_
 cases hv <;> exact R_pure (.bool _)
theorem R_elemV (hK : KF P ρ) (t : TypeId) {a a' : Addr} (ha : AddrR ρ a a') (n k : Nat) : SemR P VRr ρ (Extern.ReflectliteValue.elem t a n k) (Extern.ReflectliteValue.elem t a' n k) := by
 unfold Extern.ReflectliteValue.elem
 refine R_ifB rfl (R_dead (R_valueError _ _)) ?_
 refine R_bind (R_loadVar t ha) fun σ v v' l hv => ?_
 refine R_bind (st_elem? t).R fun τ e e' l2 he => ?_
 have he : e = e' := he
 subst he
 have hv := VR.mono l2 hv
 have hK2 := (hK.mono l).mono l2
 by_cases h20 : k = 20
 ·subst h20
  exact R_unpack hK2 hv
 ·by_cases h22 : k = 22
  ·subst h22
   cases hv
   case ptr0 => exact R_pure zeroV_R
   case ptr b b' hb =>
    cases e with
    | none => exact R_valueError _ _
    | some u => exact R_mkV hK2 u hb _
   all_goals exact R_valueError _ _
  ·split
   ·exact absurd rfl h20
   ·exact absurd rfl h22
   ·exact absurd rfl h22
   ·split
    ·exact absurd rfl h20
    ·exact absurd rfl h22
    ·exact absurd rfl h22
    ·exact R_valueError _ _
theorem R_setV (hK : KF P ρ) {xs xs' : Array Value} (hx : AR ρ xs xs') : SemR P VRr ρ (Extern.ReflectliteValue.set xs) (Extern.ReflectliteValue.set xs') := by
 obtain ⟨xs⟩ := xs
 obtain ⟨xs'⟩ := xs'
 have hx : LR ρ xs xs' := hx
 unfold Extern.ReflectliteValue.set
 cases hx with
 | nil => exact R_stuck
 | cons x y =>
  cases y with
  | nil => exact R_stuck
  | cons y z =>
   cases z with
   | cons _ _ => exact R_stuck
   | nil =>
    refine R_bind (R_parts hK x) fun σ p q l h => ?_
    refine R_bind (R_parts (hK.mono l) (y.mono l)) fun τ p2 q2 l2 h2 => ?_
    replace h := h.mono l2
    rcases h with ⟨rfl, rfl⟩ | ⟨t, a, a', n, rfl, rfl, ha⟩
    ·exact R_unsup rfl
    ·rcases h2 with ⟨rfl, rfl⟩ | ⟨u, b, b', m, rfl, rfl, hb⟩
     ·exact R_unsup rfl
     ·dsimp only
      refine R_if Iff.rfl (fun _ => R_dead (R_unsup rfl)) fun _ => ?_
      refine R_bind (R_loadVar u hb) fun μ v v' l3 hv => ?_
      have ha3 := ha.mono l3
      refine R_bind (st_direct t u).R fun ν c c' l4 e => ?_
      have e : c = c' := e
      subst e
      cases c with
      | true => exact R_bind (R_storeVar t (ha3.mono l4) (VR.mono l4 hv)) fun _ _ _ _ _ => R_pure (.tuple LR.nil)
      | false =>
       refine R_bind (st_implements t u).R fun ξ c c' l5 e => ?_
       have e : c = c' := e
       subst e
       have ha5 := (ha3.mono l4).mono l5
       have hv5 := VR.mono l5 (VR.mono l4 hv)
       cases c with
       | true =>
        refine R_bind (st_kind u).R fun π k k' l6 e => ?_
        have e : k = k' := e
        subst e
        have hv6 := VR.mono l6 hv5
        refine R_ifB rfl ?_ ?_
        ·have hv7 := hv6
         cases hv6
         case nilIface => exact R_unsup rfl
         all_goals exact R_bind (R_storeVar t (ha5.mono l6) hv7) fun _ _ _ _ _ => R_pure (.tuple LR.nil)
        ·exact R_bind (R_storeVar t (ha5.mono l6) (.iface u hv6)) fun _ _ _ _ _ => R_pure (.tuple LR.nil)
       | false =>
        refine R_bind (st_spelt u).R fun π x1 x2 l6 e => ?_
        have e : x1 = x2 := e
        subst e
        refine R_bind (st_spelt t).R fun π x1 x2 l6 e => ?_
        have e : x1 = x2 := e
        subst e
        exact R_dead (R_panicS _)
end
end Go.Pr
