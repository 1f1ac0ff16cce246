/- Part 5 of the proof: Mx1, Mx2, Mx3, Mx4, Mx5, Mx6, Mx7, Mx8, Mx9. -/
import Derived.Test.YtdhekhlmdefcnaaGreatDoorPart4
import Derived.Conc.CrowdComm
import Derived.Conc.CrowdRun
import Derived.Conc.RingFork
namespace Go.Mx
open Go Go.Conc
open Go.ConcN (WgLive)
open Go.ConcR (KK WgAt stA smA rd wr mk)
inductive RT (α : Type) : Type
 | leaf : RT α
 | node : (α → RT α) → RT α
def RT.Lt {α : Type} : RT α → RT α → Prop
 | _, .leaf => False
 | r, .node f => ∃ s, r = f s
theorem RT.wf {α : Type} : WellFounded (RT.Lt (α := α)) := ⟨fun r => by
 induction r with
 | leaf => exact ⟨_, fun y hy => hy.elim⟩
 | node f ih => exact ⟨_, fun y hy => by obtain ⟨s, rfl⟩ := hy; exact ih s⟩⟩
def VLt {α : Type} (r : α → α → Prop) (l' l : List α) : Prop := ∃ a x y b, l = a ++ x :: b ∧ l' = a ++ y :: b ∧ r y x
theorem VLt.cons_inv {α : Type} {r : α → α → Prop} {l' : List α} {x : α} {l : List α} (h : VLt r l' (x :: l)) : (∃ y, r y x ∧ l' = y :: l) ∨ ∃ m, VLt r m l ∧ l' = x :: m := by
 obtain ⟨a, u, y, b, h1, h2, h3⟩ := h
 cases a with
 | nil =>
  simp only [List.nil_append, List.cons.injEq] at h1
  obtain ⟨rfl, rfl⟩ := h1
  exact .inl ⟨y, h3, h2⟩
 | cons c a =>
  simp only [List.cons_append, List.cons.injEq] at h1
  obtain ⟨rfl, rfl⟩ := h1
  exact .inr ⟨a ++ y :: b, ⟨a, u, y, b, rfl, rfl, h3⟩, h2⟩
theorem VLt.wf {α : Type} {r : α → α → Prop} (wf : WellFounded r) : WellFounded (VLt r) := ⟨fun l => by
 induction l with
 | nil => exact ⟨_, fun y hy => by obtain ⟨a, x, y, b, h, _⟩ := hy; cases a <;> simp at h⟩
 | cons x l ih =>
  induction x using wf.induction generalizing l with
  | _ x ihx =>
   induction ih with
   |intro l hl ihl =>
    refine ⟨_, fun y hy => ?_⟩
    rcases hy.cons_inv with ⟨u, hu, rfl⟩ | ⟨m, hm, rfl⟩
    ·exact ihx u hu l ⟨_, hl⟩
    ·exact ihl m hm⟩
theorem VLt.set {α : Type} {r : α → α → Prop} {l : List α} {i : Nat} {x y : α} (h : l[i]? = some x) (hr : r y x) : VLt r (l.set i y) l := by
 obtain ⟨hi, rfl⟩ := List.getElem?_eq_some_iff.1 h
 refine ⟨l.take i, l[i], y, l.drop (i + 1), ?_, ?_, hr⟩
 ·simp
 ·exact List.set_eq_take_append_cons_drop.trans (by rw [if_pos hi])
structure Geo where
 base : Nat → Prop
 Wg : Nat
 Ch : Nat
 O : Nat
 N : Nat
 ty : TypeId
 tyS : TypeId
 z : Value
 zs : Value
 ans : Nat → Value
def RowLive (G : Geo) (w : World) : Prop := ∃ cs : Array Value, w.heap[G.O]? = some (.cells cs G.tyS (0, 0)) ∧ cs.size = G.N
structure Rel (G : Geo) (M : Nat → Prop) (w w1 : World) : Prop where
 fix : ∀ b, G.base b ∨ M b → w1.heap[b]? = w.heap[b]?
 live : WgLive G.ty G.Wg w → WgLive G.ty G.Wg w1
 row : RowLive G w → RowLive G w1
 os : w1.os = w.os
 tape : w1.tape = w.tape
 output : w1.output = w.output
 size : w.heap.size ≤ w1.heap.size
theorem Rel.refl (G : Geo) (M : Nat → Prop) (w : World) : Rel G M w w := ⟨fun _ _ => rfl, id, id, rfl, rfl, rfl, Nat.le_refl _⟩
theorem Rel.trans {G : Geo} {M : Nat → Prop} {a b c : World} (h : Rel G M a b) (k : Rel G M b c) : Rel G M a c :=
 ⟨fun x hx => (k.fix x hx).trans (h.fix x hx), k.live ∘ h.live, k.row ∘ h.row, k.os.trans h.os, k.tape.trans h.tape, k.output.trans h.output, Nat.le_trans h.size k.size⟩
theorem Rel.mono {G : Geo} {M M' : Nat → Prop} {a b : World} (h : Rel G M a b) (hm : ∀ x, M' x → M x) : Rel G M' a b := ⟨fun x hx => h.fix x (hx.imp id (hm x)), h.live, h.row, h.os, h.tape, h.output, h.size⟩
theorem Rel.at (G : Geo) (M : Nat → Prop) (w : World) (d : Nat) : Rel G M w (w.at d) := ⟨fun _ _ => rfl, id, id, rfl, rfl, rfl, Nat.le_refl _⟩
structure Gu (M : Nat → Prop) (w w' : World) : Prop where
 old : ∀ b, b < w.heap.size → ¬ M b → w'.heap[b]? = w.heap[b]?
 os : w'.os = w.os
 tape : w'.tape = w.tape
 output : w'.output = w.output
 size : w.heap.size ≤ w'.heap.size
def growM (M : Nat → Prop) (w w' : World) : Nat → Prop := fun b => M b ∨ (w.heap.size ≤ b ∧ b < w'.heap.size)
def blk : Loc → Option Nat
 | .cell a => some a.block
 | .obj r => some r
 | _ => none
def dullMark : Mark → Prop
 | .extern _ | .noRoom => True
 | _ => False
def QEv (A B : Nat → Prop) (e : Event) : Prop :=
 (∀ m, e.loc = .mark m → dullMark m) ∧ ∀ x, (MemAct.ofEvent e).touch? = some x → x.loc.isMemory = true → x.kind = .plain ∧ ∃ b, blk x.loc = some b ∧ (A b ∨ (x.write = false ∧ B b))
inductive Ph where
 | run | shut | rel | dis | d2 | d3 | d4 | out
 deriving DecidableEq
structure WS where
 ph : Ph
 g : Goroutine
 w : World
 M : Nat → Prop
 H : Nat → Prop
 S : Nat → Prop
 k : Nat
instance : Inhabited WS := ⟨⟨.run, default, default, fun _ => False, fun _ => False, fun _ => False, 0⟩⟩
def oCell (G : Geo) (i : Nat) : Addr := ⟨G.O, i, none⟩
inductive ActW (G : Geo) (P : Program) (K : WS → Prop) (s : WS) : Prop
 | quiet {g' : Goroutine} {w' : World} {es : Array Event} : s.ph = .run ∨ s.ph = .shut → stepG P false s.g s.w = .go g' w' es → g'.status = .running → Gu s.M s.w w' → (∀ e ∈ es, QEv (growM s.M s.w w') G.base e) →
   K { s with g := g', w := w', M := growM s.M s.w w' } → ActW G P K s
 | idle {g' : Goroutine} : s.ph ≠ .out → stepG P false s.g s.w = .go g' s.w #[] → g'.status = .running → K { s with g := g' } → ActW G P K s
 | store {g' : Goroutine} (i : Nat) : s.ph = .run → s.H i → i < G.N → stepG P false s.g s.w = .go g' (s.w.setCell (oCell G i) (G.ans i)) #[⟨.cell (oCell G i), true, false⟩] → g'.status = .running →
   K { s with g := g', w := s.w.setCell (oCell G i) (G.ans i), S := fun j => s.S j ∨ j = i } → ActW G P K s
 | rel {g' : Goroutine} : s.ph = .shut → (∀ i, s.H i → s.S i) → stepG P false s.g s.w = .go g' s.w #[mk (.releaseMerge (stA G.Wg))] → g'.status = .running → K { s with ph := .rel, g := g' } → ActW G P K s
 | dis {g' : Goroutine} : s.ph = .rel → stepG P false s.g s.w = .go g' s.w #[mk .disable] → g'.status = .running → K { s with ph := .dis, g := g' } → ActW G P K s
 | d1 : s.ph = .dis → (∀ v wt : Nat, wt ≤ 1 → v < 2147483647 → WgAt G.ty G.Wg s.w (((v + 1 : Nat) : Int) * KK + (wt : Nat)) 0 →
   ∃ g', stepG P false s.g s.w = .go g' (s.w.setCell (stA G.Wg) (.int .u64 ((v : Nat) * KK + (wt : Nat)))) #[rd (stA G.Wg), wr (stA G.Wg)] ∧
    ((v = 0 ∧ wt = 1) → g'.status = .running ∧ K { s with ph := .d2, g := g', w := s.w.setCell (stA G.Wg) (.int .u64 ((v : Nat) * KK + (wt : Nat))) }) ∧ (¬ (v = 0 ∧ wt = 1) → ∃ q, QuitsD P q 1 g')) → ActW G P K s
 | d2 : s.ph = .d2 → (WgAt G.ty G.Wg s.w 1 0 → ∃ g', stepG P false s.g s.w = .go g' s.w #[rd (stA G.Wg)] ∧ g'.status = .running ∧ K { s with ph := .d3, g := g' }) → ActW G P K s
 | d3 : s.ph = .d3 → (WgAt G.ty G.Wg s.w 1 0 → ∃ g', stepG P false s.g s.w = .go g' (s.w.setCell (stA G.Wg) (.int .u64 0)) #[wr (stA G.Wg)] ∧ g'.status = .running ∧ K { s with ph := .d4, g := g', w := s.w.setCell (stA G.Wg) (.int .u64 0) }) → ActW G P K s
 | d4 : s.ph = .d4 → mayWake P s.g = true → (WgAt G.ty G.Wg s.w 0 0 → ∃ g', stepG P false s.g s.w = .go g' (s.w.setCell (smA G.Wg) (.int .u32 1)) (semEvents (smA G.Wg)) ∧ ∃ q, QuitsD P q 1 g') → ActW G P K s
structure RecvW (G : Geo) (P : Program) (K : WS → Prop) (s : WS) : Prop where
 ph : s.ph = .run
 step : stepG P false s.g s.w = .comm { s.g with status := .running, offers := none } #[rcase G.Ch G.z] true (.recv true) s.w #[]
 got : ∀ i k', s.k = k' + 1 → i < G.N → K { s with g := Go.Conc.served s.g (recvd true (.int .i64 i) true), H := fun j => s.H j ∨ j = i, k := k' }
 shut : K { s with ph := .shut, g := Go.Conc.served s.g (recvd true G.z false) }
def BehW (G : Geo) (P : Program) : RT WS → WS → Prop
 | .leaf, _ => False
 | .node f, s => s.g.status = .running ∧ ((∀ w1, Rel G s.M s.w w1 → ActW G P (fun s1 => BehW G P (f s1) s1) { s with w := w1 }) ∨ (∀ w1, Rel G s.M s.w w1 → RecvW G P (fun s1 => BehW G P (f s1) s1) { s with w := w1 }))
theorem BehW.rely {G : Geo} {P : Program} {r : RT WS} {s : WS} (h : BehW G P r s) {w1 : World} (hr : Rel G s.M s.w w1) : BehW G P r { s with w := w1 } := by
 cases r with
 | leaf => exact h
 | node f => exact ⟨h.1, h.2.imp (fun k w2 h2 => k w2 (hr.trans h2)) fun k w2 h2 => k w2 (hr.trans h2)⟩
inductive MTag where
 | sp (r : Nat) (pend : Bool)
 | sd (i : Nat)
 | wa (v : Nat)
 | cas (v : Nat)
 | w3
 | w4
 | ke
structure MS where
 tag : MTag
 d : Nat
 g : Goroutine
 w : World
instance : Inhabited MS := ⟨⟨.ke, 0, default, default⟩⟩
def QEv0 (G : Geo) (e : Event) : Prop := QEv (fun _ => False) G.base e ∨ (∃ a, a.block = G.Wg ∧ (e = ⟨.mark (.read a), false, true⟩ ∨ e = ⟨.mark (.write a), false, true⟩))
def spNext (r : Nat) : MTag := if r = 0 then .sd 0 else .sp r false
structure Same (w w' : World) : Prop where
 heap : w'.heap = w.heap
 os : w'.os = w.os
 tape : w'.tape = w.tape
 output : w'.output = w.output
inductive ActM (G : Geo) (P : Program) (Fin : Goroutine → Prop) (K : MS → Prop) (s : MS) : Prop
 | quiet {g' : Goroutine} {w' : World} {es : Array Event} : stepG P true s.g s.w = .go g' w' es → g'.status = .running → Same s.w w' → (∀ e ∈ es, QEv0 G e) → K { s with g := g', w := w' } → ActM G P Fin K s
 | dis {g' : Goroutine} : stepG P true s.g s.w = .go g' s.w #[mk .disable] → g'.status = .running → K { s with g := g', d := s.d + 1 } → ActM G P Fin K s
 | ena {g' : Goroutine} : stepG P true s.g s.w = .go g' s.w #[mk .enable] → g'.status = .running → K { s with g := g', d := s.d - 1 } → ActM G P Fin K s
 | add (r : Nat) : s.tag = .sp (r + 1) false → (∀ v : Nat, v < 2147483647 → WgAt G.ty G.Wg s.w ((v : Nat) * KK) 0 → ∃ g', stepG P true s.g s.w = .go g' (s.w.setCell (stA G.Wg) (.int .u64 (((v + 1 : Nat) : Int) * KK))) #[rd (stA G.Wg), wr (stA G.Wg)] ∧ g'.status = .running ∧
   K { s with tag := .sp (r + 1) true, g := g', w := s.w.setCell (stA G.Wg) (.int .u64 (((v + 1 : Nat) : Int) * KK)) }) → ActM G P Fin K s
 | go {g' child : Goroutine} (r : Nat) : s.tag = .sp (r + 1) true → s.d = 0 → stepG P true s.g s.w = .spawn g' child s.w #[] → g'.status = .running → (∃ q, BehW G P q ⟨.run, child, s.w, fun _ => False, fun _ => False, fun _ => False, G.N⟩) → K { s with tag := spNext r, g := g' } → ActM G P Fin K s
 | close : s.tag = .sd G.N → mayWake P s.g = true → (∀ a b, s.w.heap[G.Ch]? = some (.chan 0 #[] false a b false) → ∃ g', stepG P true s.g s.w = .go g' { s.w with heap := s.w.heap.setIfInBounds G.Ch (.chan 0 #[] true a b false) } #[⟨.obj G.Ch, false, true⟩, ⟨.obj G.Ch, true, true⟩] ∧ g'.status = .running ∧ ∀ v, K { s with tag := .wa v, g := g', w := { s.w with heap := s.w.heap.setIfInBounds G.Ch (.chan 0 #[] true a b false) } }) → ActM G P Fin K s
 | w1 (V : Nat) : s.tag = .wa V → (∀ v : Nat, v ≤ V → v < 2147483648 → WgAt G.ty G.Wg s.w ((v : Nat) * KK) 0 → ∃ g', stepG P true s.g s.w = .go g' s.w #[rd (stA G.Wg)] ∧ g'.status = .running ∧ (v = 0 → K { s with tag := .ke, g := g' }) ∧ (v ≠ 0 → K { s with tag := .cas v, g := g' })) → ActM G P Fin K s
 | w2 (V : Nat) : s.tag = .cas V → (∀ v : Nat, v ≤ V → v < 2147483648 → WgAt G.ty G.Wg s.w ((v : Nat) * KK) 0 →
   (v = V → ∃ g', stepG P true s.g s.w = .go g' (s.w.setCell (stA G.Wg) (.int .u64 ((v : Nat) * KK + 1))) #[rd (stA G.Wg), wr (stA G.Wg)] ∧ g'.status = .running ∧ K { s with tag := .w3, g := g', w := s.w.setCell (stA G.Wg) (.int .u64 ((v : Nat) * KK + 1)) }) ∧
   (v ≠ V → ∃ g', stepG P true s.g s.w = .go g' s.w #[rd (stA G.Wg)] ∧ g'.status = .running ∧ K { s with tag := .wa v, g := g' })) → ActM G P Fin K s
 | w4 : s.tag = .w4 → (WgAt G.ty G.Wg s.w 0 0 → ∃ g', stepG P true s.g s.w = .go g' s.w #[rd (stA G.Wg)] ∧ g'.status = .running ∧ K { s with tag := .ke, g := g' }) → ActM G P Fin K s
 | acq {g' : Goroutine} : s.tag = .ke → s.d = 0 → stepG P true s.g s.w = .go g' s.w #[mk (.acquire (stA G.Wg))] → g'.status = .running → Fin g' → ActM G P Fin K s
structure SendM (G : Geo) (P : Program) (K : MS → Prop) (s : MS) (i : Nat) : Prop where
 tag : s.tag = .sd i
 lt : i < G.N
 step : stepG P true s.g s.w = .comm { s.g with status := .running, offers := none } #[scase G.Ch (.int .i64 i) G.zs] true .send s.w #[]
 next : K { s with tag := .sd (i + 1), g := Go.Conc.served s.g undef }
structure SemaM (G : Geo) (P : Program) (K : MS → Prop) (s : MS) : Prop where
 tag : s.tag = .w3
 off : s.g.offers = none
 down : (∃ st, WgAt G.ty G.Wg s.w st 0) → stepG P true s.g s.w = .go { s.g with status := .blocked } s.w #[]
 up : WgAt G.ty G.Wg s.w 0 1 → ∃ g', stepG P true s.g s.w = .go g' (s.w.setCell (smA G.Wg) (.int .u32 0)) (semEvents (smA G.Wg)) ∧ g'.status = .running ∧ K { s with tag := .w4, g := g', w := s.w.setCell (smA G.Wg) (.int .u32 0) }
def BehM (G : Geo) (P : Program) (Fin : Goroutine → Prop) : RT MS → MS → Prop
 | .leaf, _ => False
 | .node f, s => s.g.status = .running ∧ ((∀ w1, Rel G (fun _ => False) s.w w1 → ActM G P Fin (fun s1 => BehM G P Fin (f s1) s1) { s with w := w1 }) ∨ (∃ i, ∀ w1, Rel G (fun _ => False) s.w w1 → SendM G P (fun s1 => BehM G P Fin (f s1) s1) { s with w := w1 } i) ∨
   (∀ w1, Rel G (fun _ => False) s.w w1 → SemaM G P (fun s1 => BehM G P Fin (f s1) s1) { s with w := w1 }))
theorem BehM.rely {G : Geo} {P : Program} {Fin : Goroutine → Prop} {r : RT MS} {s : MS} (h : BehM G P Fin r s) {w1 : World} (hr : Rel G (fun _ => False) s.w w1) : BehM G P Fin r { s with w := w1 } := by
 cases r with
 | leaf => exact h
 | node f => exact ⟨h.1, h.2.imp (fun k w2 h2 => k w2 (hr.trans h2)) (Or.imp (fun ⟨i, k⟩ => ⟨i, fun w2 h2 => k w2 (hr.trans h2)⟩) fun k w2 h2 => k w2 (hr.trans h2))⟩
end Go.Mx
namespace Go.Mx
open Go Go.Conc
open Go.ConcN (WgLive sumTo upd upd_same upd_ne sumTo_congr sumTo_upd le_sumTo Deaf_absent fork_knows RelBy handedOver_all get_map_set get_map_set_same)
open Go.ConcR (KK WgAt stA smA rd wr mk g_of_ofEvents loc_of_ofEvent)
def ShL (S : Nat → Prop) : Loc → Prop := fun l => ∃ b, blk l = some b ∧ S b
structure Tr (S T : Nat → Prop) (n : Nat) (t : Trace) : Prop where
 quiet : Quiet (ShL S) t
 nr : ∀ said, ¬ Race said t
 gs : ∀ (i : Nat) (op : MemOp), t[i]? = some op → op.g < n
 pl : ∀ i a, touchAt t i = some a → a.loc.isMemory = true → ¬ ShL S a.loc → a.kind = .plain
 tb : ∀ i a, touchAt t i = some a → ∀ b, blk a.loc = some b → T b ∨ S b
def mute (u : Trace) : Prop := ∀ op ∈ u, op.act.touch? = none
theorem touchAt_mute {t u : Trace} (hu : mute u) {i : Nat} {a : Touch} (h : touchAt (t ++ u) i = some a) : i < t.size ∧ touchAt t i = some a := by
 obtain ⟨x, hx, hxa⟩ := touch_of h
 rcases getElem?_append_cases hx with ⟨hi, hx'⟩ | ⟨_, hxu⟩
 ·exact ⟨hi, by rw [touchAt_of hx']; exact hxa⟩
 ·rw [hu x hxu] at hxa; cases hxa
theorem touchAt_cases {t u : Trace} {i : Nat} {a : Touch} (h : touchAt (t ++ u) i = some a) : (i < t.size ∧ touchAt t i = some a) ∨ (t.size ≤ i ∧ ∃ op ∈ u, (t ++ u)[i]? = some op ∧ op.act.touch? = some a) := by
 obtain ⟨x, hx, hxa⟩ := touch_of h
 rcases getElem?_append_cases hx with ⟨hi, hx'⟩ | ⟨hi, hxu⟩
 ·exact .inl ⟨hi, by rw [touchAt_of hx']; exact hxa⟩
 ·exact .inr ⟨hi, x, hxu, hx, hxa⟩
theorem noRace_mute {said : Bool} {t u : Trace} (h : ¬ Race said t) (hu : mute u) : ¬ Race said (t ++ u) := by
 rintro ⟨i, j, hij, ⟨a, b, ha, hb, hc⟩, n1, n2⟩
 obtain ⟨hi, ha'⟩ := touchAt_mute hu ha
 obtain ⟨hj, hb'⟩ := touchAt_mute hu hb
 exact h ⟨i, j, hij, ⟨a, b, ha', hb', hc⟩, fun e => n1 (hb_app u e), fun e => n2 (hb_app u e)⟩
theorem Tr.mute {S T : Nat → Prop} {n n' : Nat} {t u : Trace} (h : Tr S T n t) (hn : n ≤ n') (hu : mute u) (hg : ∀ op ∈ u, op.g < n') : Tr S T n' (t ++ u) := by
 refine ⟨h.quiet.app fun op hop x hx _ => (by rw [hu op hop] at hx; cases hx), fun said => noRace_mute (h.nr said) hu, fun i op hi => ?_, fun i a ha => h.pl i a (touchAt_mute hu ha).2, fun i a ha => h.tb i a (touchAt_mute hu ha).2⟩
 rcases getElem?_append_cases hi with ⟨_, hi'⟩ | ⟨_, hiu⟩
 ·exact Nat.lt_of_lt_of_le (h.gs i op hi') hn
 ·exact hg op hiu
def TOk (S T' A B : Nat → Prop) (Ow : Loc → Prop) (k : Nat) (op : MemOp) : Prop :=
 op.g = k ∧ ∀ x, op.act.touch? = some x → (∀ b, blk x.loc = some b → T' b ∨ S b) ∧ (x.loc.isMemory = true → (ShL S x.loc ∧ x.kind ≠ .plain ∧ (x.kind = .said → k = 0)) ∨ (¬ ShL S x.loc ∧ x.kind = .plain ∧ (Ow x.loc ∨ (x.write = false ∧ ∃ b, blk x.loc = some b ∧ B b))))
theorem mem_of_blk {l : Loc} {b : Nat} (h : blk l = some b) : l.isMemory = true := by cases l <;> simp_all [blk, Loc.isMemory]
theorem Tr.app {S T T' A B : Nat → Prop} {Ow : Loc → Prop} {n k : Nat} {t u : Trace} (h : Tr S T n t) (hk : k < n) (hT : ∀ b, T b → T' b) (hu : ∀ op ∈ u, TOk S T' A B Ow k op)
  (kn : ∀ i a, touchAt t i = some a → a.loc.isMemory = true → ¬ ShL S a.loc → (Ow a.loc ∨ (a.write = true ∧ ∃ b, blk a.loc = some b ∧ B b)) → Knows t k i) : Tr S T' n (t ++ u) := by
 refine ⟨h.quiet.app fun op hop x hx hs => ?_, fun said => noRace_append (h.nr said) (fun op hop => (hu op hop).1) fun i a ha op hop b hb hc => ?_, fun i op hi => ?_, fun i a ha hm hs => ?_, fun i a ha b hb => ?_⟩
 ·obtain ⟨b, hb, hS⟩ := hs
  rcases ((hu op hop).2 x hx).2 (mem_of_blk hb) with ⟨_, h2, h3⟩ | ⟨h1, _⟩
  ·exact ⟨h2, fun e => (hu op hop).1.trans (h3 e)⟩
  ·exact absurd ⟨b, hb, hS⟩ h1
 ·have hm : b.loc.isMemory = true := by rw [← hc.1]; exact hc.2.1
  rcases ((hu op hop).2 b hb).2 hm with ⟨h1, h2, h3⟩ | ⟨h1, h2, h3⟩
  ·exact h.quiet.known h1 h2 h3 i a ha hc
  ·have hns : ¬ ShL S a.loc := by rw [hc.1]; exact h1
   rcases h3 with h3 | ⟨h3, h4⟩
   ·exact kn i a ha hc.2.1 hns (.inl (by rw [hc.1]; exact h3))
   ·refine kn i a ha hc.2.1 hns (.inr ⟨?_, by rw [hc.1]; exact h4⟩)
    exact hc.2.2.1.resolve_right (by simp [h3])
 ·rcases getElem?_append_cases hi with ⟨_, hi'⟩ | ⟨_, hiu⟩
  ·exact h.gs i op hi'
  ·rw [(hu op hiu).1]; exact hk
 ·rcases touchAt_cases ha with ⟨_, h1⟩ | ⟨_, op, hop, _, hx⟩
  ·exact h.pl i a h1 hm hs
  ·rcases ((hu op hop).2 a hx).2 hm with ⟨h1, _⟩ | ⟨_, h2, _⟩
   ·exact absurd h1 hs
   ·exact h2
 ·rcases touchAt_cases ha with ⟨_, h1⟩ | ⟨_, op, hop, _, hx⟩
  ·exact (h.tb i a h1 b hb).imp (hT b) id
  ·exact ((hu op hop).2 a hx).1 b hb
def Known0 (S : Nat → Prop) (t : Trace) : Prop := ∀ i a, touchAt t i = some a → a.loc.isMemory = true → ¬ ShL S a.loc → Knows t 0 i
theorem Known0.mute {S : Nat → Prop} {t u : Trace} (h : Known0 S t) (hu : mute u) : Known0 S (t ++ u) := fun i a ha hm hs => (h i a (touchAt_mute hu ha).2 hm hs).app u
theorem Known0.own {S : Nat → Prop} {t u : Trace} (h : Known0 S t) (hu : ∀ op ∈ u, op.g = 0) : Known0 S (t ++ u) := fun i a ha hm hs => by
 rcases touchAt_cases ha with ⟨_, h1⟩ | ⟨_, op, hop, hx, _⟩
 ·exact (h i a h1 hm hs).app u
 ·have := knows_own hx
  rwa [hu op hop] at this
def HO (j0 : Nat) (t : Trace) : Prop := ∀ i g, t.g? i = some g → g ≠ 0 → g < j0 → t.counts i → ∃ j, t.g? j = some 0 ∧ HappensBefore t i j
theorem HO.app {j0 : Nat} {t u : Trace} (h : HO j0 t) (hu : ∀ op ∈ u, op.g ≠ 0 → op.g < j0 → op.act.touch? = none) : HO j0 (t ++ u) := by
 intro i g hg hne hlt hc
 obtain ⟨op, ho, hog⟩ := Option.map_eq_some_iff.1 hg
 rcases getElem?_append_cases ho with ⟨hi, ho'⟩ | ⟨_, hou⟩
 ·obtain ⟨j, hj, hhb⟩ := h i g (by simp [Trace.g?, ho', hog]) hne hlt ((counts_old hi).1 hc)
  have hjs : j < t.size := by
   obtain ⟨op', ho'', _⟩ := Option.map_eq_some_iff.1 hj
   exact lt_size_of_getElem? ho''
  exact ⟨j, by rw [g?_old hjs]; exact hj, hb_app u hhb⟩
 ·obtain ⟨x, hx, _⟩ := hc
  have : op.act.touch? = some x := by simpa [Trace.act?, ho] using hx
  rw [hu op hou (hog ▸ hne) (hog ▸ hlt)] at this
  cases this
theorem HO.handedOver {n : Nat} {t : Trace} (h : HO n t) (hg : ∀ (i : Nat) (op : MemOp), t[i]? = some op → op.g < n) : t.HandedOver := fun i g hgi hne hc => by
 obtain ⟨op, ho, hog⟩ := Option.map_eq_some_iff.1 hgi
 exact h i g hgi hne (hog ▸ hg i op ho) hc
theorem dull_deaf {k : Nat} {fn : FuncId} {pos : String} {es : Array Event} (h : ∀ e ∈ es, ∀ m, e.loc = .mark m → dullMark m) : ∀ op ∈ MemOp.ofEvents k fn pos es, op.act ≠ .mark .disable ∧ op.act ≠ .mark .enable := by
 intro op hop
 rw [ofEvents_eq] at hop
 obtain ⟨e, he, rfl⟩ := Array.mem_map.1 hop
 exact ⟨fun e2 => h e he _ (loc_of_ofEvent e2), fun e2 => h e he _ (loc_of_ofEvent e2)⟩
theorem mute_ofEvents {k : Nat} {fn : FuncId} {pos : String} {es : Array Event} (h : ∀ e ∈ es, (MemAct.ofEvent e).touch? = none) : mute (MemOp.ofEvents k fn pos es) := by
 intro op hop
 rw [ofEvents_eq] at hop
 obtain ⟨e, he, rfl⟩ := Array.mem_map.1 hop
 exact h e he
theorem mute_touch {e : Event} (h : e.mute = true) : (MemAct.ofEvent e).touch? = none := by
 obtain ⟨loc, wr, sy⟩ := e
 cases loc with
 | mark m => cases m <;> simp_all [Event.mute, MemAct.ofEvent, MemAct.touch?]
 | _ => simp [Event.mute] at h
theorem norel_events {k : Nat} {fn : FuncId} {pos : String} {es : Array Event} (h : ∀ e ∈ es, ∀ a, e.loc ≠ .mark (.release a)) {a : Addr} : ∀ op ∈ MemOp.ofEvents k fn pos es, op.act ≠ .mark (.release a) := by
 intro op hop e2
 rw [ofEvents_eq] at hop
 obtain ⟨e, he, rfl⟩ := Array.mem_map.1 hop
 exact h e he _ (loc_of_ofEvent e2)
theorem mute_norel {e : Event} (h : e.mute = true) (a : Addr) : e.loc ≠ .mark (.release a) := by
 intro h2
 obtain ⟨loc, wr, sy⟩ := e
 simp only at h2
 subst h2
 simp [Event.mute] at h
structure Calm (P : Program) (S T : Nat → Prop) (n : Nat) (gs : Array Goroutine) (w : World) (t : Trace) (Q : Nat → Nat) : Prop where
 n1 : 1 ≤ n
 tr : Tr S T n t
 kn : Known0 S t
 ho : HO n t
 nrl : ∀ a, NoRelease a t
 d0 : Deaf t 0 = 0
 sz : gs.size = n
 tb : ∀ b, T b → b < w.heap.size
 sb : ∀ b, S b → b < w.heap.size
 lv : ∀ k, 1 ≤ k → k < n → ∃ g, gs[k]? = some g ∧ QuitsD P (Q k) (Deaf t k) g
structure CS where
 g : Goroutine
 w : World
 T : Nat → Prop
instance : Inhabited CS := ⟨⟨default, default, fun _ => False⟩⟩
def BehC (P : Program) (S : Nat → Prop) (L : CS → Prop) : RT CS → CS → Prop
 | .leaf, s => s.g.status = .running ∧ L s
 | .node f, s => s.g.status = .running ∧ ∀ d, ∃ g' w' es T', stepG P true s.g (s.w.at d) = .go g' w' es ∧ (∀ e ∈ es, QEv T' (fun _ => False) e) ∧ (∀ b, s.T b → T' b) ∧ (∀ b, T' b → b < w'.heap.size ∧ ¬ S b) ∧ s.w.heap.size ≤ w'.heap.size ∧
   BehC P S L (f ⟨g', w', T'⟩) ⟨g', w', T'⟩
theorem get_map_set' (gs : Array Goroutine) (f : Goroutine → Goroutine) (a : Nat) (x : Goroutine) (b : Nat) (hb : a ≠ b) : ((gs.map f).setIfInBounds a x)[b]? = (gs[b]?).map f := by
 rw [Array.getElem?_setIfInBounds_ne hb, Array.getElem?_map]
theorem get_map_set_same' (gs : Array Goroutine) (f : Goroutine → Goroutine) (a : Nat) (x : Goroutine) (ha : a < gs.size) : ((gs.map f).setIfInBounds a x)[a]? = some x := by
 simp [ha]
theorem woken_running {P : Program} {g g' b : Goroutine} {w' : World} (h : b.status = .running) : woken P g g' w' b = b := by
 unfold woken
 split
 ·exact again_running _ (.inl h)
 ·rfl
theorem awake_running {g : Goroutine} (h : g.status = .running) : awake g := fun t => by rw [h]; simp
theorem QuitsD.awake {P : Program} {q d : Nat} {g : Goroutine} (h : QuitsD P q d g) : awake g := fun t => by
 rcases h.status with e | e <;> rw [e] <;> simp
theorem ofEvents_g {k : Nat} {fn : FuncId} {pos : String} {es : Array Event} : ∀ op ∈ MemOp.ofEvents k fn pos es, op.g = k := by
 intro op hop
 rw [ofEvents_eq] at hop
 obtain ⟨e, he, rfl⟩ := Array.mem_map.1 hop
 rfl
section
variable {P : Program} {S T : Nat → Prop} {n : Nat} {gs : Array Goroutine} {w : World} {t : Trace} {Q : Nat → Nat}
theorem Calm.at (h : Calm P S T n gs w t Q) (d : Nat) : Calm P S T n gs (w.at d) t Q := ⟨h.n1, h.tr, h.kn, h.ho, h.nrl, h.d0, h.sz, h.tb, h.sb, h.lv⟩
theorem leaver_step {k : Nat} {g : Goroutine} {q d : Nat} {sl : Option (Nat × Nat)} (hk : k ≠ 0) (hg : gs[k]? = some g) (hq : QuitsD P q d g) (hr : g.status = .running) :
  ∃ q' g' es, q = q' + 1 ∧ QuitsD P q' (deafBehind d es) g' ∧ (∀ e ∈ es, e.mute = true) ∧ stepG P false g w = .go g' w es ∧ runT P (crowd gs w sl) k = (.next (crowd ((gs.map (woken P g g' w)).setIfInBounds k g') w sl), MemOp.ofEvents k g.frame.fn g.frame.place es) := by
 cases q with
 | zero => rw [hq.1] at hr; cases hr
 | succ q =>
  rcases hq with hq | ⟨_, g', es, hm, hst, hq⟩
  ·rw [hq.1] at hr; cases hr
  ·have h0 : (k == 0) = false := by simpa using hk
   exact ⟨q, g', es, rfl, hq, hm, hst w, runT_crowd_go hg (by rw [h0]; exact hst w)⟩
theorem deaf_leaver {k : Nat} (t : Trace) (fn : FuncId) (pos : String) (es : Array Event) (j : Nat) : Deaf (t ++ MemOp.ofEvents k fn pos es) j = if j = k then deafBehind (Deaf t k) es else Deaf t j := by
 split
 ·next h => subst h; exact Deaf_own ..
 ·next h => exact Deaf_other t (fun e => h e.symm) _ ofEvents_g
theorem calm_step (L : CS → Prop) (f : CS → RT CS) {a : Goroutine} {sl : Option (Nat × Nat)} (h : Calm P S T n gs w t Q) (ha : gs[0]? = some a) (hb : BehC P S L (.node f) ⟨a, w, T⟩) (hat : ∀ r s d, BehC P S L r s → BehC P S L r { s with w := s.w.at d }) :
  ∃ gs' w' sl' ops T' a' Q' r', stepT P (crowd gs w sl) = (.next (crowd gs' w' sl'), ops) ∧ gs'[0]? = some a' ∧ Calm P S T' n gs' w' (t ++ ops) Q' ∧ BehC P S L r' ⟨a', w', T'⟩ ∧ (RT.Lt r' (.node f) ∨ (r' = .node f ∧ sumTo n Q' < sumTo n Q)) := by
 have hra : a.status = .running := hb.1
 have haw : ∀ g ∈ gs, awake g := by
  intro g hg
  obtain ⟨i, hi⟩ := Array.mem_iff_getElem?.1 hg
  cases i with
  | zero => rw [ha] at hi; cases hi; exact awake_running hra
  | succ i =>
   have hlt := (Array.getElem?_eq_some_iff.1 hi).1
   obtain ⟨g', h1, h2⟩ := h.lv (i + 1) (by omega) (by rw [← h.sz]; exact hlt)
   rw [hi] at h1; cases h1
   exact QuitsD.awake h2
 obtain ⟨i, g, d, sl', hg, hrun, hstep⟩ := crowd_pick (P := P) (w := w) (sl := sl) haw ⟨0, a, ha, hra⟩
 rw [hstep]
 have hn0 : 0 < n := h.n1
 cases i with
 | zero =>
  rw [ha] at hg; cases hg
  obtain ⟨g', w', es, T', hgo, hes, hT, hT', hsz, hb'⟩ := hb.2 d
  have hdl : ∀ e ∈ es, ∀ m, e.loc = .mark m → dullMark m := fun e he => (hes e he).1
  refine ⟨_, w', sl', _, T', g', Q, _, runT_crowd_go ha hgo, get_map_set_same' _ _ _ _ (by rw [h.sz]; omega), ?_, hb', .inl ⟨_, rfl⟩⟩
  refine ⟨h.n1, ?_, h.kn.own ofEvents_g, h.ho.app fun op hop h0 => absurd (ofEvents_g op hop) h0, fun a => (h.nrl a).app (norel_events fun e he a e2 => (hdl e he _ e2).elim), ?_, by simp [h.sz], fun b hb => (hT' b hb).1, fun b hb => Nat.lt_of_lt_of_le (h.sb b hb) hsz, fun k k1 k2 => ?_⟩
  ·refine h.tr.app (A := T') (B := fun _ => False) (Ow := fun l => ∃ b, blk l = some b ∧ T' b) hn0 hT (fun op hop => ⟨ofEvents_g op hop, fun x hx => ?_⟩) fun i a' h1 h2 h3 _ => h.kn i a' h1 h2 h3
   have hop' := hop
   rw [ofEvents_eq] at hop'
   obtain ⟨e, he, rfl⟩ := Array.mem_map.1 hop'
   refine ⟨fun b hb => ?_, fun hm => ?_⟩
   ·obtain ⟨_, b', h1, h2⟩ := (hes e he).2 x hx (mem_of_blk hb)
    rw [hb] at h1; cases h1
    exact .inl (h2.resolve_right fun k => k.2)
   ·obtain ⟨hp, b', h1, h2⟩ := (hes e he).2 x hx hm
    have h2' := h2.resolve_right fun k => k.2
    refine .inr ⟨?_, hp, .inl ⟨b', h1, h2'⟩⟩
    rintro ⟨b2, h3, h4⟩
    rw [h1] at h3; cases h3
    exact (hT' _ h2').2 h4
  ·rw [ConcN.Deaf_still t 0 _ (dull_deaf hdl)]; exact h.d0
  ·obtain ⟨g2, h1, h2⟩ := h.lv k k1 k2
   refine ⟨g2, by rw [get_map_set' _ _ _ _ _ (by omega), h1]; simp [woken_quitsD h2], ?_⟩
   rw [ConcN.Deaf_still t k _ (dull_deaf hdl)]
   exact h2
 | succ i =>
  have hlt := (Array.getElem?_eq_some_iff.1 hg).1
  rw [h.sz] at hlt
  obtain ⟨g2, h1, h2⟩ := h.lv (i + 1) (by omega) hlt
  rw [hg] at h1; cases h1
  obtain ⟨q', g', es, hq1, hq2, hm, _, hrT⟩ := leaver_step (w := w.at d) (sl := sl') (by omega) hg h2 hrun
  have hmu : mute (MemOp.ofEvents (i + 1) g.frame.fn g.frame.place es) := mute_ofEvents fun e he => mute_touch (hm e he)
  refine ⟨_, _, sl', _, T, a, upd Q (i + 1) q', .node f, hrT, by rw [get_map_set' _ _ _ _ _ (by omega), ha]; simp [woken_running hra], ?_, hat _ _ d hb, .inr ⟨rfl, ?_⟩⟩
  ·refine ⟨h.n1, h.tr.mute (Nat.le_refl _) hmu fun op hop => by rw [ofEvents_g op hop]; exact hlt, h.kn.mute hmu, h.ho.app fun op hop _ _ => hmu op hop, fun a => (h.nrl a).app (norel_events fun e he a e2 => mute_norel (hm e he) a e2), by rw [deaf_leaver, if_neg (by omega)]; exact h.d0, by simp [h.sz], h.tb, h.sb, fun k k1 k2 => ?_⟩
   by_cases hki : k = i + 1
   ·subst hki
    exact ⟨g', get_map_set_same' _ _ _ _ (by rw [h.sz]; exact hlt), by rw [deaf_leaver, if_pos rfl, upd_same]; exact hq2⟩
   ·obtain ⟨g3, h3, h4⟩ := h.lv k k1 k2
    exact ⟨g3, by rw [get_map_set' _ _ _ _ _ (fun e => hki e.symm), h3]; simp [woken_quitsD h4], by rw [deaf_leaver, if_neg hki, upd_ne _ _ hki]; exact h4⟩
  ·have : sumTo n (upd Q (i + 1) q') + Q (i + 1) = sumTo n Q + q' := sumTo_upd Q q' id hlt
   omega
theorem BehC.at {L : CS → Prop} (hL : ∀ s d, L s → L { s with w := s.w.at d }) : ∀ (r : RT CS) (s : CS) (d : Nat), BehC P S L r s → BehC P S L r { s with w := s.w.at d }
 | .leaf, s, d, h => ⟨h.1, hL s d h.2⟩
 | .node f, s, d, h => ⟨h.1, fun d2 => h.2 d2⟩
theorem calm_run {L : CS → Prop} (hL : ∀ s d, L s → L { s with w := s.w.at d }) : ∀ (r : RT CS) (q : Nat) {T : Nat → Prop} {gs : Array Goroutine} {w : World} {t : Trace} {Q : Nat → Nat} {a : Goroutine} {sl : Option (Nat × Nat)}, sumTo n Q ≤ q → Calm P S T n gs w t Q → gs[0]? = some a → BehC P S L r ⟨a, w, T⟩ →
  ∃ N gs' w' sl' t' T' Q' a', runNT P N (crowd gs w sl) t = (.next (crowd gs' w' sl'), t') ∧ gs'[0]? = some a' ∧ Calm P S T' n gs' w' t' Q' ∧ a'.status = .running ∧ L ⟨a', w', T'⟩ := by
 intro r
 induction r with
 | leaf => exact fun q T gs w t Q a sl _ h ha hb => ⟨0, gs, w, sl, t, T, Q, a, rfl, ha, h, hb.1, hb.2⟩
 | node f ih =>
  intro q
  induction q with
  | zero =>
   intro T gs w t Q a sl hq h ha hb
   obtain ⟨gs', w', sl', ops, T', a', Q', r', h1, h2, h3, h4, h5⟩ := calm_step (sl := sl) L f h ha hb (BehC.at hL)
   rcases h5 with ⟨s, rfl⟩ | ⟨_, h6⟩
   ·obtain ⟨N, g2, w2, s2, t2, T2, Q2, a2, k1, k2⟩ := ih s (sumTo n Q') (Nat.le_refl _) h3 h2 h4
    exact ⟨N + 1, g2, w2, s2, t2, T2, Q2, a2, by rw [runNT_succ_next h1]; exact k1, k2⟩
   ·omega
  | succ q ihq =>
   intro T gs w t Q a sl hq h ha hb
   obtain ⟨gs', w', sl', ops, T', a', Q', r', h1, h2, h3, h4, h5⟩ := calm_step (sl := sl) L f h ha hb (BehC.at hL)
   rcases h5 with ⟨s, rfl⟩ | ⟨rfl, h6⟩
   ·obtain ⟨N, g2, w2, s2, t2, T2, Q2, a2, k1, k2⟩ := ih s (sumTo n Q') (Nat.le_refl _) h3 h2 h4
    exact ⟨N + 1, g2, w2, s2, t2, T2, Q2, a2, by rw [runNT_succ_next h1]; exact k1, k2⟩
   ·obtain ⟨N, g2, w2, s2, t2, T2, Q2, a2, k1, k2⟩ := ihq (by omega) h3 h2 h4
    exact ⟨N + 1, g2, w2, s2, t2, T2, Q2, a2, by rw [runNT_succ_next h1]; exact k1, k2⟩
end
end Go.Mx
namespace Go.Mx
open Go Go.Conc
open Go.ConcN (WgLive sumTo upd upd_same upd_ne sumTo_congr sumTo_upd le_sumTo Deaf_absent fork_knows RelBy get_map_set get_map_set_same)
open Go.ConcR (KK WgAt stA smA rd wr mk g_of_ofEvents loc_of_ofEvent)
structure RTr (a : Addr) (S B : Nat → Prop) (Ow : Nat → Loc → Prop) (T : Nat → Prop) (n j0 r0 : Nat) (t : Trace) : Prop where
 tr : Tr S T n t
 old : ∀ i x, i < r0 → touchAt t i = some x → x.loc.isMemory = true → ¬ ShL S x.loc → ∀ k, k = 0 ∨ j0 ≤ k → k < n → Knows t k i
 new : ∀ i x, r0 ≤ i → touchAt t i = some x → x.loc.isMemory = true → ¬ ShL S x.loc → (x.write = false ∧ ∃ b, blk x.loc = some b ∧ B b) ∨ ∃ k, j0 ≤ k ∧ t.g? i = some k ∧ Ow k x.loc
 ho : HO j0 t
 nrel : ∀ a, NoRelease a t
structure Apart (B : Nat → Prop) (Ow : Nat → Loc → Prop) (j0 : Nat) : Prop where
 one : ∀ k k' l, j0 ≤ k → j0 ≤ k' → Ow k l → Ow k' l → k = k'
 base : ∀ k l b, j0 ≤ k → Ow k l → blk l = some b → ¬ B b
section
variable {a : Addr} {S B T T' : Nat → Prop} {Ow Ow' : Nat → Loc → Prop} {n j0 r0 : Nat} {t u : Trace}
theorem RTr.mute (h : RTr a S B Ow T n j0 r0 t) (hr : r0 ≤ t.size) (hT : ∀ b, T b → T' b) (hO : ∀ k l, j0 ≤ k → Ow k l → Ow' k l) (hu : mute u) (hg : ∀ op ∈ u, op.g < n) (hn : ∀ op ∈ u, ∀ a, op.act ≠ .mark (.release a)) : RTr a S B Ow' T' n j0 r0 (t ++ u) := by
 have h1 := h.tr.mute (Nat.le_refl n) hu hg
 refine ⟨⟨h1.quiet, h1.nr, h1.gs, h1.pl, fun i x hx b hb => (h1.tb i x hx b hb).imp (hT b) id⟩, fun i x hi hx hm hs k hk hkn => (h.old i x hi (touchAt_mute hu hx).2 hm hs k hk hkn).app u, fun i x hi hx hm hs => ?_, h.ho.app fun op hop _ _ => hu op hop, fun a => (h.nrel a).app fun op hop => hn op hop a⟩
 obtain ⟨hlt, hx'⟩ := touchAt_mute hu hx
 rcases h.new i x hi hx' hm hs with k | ⟨k, k1, k2, k3⟩
 ·exact .inl k
 ·exact .inr ⟨k, k1, by rw [g?_old hlt]; exact k2, hO k _ k1 k3⟩
theorem RTr.app (h : RTr a S B Ow T n j0 r0 t) (hr : r0 ≤ t.size) (hT : ∀ b, T b → T' b) (hO : ∀ k l, j0 ≤ k → Ow k l → Ow' k l) (hA : Apart B Ow' j0) {k : Nat} (hk : k < n) (hlive : k = 0 ∨ j0 ≤ k) (h1 : 1 ≤ j0) {O : Loc → Prop} (hOk : ∀ l, O l → j0 ≤ k ∧ Ow' k l) {A : Nat → Prop}
  (hu : ∀ op ∈ u, TOk S T' A B O k op) (hn : ∀ op ∈ u, ∀ a, op.act ≠ .mark (.release a)) : RTr a S B Ow' T' n j0 r0 (t ++ u) := by
 have know : ∀ i x, touchAt t i = some x → x.loc.isMemory = true → ¬ ShL S x.loc → (O x.loc ∨ (x.write = true ∧ ∃ b, blk x.loc = some b ∧ B b)) → Knows t k i := by
  intro i x hx hm hs hc
  rcases Nat.lt_or_ge i r0 with hi | hi
  ·exact h.old i x hi hx hm hs k hlive hk
  ·rcases h.new i x hi hx hm hs with ⟨e1, b, e2, e3⟩ | ⟨k', k1, k2, k3⟩
   ·rcases hc with hc | ⟨hc, _⟩
    ·obtain ⟨c1, c2⟩ := hOk _ hc
     exact absurd e3 (hA.base k _ b c1 c2 e2)
    ·rw [e1] at hc; cases hc
   ·rcases hc with hc | ⟨_, b, hb, hB⟩
    ·obtain ⟨c1, c2⟩ := hOk _ hc
     have := hA.one k k' _ c1 k1 c2 (hO k' _ k1 k3)
     subst this
     obtain ⟨op, ho, hog⟩ := Option.map_eq_some_iff.1 k2
     have := knows_own ho
     rwa [hog] at this
    ·exact absurd hB (hA.base k' _ b k1 (hO k' _ k1 k3) hb)
 refine ⟨h.tr.app hk hT hu know, fun i x hi hx hm hs k' hk' hkn => ?_, fun i x hi hx hm hs => ?_, h.ho.app fun op hop h0 hlt => ?_, fun a => (h.nrel a).app fun op hop => hn op hop a⟩
 ·rcases touchAt_cases hx with ⟨_, hx'⟩ | ⟨hge, _⟩
  ·exact (h.old i x hi hx' hm hs k' hk' hkn).app u
  ·omega
 ·rcases touchAt_cases hx with ⟨hlt, hx'⟩ | ⟨_, op, hop, hgo, hxa⟩
  ·rcases h.new i x hi hx' hm hs with e | ⟨k', k1, k2, k3⟩
   ·exact .inl e
   ·exact .inr ⟨k', k1, by rw [g?_old hlt]; exact k2, hO k' _ k1 k3⟩
  ·rcases ((hu op hop).2 x hxa).2 hm with ⟨e, _⟩ | ⟨_, _, e | e⟩
   ·exact absurd e hs
   ·exact .inr ⟨k, (hOk _ e).1, by simp [Trace.g?, hgo, (hu op hop).1], (hOk _ e).2⟩
   ·exact .inl e
 ·have := (hu op hop).1
  rcases hlive with e | e
  ·exact absurd (this.trans e) h0
  ·omega
theorem RTr.fork (h : RTr a S B Ow T n j0 r0 t) (hr : r0 ≤ t.size) (h0 : 0 < n) (hj : j0 ≤ n) {x y : MemOp} (hx : x.g = 0 ∧ x.act = .go n) (hy : y.g = n ∧ y.act = .start) (hd : Deaf t 0 = 0) : RTr a S B Ow T (n + 1) j0 r0 (t ++ #[x, y]) := by
 have hk : Deaf t n = 0 := Deaf_absent fun i op hi e => by have := h.tr.gs i op hi; omega
 have hm : Mx.mute #[x, y] := by
  intro op hop
  simp only [List.mem_toArray, List.mem_cons, List.not_mem_nil, or_false] at hop
  rcases hop with rfl | rfl
  ·rw [hx.2]; rfl
  ·rw [hy.2]; rfl
 have hg : ∀ op ∈ #[x, y], op.g < n + 1 := by
  intro op hop
  simp only [List.mem_toArray, List.mem_cons, List.not_mem_nil, or_false] at hop
  rcases hop with rfl | rfl
  ·rw [hx.1]; omega
  ·rw [hy.1]; omega
 refine ⟨h.tr.mute (Nat.le_succ n) hm hg, fun i z hi hz hm' hs k hk' hkn => ?_, fun i z hi hz hm' hs => ?_, h.ho.app fun op hop _ _ => hm op hop, fun a => (h.nrel a).app fun op hop e => ?_⟩
 ·obtain ⟨_, hz'⟩ := touchAt_mute hm hz
  rcases Nat.lt_or_ge k n with hlt | hge
  ·exact (h.old i z hi hz' hm' hs k hk' hlt).app _
  ·obtain rfl : k = n := by omega
   exact fork_knows hx hy hd hk (h.old i z hi hz' hm' hs 0 (.inl rfl) h0)
 ·obtain ⟨hlt, hz'⟩ := touchAt_mute hm hz
  rcases h.new i z hi hz' hm' hs with e | ⟨k, k1, k2, k3⟩
  ·exact .inl e
  ·exact .inr ⟨k, k1, by rw [g?_old hlt]; exact k2, k3⟩
 ·simp only [List.mem_toArray, List.mem_cons, List.not_mem_nil, or_false] at hop
  rcases hop with rfl | rfl
  ·rw [hx.2] at e; cases e
  ·rw [hy.2] at e; cases e
theorem RTr.done (h : RTr a S B Ow T n j0 r0 t) (h0 : 0 < n) {q : Nat} (hq : t.act? q = some (.mark (.acquire a))) (hg : t.g? q = some 0) (hh : t.heard q) (hrel : ∀ k, j0 ≤ k → k < n → ∃ r, RelBy a t k r ∧ r < q) : HO n t ∧ Known0 S t := by
 have ho : HO n t := by
  intro i g hgi hne hlt hc
  rcases Nat.lt_or_ge g j0 with hj | hj
  ·exact h.ho i g hgi hne hj hc
  ·obtain ⟨r, hr, hrq⟩ := hrel g hj hlt
   have edge : HappensBefore t r q := .single (.inr ⟨.marked hrq (.inr hr.act) hq (fun k _ _ => h.nrel a k), hr.heard, hh⟩)
   have hle : i ≤ r := Nat.le_of_not_lt fun hlt => hr.after i hlt hgi hc
   rcases Nat.lt_or_ge i r with hlt | hge
   ·exact ⟨q, hg, .trans (.single (.inl ⟨hlt, g, hgi, hr.g⟩)) edge⟩
   ·obtain rfl : i = r := by omega
    exact ⟨q, hg, edge⟩
 refine ⟨ho, fun i x hx hm hs => ?_⟩
 obtain ⟨op, hop, hxa⟩ := touch_of hx
 have hgi : t.g? i = some op.g := by simp [Trace.g?, hop]
 by_cases hz : op.g = 0
 ·have := knows_own hop
  rwa [hz] at this
 ·obtain ⟨j, hj, hhb⟩ := ho i op.g hgi hz (h.tr.gs i op hop) ⟨x, hx, hm, .inl (by rw [h.tr.pl i x hx hm hs]; simp)⟩
  obtain ⟨z, hz1, hz2⟩ := Option.map_eq_some_iff.1 hj
  exact ⟨j, z, hz1, hz2, .inr hhb⟩
end
/-! ### worlds -/
section
variable {G : Geo} {w w' w1 : World} {M M' : Nat → Prop}
structure One (b0 : Nat) (w w' : World) : Prop where
 block : ∀ b, b ≠ b0 → w'.heap[b]? = w.heap[b]?
 os : w'.os = w.os
 tape : w'.tape = w.tape
 output : w'.output = w.output
 size : w'.heap.size = w.heap.size
theorem One.setCell (w : World) (a : Addr) (v : Value) : One a.block w (w.setCell a v) := ⟨fun b hb => by simp [World.setCell, Array.getElem?_modify, Ne.symm hb], rfl, rfl, rfl, by simp [World.setCell]⟩
theorem WgAt.live {ty : TypeId} {Wg : Nat} {w : World} {st sm : Int} (h : WgAt ty Wg w st sm) : WgLive ty Wg w := ⟨st, sm, h⟩
theorem Rel.one {b0 : Nat} (h : One b0 w w') (hb : ¬ G.base b0) (hM : ¬ M b0) (hl : b0 = G.Wg → WgLive G.ty G.Wg w → WgLive G.ty G.Wg w') (hr : b0 = G.O → RowLive G w → RowLive G w') : Rel G M w w' := by
 refine ⟨fun b hbm => h.block b fun e => ?_, fun ⟨st, sm, k⟩ => ?_, fun ⟨cs, k1, k2⟩ => ?_, h.os, h.tape, h.output, Nat.le_of_eq h.size.symm⟩
 ·subst e; exact hbm.elim hb hM
 ·by_cases e : b0 = G.Wg
  ·exact hl e ⟨st, sm, k⟩
  ·exact ⟨st, sm, (h.block _ fun e2 => e e2.symm).trans k⟩
 ·by_cases e : b0 = G.O
  ·exact hr e ⟨cs, k1, k2⟩
  ·exact ⟨cs, (h.block _ fun e2 => e e2.symm).trans k1, k2⟩
theorem Rel.same (h : Same w w') : Rel G M w w' := by
 refine ⟨fun b _ => by rw [h.heap], fun ⟨st, sm, k⟩ => ⟨st, sm, ?_⟩, fun ⟨cs, k1, k2⟩ => ⟨cs, by rw [h.heap]; exact k1, k2⟩, h.os, h.tape, h.output, by rw [h.heap]; exact Nat.le_refl _⟩
 unfold WgAt at *
 rw [h.heap]; exact k
theorem Rel.gu (h : Gu M w w') (hb : ∀ b, G.base b ∨ M' b → b < w.heap.size ∧ ¬ M b) (hW : ¬ M G.Wg) (hO : ¬ M G.O) : Rel G M' w w' := by
 refine ⟨fun b hbm => h.old b (hb b hbm).1 (hb b hbm).2, fun ⟨st, sm, k⟩ => ⟨st, sm, ?_⟩, fun ⟨cs, k1, k2⟩ => ⟨cs, ?_, k2⟩, h.os, h.tape, h.output, h.size⟩
 ·exact (h.old _ (lt_of_get k) hW).trans k
 ·exact (h.old _ (lt_of_get k1) hO).trans k1
where lt_of_get {w : World} {b : Nat} {o : Obj} (h : w.heap[b]? = some o) : b < w.heap.size := (Array.getElem?_eq_some_iff.1 h).1
theorem RowLive.set (h : RowLive G w) (i : Nat) (v : Value) : RowLive G (w.setCell (oCell G i) v) := by
 obtain ⟨cs, h1, h2⟩ := h
 refine ⟨cs.setIfInBounds i v, ?_, by simp [h2]⟩
 unfold World.setCell oCell
 rw [Array.getElem?_modify, if_pos rfl, h1]
 rfl
theorem RowLive.cell_set (h : RowLive G w) {i : Nat} (hi : i < G.N) (v : Value) : (w.setCell (oCell G i) v).cell? (oCell G i) = some v := by
 obtain ⟨cs, h1, h2⟩ := h
 unfold World.setCell oCell World.cell?
 simp only
 rw [Array.getElem?_modify, if_pos rfl, h1]
 simp [h2, hi]
theorem cell_set_ne {i j : Nat} (hij : i ≠ j) (v : Value) : (w.setCell (oCell G i) v).cell? (oCell G j) = w.cell? (oCell G j) := by
 unfold World.setCell oCell World.cell?
 simp only
 rw [Array.getElem?_modify, if_pos rfl]
 cases hb : w.heap[G.O]? with
 | none => rfl
 | some o => cases o <;> simp [Array.getElem?_setIfInBounds_ne hij]
theorem cell_block {w w' : World} {a : Addr} (e : w'.heap[a.block]? = w.heap[a.block]?) : w'.cell? a = w.cell? a := by unfold World.cell?; rw [e]
end
end Go.Mx
namespace Go.Mx
open Go Go.Conc
open Go.ConcN (WgLive sumTo upd upd_same upd_ne sumTo_congr sumTo_upd le_sumTo Deaf_absent fork_knows RelBy get_map_set get_map_set_same)
open Go.ConcR (KK WgAt stA smA rd wr mk g_of_ofEvents loc_of_ofEvent)
structure WD where
 st : WS
 rk : RT WS
 pk : Bool
 q : Nat
def WD.mu (d : WD) : Nat × RT WS × Nat := if d.st.ph = .out then (0, .leaf, d.q) else (1, d.rk, if d.pk then 0 else 1)
def WLt : Nat × RT WS × Nat → Nat × RT WS × Nat → Prop := Prod.Lex (· < ·) (Prod.Lex RT.Lt (· < ·))
theorem WLt.wf : WellFounded WLt := (Prod.lex Nat.lt_wfRel (Prod.lex ⟨RT.Lt, RT.wf⟩ Nat.lt_wfRel)).wf
def MLt : RT MS × List (Nat × RT WS × Nat) × Nat → RT MS × List (Nat × RT WS × Nat) × Nat → Prop := Prod.Lex RT.Lt (Prod.Lex (VLt WLt) (· < ·))
theorem MLt.wf : WellFounded MLt := (Prod.lex ⟨RT.Lt, RT.wf⟩ (Prod.lex ⟨VLt WLt, VLt.wf WLt.wf⟩ Nat.lt_wfRel)).wf
def dph : Ph → Nat
 | .run | .shut | .rel => 0
 | _ => 1
inductive WAt (G : Geo) (P : Program) (d : WD) (dd : Nat) (g : Goroutine) (w : World) : Prop
 | run : d.st.ph ≠ .out → d.pk = false → g.status = .running → (∀ w, stepG P false g w = stepG P false d.st.g w) → mayWake P g = mayWake P d.st.g → BehW G P d.rk { d.st with w := w } → dd = dph d.st.ph → WAt G P d dd g w
 | park (f : WS → RT WS) : d.st.ph = .run → d.pk = true → g = parked { d.st.g with status := .running, offers := none } #[rcase G.Ch G.z] (.recv true) → d.rk = .node f → d.st.g.status = .running → (∀ w1, Rel G d.st.M w w1 → RecvW G P (fun s1 => BehW G P (f s1) s1) { d.st with w := w1 }) → dd = 0 → WAt G P d dd g w
 | out : d.st.ph = .out → d.pk = false → QuitsD P d.q dd g → WAt G P d dd g w
theorem WAt.rely {G : Geo} {P : Program} {d : WD} {dd : Nat} {g : Goroutine} {w w1 : World} (h : WAt G P d dd g w) (hr : Rel G d.st.M w w1) : WAt G P d dd g w1 := by
 cases h with
 | run h1 h2 h3 h4 h5 h6 h7 => exact .run h1 h2 h3 h4 h5 (h6.rely hr) h7
 | park f h1 h2 h3 h4 h5 h6 h7 => exact .park f h1 h2 h3 h4 h5 (fun w2 k => h6 w2 (hr.trans k)) h7
 | out h1 h2 h3 => exact .out h1 h2 h3
theorem WAt.awake {G : Geo} {P : Program} {d : WD} {dd : Nat} {g : Goroutine} {w : World} (h : WAt G P d dd g w) : awake g := by
 cases h with
 | run h1 h2 h3 h4 h5 h6 h7 => exact awake_running h3
 | park f h1 h2 h3 h4 h5 h6 h7 => subst h3; intro t; simp [parked]
 | out h1 h2 h3 => exact QuitsD.awake h3
theorem WAt.woken {G : Geo} {P : Program} {d : WD} {dd : Nat} {g a a' : Goroutine} {w w' : World} (h : WAt G P d dd g w) (hc : d.pk = true → ∃ s r tm, w'.heap[G.Ch]? = some (.chan 0 #[] false s r tm)) : woken P a a' w' g = g := by
 cases h with
 | run h1 h2 h3 h4 h5 h6 h7 => exact woken_running h3
 | park f h1 h2 h3 h4 h5 h6 h7 =>
  obtain ⟨s, r, tm, hc⟩ := hc h2
  subst h3
  exact woken_recv_open a a' hc
 | out h1 h2 h3 => exact woken_quitsD h3
inductive MFl where
 | run | park | blk
 deriving DecidableEq
def MFl.num : MFl → Nat
 | .run => 1
 | _ => 0
inductive MAt (G : Geo) (P : Program) (Fin : Goroutine → Prop) (fl : MFl) (s : MS) (rk : RT MS) (a : Goroutine) (w : World) : Prop
 | run : fl = .run → a = s.g → BehM G P Fin rk { s with w := w } → MAt G P Fin fl s rk a w
 | park (f : MS → RT MS) (i : Nat) : fl = .park → a = parked { s.g with status := .running, offers := none } #[scase G.Ch (.int .i64 i) G.zs] .send → rk = .node f → s.g.status = .running → (∀ w1, Rel G (fun _ => False) w w1 → SendM G P (fun s1 => BehM G P Fin (f s1) s1) { s with w := w1 } i) → MAt G P Fin fl s rk a w
 | blk (f : MS → RT MS) : fl = .blk → a = { s.g with status := .blocked } → rk = .node f → s.g.status = .running → (∀ w1, Rel G (fun _ => False) w w1 → SemaM G P (fun s1 => BehM G P Fin (f s1) s1) { s with w := w1 }) → MAt G P Fin fl s rk a w
theorem MAt.rely {G : Geo} {P : Program} {Fin : Goroutine → Prop} {fl : MFl} {s : MS} {rk : RT MS} {a : Goroutine} {w w1 : World} (h : MAt G P Fin fl s rk a w) (hr : Rel G (fun _ => False) w w1) : MAt G P Fin fl s rk a w1 := by
 cases h with
 | run h1 h2 h3 => exact .run h1 h2 (h3.rely hr)
 | park f i h1 h2 h3 h4 h5 => exact .park f i h1 h2 h3 h4 fun w2 k => h5 w2 (hr.trans k)
 | blk f h1 h2 h3 h4 h5 => exact .blk f h1 h2 h3 h4 fun w2 k => h5 w2 (hr.trans k)
theorem BehM.running {G : Geo} {P : Program} {Fin : Goroutine → Prop} {r : RT MS} {s : MS} (h : BehM G P Fin r s) : s.g.status = .running := by
 cases r with
 | leaf => exact h.elim
 | node f => exact h.1
theorem BehW.running {G : Geo} {P : Program} {r : RT WS} {s : WS} (h : BehW G P r s) : s.g.status = .running := by
 cases r with
 | leaf => exact h.elim
 | node f => exact h.1
theorem MAt.awake {G : Geo} {P : Program} {Fin : Goroutine → Prop} {fl : MFl} {s : MS} {rk : RT MS} {a : Goroutine} {w : World} (h : MAt G P Fin fl s rk a w) : awake a := by
 cases h with
 | run h1 h2 h3 => subst h2; exact awake_running h3.running
 | park f i h1 h2 h3 h4 h5 => subst h2; intro t; simp [parked]
 | blk f h1 h2 h3 h4 h5 => subst h2; intro t; simp
theorem goroutine_eta {g : Goroutine} {st : GoStatus} (h : g.status = st) : { g with status := st } = g := by cases g; simp only at h; subst h; rfl
theorem MAt.woken {G : Geo} {P : Program} {Fin : Goroutine → Prop} {fl : MFl} {s : MS} {rk : RT MS} {a : Goroutine} {w : World} (h : MAt G P Fin fl s rk a w) (g g' : Goroutine) (hc : fl = .park → ∃ s r tm, w.heap[G.Ch]? = some (.chan 0 #[] false s r tm)) :
  ∃ fl', MAt G P Fin fl' s rk (woken P g g' w a) w ∧ (fl' = fl ∨ (fl = .blk ∧ fl' = .run)) ∧ ((mayWake P g = true ∧ g'.status = .running) → fl = .blk → fl' = .run) := by
 cases h with
 | run h1 h2 h3 => subst h2; exact ⟨fl, by rw [woken_running h3.running]; exact .run h1 rfl h3, .inl rfl, fun _ e => by rw [h1] at e; cases e⟩
 | park f i h1 h2 h3 h4 h5 =>
  obtain ⟨s', r, tm, hc⟩ := hc h1
  refine ⟨fl, ?_, .inl rfl, fun _ e => by rw [h1] at e; cases e⟩
  have : Conc.woken P g g' w a = a := by rw [h2]; exact woken_send_open g g' hc
  rw [this]
  exact .park f i h1 h2 h3 h4 h5
 | blk f h1 h2 h3 h4 h5 =>
  have ho := (h5 w (Rel.refl ..)).off
  by_cases hw : (mayWake P g && g'.status != .blocked && g'.status != .waiting) = true
  ·refine ⟨.run, ?_, .inr ⟨h1, rfl⟩, fun _ _ => rfl⟩
   have e : Conc.woken P g g' w a = s.g := by
    unfold Conc.woken
    rw [if_pos hw, h2]
    have e2 : ({ s.g with status := .blocked } : Goroutine).again w = { s.g with status := .running } := by
     unfold Goroutine.again
     simp only at ho
     simp only [ho]
    rw [e2]
    exact goroutine_eta h4
   rw [e]
   exact .run rfl rfl (by rw [h3]; exact ⟨h4, .inr (.inr h5)⟩)
  ·refine ⟨fl, ?_, .inl rfl, fun ⟨e1, e2⟩ _ => absurd (by simp [e1, e2]) hw⟩
   have e : Conc.woken P g g' w a = a := by unfold Conc.woken; rw [if_neg hw]
   rw [e]
   exact .blk f h1 h2 h3 h4 h5
/-! ### how the group's cells hang on where everybody stands -/
def cph : Ph → Nat
 | .run | .shut | .rel | .dis => 1
 | _ => 0
def openPh (p : Ph) : Prop := p = .run ∨ p = .shut ∨ p = .rel ∨ p = .dis ∨ p = .out
def cnt (m : Nat) (F : Nat → Ph) : Nat := sumTo m fun i => cph (F i)
def pend : MTag → Nat
 | .sp _ true => 1
 | _ => 0
def isOpen : MTag → Prop
 | .sp _ _ | .sd _ | .wa _ | .cas _ => True
 | _ => False
def clo : MTag → Bool
 | .sp _ _ | .sd _ => false
 | _ => true
def sent (G : Geo) : MTag → Nat
 | .sp _ _ => 0
 | .sd i => i
 | _ => G.N
def left : MTag → Nat
 | .sp r _ => r
 | _ => 0
inductive Mode (m : Nat) (F : Nat → Ph) : MTag → Int → Int → Prop
 | opn {tag : MTag} : isOpen tag → (∀ i, i < m → openPh (F i)) → (∀ V, tag = .wa V → cnt m F ≤ V) → (∀ V, tag = .cas V → cnt m F ≤ V ∧ 1 ≤ V) → Mode m F tag (((cnt m F + pend tag : Nat) : Int) * KK) 0
 | reg : (∀ i, i < m → openPh (F i)) → 1 ≤ cnt m F → Mode m F .w3 (((cnt m F : Nat) : Int) * KK + 1) 0
 | last (L : Nat) : L < m → (F L = .d2 ∨ F L = .d3 ∨ F L = .d4) → (∀ i, i < m → i ≠ L → F i = .out) → Mode m F .w3 (if F L = .d4 then 0 else 1) 0
 | sema : (∀ i, i < m → F i = .out) → Mode m F .w3 0 1
 | fin {tag : MTag} : tag = .w4 ∨ tag = .ke → (∀ i, i < m → F i = .out) → Mode m F tag 0 0
/-! ### the heap -/
structure GeoOk (G : Geo) (S : Nat → Prop) : Prop where
 sW : S G.Wg
 sC : S G.Ch
 wc : G.Wg ≠ G.Ch
 so : ¬ S G.O
 bo : ¬ G.base G.O
 bs : ∀ b, G.base b → ¬ S b
structure HInv (G : Geo) (S : Nat → Prop) (W0 : World) (m : Nat) (M H X : Nat → Nat → Prop) (cl : Bool) (sn : Nat) (w : World) : Prop where
 row : RowLive G w
 ch : ∃ s r, w.heap[G.Ch]? = some (.chan 0 #[] cl s r false)
 base : ∀ b, G.base b → b < w.heap.size
 sb : ∀ b, S b → b < w.heap.size
 own : ∀ i b, i < m → M i b → b < w.heap.size ∧ ¬ G.base b ∧ ¬ S b ∧ b ≠ G.O
 dis : ∀ i j b, i < m → j < m → M i b → M j b → i = j
 hd : ∀ i x, i < m → H i x → x < sn
 hdis : ∀ i j x, i < m → j < m → H i x → H j x → i = j
 hall : ∀ x, x < sn → ∃ i, i < m ∧ H i x
 sok : ∀ i x, i < m → X i x → w.cell? (oCell G x) = some (G.ans x)
 w0 : Rel G (fun _ => False) W0 w
section
variable {G : Geo} {S : Nat → Prop} {W0 w w' : World} {m : Nat} {M H X : Nat → Nat → Prop} {cl : Bool} {sn : Nat}
theorem HInv.oLt (h : HInv G S W0 m M H X cl sn w) : G.O < w.heap.size := let ⟨_, h1, _⟩ := h.row; (Array.getElem?_eq_some_iff.1 h1).1
theorem HInv.one (h : HInv G S W0 m M H X cl sn w) (g : GeoOk G S) (ho : One G.Wg w w') (hr : Rel G (fun _ => False) w w') : HInv G S W0 m M H X cl sn w' := by
 have hO : G.O ≠ G.Wg := fun e => g.so (e ▸ g.sW)
 refine ⟨hr.row h.row, ?_, fun b hb => by rw [ho.size]; exact h.base b hb, fun b hb => by rw [ho.size]; exact h.sb b hb, fun i b hi hb => by rw [ho.size]; exact h.own i b hi hb, h.dis, h.hd, h.hdis, h.hall, fun i x hi hx => ?_, h.w0.trans hr⟩
 ·obtain ⟨s, r, hc⟩ := h.ch
  exact ⟨s, r, (ho.block _ (Ne.symm g.wc)).trans hc⟩
 ·rw [← h.sok i x hi hx]
  exact cell_block (ho.block _ hO)
theorem HInv.gu (h : HInv G S W0 m M H X cl sn w) (g : GeoOk G S) {i : Nat} (hi : i < m) (hg : Gu (M i) w w') (hr : Rel G (fun _ => False) w w') : HInv G S W0 m (upd M i (growM (M i) w w')) H X cl sn w' := by
 have keep : ∀ b, b < w.heap.size → ¬ M i b → w'.heap[b]? = w.heap[b]? := hg.old
 have nS : ∀ b, S b → ¬ M i b := fun b hb hm => (h.own i b hi hm).2.2.1 hb
 have nO : ¬ M i G.O := fun hm => (h.own i _ hi hm).2.2.2 rfl
 refine ⟨hr.row h.row, ?_, fun b hb => Nat.lt_of_lt_of_le (h.base b hb) hg.size, fun b hb => Nat.lt_of_lt_of_le (h.sb b hb) hg.size, fun j b hj hb => ?_, fun j k b hj hk hb hb' => ?_, h.hd, h.hdis, h.hall, fun j x hj hx => ?_, h.w0.trans hr⟩
 ·obtain ⟨s, r, hc⟩ := h.ch
  exact ⟨s, r, (keep _ (h.sb _ g.sC) (nS _ g.sC)).trans hc⟩
 ·by_cases e : j = i
  ·subst e
   rw [upd_same] at hb
   rcases hb with hb | ⟨h1, h2⟩
   ·exact ⟨Nat.lt_of_lt_of_le (h.own j b hj hb).1 hg.size, (h.own j b hj hb).2⟩
   ·exact ⟨h2, fun k => by have := h.base b k; omega, fun k => by have := h.sb b k; omega, fun k => by have := h.oLt; omega⟩
  ·rw [upd_ne _ _ e] at hb
   exact ⟨Nat.lt_of_lt_of_le (h.own j b hj hb).1 hg.size, (h.own j b hj hb).2⟩
 ·have key : ∀ l b, l < m → l ≠ i → M l b → ¬ growM (M i) w w' b := fun l b hl hne h1 h2 => by
   rcases h2 with h2 | ⟨h2, _⟩
   ·exact hne (h.dis l i b hl hi h1 h2)
   ·have := (h.own l b hl h1).1; omega
  by_cases e : j = i
  ·by_cases e2 : k = i
   ·omega
   ·subst e
    rw [upd_same] at hb
    rw [upd_ne _ _ e2] at hb'
    exact absurd hb (key k b hk e2 hb')
  ·rw [upd_ne _ _ e] at hb
   by_cases e2 : k = i
   ·subst e2
    rw [upd_same] at hb'
    exact absurd hb' (key j b hj e hb)
   ·rw [upd_ne _ _ e2] at hb'
    exact h.dis j k b hj hk hb hb'
 ·rw [← h.sok j x hj hx]
  exact cell_block (keep _ h.oLt nO)
theorem HInv.store (h : HInv G S W0 m M H X cl sn w) (g : GeoOk G S) {i x : Nat} (hi : i < m) (hx : x < G.N) (hr : Rel G (fun _ => False) w (w.setCell (oCell G x) (G.ans x))) : HInv G S W0 m M H (upd X i fun j => X i j ∨ j = x) cl sn (w.setCell (oCell G x) (G.ans x)) := by
 have ho := One.setCell w (oCell G x) (G.ans x)
 have cell : ∀ y, (w.cell? (oCell G y) = some (G.ans y)) → (w.setCell (oCell G x) (G.ans x)).cell? (oCell G y) = some (G.ans y) := fun y hy => by
  by_cases e : x = y
  ·subst e; exact h.row.cell_set hx _
  ·rw [cell_set_ne e]; exact hy
 refine ⟨hr.row h.row, ?_, fun b hb => by rw [ho.size]; exact h.base b hb, fun b hb => by rw [ho.size]; exact h.sb b hb, fun i b hi hb => by rw [ho.size]; exact h.own i b hi hb, h.dis, h.hd, h.hdis, h.hall, fun j y hj hy => ?_, h.w0.trans hr⟩
 ·obtain ⟨s, r, hc⟩ := h.ch
  exact ⟨s, r, (ho.block _ fun e => g.so (by have : G.Ch = G.O := e; rw [← this]; exact g.sC)).trans hc⟩
 ·by_cases e : j = i
  ·subst e
   rw [upd_same] at hy
   rcases hy with hy | rfl
   ·exact cell y (h.sok j y hj hy)
   ·exact h.row.cell_set hx _
  ·rw [upd_ne _ _ e] at hy
   exact cell y (h.sok j y hj hy)
end
def OwD (G : Geo) (j0 m : Nat) (M H : Nat → Nat → Prop) (k : Nat) (l : Loc) : Prop := k < j0 + m ∧ ((∃ b, blk l = some b ∧ M (k - j0) b) ∨ ∃ x, l = .cell (oCell G x) ∧ H (k - j0) x)
theorem HInv.apart {G : Geo} {S : Nat → Prop} {W0 w : World} {m : Nat} {M H X : Nat → Nat → Prop} {cl : Bool} {sn j0 : Nat} (h : HInv G S W0 m M H X cl sn w) (g : GeoOk G S) : Apart G.base (OwD G j0 m M H) j0 := by
 have blkO : ∀ x, blk (.cell (oCell G x)) = some G.O := fun _ => rfl
 refine ⟨fun k k' l hk hk' h1 h2 => ?_, fun k l b hk h1 hb hB => ?_⟩
 ·obtain ⟨a1, h1⟩ := h1
  obtain ⟨a2, h2⟩ := h2
  have key : k - j0 = k' - j0 := by
   rcases h1 with ⟨b, hb, h1⟩ | ⟨x, rfl, h1⟩
   ·rcases h2 with ⟨b', hb', h2⟩ | ⟨x', rfl, h2⟩
    ·rw [hb] at hb'; cases hb'
     exact h.dis _ _ _ (by omega) (by omega) h1 h2
    ·rw [blkO] at hb; cases hb
     exact absurd rfl (h.own _ _ (by omega) h1).2.2.2
   ·rcases h2 with ⟨b', hb', h2⟩ | ⟨x', e, h2⟩
    ·rw [blkO] at hb'; cases hb'
     exact absurd rfl (h.own _ _ (by omega) h2).2.2.2
    ·have : x = x' := by simpa [oCell] using e
     subst this
     exact h.hdis _ _ _ (by omega) (by omega) h1 h2
  omega
 ·obtain ⟨a1, h1⟩ := h1
  rcases h1 with ⟨b', hb', h1⟩ | ⟨x, rfl, h1⟩
  ·rw [hb] at hb'; cases hb'
   exact (h.own _ _ (by omega) h1).2.1 hB
  ·rw [blkO] at hb; cases hb
   exact g.bo hB
end Go.Mx
namespace Go.Mx
open Go Go.Conc
open Go.ConcN (WgLive sumTo upd upd_same upd_ne sumTo_congr sumTo_upd le_sumTo Deaf_absent fork_knows RelBy get_map_set get_map_set_same)
open Go.ConcR (KK WgAt stA smA rd wr mk g_of_ofEvents loc_of_ofEvent)
def dM (D : Nat → WD) (i : Nat) : Nat → Prop := (D i).st.M
def dH (D : Nat → WD) (i : Nat) : Nat → Prop := (D i).st.H
def dX (D : Nat → WD) (i : Nat) : Nat → Prop := (D i).st.S
def dP (D : Nat → WD) (i : Nat) : Ph := (D i).st.ph
theorem proj_upd {α β : Type} (φ : α → β) (D : Nat → α) (i : Nat) (x : α) : (fun a => φ (upd D i x a)) = upd (fun a => φ (D a)) i (φ x) := by
 funext a
 by_cases e : a = i
 ·subst e; simp [upd_same]
 ·simp [upd_ne _ _ e]
theorem dM_upd (D : Nat → WD) (i : Nat) (x : WD) : dM (upd D i x) = upd (dM D) i x.st.M := proj_upd (fun d => d.st.M) D i x
theorem dH_upd (D : Nat → WD) (i : Nat) (x : WD) : dH (upd D i x) = upd (dH D) i x.st.H := proj_upd (fun d => d.st.H) D i x
theorem dX_upd (D : Nat → WD) (i : Nat) (x : WD) : dX (upd D i x) = upd (dX D) i x.st.S := proj_upd (fun d => d.st.S) D i x
theorem dP_upd (D : Nat → WD) (i : Nat) (x : WD) : dP (upd D i x) = upd (dP D) i x.st.ph := proj_upd (fun d => d.st.ph) D i x
theorem upd_self {α : Type} (f : Nat → α) (i : Nat) : upd f i (f i) = f := by
 funext a
 by_cases e : a = i
 ·subst e; simp [upd_same]
 ·simp [upd_ne _ _ e]
structure RInv (G : Geo) (P : Program) (Fin : Goroutine → Prop) (S : Nat → Prop) (W0 : World) (j0 r0 : Nat) (m : Nat) (gs : Array Goroutine) (w : World) (t : Trace) (s : MS) (rm : RT MS) (fl : MFl) (D : Nat → WD) (st sm : Int) (Q : Nat → Nat) : Prop where
 gk : GeoOk G S
 j1 : 1 ≤ j0
 sz : gs.size = j0 + m
 rt : r0 ≤ t.size
 mn : ∃ a, gs[0]? = some a ∧ MAt G P Fin fl s rm a w
 wk : ∀ i, i < m → ∃ g, gs[j0 + i]? = some g ∧ WAt G P (D i) (Deaf t (j0 + i)) g w
 lv : ∀ k, 1 ≤ k → k < j0 → ∃ g, gs[k]? = some g ∧ QuitsD P (Q k) (Deaf t k) g
 tr : RTr (stA G.Wg) S G.base (OwD G j0 m (dM D) (dH D)) (fun b => b < w.heap.size ∧ ¬ S b) (j0 + m) j0 r0 t
 d0 : Deaf t 0 = s.d
 wg : WgAt G.ty G.Wg w st sm
 mode : Mode m (dP D) s.tag st sm
 sem : sm = 1 → fl = .run
 hp : HInv G S W0 m (dM D) (dH D) (dX D) (clo s.tag) (sent G s.tag) w
 bud : ∀ i, i < m → (D i).st.ph = .run → G.N ≤ sent G s.tag + (D i).st.k
 rl : ∀ i, i < m → (D i).st.ph ≠ .run → (D i).st.ph ≠ .shut → (∃ r, RelBy (stA G.Wg) t (j0 + i) r) ∧ ∀ x, (D i).st.H x → (D i).st.S x
 opn : clo s.tag = false → ∀ i, i < m → (D i).st.ph = .run
 npk : (clo s.tag = true ∨ fl = .park) → ∀ i, i < m → (D i).pk = false
 pkt : fl = .park → clo s.tag = false
 m1 : (∀ r p, s.tag ≠ .sp r p) → 1 ≤ m
 big : m + left s.tag < 2147483647
def muOf (j0 m : Nat) (D : Nat → WD) (rm : RT MS) (fl : MFl) (Q : Nat → Nat) : RT MS × List (Nat × RT WS × Nat) × Nat := (rm, (List.range m).map fun i => (D i).mu, fl.num + 2 * sumTo j0 Q)
def RI (G : Geo) (P : Program) (Fin : Goroutine → Prop) (S : Nat → Prop) (W0 : World) (j0 r0 : Nat) (μ : RT MS × List (Nat × RT WS × Nat) × Nat) (mc : Machine) (t : Trace) : Prop :=
 ∃ m gs w sl s rm fl D st sm Q, mc = crowd gs w sl ∧ RInv G P Fin S W0 j0 r0 m gs w t s rm fl D st sm Q ∧ μ = muOf j0 m D rm fl Q
theorem mu_upd {j0 m : Nat} {D : Nat → WD} {rm : RT MS} {fl fl' : MFl} {Q Q' : Nat → Nat} {i : Nat} {d' : WD} (hi : i < m) (h : WLt d'.mu (D i).mu) : MLt (muOf j0 m (upd D i d') rm fl' Q') (muOf j0 m D rm fl Q) := by
 refine Prod.Lex.right _ (Prod.Lex.left _ _ ?_)
 have e : ((List.range m).map fun a => (upd D i d' a).mu) = ((List.range m).map fun a => (D a).mu).set i d'.mu := by
  apply List.ext_getElem
  ·simp
  ·intro a h1 h2
   simp only [List.length_map, List.length_range] at h1
   by_cases e : i = a
   ·subst e; simp [upd_same]
   ·simp [List.getElem_set_ne e, upd_ne _ _ (Ne.symm e)]
 rw [e]
 exact VLt.set (x := (D i).mu) (by simp [hi]) h
section
variable {G : Geo} {P : Program} {Fin : Goroutine → Prop} {S : Nat → Prop} {W0 : World} {j0 r0 m : Nat} {gs : Array Goroutine} {w w' : World} {t : Trace} {s : MS} {rm : RT MS} {fl : MFl} {D : Nat → WD} {st sm : Int} {Q : Nat → Nat} {sl : Option (Nat × Nat)}
theorem Mode.w3 {F : Nat → Ph} {tag : MTag} {st : Int} (h : Mode m F tag st 1) : tag = .w3 := by
 generalize e : (1 : Int) = sm at h
 cases h <;> first | rfl | cases e
theorem wStep (h : RInv G P Fin S W0 j0 r0 m gs w t s rm fl D st sm Q) {i : Nat} (hi : i < m) {g g' : Goroutine} {es : Array Event} (hg : gs[j0 + i]? = some g) (hgo : stepG P false g w = .go g' w' es) {d' : WD} {st' sm' : Int}
  (hpk : d'.pk = false) (hw : WAt G P d' (deafBehind (Deaf t (j0 + i)) es) g' w')
  (hr : ∀ j, j < m → j ≠ i → Rel G (D j).st.M w w') (hr0 : Rel G (fun _ => False) w w') (hmu : WLt d'.mu (D i).mu)
  (hwg : WgAt G.ty G.Wg w' st' sm') (hmode : Mode m (upd (dP D) i d'.st.ph) s.tag st' sm') (hsm : sm' = 1 → sm = 1 ∨ (mayWake P g = true ∧ g'.status = .running))
  (hp : HInv G S W0 m (upd (dM D) i d'.st.M) (upd (dH D) i d'.st.H) (upd (dX D) i d'.st.S) (clo s.tag) (sent G s.tag) w')
  (hM : ∀ b, (D i).st.M b → d'.st.M b) (hH : ∀ x, (D i).st.H x → d'.st.H x)
  (hbud : d'.st.ph = .run → G.N ≤ sent G s.tag + d'.st.k)
  (hrl : d'.st.ph ≠ .run → d'.st.ph ≠ .shut → (∃ r, RelBy (stA G.Wg) (t ++ MemOp.ofEvents (j0 + i) g.frame.fn g.frame.place es) (j0 + i) r) ∧ ∀ x, d'.st.H x → d'.st.S x)
  (hopn : clo s.tag = false → d'.st.ph = .run)
  (htk : ∀ op ∈ MemOp.ofEvents (j0 + i) g.frame.fn g.frame.place es, TOk S (fun b => b < w'.heap.size ∧ ¬ S b) (fun _ => False) G.base (fun l => (∃ b, blk l = some b ∧ d'.st.M b) ∨ ∃ x, l = .cell (oCell G x) ∧ d'.st.H x) (j0 + i) op)
  (hnr : ∀ op ∈ MemOp.ofEvents (j0 + i) g.frame.fn g.frame.place es, ∀ a, op.act ≠ .mark (.release a)) :
  ∃ m1 ops μ', runT P (crowd gs w sl) (j0 + i) = (.next m1, ops) ∧ MLt μ' (muOf j0 m D rm fl Q) ∧ RI G P Fin S W0 j0 r0 μ' m1 (t ++ ops) := by
 have hne : j0 + i ≠ 0 := by have := h.j1; omega
 have h0 : ((j0 + i) == 0) = false := by simpa using hne
 have hrun := runT_crowd_go (P := P) (sl := sl) (i := j0 + i) hg (by rw [h0]; exact hgo)
 obtain ⟨a, ha, hma⟩ := h.mn
 have hopen : clo s.tag = false → ∃ s r tm, w'.heap[G.Ch]? = some (.chan 0 #[] false s r tm) := fun e => by
  obtain ⟨s1, r1, hc⟩ := hp.ch
  rw [e] at hc
  exact ⟨s1, r1, _, hc⟩
 obtain ⟨fl', hma', hfl, hwake⟩ := (hma.rely hr0).woken g g' fun e => hopen (h.pkt e)
 have hpark : fl' = .park → fl = .park := fun e => by
  rcases hfl with e2 | ⟨_, e2⟩
  ·exact e2 ▸ e
  ·rw [e2] at e; cases e
 refine ⟨_, _, muOf j0 m (upd D i d') rm fl' Q, hrun, mu_upd hi hmu, m, _, w', sl, s, rm, fl', upd D i d', st', sm', Q, rfl, ?_, rfl⟩
 refine ⟨h.gk, h.j1, by simp [h.sz], by simp only [Array.size_append]; have := h.rt; omega, ⟨_, by rw [get_map_set' _ _ _ _ _ hne, ha]; rfl, hma'⟩, fun j hj => ?_, fun k k1 k2 => ?_, ?_, ?_, hwg, by rw [dP_upd]; exact hmode, fun e => ?_, by rw [dM_upd, dH_upd, dX_upd]; exact hp, fun j hj he => ?_, fun j hj he hes => ?_, fun e j hj => ?_, fun e j hj => ?_, fun e => h.pkt (hpark e), h.m1, h.big⟩
 ·by_cases e : j = i
  ·subst e
   exact ⟨g', get_map_set_same' _ _ _ _ (by rw [h.sz]; omega), by rw [deaf_leaver, if_pos rfl, upd_same]; exact hw⟩
  ·obtain ⟨g2, hg2, hw2⟩ := h.wk j hj
   have hw3 := hw2.rely (hr j hj e)
   refine ⟨g2, ?_, by rw [deaf_leaver, if_neg (by omega), upd_ne _ _ e]; exact hw3⟩
   rw [get_map_set' _ _ _ _ _ (by omega), hg2]
   simp only [Option.map_some, Option.some.injEq]
   refine hw3.woken fun hpk2 => hopen ?_
   cases hcl : clo s.tag with
   | false => rfl
   | true => rw [h.npk (.inl hcl) j hj] at hpk2; cases hpk2
 ·obtain ⟨g2, hg2, hq⟩ := h.lv k k1 k2
  refine ⟨g2, ?_, by rw [deaf_leaver, if_neg (by omega)]; exact hq⟩
  rw [get_map_set' _ _ _ _ _ (by omega), hg2]
  simp [woken_quitsD hq]
 ·have hA := hp.apart (j0 := j0) h.gk
  rw [dM_upd, dH_upd]
  refine h.tr.app h.rt (fun b hb => ⟨Nat.lt_of_lt_of_le hb.1 hr0.size, hb.2⟩) (fun k l hk hl => ?_) hA (by omega) (.inr (by omega)) h.j1 (fun l hl => ⟨by omega, by omega, ?_⟩) htk hnr
  ·obtain ⟨hk2, hl⟩ := hl
   refine ⟨hk2, ?_⟩
   by_cases e : k - j0 = i
   ·rw [e] at hl ⊢
    rw [upd_same, upd_same]
    exact hl.imp (fun ⟨b, hb, hb2⟩ => ⟨b, hb, hM b hb2⟩) fun ⟨x, hx, hx2⟩ => ⟨x, hx, hH x hx2⟩
   ·rw [upd_ne _ _ e, upd_ne _ _ e]
    exact hl
  ·rw [show j0 + i - j0 = i by omega, upd_same, upd_same]
   exact hl
 ·rw [deaf_leaver, if_neg (by omega)]; exact h.d0
 ·have hw3 : s.tag = .w3 := by subst e; exact hmode.w3
  have hf : fl = .run ∨ fl = .blk := by
   cases hfl2 : fl with
   | run => exact .inl rfl
   | blk => exact .inr rfl
   | park => have := h.pkt hfl2; rw [hw3] at this; cases this
  have hres : fl = .run → fl' = .run := fun e2 => by
   rcases hfl with e3 | ⟨e3, _⟩
   ·exact e3.trans e2
   ·rw [e2] at e3; cases e3
  rcases hsm e with e2 | e2
  ·exact hres (h.sem e2)
  ·exact hf.elim hres fun e3 => hwake e2 e3
 ·by_cases e : j = i
  ·subst e; rw [upd_same] at he ⊢; exact hbud he
  ·rw [upd_ne _ _ e] at he ⊢; exact h.bud j hj he
 ·by_cases e : j = i
  ·subst e; rw [upd_same] at he hes ⊢; exact hrl he hes
  ·rw [upd_ne _ _ e] at he hes ⊢
   obtain ⟨⟨r, hr1⟩, hr2⟩ := h.rl j hj he hes
   exact ⟨⟨r, ConcN.RelBy.appOther hr1 ofEvents_g (by omega)⟩, hr2⟩
 ·by_cases e2 : j = i
  ·subst e2; rw [upd_same]; exact hopn e
  ·rw [upd_ne _ _ e2]; exact h.opn e j hj
 ·by_cases e2 : j = i
  ·subst e2; rw [upd_same]; exact hpk
  ·rw [upd_ne _ _ e2]; exact h.npk (e.imp id hpark) j hj
theorem mStep (h : RInv G P Fin S W0 j0 r0 m gs w t s rm fl D st sm Q) {a a' : Goroutine} {es : Array Event} (ha : gs[0]? = some a) (hgo : stepG P true a w = .go a' w' es) {s' : MS} {rm' : RT MS} {st' sm' : Int}
  (hfl : fl = .run) (hag : a' = s'.g) (hws : s'.w = w') (hb : BehM G P Fin rm' s') (hlt : RT.Lt rm' rm) (hone : One G.Wg w w') (hlive : WgLive G.ty G.Wg w → WgLive G.ty G.Wg w')
  (hwg : WgAt G.ty G.Wg w' st' sm') (hmode : Mode m (dP D) s'.tag st' sm') (hclo : clo s'.tag = clo s.tag) (hsent : sent G s'.tag = sent G s.tag) (hm1 : (∀ r p, s'.tag ≠ .sp r p) → 1 ≤ m) (hbig : left s'.tag ≤ left s.tag) (hd : deafBehind s.d es = s'.d)
  (htk : ∀ op ∈ MemOp.ofEvents 0 a.frame.fn a.frame.place es, TOk S (fun b => b < w'.heap.size ∧ ¬ S b) (fun _ => False) G.base (fun _ => False) 0 op)
  (hnr : ∀ op ∈ MemOp.ofEvents 0 a.frame.fn a.frame.place es, ∀ a, op.act ≠ .mark (.release a)) :
  ∃ m1 ops μ', runT P (crowd gs w sl) 0 = (.next m1, ops) ∧ MLt μ' (muOf j0 m D rm fl Q) ∧ RI G P Fin S W0 j0 r0 μ' m1 (t ++ ops) := by
 have hrun := runT_crowd_go (P := P) (sl := sl) (i := 0) ha (by simpa using hgo)
 have nbW : ¬ G.base G.Wg := fun e => h.gk.bs _ e h.gk.sW
 have nO : G.Wg ≠ G.O := fun e => h.gk.so (e ▸ h.gk.sW)
 have hr0 : Rel G (fun _ => False) w w' := Rel.one hone nbW id (fun _ => hlive) fun e => absurd e nO
 have hrw : ∀ j, j < m → Rel G (D j).st.M w w' := fun j hj => Rel.one hone nbW (fun e => (h.hp.own j _ hj e).2.2.1 h.gk.sW) (fun _ => hlive) fun e => absurd e nO
 have hp := h.hp.one h.gk hone hr0
 have hopen : clo s.tag = false → ∃ s r tm, w'.heap[G.Ch]? = some (.chan 0 #[] false s r tm) := fun e => by
  obtain ⟨s1, r1, hc⟩ := hp.ch
  rw [e] at hc
  exact ⟨s1, r1, _, hc⟩
 refine ⟨_, _, muOf j0 m D rm' .run Q, hrun, Prod.Lex.left _ _ hlt, m, _, w', sl, s', rm', .run, D, st', sm', Q, rfl, ?_, rfl⟩
 refine ⟨h.gk, h.j1, by simp [h.sz], by simp only [Array.size_append]; have := h.rt; omega, ⟨a', get_map_set_same' _ _ _ _ (by rw [h.sz]; have := h.j1; omega), .run rfl hag (by subst hws; exact hb)⟩, fun j hj => ?_, fun k k1 k2 => ?_, ?_, ?_, hwg, hmode, fun _ => rfl, by rw [hclo, hsent]; exact hp, fun j hj he => by rw [hsent]; exact h.bud j hj he, fun j hj he hes => ?_, fun e => h.opn (hclo ▸ e), fun e => ?_, fun e => (by cases e), hm1, by have := h.big; omega⟩
 ·obtain ⟨g2, hg2, hw2⟩ := h.wk j hj
  have hw3 := hw2.rely (hrw j hj)
  refine ⟨g2, ?_, by rw [deaf_leaver, if_neg (by have := h.j1; omega)]; exact hw3⟩
  rw [get_map_set' _ _ _ _ _ (by have := h.j1; omega), hg2]
  simp only [Option.map_some, Option.some.injEq]
  refine hw3.woken fun hpk2 => hopen ?_
  cases hcl : clo s.tag with
  | false => rfl
  | true => rw [h.npk (.inl hcl) j hj] at hpk2; cases hpk2
 ·obtain ⟨g2, hg2, hq⟩ := h.lv k k1 k2
  refine ⟨g2, ?_, by rw [deaf_leaver, if_neg (by omega)]; exact hq⟩
  rw [get_map_set' _ _ _ _ _ (by omega), hg2]
  simp [woken_quitsD hq]
 ·exact h.tr.app h.rt (fun b hb => ⟨Nat.lt_of_lt_of_le hb.1 hr0.size, hb.2⟩) (fun k l _ hl => hl) (hp.apart (j0 := j0) h.gk) (by have := h.j1; omega) (.inl rfl) h.j1 (fun l hl => hl.elim) htk hnr
 ·rw [deaf_leaver, if_pos rfl, h.d0]; exact hd
 ·obtain ⟨⟨r, hr1⟩, hr2⟩ := h.rl j hj he hes
  exact ⟨⟨r, ConcN.RelBy.appOther hr1 ofEvents_g (by have := h.j1; omega)⟩, hr2⟩
 ·rcases e with e | e
  ·exact h.npk (.inl (hclo ▸ e))
  ·cases e
end
end Go.Mx
namespace Go.Mx
open Go Go.Conc
open Go.ConcN (WgLive sumTo upd upd_same upd_ne sumTo_congr sumTo_upd le_sumTo sumTo_le Deaf_absent fork_knows RelBy get_map_set get_map_set_same)
open Go.ConcR (KK WgAt stA smA rd wr mk g_of_ofEvents loc_of_ofEvent)
theorem deafBehind_dull {es : Array Event} (h : ∀ e ∈ es, ∀ m, e.loc = .mark m → dullMark m) (d : Nat) : deafBehind d es = d := by
 unfold deafBehind
 refine Array.foldl_induction (motive := fun _ x => x = d) rfl fun i x hx => ?_
 have := h es[i] (Array.getElem_mem _)
 split
 ·next e => exact (this _ e).elim
 ·next e => exact (this _ e).elim
 ·exact hx
theorem tok_QEv {S A B : Nat → Prop} {A' : Nat → Prop} {O : Loc → Prop} {sz k : Nat} {fn : FuncId} {pos : String} {es : Array Event} (h : ∀ e ∈ es, QEv A B e) (hA : ∀ b, A b → b < sz ∧ ¬ S b) (hB : ∀ b, B b → b < sz ∧ ¬ S b) (hO : ∀ l b, blk l = some b → A b → O l) :
  ∀ op ∈ MemOp.ofEvents k fn pos es, TOk S (fun b => b < sz ∧ ¬ S b) A' B O k op := by
 intro op hop
 refine ⟨ofEvents_g op hop, fun x hx => ?_⟩
 rw [ofEvents_eq] at hop
 obtain ⟨e, he, rfl⟩ := Array.mem_map.1 hop
 refine ⟨fun b hb => ?_, fun hm => ?_⟩
 ·obtain ⟨_, b', h1, h2⟩ := (h e he).2 x hx (mem_of_blk hb)
  rw [hb] at h1; cases h1
  exact .inl (h2.elim (hA b) fun k => hB b k.2)
 ·obtain ⟨hp, b', h1, h2⟩ := (h e he).2 x hx hm
  refine .inr ⟨?_, hp, ?_⟩
  ·rintro ⟨b2, h3, h4⟩
   rw [h1] at h3; cases h3
   exact h2.elim (fun k => (hA _ k).2 h4) fun k => (hB _ k.2).2 h4
  ·exact h2.imp (hO _ _ h1) fun k => ⟨k.1, b', h1, k.2⟩
theorem nrel_QEv {A B : Nat → Prop} {k : Nat} {fn : FuncId} {pos : String} {es : Array Event} (h : ∀ e ∈ es, QEv A B e) : ∀ op ∈ MemOp.ofEvents k fn pos es, ∀ a, op.act ≠ .mark (.release a) := by
 intro op hop a e2
 rw [ofEvents_eq] at hop
 obtain ⟨e, he, rfl⟩ := Array.mem_map.1 hop
 exact (h e he).1 _ (loc_of_ofEvent e2)
def AtEv (S : Nat → Prop) (e : Event) : Prop := (MemAct.ofEvent e).touch? = none ∨ (∃ a wr, e = ⟨.cell a, wr, true⟩ ∧ S a.block) ∨ ∃ c, e = ⟨.obj c, false, true⟩ ∧ S c
theorem tok_at {S A B : Nat → Prop} {O : Loc → Prop} {T' : Nat → Prop} {k : Nat} {fn : FuncId} {pos : String} {es : Array Event} (h : ∀ e ∈ es, AtEv S e) : ∀ op ∈ MemOp.ofEvents k fn pos es, TOk S T' A B O k op := by
 intro op hop
 refine ⟨ofEvents_g op hop, fun x hx => ?_⟩
 rw [ofEvents_eq] at hop
 obtain ⟨e, he, rfl⟩ := Array.mem_map.1 hop
 rcases h e he with h1 | ⟨a, wr, rfl, h2⟩ | ⟨c, rfl, h2⟩
 ·simp only at hx; rw [h1] at hx; cases hx
 ·have hx' : x = ⟨.cell a, wr, .atomic⟩ := by
   cases wr <;> simp [MemAct.ofEvent, MemAct.touch?] at hx <;> exact hx.symm
  subst hx'
  refine ⟨fun b hb => ?_, fun _ => .inl ⟨⟨a.block, rfl, h2⟩, by simp, by simp⟩⟩
  simp only [blk, Option.some.injEq] at hb
  subst hb
  exact .inr h2
 ·have hx' : x = ⟨.obj c, false, .atomic⟩ := by
   simp [MemAct.ofEvent, MemAct.touch?] at hx; exact hx.symm
  subst hx'
  refine ⟨fun b hb => ?_, fun _ => .inl ⟨⟨c, rfl, h2⟩, by simp, by simp⟩⟩
  simp only [blk, Option.some.injEq] at hb
  subst hb
  exact .inr h2
theorem nrel_at {S : Nat → Prop} {k : Nat} {fn : FuncId} {pos : String} {es : Array Event} (h : ∀ e ∈ es, ∀ a, e.loc ≠ .mark (.release a)) : ∀ op ∈ MemOp.ofEvents k fn pos es, ∀ a, op.act ≠ .mark (.release a) := by
 intro op hop a e2
 rw [ofEvents_eq] at hop
 obtain ⟨e, he, rfl⟩ := Array.mem_map.1 hop
 exact h e he _ (loc_of_ofEvent e2)
/-! ### counting -/
theorem cnt_upd {m i : Nat} (F : Nat → Ph) (p : Ph) (hi : i < m) : cnt m (upd F i p) + cph (F i) = cnt m F + cph p := sumTo_upd F p cph hi
theorem cph_le (p : Ph) : cph p ≤ 1 := by cases p <;> simp [cph]
theorem cnt_le (m : Nat) (F : Nat → Ph) : cnt m F ≤ m := by
 have := sumTo_le (f := fun i => cph (F i)) (c := 1) (j := m) fun i _ => cph_le (F i)
 simpa [cnt] using this
theorem cph_le_cnt {m i : Nat} (F : Nat → Ph) (hi : i < m) : cph (F i) ≤ cnt m F := le_sumTo (f := fun i => cph (F i)) hi
theorem upd_at {α : Type} (f : Nat → α) (i : Nat) (x : α) (j : Nat) : upd f i x j = if j = i then x else f j := rfl
theorem Mode.shift {m : Nat} {F : Nat → Ph} {tag : MTag} {st sm : Int} (h : Mode m F tag st sm) {i : Nat} (hi : i < m) {p : Ph} (h1 : cph (F i) = 1) (h2 : cph p = 1) : Mode m (upd F i p) tag st sm := by
 have ho : openPh p := by cases p <;> simp_all [cph, openPh]
 have hc : cnt m (upd F i p) = cnt m F := by have := cnt_upd F p hi; omega
 have hop : (∀ j, j < m → openPh (F j)) → ∀ j, j < m → openPh (upd F i p j) := fun k j hj => by
  rw [upd_at]; split
  ·exact ho
  ·exact k j hj
 cases h with
 | opn a b c d =>
  rw [← hc]
  exact .opn a (hop b) (fun V e => by rw [hc]; exact c V e) fun V e => by rw [hc]; exact d V e
 | reg a b =>
  rw [← hc]
  exact .reg (hop a) (by rw [hc]; exact b)
 | last L a b c =>
  by_cases e : i = L
  ·subst e; rcases b with b | b | b <;> rw [b] at h1 <;> simp [cph] at h1
  ·rw [c i hi e] at h1; simp [cph] at h1
 | sema a => rw [a i hi] at h1; simp [cph] at h1
 | fin _ a => rw [a i hi] at h1; simp [cph] at h1
theorem out_of_cnt0 {m : Nat} {F : Nat → Ph} (h : ∀ j, j < m → openPh (F j)) (hc : cnt m F = 0) : ∀ j, j < m → F j = .out := fun j hj => by
 have := cph_le_cnt F hj
 rcases h j hj with e | e | e | e | e
 ·rw [e, hc] at this; simp [cph] at this
 ·rw [e, hc] at this; simp [cph] at this
 ·rw [e, hc] at this; simp [cph] at this
 ·rw [e, hc] at this; simp [cph] at this
 ·exact e
theorem Mode.d1 {m : Nat} {F : Nat → Ph} {tag : MTag} {st sm : Int} (h : Mode m F tag st sm) {i : Nat} (hi : i < m) (h1 : F i = .dis) :
  ∃ v wt : Nat, wt ≤ 1 ∧ st = ((v + 1 : Nat) : Int) * KK + (wt : Nat) ∧ sm = 0 ∧ v ≤ m ∧ ((v = 0 ∧ wt = 1) → Mode m (upd F i .d2) tag ((v : Nat) * KK + (wt : Nat)) 0) ∧ (¬ (v = 0 ∧ wt = 1) → Mode m (upd F i .out) tag ((v : Nat) * KK + (wt : Nat)) 0) := by
 have h2 : cph (F i) = 1 := by rw [h1]; rfl
 have hc1 := cph_le_cnt F hi
 have hcm := cnt_le m F
 have hco : cnt m (upd F i .out) + 1 = cnt m F := by have := cnt_upd F .out hi; rw [h2] at this; simpa [cph] using this
 have hop : (∀ j, j < m → openPh (F j)) → ∀ j, j < m → openPh (upd F i .out j) := fun k j hj => by
  rw [upd_at]; split
  ·exact .inr (.inr (.inr (.inr rfl)))
  ·exact k j hj
 cases h with
 | opn a b c d =>
  have hp : pend tag ≤ 1 := by cases tag with
   | sp r p => cases p <;> simp [pend]
   | _ => simp [pend]
  refine ⟨cnt m F + pend tag - 1, 0, by omega, ?_, rfl, by omega, fun e => by omega, fun _ => ?_⟩
  ·rw [show cnt m F + pend tag - 1 + 1 = cnt m F + pend tag by omega]; simp
  ·have := Mode.opn (m := m) (F := upd F i .out) a (hop b) (fun V e => by have := c V e; omega) (fun V e => by have := d V e; omega)
   rw [show cnt m F + pend tag - 1 = cnt m (upd F i .out) + pend tag by omega]
   simpa using this
 | reg a b =>
  refine ⟨cnt m F - 1, 1, by omega, ?_, rfl, by omega, fun e => ?_, fun e => ?_⟩
  ·rw [show cnt m F - 1 + 1 = cnt m F by omega]; rfl
  ·have hall := out_of_cnt0 (hop a) (by omega)
   have := Mode.last (m := m) (F := upd F i .d2) i hi (.inl (upd_same ..)) fun j hj hne => by
    have := hall j hj
    rw [upd_ne _ _ hne] at this ⊢
    exact this
   rw [upd_same, if_neg (by simp)] at this
   simpa [e.1] using this
  ·have := Mode.reg (m := m) (F := upd F i .out) (hop a) (by omega)
   rw [show cnt m F - 1 = cnt m (upd F i .out) by omega]
   exact this
 | last L a b c =>
  by_cases e : i = L
  ·subst e; rw [h1] at b; simp at b
  ·rw [c i hi e] at h1; simp at h1
 | sema a => rw [a i hi] at h1; simp at h1
 | fin _ a => rw [a i hi] at h1; simp at h1
theorem Mode.last_of {m : Nat} {F : Nat → Ph} {tag : MTag} {st sm : Int} (h : Mode m F tag st sm) {i : Nat} (hi : i < m) (h1 : F i = .d2 ∨ F i = .d3 ∨ F i = .d4) :
  tag = .w3 ∧ sm = 0 ∧ (st = if F i = .d4 then 0 else 1) ∧ ∀ j, j < m → j ≠ i → F j = .out := by
 have no : ¬ openPh (F i) := by rcases h1 with e | e | e <;> rw [e] <;> simp [openPh]
 cases h with
 | opn a b c d => exact absurd (b i hi) no
 | reg a b => exact absurd (a i hi) no
 | last L a b c =>
  by_cases e : i = L
  ·subst e; exact ⟨rfl, rfl, rfl, c⟩
  ·exact absurd (.inr (.inr (.inr (.inr (c i hi e))))) no
 | sema a => exact absurd (.inr (.inr (.inr (.inr (a i hi))))) no
 | fin _ a => exact absurd (.inr (.inr (.inr (.inr (a i hi))))) no
theorem Mode.next {m : Nat} {F : Nat → Ph} {tag : MTag} {st sm : Int} (h : Mode m F tag st sm) {i : Nat} (hi : i < m) (h1 : F i = .d2 ∨ F i = .d3 ∨ F i = .d4) {p : Ph} (h2 : p = .d2 ∨ p = .d3 ∨ p = .d4) :
  Mode m (upd F i p) tag (if p = .d4 then 0 else 1) 0 := by
 obtain ⟨rfl, _, _, h5⟩ := h.last_of hi h1
 have := Mode.last (m := m) (F := upd F i p) i hi (by rw [upd_same]; exact h2) fun j hj hne => by rw [upd_ne _ _ hne]; exact h5 j hj hne
 rwa [upd_same] at this
theorem Mode.raise {m : Nat} {F : Nat → Ph} {tag : MTag} {st sm : Int} (h : Mode m F tag st sm) {i : Nat} (hi : i < m) (h1 : F i = .d4) : Mode m (upd F i .out) tag 0 1 := by
 obtain ⟨rfl, _, _, h5⟩ := h.last_of hi (.inr (.inr h1))
 refine .sema fun j hj => ?_
 rw [upd_at]; split
 ·rfl
 ·next e => exact h5 j hj e
theorem RelBy.deaf {a : Addr} {t : Trace} {k r : Nat} (h : RelBy a t k r) (fn : FuncId) (pos : String) {es : Array Event} (hes : ∀ e ∈ es, (MemAct.ofEvent e).touch? = none) : RelBy a (t ++ MemOp.ofEvents k fn pos es) k r :=
 ConcN.RelBy.appOwn h fn pos es fun j e he => .inl (hes e (Array.mem_of_getElem? he))
theorem RelBy.rdwr {a x : Addr} {t : Trace} {k r : Nat} (h : RelBy a t k r) (hd : Deaf t k = 1) (fn : FuncId) (pos : String) {es : Array Event} (hes : es = #[rd x, wr x] ∨ es = #[rd x] ∨ es = #[wr x] ∨ es = semEvents x) : RelBy a (t ++ MemOp.ofEvents k fn pos es) k r := by
 refine ConcN.RelBy.appOwn h fn pos es fun j e he => ?_
 rw [hd]
 rcases hes with rfl | rfl | rfl | rfl
 ·match j, he with
  | 0, he => cases he; exact .inr ⟨⟨x, _, rfl⟩, by simp [deafBehind]⟩
  | 1, he => cases he; exact .inr ⟨⟨x, _, rfl⟩, by simp [deafBehind, rd]⟩
  | j + 2, he => simp at he
 ·match j, he with
  | 0, he => cases he; exact .inr ⟨⟨x, _, rfl⟩, by simp [deafBehind]⟩
  | j + 1, he => simp at he
 ·match j, he with
  | 0, he => cases he; exact .inr ⟨⟨x, _, rfl⟩, by simp [deafBehind]⟩
  | j + 1, he => simp at he
 ·match j, he with
  | 0, he => simp [semEvents] at he; subst he; exact .inl rfl
  | 1, he => simp [semEvents] at he; subst he; exact .inr ⟨⟨x, _, rfl⟩, by simp [deafBehind, semEvents]⟩
  | 2, he => simp [semEvents] at he; subst he; exact .inr ⟨⟨x, _, rfl⟩, by simp [deafBehind, semEvents]⟩
  | 3, he => simp [semEvents] at he; subst he; exact .inl rfl
  | j + 4, he => simp [semEvents] at he
theorem WD.mu_of {d : WD} (h : d.st.ph ≠ .out) : d.mu = (1, d.rk, if d.pk then 0 else 1) := by unfold WD.mu; rw [if_neg h]
theorem WD.mu_out {d : WD} (h : d.st.ph = .out) : d.mu = (0, .leaf, d.q) := by unfold WD.mu; rw [if_pos h]
theorem wlt_tree {d d' : WD} (h : d.st.ph ≠ .out) (h' : d'.st.ph ≠ .out) (hl : RT.Lt d'.rk d.rk) : WLt d'.mu d.mu := by
 rw [WD.mu_of h, WD.mu_of h']; exact Prod.Lex.right _ (Prod.Lex.left _ _ hl)
theorem wlt_out {d d' : WD} (h : d.st.ph ≠ .out) (h' : d'.st.ph = .out) : WLt d'.mu d.mu := by
 rw [WD.mu_of h, WD.mu_out h']; exact Prod.Lex.left _ _ (by omega)
end Go.Mx
namespace Go.Mx
open Go Go.Conc
open Go.ConcN (WgLive sumTo upd upd_same upd_ne sumTo_congr sumTo_upd le_sumTo sumTo_le Deaf_absent fork_knows RelBy get_map_set get_map_set_same)
open Go.ConcR (KK WgAt stA smA rd wr mk g_of_ofEvents loc_of_ofEvent)
section
variable {G : Geo} {P : Program} {Fin : Goroutine → Prop} {S : Nat → Prop} {W0 : World} {j0 r0 m : Nat} {gs : Array Goroutine} {w w' : World} {t : Trace} {s : MS} {rm : RT MS} {fl : MFl} {D : Nat → WD} {st sm : Int} {Q : Nat → Nat} {sl : Option (Nat × Nat)}
def Goal (G : Geo) (P : Program) (Fin : Goroutine → Prop) (S : Nat → Prop) (W0 : World) (j0 r0 : Nat) (gs : Array Goroutine) (w : World) (sl : Option (Nat × Nat)) (t : Trace) (μ : RT MS × List (Nat × RT WS × Nat) × Nat) (i : Nat) : Prop :=
 ∃ m1 ops μ', runT P (crowd gs w sl) i = (.next m1, ops) ∧ MLt μ' μ ∧ RI G P Fin S W0 j0 r0 μ' m1 (t ++ ops)
theorem wgAt_of {ty : TypeId} {Wg : Nat} {w w' : World} {st sm : Int} (h : WgAt ty Wg w st sm) (e : w'.heap[Wg]? = w.heap[Wg]?) : WgAt ty Wg w' st sm := e.trans h
theorem wStep2 (h : RInv G P Fin S W0 j0 r0 m gs w t s rm fl D st sm Q) {i : Nat} (hi : i < m) {g g' : Goroutine} {es : Array Event} (hg : gs[j0 + i]? = some g) (hgo : stepG P false g w = .go g' w' es) {d' : WD} {st' sm' : Int}
  (hpk : d'.pk = false) (hw : WAt G P d' (deafBehind (Deaf t (j0 + i)) es) g' w') (hone : One G.Wg w w') (hlive : WgLive G.ty G.Wg w → WgLive G.ty G.Wg w') (hmu : WLt d'.mu (D i).mu)
  (hwg : WgAt G.ty G.Wg w' st' sm') (hmode : Mode m (upd (dP D) i d'.st.ph) s.tag st' sm') (hsm : sm' = 1 → sm = 1 ∨ (mayWake P g = true ∧ g'.status = .running))
  (hM : d'.st.M = (D i).st.M) (hH : d'.st.H = (D i).st.H) (hX : d'.st.S = (D i).st.S)
  (hbud : d'.st.ph = .run → G.N ≤ sent G s.tag + d'.st.k)
  (hrl : d'.st.ph ≠ .run → d'.st.ph ≠ .shut → (∃ r, RelBy (stA G.Wg) (t ++ MemOp.ofEvents (j0 + i) g.frame.fn g.frame.place es) (j0 + i) r) ∧ ∀ x, d'.st.H x → d'.st.S x)
  (hopn : clo s.tag = false → d'.st.ph = .run)
  (hes : ∀ e ∈ es, AtEv S e) (hnr : ∀ e ∈ es, ∀ a, e.loc ≠ .mark (.release a)) : Goal G P Fin S W0 j0 r0 gs w sl t (muOf j0 m D rm fl Q) (j0 + i) := by
 have nbW : ¬ G.base G.Wg := fun e => h.gk.bs _ e h.gk.sW
 have nO : G.Wg ≠ G.O := fun e => h.gk.so (e ▸ h.gk.sW)
 have hr0 : Rel G (fun _ => False) w w' := Rel.one hone nbW id (fun _ => hlive) fun e => absurd e nO
 have hrw : ∀ j, j < m → j ≠ i → Rel G (D j).st.M w w' := fun j hj _ => Rel.one hone nbW (fun e => (h.hp.own j _ hj e).2.2.1 h.gk.sW) (fun _ => hlive) fun e => absurd e nO
 have hp := h.hp.one h.gk hone hr0
 refine wStep h hi hg hgo hpk hw hrw hr0 hmu hwg hmode hsm ?_ (fun b hb => by rw [hM]; exact hb) (fun b hb => by rw [hH]; exact hb) hbud hrl hopn (tok_at hes) (nrel_at (S := S) hnr)
 rw [hM, hH, hX]
 have e1 : upd (dM D) i (D i).st.M = dM D := upd_self (dM D) i
 have e2 : upd (dH D) i (D i).st.H = dH D := upd_self (dH D) i
 have e3 : upd (dX D) i (D i).st.S = dX D := upd_self (dX D) i
 rw [e1, e2, e3]
 exact hp
theorem One.refl (b0 : Nat) (w : World) : One b0 w w := ⟨fun _ _ => rfl, rfl, rfl, rfl, rfl⟩
theorem worker_act (h : RInv G P Fin S W0 j0 r0 m gs w t s rm fl D st sm Q) {i : Nat} (hi : i < m) {g : Goroutine} (hg : gs[j0 + i]? = some g) {f : WS → RT WS} (hrk : (D i).rk = .node f) (hout : (D i).st.ph ≠ .out) (hpk : (D i).pk = false)
    (hs : ∀ w, stepG P false g w = stepG P false (D i).st.g w) (hmw : mayWake P g = mayWake P (D i).st.g) (hdf : Deaf t (j0 + i) = dph (D i).st.ph) (ha : ActW G P (fun s1 => BehW G P (f s1) s1) { (D i).st with w := w }) : Goal G P Fin S W0 j0 r0 gs w sl t (muOf j0 m D rm fl Q) (j0 + i) := by
  have hdP : ∀ {p}, (D i).st.ph = p → upd (dP D) i p = dP D := fun {p} e => by have := upd_self (dP D) i; rwa [show dP D i = p from e] at this
  have bM : ∀ b, (D i).st.M b → b < w.heap.size ∧ ¬ G.base b ∧ ¬ S b ∧ b ≠ G.O := fun b hb => h.hp.own i b hi hb
  have rt : ∀ s1 : WS, RT.Lt (f s1) (.node f) := fun s1 => ⟨s1, rfl⟩
  cases ha with
  | @quiet g' w' es h1 h2 h3 h4 h5 h6 =>
    simp only at h1 h2 h3 h4 h5 h6
    have nW : ¬ (D i).st.M G.Wg := fun e => (bM _ e).2.2.1 h.gk.sW
    have nO : ¬ (D i).st.M G.O := fun e => (bM _ e).2.2.2 rfl
    have hrel : ∀ M : Nat → Prop, (∀ b, M b → b < w.heap.size ∧ ¬ (D i).st.M b) → Rel G M w w' := fun M hM => Rel.gu h4 (fun b hb => hb.elim (fun k => ⟨h.hp.base b k, fun e => (bM b e).2.1 k⟩) (hM b)) nW nO
    have hr0 := hrel (fun _ => False) fun b hb => hb.elim
    have hdl : ∀ e ∈ es, ∀ mk, e.loc = .mark mk → dullMark mk := fun e he => (h5 e he).1
    refine wStep h hi hg ((hs w).trans h2) (d' := ⟨{ (D i).st with g := g', w := w', M := growM (D i).st.M w w' }, f { (D i).st with g := g', w := w', M := growM (D i).st.M w w' }, false, (D i).q⟩)
      rfl (.run hout rfl h3 (fun _ => rfl) rfl h6 (by rw [deafBehind_dull hdl, hdf])) (fun j hj hne => hrel _ fun b hb => ⟨(h.hp.own j b hj hb).1, fun e => hne (h.hp.dis j i b hj hi hb e)⟩) hr0 (wlt_tree hout hout (by rw [hrk]; exact rt _))
      (wgAt_of h.wg (h4.old _ (h.hp.sb _ h.gk.sW) nW)) (by simp only; rw [hdP rfl]; exact h.mode) (fun e => .inl e) ?_ (fun b hb => .inl hb) (fun x hx => hx) (fun e => h.bud i hi e) (fun e e2 => (h1.elim e e2).elim) (fun e => h.opn e i hi) ?_ (nrel_QEv h5)
    · have := h.hp.gu h.gk hi h4 hr0
      have e2 : upd (dH D) i (D i).st.H = dH D := upd_self (dH D) i
      have e3 : upd (dX D) i (D i).st.S = dX D := upd_self (dX D) i
      simp only
      rw [e2, e3]
      exact this
    · refine tok_QEv h5 (fun b hb => ?_) (fun b hb => ⟨Nat.lt_of_lt_of_le (h.hp.base b hb) h4.size, h.gk.bs b hb⟩) fun l b hl hb => .inl ⟨b, hl, hb⟩
      rcases hb with hb | ⟨k1, k2⟩
      · exact ⟨Nat.lt_of_lt_of_le (bM b hb).1 h4.size, (bM b hb).2.2.1⟩
      · exact ⟨k2, fun k => by have := h.hp.sb b k; omega⟩
  | @idle g' h1 h2 h3 h4 =>
    simp only at h1 h2 h3 h4
    refine wStep2 h hi hg ((hs w).trans h2) (d' := ⟨{ (D i).st with g := g', w := w }, f { (D i).st with g := g', w := w }, false, (D i).q⟩)
      rfl (.run h1 rfl h3 (fun _ => rfl) rfl h4 (by rw [← hdf]; rfl)) (One.refl ..) id (wlt_tree h1 h1 (by rw [hrk]; exact rt _)) h.wg (by simp only; rw [hdP rfl]; exact h.mode) (fun e => .inl e) rfl rfl rfl (fun e => h.bud i hi e) (fun e e2 => ?_) (fun e => h.opn e i hi) (by simp) (by simp)
    obtain ⟨⟨r, hr⟩, hx⟩ := h.rl i hi e e2
    exact ⟨⟨r, RelBy.deaf hr _ _ (by simp)⟩, hx⟩
  | @store g' x h1 h2 h3 h4 h5 h6 =>
    simp only at h1 h2 h3 h4 h5 h6
    have ho := One.setCell w (oCell G x) (G.ans x)
    have hrel : ∀ M : Nat → Prop, ¬ M G.O → Rel G M w (w.setCell (oCell G x) (G.ans x)) := fun M hM => Rel.one ho h.gk.bo hM (fun e => absurd (show G.O = G.Wg from e) fun e => h.gk.so (e ▸ h.gk.sW)) fun _ k => k.set x _
    have nO : G.Wg ≠ G.O := fun e => h.gk.so (e ▸ h.gk.sW)
    refine wStep h hi hg ((hs w).trans h4) (d' := ⟨{ (D i).st with g := g', w := w.setCell (oCell G x) (G.ans x), S := fun j => (D i).st.S j ∨ j = x }, f { (D i).st with g := g', w := w.setCell (oCell G x) (G.ans x), S := fun j => (D i).st.S j ∨ j = x }, false, (D i).q⟩)
      rfl (.run (by simp [h1]) rfl h5 (fun _ => rfl) rfl h6 (by rw [hdf]; simp [deafBehind])) (fun j hj hne => hrel _ fun e => (h.hp.own j _ hj e).2.2.2 rfl) (hrel _ id) (wlt_tree (by simp [h1]) (by simp [h1]) (by rw [hrk]; exact rt _))
      (wgAt_of h.wg (ho.block _ nO)) (by simp only; rw [hdP rfl]; exact h.mode) (fun e => .inl e) ?_ (fun b hb => hb) (fun x hx => hx) (fun _ => h.bud i hi h1) (fun e _ => absurd h1 e) (fun _ => h1) ?_ (nrel_at (S := S) (by simp))
    · have := h.hp.store h.gk hi h3 (hrel _ id)
      have e1 : upd (dM D) i (D i).st.M = dM D := upd_self (dM D) i
      have e2 : upd (dH D) i (D i).st.H = dH D := upd_self (dH D) i
      simp only
      rw [e1, e2]
      exact this
    · intro op hop
      refine ⟨ofEvents_g op hop, fun z hz => ?_⟩
      rw [ofEvents_eq] at hop
      obtain ⟨e, he, rfl⟩ := Array.mem_map.1 hop
      have : e = ⟨.cell (oCell G x), true, false⟩ := by simpa using he
      subst this
      have hz' : z = ⟨.cell (oCell G x), true, .plain⟩ := by simp [MemAct.ofEvent, MemAct.touch?] at hz; exact hz.symm
      subst hz'
      refine ⟨fun b hb => ?_, fun _ => .inr ⟨?_, rfl, .inl (.inr ⟨x, rfl, h2⟩)⟩⟩
      · have : b = G.O := by simpa [blk, oCell] using hb.symm
        subst this
        exact .inl ⟨by rw [ho.size]; exact h.hp.oLt, h.gk.so⟩
      · rintro ⟨b, hb, hS⟩
        have : b = G.O := by simpa [blk, oCell] using hb.symm
        subst this
        exact h.gk.so hS
  | @rel g' h1 h2 h3 h4 h5 =>
    simp only at h1 h2 h3 h4 h5
    have hd0 : Deaf t (j0 + i) = 0 := by rw [hdf, h1]; rfl
    refine wStep2 h hi hg ((hs w).trans h3) (d' := ⟨{ (D i).st with ph := .rel, g := g', w := w }, f { (D i).st with ph := .rel, g := g', w := w }, false, (D i).q⟩)
      rfl (.run (by simp) rfl h4 (fun _ => rfl) rfl h5 (by rw [hd0]; simp [deafBehind, mk, dph])) (One.refl ..) id (wlt_tree (by simp [h1]) (by simp) (by rw [hrk]; exact rt _)) h.wg (h.mode.shift hi (by rw [show dP D i = .shut from h1]; rfl) rfl) (fun e => .inl e) rfl rfl rfl (fun e => by cases e) (fun _ _ => ⟨⟨_, ConcN.RelBy.new hd0 _ _⟩, h2⟩) (fun e => by have := h.opn e i hi; rw [h1] at this; cases this) ?_ ?_
    · intro e he; simp at he; subst he; exact .inl rfl
    · intro e he a; simp at he; subst he; simp [mk]
  | @dis g' h1 h2 h3 h4 =>
    simp only at h1 h2 h3 h4
    obtain ⟨⟨r, hr⟩, hx⟩ := h.rl i hi (by simp [h1]) (by simp [h1])
    refine wStep2 h hi hg ((hs w).trans h2) (d' := ⟨{ (D i).st with ph := .dis, g := g', w := w }, f { (D i).st with ph := .dis, g := g', w := w }, false, (D i).q⟩)
      rfl (.run (by simp) rfl h3 (fun _ => rfl) rfl h4 (by rw [hdf, h1]; simp [deafBehind, mk, dph])) (One.refl ..) id (wlt_tree (by simp [h1]) (by simp) (by rw [hrk]; exact rt _)) h.wg (h.mode.shift hi (by rw [show dP D i = .rel from h1]; rfl) rfl) (fun e => .inl e) rfl rfl rfl (fun e => by cases e) (fun _ _ => ⟨⟨r, RelBy.deaf hr _ _ (by simp [mk, MemAct.ofEvent, MemAct.touch?])⟩, hx⟩) (fun e => by have := h.opn e i hi; rw [h1] at this; cases this) ?_ ?_
    · intro e he; simp at he; subst he; exact .inl rfl
    · intro e he a; simp at he; subst he; simp [mk]
  | d1 h1 h2 =>
    simp only at h1 h2
    obtain ⟨⟨r, hr⟩, hx⟩ := h.rl i hi (by simp [h1]) (by simp [h1])
    obtain ⟨v, wt, k1, k2, k3, k4, k5, k6⟩ := h.mode.d1 hi (show dP D i = .dis from h1)
    have hwg := h.wg
    rw [k2, k3] at hwg
    have hd1 : Deaf t (j0 + i) = 1 := by rw [hdf, h1]; rfl
    obtain ⟨g', c1, c2, c3⟩ := h2 v wt k1 (by have := h.big; omega) hwg
    have hone := One.setCell w (stA G.Wg) (.int .u64 ((v : Nat) * KK + (wt : Nat)))
    have hwg' : WgAt G.ty G.Wg (w.setCell (stA G.Wg) (.int .u64 ((v : Nat) * KK + (wt : Nat)))) ((v : Nat) * KK + (wt : Nat)) 0 := ConcR.WgAt.setSt hwg _
    have hev : ∀ e ∈ #[rd (stA G.Wg), wr (stA G.Wg)], AtEv S e := by
      intro e he; simp at he
      rcases he with rfl | rfl <;> exact .inr (.inl ⟨_, _, rfl, h.gk.sW⟩)
    have hnr : ∀ e ∈ #[rd (stA G.Wg), wr (stA G.Wg)], ∀ a, e.loc ≠ .mark (.release a) := by
      intro e he a; simp at he
      rcases he with rfl | rfl <;> simp [rd, wr]
    by_cases hv : v = 0 ∧ wt = 1
    · obtain ⟨c4, c5⟩ := c2 hv
      exact wStep2 h hi hg ((hs w).trans c1) (d' := ⟨{ (D i).st with ph := .d2, g := g', w := w.setCell (stA G.Wg) (.int .u64 ((v : Nat) * KK + (wt : Nat))) }, f { (D i).st with ph := .d2, g := g', w := w.setCell (stA G.Wg) (.int .u64 ((v : Nat) * KK + (wt : Nat))) }, false, (D i).q⟩)
        rfl (.run (by simp) rfl c4 (fun _ => rfl) rfl c5 (by rw [hd1]; simp [deafBehind, rd, wr, dph])) hone (fun _ => WgAt.live hwg') (wlt_tree (by simp [h1]) (by simp) (by rw [hrk]; exact rt _)) hwg' (k5 hv) (fun e => by cases e) rfl rfl rfl (fun e => by cases e) (fun _ _ => ⟨⟨r, RelBy.rdwr hr hd1 _ _ (.inl rfl)⟩, hx⟩) (fun e => by have := h.opn e i hi; rw [h1] at this; cases this) hev hnr
    · obtain ⟨q, c4⟩ := c3 hv
      exact wStep2 h hi hg ((hs w).trans c1) (d' := ⟨{ (D i).st with ph := .out, g := g', w := w.setCell (stA G.Wg) (.int .u64 ((v : Nat) * KK + (wt : Nat))) }, .leaf, false, q⟩)
        rfl (.out rfl rfl (by rw [hd1]; simp [deafBehind, rd, wr]; exact c4)) hone (fun _ => WgAt.live hwg') (wlt_out (by simp [h1]) (by simp)) hwg' (k6 hv) (fun e => by cases e) rfl rfl rfl (fun e => by cases e) (fun _ _ => ⟨⟨r, RelBy.rdwr hr hd1 _ _ (.inl rfl)⟩, hx⟩) (fun e => by have := h.opn e i hi; rw [h1] at this; cases this) hev hnr
  | d2 h1 h2 =>
    simp only at h1 h2
    obtain ⟨⟨r, hr⟩, hx⟩ := h.rl i hi (by simp [h1]) (by simp [h1])
    have hd1 : Deaf t (j0 + i) = 1 := by rw [hdf, h1]; rfl
    obtain ⟨_, k2, k3, _⟩ := h.mode.last_of hi (.inl (show dP D i = .d2 from h1))
    have hwg := h.wg
    rw [k2, k3, show dP D i = .d2 from h1, if_neg (by simp)] at hwg
    obtain ⟨g', c1, c2, c3⟩ := h2 hwg
    have hmode := h.mode.next hi (.inl (show dP D i = .d2 from h1)) (p := .d3) (by simp)
    rw [if_neg (by simp)] at hmode
    refine wStep2 h hi hg ((hs w).trans c1) (d' := ⟨{ (D i).st with ph := .d3, g := g', w := w }, f { (D i).st with ph := .d3, g := g', w := w }, false, (D i).q⟩)
      rfl (.run (by simp) rfl c2 (fun _ => rfl) rfl c3 (by rw [hd1]; simp [deafBehind, rd, dph])) (One.refl ..) id (wlt_tree (by simp [h1]) (by simp) (by rw [hrk]; exact rt _)) hwg hmode (fun e => by cases e) rfl rfl rfl (fun e => by cases e) (fun _ _ => ⟨⟨r, RelBy.rdwr hr hd1 _ _ (.inr (.inl rfl))⟩, hx⟩) (fun e => by have := h.opn e i hi; rw [h1] at this; cases this) ?_ ?_
    · intro e he; simp at he; subst he; exact .inr (.inl ⟨_, _, rfl, h.gk.sW⟩)
    · intro e he a; simp at he; subst he; simp [rd]
  | d3 h1 h2 =>
    simp only at h1 h2
    obtain ⟨⟨r, hr⟩, hx⟩ := h.rl i hi (by simp [h1]) (by simp [h1])
    have hd1 : Deaf t (j0 + i) = 1 := by rw [hdf, h1]; rfl
    obtain ⟨_, k2, k3, _⟩ := h.mode.last_of hi (.inr (.inl (show dP D i = .d3 from h1)))
    have hwg := h.wg
    rw [k2, k3, show dP D i = .d3 from h1, if_neg (by simp)] at hwg
    obtain ⟨g', c1, c2, c3⟩ := h2 hwg
    have hmode := h.mode.next hi (.inr (.inl (show dP D i = .d3 from h1))) (p := .d4) (by simp)
    rw [if_pos rfl] at hmode
    have hwg' := ConcR.WgAt.setSt hwg 0
    have hone : One G.Wg w _ := One.setCell w (stA G.Wg) (.int .u64 0)
    refine wStep2 h hi hg ((hs w).trans c1) (d' := ⟨{ (D i).st with ph := .d4, g := g', w := w.setCell (stA G.Wg) (.int .u64 0) }, f { (D i).st with ph := .d4, g := g', w := w.setCell (stA G.Wg) (.int .u64 0) }, false, (D i).q⟩)
      rfl (.run (by simp) rfl c2 (fun _ => rfl) rfl c3 (by rw [hd1]; simp [deafBehind, wr, dph])) hone (fun _ => WgAt.live hwg') (wlt_tree (by simp [h1]) (by simp) (by rw [hrk]; exact rt _)) hwg' hmode (fun e => by cases e) rfl rfl rfl (fun e => by cases e) (fun _ _ => ⟨⟨r, RelBy.rdwr hr hd1 _ _ (.inr (.inr (.inl rfl)))⟩, hx⟩) (fun e => by have := h.opn e i hi; rw [h1] at this; cases this) ?_ ?_
    · intro e he; simp at he; subst he; exact .inr (.inl ⟨_, _, rfl, h.gk.sW⟩)
    · intro e he a; simp at he; subst he; simp [wr]
  | d4 h1 h2 h3 =>
    simp only at h1 h2 h3
    obtain ⟨⟨r, hr⟩, hx⟩ := h.rl i hi (by simp [h1]) (by simp [h1])
    have hd1 : Deaf t (j0 + i) = 1 := by rw [hdf, h1]; rfl
    obtain ⟨_, k2, k3, _⟩ := h.mode.last_of hi (.inr (.inr (show dP D i = .d4 from h1)))
    have hwg := h.wg
    rw [k2, k3, show dP D i = .d4 from h1, if_pos rfl] at hwg
    obtain ⟨g', c1, q, c2⟩ := h3 hwg
    have hwg' := ConcR.WgAt.setSm hwg 1
    have hone : One G.Wg w _ := One.setCell w (smA G.Wg) (.int .u32 1)
    have hrun : g'.status = .running := by
      cases q with
      | zero => have := c2.2; cases this
      | succ q => rcases c2 with c2 | c2
                  · have := c2.2; cases this
                  · exact c2.1
    refine wStep2 h hi hg ((hs w).trans c1) (d' := ⟨{ (D i).st with ph := .out, g := g', w := w.setCell (smA G.Wg) (.int .u32 1) }, .leaf, false, q⟩)
      rfl (.out rfl rfl (by rw [hd1]; simp [deafBehind, semEvents]; exact c2)) hone (fun _ => WgAt.live hwg') (wlt_out (by simp [h1]) (by simp)) hwg' (h.mode.raise hi (show dP D i = .d4 from h1)) (fun _ => .inr ⟨by rw [hmw]; exact h2, hrun⟩) rfl rfl rfl (fun e => by cases e) (fun _ _ => ⟨⟨r, RelBy.rdwr hr hd1 _ _ (.inr (.inr (.inr rfl)))⟩, hx⟩) (fun e => by have := h.opn e i hi; rw [h1] at this; cases this) ?_ ?_
    · intro e he; simp [semEvents] at he
      rcases he with rfl | rfl | rfl | rfl
      · exact .inl rfl
      · exact .inr (.inl ⟨_, _, rfl, h.gk.sW⟩)
      · exact .inr (.inl ⟨_, _, rfl, h.gk.sW⟩)
      · exact .inl rfl
    · intro e he a; simp [semEvents] at he
      rcases he with rfl | rfl | rfl | rfl <;> simp
end
end Go.Mx
namespace Go.Mx
open Go Go.Conc
open Go.ConcN (WgLive sumTo upd upd_same upd_ne sumTo_congr sumTo_upd le_sumTo sumTo_le Deaf_absent fork_knows RelBy get_map_set get_map_set_same)
open Go.ConcR (KK WgAt stA smA rd wr mk g_of_ofEvents loc_of_ofEvent)
theorem RelBy.mute {a : Addr} {t u : Trace} {k r : Nat} (h : RelBy a t k r) (hu : Mx.mute u) : RelBy a (t ++ u) k r := by
 refine ConcN.RelBy.app h fun i hi _ hc => ?_
 obtain ⟨x, hx, _⟩ := hc
 have := (touchAt_mute hu hx).1
 omega
def Plain (n : Nat) (u : Trace) : Prop := ∀ op ∈ u, op.g < n ∧ op.act.touch? = none ∧ ∀ mk, op.act ≠ .mark mk
theorem Plain.mute {n : Nat} {u : Trace} (h : Plain n u) : Mx.mute u := fun op hop => (h op hop).2.1
theorem Plain.deaf {n : Nat} {t u : Trace} (h : Plain n u) (k : Nat) : Deaf (t ++ u) k = Deaf t k := ConcN.Deaf_still t k u fun op hop => ⟨(h op hop).2.2 _, (h op hop).2.2 _⟩
section
variable {G : Geo} {P : Program} {Fin : Goroutine → Prop} {S : Nat → Prop} {W0 : World} {j0 r0 m : Nat} {gs : Array Goroutine} {w w' : World} {t : Trace} {s : MS} {rm : RT MS} {fl : MFl} {D : Nat → WD} {st sm : Int} {Q : Nat → Nat} {sl : Option (Nat × Nat)}
theorem QuitsD.nrel {es : Array Event} (hm : ∀ e ∈ es, Event.mute e = true) : ∀ e ∈ es, ∀ a, e.loc ≠ .mark (.release a) := by
 intro e he a h
 have := hm e he
 obtain ⟨loc, wr, sy⟩ := e
 simp only at h
 subst h
 simp [Event.mute] at this
theorem worker_out (h : RInv G P Fin S W0 j0 r0 m gs w t s rm fl D st sm Q) {i : Nat} (hi : i < m) {g : Goroutine} (hg : gs[j0 + i]? = some g) (hph : (D i).st.ph = .out) (hpk : (D i).pk = false) (hq : QuitsD P (D i).q (Deaf t (j0 + i)) g) (hr : g.status = .running) : Goal G P Fin S W0 j0 r0 gs w sl t (muOf j0 m D rm fl Q) (j0 + i) := by
 generalize hqe : (D i).q = q at hq
 cases q with
 | zero => rw [hq.1] at hr; cases hr
 | succ q =>
  rcases hq with hq | ⟨_, g', es, hm, hst, hq⟩
  ·rw [hq.1] at hr; cases hr
  ·obtain ⟨⟨r, hr1⟩, hx⟩ := h.rl i hi (by simp [hph]) (by simp [hph])
   have hdP : upd (dP D) i .out = dP D := by have := upd_self (dP D) i; rwa [show dP D i = .out from hph] at this
   refine wStep2 h hi hg (hst w) (d' := ⟨(D i).st, .leaf, false, q⟩) rfl (.out hph rfl hq) (One.refl ..) id ?_ h.wg (by simp only [hph]; rw [hdP]; exact h.mode) (fun e => .inl e) rfl rfl rfl (fun e => by rw [hph] at e; cases e) (fun _ _ => ⟨⟨r, RelBy.deaf hr1 _ _ fun e he => mute_touch (hm e he)⟩, hx⟩) (fun e => h.opn e i hi) (fun e he => .inl (mute_touch (hm e he))) (QuitsD.nrel hm)
   rw [WD.mu_out hph, WD.mu_out (d := ⟨(D i).st, .leaf, false, q⟩) hph, hqe]
   exact Prod.Lex.right _ (Prod.Lex.right _ (by simp))
theorem old_step (h : RInv G P Fin S W0 j0 r0 m gs w t s rm fl D st sm Q) {k : Nat} (k1 : 1 ≤ k) (k2 : k < j0) {g : Goroutine} (hg : gs[k]? = some g) (hr : g.status = .running) : Goal G P Fin S W0 j0 r0 gs w sl t (muOf j0 m D rm fl Q) k := by
 obtain ⟨g2, h1, h2⟩ := h.lv k k1 k2
 rw [hg] at h1; cases h1
 obtain ⟨q', g', es, hq1, hq2, hm, _, hrT⟩ := leaver_step (w := w) (sl := sl) (by omega) hg h2 hr
 have hmu : mute (MemOp.ofEvents k g.frame.fn g.frame.place es) := mute_ofEvents fun e he => mute_touch (hm e he)
 have hgn : ∀ op ∈ MemOp.ofEvents k g.frame.fn g.frame.place es, op.g < j0 + m := fun op hop => by rw [ofEvents_g op hop]; omega
 obtain ⟨a, ha, hma⟩ := h.mn
 have hopen : clo s.tag = false → ∃ s r tm, w.heap[G.Ch]? = some (.chan 0 #[] false s r tm) := fun e => by
  obtain ⟨s1, r1, hc⟩ := h.hp.ch
  rw [e] at hc
  exact ⟨s1, r1, _, hc⟩
 obtain ⟨fl', hma', hfl, _⟩ := hma.woken g g' fun e => hopen (h.pkt e)
 have hpark : fl' = .park → fl = .park := fun e => by
  rcases hfl with e2 | ⟨_, e2⟩
  ·exact e2 ▸ e
  ·rw [e2] at e; cases e
 have hsum : sumTo j0 (upd Q k q') + Q k = sumTo j0 Q + q' := sumTo_upd Q q' id k2
 have hnum : fl'.num + 2 * sumTo j0 (upd Q k q') < fl.num + 2 * sumTo j0 Q := by
  have : fl'.num ≤ fl.num + 1 := by cases fl' <;> simp [MFl.num]
  omega
 refine ⟨_, _, muOf j0 m D rm fl' (upd Q k q'), hrT, Prod.Lex.right _ (Prod.Lex.right _ hnum), m, _, w, sl, s, rm, fl', D, st, sm, _, rfl, ?_, rfl⟩
 refine ⟨h.gk, h.j1, by simp [h.sz], by simp only [Array.size_append]; have := h.rt; omega, ⟨_, by rw [get_map_set' _ _ _ _ _ (by omega), ha]; rfl, hma'⟩, fun j hj => ?_, fun i i1 i2 => ?_, ?_, ?_, h.wg, h.mode, fun e => ?_, h.hp, h.bud, fun j hj he hes => ?_, h.opn, fun e j hj => h.npk (e.imp id hpark) j hj, fun e => h.pkt (hpark e), h.m1, h.big⟩
 ·obtain ⟨g2, hg2, hw2⟩ := h.wk j hj
  refine ⟨g2, ?_, by rw [deaf_leaver, if_neg (by omega)]; exact hw2⟩
  rw [get_map_set' _ _ _ _ _ (by omega), hg2]
  simp only [Option.map_some, Option.some.injEq]
  refine hw2.woken fun hpk2 => hopen ?_
  cases hcl : clo s.tag with
  | false => rfl
  | true => rw [h.npk (.inl hcl) j hj] at hpk2; cases hpk2
 ·by_cases e : i = k
  ·subst e
   exact ⟨g', get_map_set_same' _ _ _ _ (by rw [h.sz]; omega), by rw [deaf_leaver, if_pos rfl, upd_same]; exact hq2⟩
  ·obtain ⟨g3, h3, h4⟩ := h.lv i i1 i2
   exact ⟨g3, by rw [get_map_set' _ _ _ _ _ (fun e2 => e e2.symm), h3]; simp [woken_quitsD h4], by rw [deaf_leaver, if_neg e, upd_ne _ _ e]; exact h4⟩
 ·exact h.tr.mute h.rt (fun b hb => hb) (fun k l _ hl => hl) hmu hgn (nrel_at (S := S) (QuitsD.nrel hm))
 ·rw [deaf_leaver, if_neg (by omega)]; exact h.d0
 ·have := h.sem e
  rcases hfl with e2 | ⟨e2, _⟩
  ·exact e2.trans this
  ·rw [this] at e2; cases e2
 ·obtain ⟨⟨r, hr1⟩, hr2⟩ := h.rl j hj he hes
  exact ⟨⟨r, RelBy.mute hr1 hmu⟩, hr2⟩
theorem set_worker (h : RInv G P Fin S W0 j0 r0 m gs w t s rm fl D st sm Q) {i : Nat} (hi : i < m) {u : Trace} (hu : Plain (j0 + m) u) {d' : WD} {g' : Goroutine} (hw : WAt G P d' (Deaf t (j0 + i)) g' w) (hM : d'.st.M = (D i).st.M) (hH : d'.st.H = (D i).st.H) (hX : d'.st.S = (D i).st.S)
  (hmode : Mode m (upd (dP D) i d'.st.ph) s.tag st sm) (hbud : d'.st.ph = .run → G.N ≤ sent G s.tag + d'.st.k) (hrl : d'.st.ph = .run ∨ d'.st.ph = .shut) (hopn : clo s.tag = false → d'.st.ph = .run) (hnpk : (clo s.tag = true ∨ fl = .park) → d'.pk = false) :
  RInv G P Fin S W0 j0 r0 m (gs.setIfInBounds (j0 + i) g') w (t ++ u) s rm fl (upd D i d') st sm Q := by
 have hj1 := h.j1
 obtain ⟨a, ha, hma⟩ := h.mn
 have e1 : dM (upd D i d') = dM D := by rw [dM_upd, hM]; exact upd_self (dM D) i
 have e2 : dH (upd D i d') = dH D := by rw [dH_upd, hH]; exact upd_self (dH D) i
 have e3 : dX (upd D i d') = dX D := by rw [dX_upd, hX]; exact upd_self (dX D) i
 refine ⟨h.gk, h.j1, by simp [h.sz], by simp only [Array.size_append]; have := h.rt; omega, ⟨a, by rw [Array.getElem?_setIfInBounds_ne (by omega)]; exact ha, hma⟩, fun j hj => ?_, fun k k1 k2 => ?_, ?_, by rw [hu.deaf]; exact h.d0, h.wg, by rw [dP_upd]; exact hmode, h.sem, by rw [e1, e2, e3]; exact h.hp, fun j hj he => ?_, fun j hj he hes => ?_, fun e j hj => ?_, fun e j hj => ?_, h.pkt, h.m1, h.big⟩
 ·rw [hu.deaf]
  by_cases e : j = i
  ·subst e
   exact ⟨g', by simp [h.sz, hj], by rw [upd_same]; exact hw⟩
  ·rw [Array.getElem?_setIfInBounds_ne (by omega), upd_ne _ _ e]
   exact h.wk j hj
 ·rw [hu.deaf, Array.getElem?_setIfInBounds_ne (by omega)]
  exact h.lv k k1 k2
 ·rw [e1, e2]
  exact h.tr.mute h.rt (fun b hb => hb) (fun k l _ hl => hl) hu.mute (fun op hop => (hu op hop).1) fun op hop a => (hu op hop).2.2 _
 ·by_cases e : j = i
  ·subst e; rw [upd_same] at he ⊢; exact hbud he
  ·rw [upd_ne _ _ e] at he ⊢; exact h.bud j hj he
 ·by_cases e : j = i
  ·subst e; rw [upd_same] at he hes; exact (hrl.elim he hes).elim
  ·rw [upd_ne _ _ e] at he hes ⊢
   obtain ⟨⟨r, hr1⟩, hr2⟩ := h.rl j hj he hes
   exact ⟨⟨r, RelBy.mute hr1 hu.mute⟩, hr2⟩
 ·by_cases e2 : j = i
  ·subst e2; rw [upd_same]; exact hopn e
  ·rw [upd_ne _ _ e2]; exact h.opn e j hj
 ·by_cases e2 : j = i
  ·subst e2; rw [upd_same]; exact hnpk e
  ·rw [upd_ne _ _ e2]; exact h.npk e j hj
theorem setChan_one (w : World) (d c : Nat) (cap : Nat) (buf : Array Value) (cl : Bool) (a b : Nat) (tm : Bool) : One c w ((w.at d).setChan c cap buf cl a b tm) :=
 ⟨fun x hx => by simp [World.setChan, World.at, Ne.symm hx], rfl, rfl, rfl, by simp [World.setChan, World.at]⟩
theorem pass_item (h : RInv G P Fin S W0 j0 r0 m gs w t s rm fl D st sm Q) {i : Nat} (hi : i < m) {x : Nat} {f : WS → RT WS} (hrk : (D i).rk = .node f) (hdf : Deaf t (j0 + i) = 0) (hph : (D i).st.ph = .run) (hR : ∀ w1, Rel G (D i).st.M w w1 → RecvW G P (fun s1 => BehW G P (f s1) s1) { (D i).st with w := w1 })
  {F : MS → RT MS} (hrm : rm = .node F) (hS : ∀ w1, Rel G (fun _ => False) w w1 → SendM G P (fun s1 => BehM G P Fin (F s1) s1) { s with w := w1 } x)
  {u : Trace} (hu : Plain (j0 + m) u) {a b d : Nat} {gs' : Array Goroutine} (hw' : w' = (w.at d).setChan G.Ch 0 #[] false a b false) (hsz : gs'.size = gs.size) (h0 : gs'[0]? = some (Conc.served s.g undef)) (h1 : gs'[j0 + i]? = some (Conc.served (D i).st.g (recvd true (.int .i64 x) true))) (ho : ∀ k, k ≠ 0 → k ≠ j0 + i → gs'[k]? = gs[k]?) :
  ∃ s' rm' d', RInv G P Fin S W0 j0 r0 m gs' w' (t ++ u) s' rm' .run (upd D i d') st sm Q ∧ RT.Lt rm' rm := by
 have hj1 := h.j1
 have hone : One G.Ch w w' := hw' ▸ setChan_one ..
 have nbC : ¬ G.base G.Ch := fun e => h.gk.bs _ e h.gk.sC
 have nO : G.Ch ≠ G.O := fun e => h.gk.so (e ▸ h.gk.sC)
 have nW : G.Ch ≠ G.Wg := fun e => h.gk.wc e.symm
 have hrel : ∀ M : Nat → Prop, ¬ M G.Ch → Rel G M w w' := fun M hM => Rel.one hone nbC hM (fun e => absurd e nW) fun e => absurd e nO
 have hMC : ∀ j, j < m → ¬ (D j).st.M G.Ch := fun j hj e => (h.hp.own j _ hj e).2.2.1 h.gk.sC
 have R := hR w' (hrel _ (hMC i hi))
 have hr0 : Rel G (fun _ => False) w w' := hrel _ fun e => e
 have Sd := hS w' hr0
 have htag : s.tag = .sd x := Sd.tag
 have hx : x < G.N := Sd.lt
 have hb := h.bud i hi hph
 rw [htag] at hb
 simp only [sent] at hb
 obtain ⟨k', hkk⟩ : ∃ k', (D i).st.k = k' + 1 := ⟨(D i).st.k - 1, by omega⟩
 have hK := R.got x k' hkk hx
 have hN := Sd.next
 have hc' : w'.heap[G.Ch]? = some (.chan 0 #[] false a b false) := by
  subst hw'
  have := h.hp.sb _ h.gk.sC
  simp [World.setChan, World.at, this]
 refine ⟨{ s with w := w', tag := .sd (x + 1), g := Conc.served s.g undef }, F { s with w := w', tag := .sd (x + 1), g := Conc.served s.g undef }, ⟨{ (D i).st with w := w', g := Conc.served (D i).st.g (recvd true (.int .i64 x) true), H := fun j => (D i).st.H j ∨ j = x, k := k' }, f { (D i).st with w := w', g := Conc.served (D i).st.g (recvd true (.int .i64 x) true), H := fun j => (D i).st.H j ∨ j = x, k := k' }, false, 0⟩, ?_, by rw [hrm]; exact ⟨_, rfl⟩⟩
 have hp : HInv G S W0 m (dM D) (upd (dH D) i fun j => (D i).st.H j ∨ j = x) (dX D) false (x + 1) w' := by
  have hp0 := h.hp
  rw [htag] at hp0
  simp only [clo, sent] at hp0
  refine ⟨hr0.row hp0.row, ⟨a, b, hc'⟩, fun b hb => by rw [hone.size]; exact hp0.base b hb, fun b hb => by rw [hone.size]; exact hp0.sb b hb, fun j b hj hb => by rw [hone.size]; exact hp0.own j b hj hb, hp0.dis, fun j y hj hy => ?_, fun j k y hj hk hy hy' => ?_, fun y hy => ?_, fun j y hj hy => ?_, hp0.w0.trans hr0⟩
  ·by_cases e : j = i
   ·subst e; rw [upd_same] at hy
    rcases hy with hy | rfl
    ·have := hp0.hd j y hj hy; omega
    ·omega
   ·rw [upd_ne _ _ e] at hy
    have := hp0.hd j y hj hy; omega
  ·have key : ∀ l y, l < m → l ≠ i → dH D l y → ¬ ((D i).st.H y ∨ y = x) := fun l y hl hne e1 e2 => by
    rcases e2 with e2 | rfl
    ·exact hne (hp0.hdis l i y hl hi e1 e2)
    ·have := hp0.hd l y hl e1; omega
   by_cases e : j = i
   ·by_cases e2 : k = i
    ·omega
    ·subst e
     rw [upd_same] at hy; rw [upd_ne _ _ e2] at hy'
     exact absurd hy (key k y hk e2 hy')
   ·rw [upd_ne _ _ e] at hy
    by_cases e2 : k = i
    ·subst e2; rw [upd_same] at hy'
     exact absurd hy' (key j y hj e hy)
    ·rw [upd_ne _ _ e2] at hy'
     exact hp0.hdis j k y hj hk hy hy'
  ·by_cases e : y = x
   ·subst e; exact ⟨i, hi, by rw [upd_same]; exact .inr rfl⟩
   ·obtain ⟨j, hj, hy2⟩ := hp0.hall y (by omega)
    refine ⟨j, hj, ?_⟩
    by_cases e2 : j = i
    ·subst e2; rw [upd_same]; exact .inl hy2
    ·rw [upd_ne _ _ e2]; exact hy2
  ·rw [← hp0.sok j y hj hy]
   exact cell_block (hone.block _ (Ne.symm nO))
 have e1 : upd (dM D) i (D i).st.M = dM D := upd_self (dM D) i
 have e3 : upd (dX D) i (D i).st.S = dX D := upd_self (dX D) i
 have e4 : upd (dP D) i (D i).st.ph = dP D := upd_self (dP D) i
 have hsm0 : sm ≠ 1 := fun e => by have := h.mode; subst e; have := this.w3; rw [htag] at this; cases this
 have hmd : Mode m (dP D) (.sd (x + 1)) st sm := by
  have hm := h.mode
  rw [htag] at hm
  cases hm with
  | opn p q c d => exact .opn (tag := .sd (x + 1)) trivial q (fun V e => by cases e) fun V e => by cases e
  | fin p q => rcases p with p | p <;> cases p
 refine ⟨h.gk, h.j1, by rw [hsz]; exact h.sz, by simp only [Array.size_append]; have := h.rt; omega, ⟨_, h0, .run rfl rfl hN⟩, fun j hj => ?_, fun k k1 k2 => ?_, ?_, by rw [hu.deaf]; exact h.d0, wgAt_of h.wg (hone.block _ (Ne.symm nW)), ?_, fun e => rfl, ?_, fun j hj he => ?_, fun j hj he hes => ?_, fun _ j hj => ?_, fun e => (by simp [clo] at e), fun e => (by cases e), fun _ => h.m1 (by rw [htag]; simp), ?_⟩
 ·rw [hu.deaf]
  by_cases e : j = i
  ·subst e
   exact ⟨_, h1, by rw [upd_same]; exact .run (by simp [hph]) rfl (BehW.running hK) (fun _ => rfl) rfl hK (by rw [hdf]; simp [hph, dph])⟩
  ·rw [ho _ (by omega) (by omega), upd_ne _ _ e]
   obtain ⟨g2, hg2, hw2⟩ := h.wk j hj
   exact ⟨g2, hg2, hw2.rely (hrel _ (hMC j hj))⟩
 ·rw [hu.deaf, ho _ (by omega) (by omega)]
  exact h.lv k k1 k2
 ·refine h.tr.mute h.rt (fun b hb => by rw [hone.size]; exact hb) (fun k l hk hl => ?_) hu.mute (fun op hop => (hu op hop).1) fun op hop a => (hu op hop).2.2 _
  rw [dM_upd, dH_upd]
  simp only
  rw [e1]
  refine ⟨hl.1, hl.2.imp id fun ⟨y, hy, hy2⟩ => ⟨y, hy, ?_⟩⟩
  by_cases e : k - j0 = i
  ·rw [e, upd_same]; rw [e] at hy2; exact .inl hy2
  ·rw [upd_ne _ _ e]; exact hy2
 ·rw [dP_upd]; simp only; rw [e4]; exact hmd
 ·rw [dM_upd, dH_upd, dX_upd]; simp only [clo, sent]; rw [e1, e3]; exact hp
 ·simp only [sent]
  by_cases e : j = i
  ·subst e; rw [upd_same]; simp only; omega
  ·rw [upd_ne _ _ e] at he ⊢
   have := h.bud j hj he
   rw [htag] at this; simp only [sent] at this; omega
 ·by_cases e : j = i
  ·subst e; rw [upd_same] at he; exact absurd hph he
  ·rw [upd_ne _ _ e] at he hes ⊢
   obtain ⟨⟨r, hr1⟩, hr2⟩ := h.rl j hj he hes
   exact ⟨⟨r, RelBy.mute hr1 hu.mute⟩, hr2⟩
 ·by_cases e2 : j = i
  ·subst e2; rw [upd_same]; exact hph
  ·rw [upd_ne _ _ e2]; exact h.opn (by rw [htag]; rfl) j hj
 ·have := h.big; rw [htag] at this; simpa [left] using this
end
end Go.Mx
namespace Go.Mx
open Go Go.Conc
open Go.ConcN (WgLive sumTo upd upd_same upd_ne sumTo_congr sumTo_upd le_sumTo sumTo_le Deaf_absent fork_knows RelBy get_map_set get_map_set_same)
open Go.ConcR (KK WgAt stA smA rd wr mk g_of_ofEvents loc_of_ofEvent)
theorem deafBehind_still {es : Array Event} (h : ∀ e ∈ es, e.loc ≠ .mark .disable ∧ e.loc ≠ .mark .enable) (d : Nat) : deafBehind d es = d := by
 unfold deafBehind
 refine Array.foldl_induction (motive := fun _ x => x = d) rfl fun i x hx => ?_
 have := h es[i] (Array.getElem_mem _)
 split
 ·next e => exact absurd e this.1
 ·next e => exact absurd e this.2
 ·exact hx
theorem parked_inj {g g2 : Goroutine} {c c2 : CommCase} {sh sh2 : CommShape} (h : parked g #[c] sh = parked g2 #[c2] sh2) : c = c2 ∧ sh = sh2 ∧ g.frame = g2.frame ∧ g.callers = g2.callers ∧ g.dying = g2.dying := by
 simp only [parked, Goroutine.mk.injEq, Option.some.injEq, Prod.mk.injEq, Array.mk.injEq, List.cons.injEq, and_true, true_and] at h
 exact ⟨h.2.2.2.1, h.2.2.2.2, h.1, h.2.1, h.2.2.1⟩
theorem served_of_parked {P : Program} {g g2 : Goroutine} {c c2 : CommCase} {sh sh2 : CommShape} (h : parked g #[c] sh = parked g2 #[c2] sh2) (v : Value) : Conc.served g v = Conc.served g2 v := by
 obtain ⟨_, _, h1, h2, h3⟩ := parked_inj h
 simp [Conc.served, h1, h2, h3]
theorem served_run (g : Goroutine) (v : Value) : Conc.served { g with status := .running, offers := none } v = Conc.served g v := rfl
section
variable {G : Geo} {P : Program} {Fin : Goroutine → Prop} {S : Nat → Prop} {W0 : World} {j0 r0 m : Nat} {gs : Array Goroutine} {w w' : World} {t : Trace} {s : MS} {rm : RT MS} {fl : MFl} {D : Nat → WD} {st sm : Int} {Q : Nat → Nat} {sl : Option (Nat × Nat)}
theorem RInv.who (h : RInv G P Fin S W0 j0 r0 m gs w t s rm fl D st sm Q) {k : Nat} {g : Goroutine} (hg : gs[k]? = some g) : (k = 0 ∧ MAt G P Fin fl s rm g w) ∨ (∃ i, i < m ∧ k = j0 + i ∧ WAt G P (D i) (Deaf t (j0 + i)) g w) ∨ (1 ≤ k ∧ k < j0 ∧ QuitsD P (Q k) (Deaf t k) g) := by
 have hlt := (Array.getElem?_eq_some_iff.1 hg).1
 rw [h.sz] at hlt
 by_cases h0 : k = 0
 ·subst h0
  obtain ⟨a, ha, hma⟩ := h.mn
  rw [hg] at ha; cases ha
  exact .inl ⟨rfl, hma⟩
 ·by_cases hk : k < j0
  ·obtain ⟨g2, hg2, hq⟩ := h.lv k (by omega) hk
   rw [hg] at hg2; cases hg2
   exact .inr (.inr ⟨by omega, hk, hq⟩)
  ·obtain ⟨g2, hg2, hw⟩ := h.wk (k - j0) (by omega)
   rw [show j0 + (k - j0) = k by omega] at hg2
   rw [hg] at hg2; cases hg2
   exact .inr (.inl ⟨k - j0, by omega, by omega, hw⟩)
theorem offers_run {g : Goroutine} (h : g.status = .running ∨ g.status = .finished) (c : Nat) (b : Bool) : offersAt g c b = [] := offersAt_of_not_blocked (by rcases h with e | e <;> rw [e] <;> simp) c b
theorem WAt.offers {d : WD} {dd : Nat} {g : Goroutine} (h : WAt G P d dd g w) : offersAt g G.Ch true = [] ∧ (d.pk = false → offersAt g G.Ch false = []) ∧ (d.pk = true → offersAt g G.Ch false = [0] ∧ g = parked { d.st.g with status := .running, offers := none } #[rcase G.Ch G.z] (.recv true)) := by
 cases h with
 | run h1 h2 h3 h4 h5 h6 h7 => exact ⟨offers_run (.inl h3) _ _, fun _ => offers_run (.inl h3) _ _, fun e => by rw [h2] at e; cases e⟩
 | park f h1 h2 h3 h4 h5 h6 h7 => subst h3; exact ⟨offersAt_parked_recv' .., fun e => (by rw [h2] at e; cases e), fun _ => ⟨by rw [offersAt_parked_recv, if_pos rfl], rfl⟩⟩
 | out h1 h2 h3 => exact ⟨offers_run h3.status _ _, fun _ => offers_run h3.status _ _, fun e => by rw [h2] at e; cases e⟩
theorem MAt.offers {g : Goroutine} (h : MAt G P Fin fl s rm g w) : offersAt g G.Ch false = [] ∧ (fl ≠ .park → offersAt g G.Ch true = []) := by
 cases h with
 | run h1 h2 h3 => subst h2; exact ⟨offers_run (.inl h3.running) _ _, fun _ => offers_run (.inl h3.running) _ _⟩
 | park f i h1 h2 h3 h4 h5 => subst h2; exact ⟨offersAt_parked_send' .., fun e => absurd h1 e⟩
 | blk f h1 h2 h3 h4 h5 =>
  have ho := (h5 w (Rel.refl ..)).off
  simp only at ho
  subst h2
  exact ⟨by simp [offersAt, ho], fun _ => by simp [offersAt, ho]⟩
theorem no_sender (h : RInv G P Fin S W0 j0 r0 m gs w t s rm fl D st sm Q) (hfl : fl ≠ .park) (i : Nat) : partners (gs.setIfInBounds i ph) G.Ch true = [] := by
 refine partners_nil fun j g hg => ?_
 rcases getElem?_stand gs i j g hg with ⟨_, rfl⟩ | ⟨_, hg⟩
 ·exact offersAt_ph ..
 ·rcases h.who hg with ⟨_, hm⟩ | ⟨_, _, _, hw⟩ | ⟨_, _, hq⟩
  ·exact hm.offers.2 hfl
  ·exact hw.offers.1
  ·exact offers_run hq.status _ _
theorem comm_plain {n i j : Nat} (hi : i < n) (hj : j < n) {a b c d : MemAct} (fi fj : FuncId) (pi pj : String) (ha : a.touch? = none ∧ ∀ mk, a ≠ .mark mk) (hb : b.touch? = none ∧ ∀ mk, b ≠ .mark mk) (hc : c.touch? = none ∧ ∀ mk, c ≠ .mark mk) (hd : d.touch? = none ∧ ∀ mk, d ≠ .mark mk) (fn : FuncId) (pos : String) (k : Nat) :
  Plain n (MemOp.ofEvents k fn pos #[] ++ #[{ g := i, fn := fi, pos := pi, act := a }, { g := j, fn := fj, pos := pj, act := b }, { g := i, fn := fi, pos := pi, act := c }, { g := j, fn := fj, pos := pj, act := d }]) := by
 intro op hop
 rw [ofEvents_eq] at hop
 simp at hop
 rcases hop with rfl | rfl | rfl | rfl
 ·exact ⟨hi, ha⟩
 ·exact ⟨hj, hb⟩
 ·exact ⟨hi, hc⟩
 ·exact ⟨hj, hd⟩
theorem worker_recv (h : RInv G P Fin S W0 j0 r0 m gs w t s rm fl D st sm Q) {i : Nat} (hi : i < m) {g : Goroutine} (hg : gs[j0 + i]? = some g) {f : WS → RT WS} (hrk : (D i).rk = .node f) (hpk : (D i).pk = false) (hst : (D i).st.g.status = .running)
  (hs : ∀ w, stepG P false g w = stepG P false (D i).st.g w) (hdf : Deaf t (j0 + i) = dph (D i).st.ph) (hR : ∀ w1, Rel G (D i).st.M w w1 → RecvW G P (fun s1 => BehW G P (f s1) s1) { (D i).st with w := w1 }) : Goal G P Fin S W0 j0 r0 gs w sl t (muOf j0 m D rm fl Q) (j0 + i) := by
 have hj1 := h.j1
 have R := hR w (Rel.refl ..)
 have hph : (D i).st.ph = .run := R.ph
 have hd0 : Deaf t (j0 + i) = 0 := by rw [hdf, hph]; rfl
 have hgo := (hs w).trans R.step
 have hz : ((j0 + i) == 0) = false := by simp; omega
 have hdP : ∀ {p}, (D i).st.ph = p → upd (dP D) i p = dP D := fun {p} e => by have := upd_self (dP D) i; rwa [show dP D i = p from e] at this
 obtain ⟨a1, b1, hc⟩ := h.hp.ch
 cases hcl : clo s.tag with
 | true =>
  rw [hcl] at hc
  have hfl : fl ≠ .park := fun e => by have := h.pkt e; rw [hcl] at this; cases this
  have hrun := crowd_recv_closed (P := P) (sl := sl) hg (by rw [hz]; exact hgo) hc (no_sender h hfl _)
  rw [finishComm_recv, served_run] at hrun
  have hK := R.shut
  simp only at hK
  refine ⟨_, _, muOf j0 m (upd D i ⟨{ (D i).st with w := w, ph := .shut, g := Conc.served (D i).st.g (recvd true G.z false) }, f { (D i).st with w := w, ph := .shut, g := Conc.served (D i).st.g (recvd true G.z false) }, false, 0⟩) rm fl Q, hrun, mu_upd hi (wlt_tree (by simp [hph]) (by simp) (by rw [hrk]; exact ⟨_, rfl⟩)), m, _, w, sl, s, rm, fl, _, st, sm, Q, rfl, ?_, rfl⟩
  refine set_worker h hi ?_ (.run (by simp) rfl (BehW.running hK) (fun _ => rfl) rfl hK hd0) rfl rfl rfl (h.mode.shift hi (by rw [show dP D i = .run from hph]; rfl) rfl) (fun e => by cases e) (.inr rfl) (fun e => by rw [hcl] at e; cases e) fun _ => rfl
  intro op hop
  rw [ofEvents_eq] at hop
  simp at hop
  subst hop
  exact ⟨by simp only; omega, rfl, fun mk => by simp⟩
 | false =>
  rw [hcl] at hc
  by_cases hfl : fl = .park
  ·obtain ⟨a, ha, hma⟩ := h.mn
   cases hma with
   | run h1 _ _ => rw [hfl] at h1; cases h1
   | blk _ h1 _ _ _ _ => rw [hfl] at h1; cases h1
   | park F x h1 h2 h3 h4 h5 =>
    have hmem : ∀ j k, (j, k) ∈ partners (gs.setIfInBounds (j0 + i) ph) G.Ch true → k = 0 ∧ j = 0 := by
     intro j k hjk
     obtain ⟨g2, hg2, hk⟩ := mem_partners.1 hjk
     rcases getElem?_stand gs (j0 + i) j g2 hg2 with ⟨_, rfl⟩ | ⟨_, hg2⟩
     ·rw [offersAt_ph] at hk; cases hk
     ·rcases h.who hg2 with ⟨hj0, _⟩ | ⟨_, _, _, hw⟩ | ⟨_, _, hq⟩
      ·subst hj0
       rw [ha] at hg2; cases hg2
       subst h2
       rw [offersAt_parked_send, if_pos rfl] at hk
       simp at hk
       exact ⟨hk, rfl⟩
      ·rw [hw.offers.1] at hk; cases hk
      ·rw [offers_run hq.status] at hk; cases hk
    have hne : partners (gs.setIfInBounds (j0 + i) ph) G.Ch true ≠ [] := by
     intro e
     have : (0, 0) ∈ partners (gs.setIfInBounds (j0 + i) ph) G.Ch true := mem_partners.2 ⟨a, by rw [Array.getElem?_setIfInBounds_ne (by omega)]; exact ha, by rw [h2, offersAt_parked_send, if_pos rfl]; simp⟩
     rw [e] at this; cases this
    obtain ⟨j, gj, vj, zj, shj, d, hji, hgj, hrun⟩ := crowd_recv_meets_some (P := P) (sl := sl) hg (by rw [hz]; exact hgo) hc hne (fun j k hjk => by
     obtain ⟨rfl, rfl⟩ := hmem j k hjk
     exact ⟨rfl, by omega, _, _, _, _, by rw [ha, h2]⟩)
    have hj0 : j = 0 := by
     by_cases e : j = 0
     ·exact e
     ·exfalso
      have ho : offersAt (parked gj #[scase G.Ch vj zj] shj) G.Ch true = [0] := by rw [offersAt_parked_send, if_pos rfl]
      rcases h.who hgj with ⟨hj0, _⟩ | ⟨_, _, _, hw⟩ | ⟨_, _, hq⟩
      ·exact e hj0
      ·rw [hw.offers.1] at ho; cases ho
      ·rw [offers_run hq.status] at ho; cases ho
    subst hj0
    rw [ha, h2] at hgj
    have hpe := Option.some.inj hgj
    obtain ⟨e1, e2, _⟩ := parked_inj hpe
    have hv : vj = .int .i64 x := by simp [scase] at e1; exact e1.1.symm
    subst hv
    rw [finishComm_recv, served_run, show gj.finishComm P #[scase G.Ch (.int .i64 x) zj] shj 0 undef false = Conc.served s.g undef from by rw [← e2, finishComm_send, ← served_of_parked (P := P) hpe]; rfl] at hrun
    have hpl := comm_plain (n := j0 + m) (i := 0) (j := j0 + i) (by omega) (by omega) (a := .send G.Ch a1) (b := .recv G.Ch b1 0) (c := .sendDone G.Ch a1) (d := .recvDone G.Ch b1) gj.frame.fn ({ (D i).st.g with status := .running, offers := none } : Goroutine).frame.fn gj.frame.place ({ (D i).st.g with status := .running, offers := none } : Goroutine).frame.place (by simp [MemAct.touch?]) (by simp [MemAct.touch?]) (by simp [MemAct.touch?]) (by simp [MemAct.touch?]) g.frame.fn g.frame.place (j0 + i)
    obtain ⟨s', rm', d', k1, k2⟩ := pass_item (a := a1 + 1) (b := b1 + 1) (d := d) (gs' := (gs.setIfInBounds 0 (Conc.served s.g undef)).setIfInBounds (j0 + i) (Conc.served (D i).st.g (recvd true (.int .i64 x) true))) h hi hrk hd0 hph hR h3 h5 hpl rfl (by simp only [Array.size_setIfInBounds]) (by rw [Array.getElem?_setIfInBounds_ne (by omega), Array.getElem?_setIfInBounds_self_of_lt (by rw [h.sz]; omega)]) (by rw [Array.getElem?_setIfInBounds_self_of_lt (by rw [Array.size_setIfInBounds, h.sz]; omega)]) (fun k k0 k1 => by rw [Array.getElem?_setIfInBounds_ne (by omega), Array.getElem?_setIfInBounds_ne (by omega)])
    exact ⟨_, _, muOf j0 m (upd D i d') rm' .run Q, hrun, Prod.Lex.left _ _ k2, m, _, _, sl, s', rm', .run, _, st, sm, Q, rfl, k1, rfl⟩
  ·have hrun := crowd_waits (P := P) (sl := sl) hg (by rw [hz]; exact hgo) (fun cc hcc => by
    have : cc = rcase G.Ch G.z := by simpa using hcc
    subst this
    exact ways_recv_none hc (no_sender h hfl _))
   refine ⟨_, _, muOf j0 m (upd D i ⟨{ (D i).st with w := w }, (D i).rk, true, 0⟩) rm fl Q, hrun, mu_upd hi ?_, m, _, w, sl, s, rm, fl, _, st, sm, Q, rfl, ?_, rfl⟩
   ·rw [WD.mu_of (d := D i) (by simp [hph]), hpk, WD.mu_of (by simp [hph])]
    exact Prod.Lex.right _ (Prod.Lex.right _ (by simp))
   ·refine set_worker h hi (fun op hop => by rw [ofEvents_eq] at hop; simp at hop) (.park f hph rfl rfl hrk hst hR hd0) rfl rfl rfl (by simp only; rw [hdP rfl]; exact h.mode) (fun _ => h.bud i hi hph) (.inl hph) (fun _ => hph) fun e => ?_
    rcases e with e | e
    ·rw [hcl] at e; cases e
    ·exact absurd e hfl
end
end Go.Mx
