/- Part 6 of the proof: Mx10, Mx11, Mx12, Mx13, Mx14. -/
import Derived.Test.YtdhekhlmdefcnaaGreatDoorPart5
import Derived.Test.YtdhekhlmdefcnaaGreatDoorPart4
namespace Go.Mx
open Go Go.Conc
open Go.ConcN (WgLive sumTo upd upd_same upd_ne sumTo_congr sumTo_upd le_sumTo sumTo_le Deaf_absent fork_knows RelBy get_map_set get_map_set_same)
open Go.ConcR (KK WgAt stA smA rd wr mk g_of_ofEvents loc_of_ofEvent)
def REnd (G : Geo) (P : Program) (Fin : Goroutine → Prop) (S : Nat → Prop) (W0 : World) (mc : Machine) (t : Trace) : Prop :=
 ∃ n gs w sl Q a, mc = crowd gs w sl ∧ gs[0]? = some a ∧ a.status = .running ∧ Fin a ∧ Calm P S (fun b => b < w.heap.size ∧ ¬ S b) n gs w t Q ∧ Rel G (fun _ => False) W0 w ∧ RowLive G w ∧ ∀ x, x < G.N → w.cell? (oCell G x) = some (G.ans x)
theorem tok_QEv0 {G : Geo} {S : Nat → Prop} {A' : Nat → Prop} {sz : Nat} {fn : FuncId} {pos : String} {es : Array Event} (h : ∀ e ∈ es, QEv0 G e) (gk : GeoOk G S) (hB : ∀ b, G.base b → b < sz) :
  ∀ op ∈ MemOp.ofEvents 0 fn pos es, TOk S (fun b => b < sz ∧ ¬ S b) A' G.base (fun _ => False) 0 op := by
 intro op hop
 have hop0 := hop
 rw [ofEvents_eq] at hop
 obtain ⟨e, he, rfl⟩ := Array.mem_map.1 hop
 rcases h e he with h1 | ⟨a, ha, h1⟩
 ·have := tok_QEv (S := S) (A' := A') (O := fun _ => False) (k := 0) (fn := fn) (pos := pos) (sz := sz) (es := #[e]) (A := fun _ => False) (B := G.base) (by simpa using h1) (fun b hb => hb.elim) (fun b hb => ⟨hB b hb, gk.bs b hb⟩) (fun l b _ hb => hb.elim)
  exact this _ (by rw [ofEvents_eq]; simp)
 ·refine ⟨rfl, fun x hx => ?_⟩
  have hx' : (x = ⟨.cell a, false, .said⟩ ∨ x = ⟨.cell a, true, .said⟩) := by
   rcases h1 with rfl | rfl
   ·simp [MemAct.ofEvent, MemAct.touch?] at hx; exact .inl hx.symm
   ·simp [MemAct.ofEvent, MemAct.touch?] at hx; exact .inr hx.symm
  have hb : ∀ b, blk x.loc = some b → b = G.Wg := fun b hb => by
   rcases hx' with rfl | rfl <;> · simp only [blk, Option.some.injEq] at hb; rw [← hb]; exact ha
  have hb2 : blk x.loc = some G.Wg := by rcases hx' with rfl | rfl <;> simp [blk, ha]
  refine ⟨fun b hb' => .inr (by rw [hb b hb']; exact gk.sW), fun _ => .inl ⟨⟨_, hb2, gk.sW⟩, ?_, fun _ => rfl⟩⟩
  rcases hx' with rfl | rfl <;> simp
theorem QEv0.loc {G : Geo} {e : Event} (h : QEv0 G e) : (e.loc ≠ .mark .disable ∧ e.loc ≠ .mark .enable) ∧ ∀ a, e.loc ≠ .mark (.release a) := by
 rcases h with h | ⟨a, _, rfl | rfl⟩
 ·exact ⟨⟨fun e2 => (h.1 _ e2).elim, fun e2 => (h.1 _ e2).elim⟩, fun a e2 => (h.1 _ e2).elim⟩
 ·simp
 ·simp
theorem Same.one {w w' : World} (h : Same w w') (b : Nat) : One b w w' := ⟨fun x _ => by rw [h.heap], h.os, h.tape, h.output, by rw [h.heap]⟩
section
variable {G : Geo} {P : Program} {Fin : Goroutine → Prop} {S : Nat → Prop} {W0 : World} {j0 r0 m : Nat} {gs : Array Goroutine} {w w' : World} {t : Trace} {s : MS} {rm : RT MS} {fl : MFl} {D : Nat → WD} {st sm : Int} {Q : Nat → Nat} {sl : Option (Nat × Nat)}
theorem Mode.openSt {tag : MTag} (h : Mode m (dP D) tag st sm) (ho : isOpen tag) : st = ((cnt m (dP D) + pend tag : Nat) : Int) * KK ∧ sm = 0 ∧ (∀ i, i < m → openPh (dP D i)) ∧ (∀ V, tag = .wa V → cnt m (dP D) ≤ V) ∧ (∀ V, tag = .cas V → cnt m (dP D) ≤ V ∧ 1 ≤ V) := by
 cases h with
 | opn a b c d => exact ⟨rfl, rfl, b, c, d⟩
 | reg a b => exact ho.elim
 | last L a b c => exact ho.elim
 | sema a => exact ho.elim
 | fin a b => rcases a with rfl | rfl <;> exact ho.elim
theorem Mode.finSt {tag : MTag} (h : Mode m (dP D) tag st sm) (ho : tag = .w4 ∨ tag = .ke) : st = 0 ∧ sm = 0 ∧ ∀ i, i < m → dP D i = .out := by
 cases h with
 | opn a b c d => rcases ho with rfl | rfl <;> exact a.elim
 | reg a b => rcases ho with h | h <;> cases h
 | last L a b c => rcases ho with h | h <;> cases h
 | sema a => rcases ho with h | h <;> cases h
 | fin a b => exact ⟨rfl, rfl, b⟩
def EndStep (G : Geo) (P : Program) (Fin : Goroutine → Prop) (S : Nat → Prop) (W0 : World) (gs : Array Goroutine) (w : World) (sl : Option (Nat × Nat)) (t : Trace) (i : Nat) : Prop :=
 ∃ m1 ops, runT P (crowd gs w sl) i = (.next m1, ops) ∧ REnd G P Fin S W0 m1 (t ++ ops)
theorem sem_ne {tag : MTag} (h : Mode m (dP D) tag st sm) (ht : tag ≠ .w3) : sm ≠ 1 := fun e => by subst e; exact ht h.w3
theorem main_acq (h : RInv G P Fin S W0 j0 r0 m gs w t s rm fl D st sm Q) {a g' : Goroutine} (ha : gs[0]? = some a) (htag : s.tag = .ke) (hd : s.d = 0) (hgo : stepG P true a w = .go g' w #[mk (.acquire (stA G.Wg))]) (hrun : g'.status = .running) (hfin : Fin g') : EndStep G P Fin S W0 gs w sl t 0 := by
 have hj1 := h.j1
 have hrunT := runT_crowd_go (P := P) (sl := sl) (i := 0) ha (by simpa using hgo)
 obtain ⟨_, _, hall⟩ := h.mode.finSt (.inr htag)
 have hes : MemOp.ofEvents 0 a.frame.fn a.frame.place #[mk (.acquire (stA G.Wg))] = #[{ g := 0, fn := a.frame.fn, pos := a.frame.place, act := .mark (.acquire (stA G.Wg)) }] := by rw [ofEvents_eq]; simp [mk, MemAct.ofEvent]
 generalize hu : MemOp.ofEvents 0 a.frame.fn a.frame.place #[mk (.acquire (stA G.Wg))] = u at hrunT hes
 have hmu : mute u := by rw [hes]; intro op hop; simp at hop; subst hop; rfl
 have htr := h.tr.mute (Ow' := OwD G j0 m (dM D) (dH D)) h.rt (fun b hb => hb) (fun k l _ hl => hl) hmu (fun op hop => by rw [hes] at hop; simp at hop; subst hop; simp only; omega) (fun op hop a => by rw [hes] at hop; simp at hop; subst hop; simp)
 have hq : (t ++ u)[t.size]? = some { g := 0, fn := a.frame.fn, pos := a.frame.place, act := .mark (.acquire (stA G.Wg)) } := by rw [hes]; simp
 have hd0 : Deaf t 0 = 0 := h.d0.trans hd
 have hst2 : ∀ k, Deaf (t ++ u) k = Deaf t k := fun k => ConcN.Deaf_still t k u fun op hop => by rw [hes] at hop; simp at hop; subst hop; simp
 obtain ⟨ho, hk⟩ := htr.done (q := t.size) (by omega) (by rw [act?_of hq]) (by simp [Trace.g?, hq]) ⟨0, by simp [Trace.g?, hq], by rw [deaf_old (Nat.le_refl _)]; exact hd0⟩ fun k k1 k2 => by
  have hph : (D (k - j0)).st.ph = .out := hall (k - j0) (by omega)
  obtain ⟨⟨r, hr⟩, _⟩ := h.rl (k - j0) (by omega) (by rw [hph]; simp) (by rw [hph]; simp)
  rw [show j0 + (k - j0) = k by omega] at hr
  exact ⟨r, RelBy.mute hr hmu, lt_of_act? hr.act⟩
 have hwk : ∀ i, i < m → ∃ g, gs[j0 + i]? = some g ∧ QuitsD P (D i).q (Deaf t (j0 + i)) g := fun i hi => by
  obtain ⟨g, hg, hw⟩ := h.wk i hi
  have hph : (D i).st.ph = .out := hall i hi
  cases hw with
  | run h1 _ _ _ _ _ _ => exact absurd hph h1
  | park f h1 _ _ _ _ _ _ => rw [hph] at h1; cases h1
  | out _ _ h3 => exact ⟨g, hg, h3⟩
 refine ⟨_, _, hrunT, j0 + m, _, w, sl, fun k => if k < j0 then Q k else (D (k - j0)).q, g', rfl, get_map_set_same' _ _ _ _ (by rw [h.sz]; omega), hrun, hfin, ⟨by omega, htr.tr, hk, ho, htr.nrel, by rw [hst2]; exact hd0, by simp [h.sz], fun b hb => hb.1, h.hp.sb, fun k k1 k2 => ?_⟩, h.hp.w0, h.hp.row, fun x hx => ?_⟩
 ·rw [hst2]
  by_cases e : k < j0
  ·obtain ⟨g, hg, hq⟩ := h.lv k k1 e
   refine ⟨g, by rw [get_map_set' _ _ _ _ _ (by omega), hg]; simp [woken_quitsD hq], by simp only [if_pos e]; exact hq⟩
  ·obtain ⟨g, hg, hq⟩ := hwk (k - j0) (by omega)
   rw [show j0 + (k - j0) = k by omega] at hg hq
   exact ⟨g, by rw [get_map_set' _ _ _ _ _ (by omega), hg]; simp [woken_quitsD hq], by simp only [if_neg e]; exact hq⟩
 ·obtain ⟨i, hi, hH⟩ := h.hp.hall x (by rw [htag]; exact hx)
  have hph : (D i).st.ph = .out := hall i hi
  exact h.hp.sok i x hi ((h.rl i hi (by rw [hph]; simp) (by rw [hph]; simp)).2 x hH)
theorem main_close (h : RInv G P Fin S W0 j0 r0 m gs w t s rm fl D st sm Q) {a : Goroutine} (ha : gs[0]? = some a) (hag : a = s.g) (hfl : fl = .run) {f : MS → RT MS} (hrm : rm = .node f) (htag : s.tag = .sd G.N) (hmw : mayWake P s.g = true)
  (hK : ∀ a b, w.heap[G.Ch]? = some (.chan 0 #[] false a b false) → ∃ g', stepG P true s.g w = .go g' { w with heap := w.heap.setIfInBounds G.Ch (.chan 0 #[] true a b false) } #[⟨.obj G.Ch, false, true⟩, ⟨.obj G.Ch, true, true⟩] ∧ g'.status = .running ∧ ∀ v, BehM G P Fin (f { s with tag := .wa v, g := g', w := { w with heap := w.heap.setIfInBounds G.Ch (.chan 0 #[] true a b false) } }) { s with tag := .wa v, g := g', w := { w with heap := w.heap.setIfInBounds G.Ch (.chan 0 #[] true a b false) } }) : Goal G P Fin S W0 j0 r0 gs w sl t (muOf j0 m D rm fl Q) 0 := by
 have hj1 := h.j1
 obtain ⟨c1, c2, hc⟩ := h.hp.ch
 rw [htag] at hc
 obtain ⟨g', hgo, hrun, hB⟩ := hK c1 c2 hc
 have hcl := h.hp.sb _ h.gk.sC
 generalize hw' : ({ w with heap := w.heap.setIfInBounds G.Ch (.chan 0 #[] true c1 c2 false) } : World) = w' at hgo hB
 have hc' : w'.heap[G.Ch]? = some (.chan 0 #[] true c1 c2 false) := by subst hw'; simp [hcl]
 have hone : One G.Ch w w' := by subst hw'; exact ⟨fun x hx => by simp [Ne.symm hx], rfl, rfl, rfl, by simp⟩
 have nbC : ¬ G.base G.Ch := fun e => h.gk.bs _ e h.gk.sC
 have nO : G.Ch ≠ G.O := fun e => h.gk.so (e ▸ h.gk.sC)
 have nW : G.Ch ≠ G.Wg := fun e => h.gk.wc e.symm
 have hrel : ∀ M : Nat → Prop, ¬ M G.Ch → Rel G M w w' := fun M hM => Rel.one hone nbC hM (fun e => absurd e nW) fun e => absurd e nO
 have hr0 : Rel G (fun _ => False) w w' := hrel _ fun e => e
 have hMC : ∀ j, j < m → ¬ (D j).st.M G.Ch := fun j hj e => (h.hp.own j _ hj e).2.2.1 h.gk.sC
 have hrunT := runT_crowd_go (P := P) (sl := sl) (i := 0) ha (by rw [hag]; simpa using hgo)
 have hev : ∀ e ∈ #[(⟨.obj G.Ch, false, true⟩ : Event), ⟨.obj G.Ch, true, true⟩], AtEv S e := by
  intro e he; simp at he
  rcases he with rfl | rfl
  ·exact .inr (.inr ⟨_, rfl, h.gk.sC⟩)
  ·exact .inl rfl
 have hloc : ∀ e ∈ #[(⟨.obj G.Ch, false, true⟩ : Event), ⟨.obj G.Ch, true, true⟩], ∀ mk, e.loc ≠ .mark mk := by
  intro e he mk; simp at he
  rcases he with rfl | rfl <;> simp
 have hst2 : ∀ k, Deaf (t ++ MemOp.ofEvents 0 a.frame.fn a.frame.place #[(⟨.obj G.Ch, false, true⟩ : Event), ⟨.obj G.Ch, true, true⟩]) k = Deaf t k := fun k => ConcN.Deaf_still t k _ fun op hop => by
  rw [ofEvents_eq] at hop
  obtain ⟨e, he, rfl⟩ := Array.mem_map.1 hop
  exact ⟨fun e2 => hloc e he _ (loc_of_ofEvent e2), fun e2 => hloc e he _ (loc_of_ofEvent e2)⟩
 have hopen : ∀ i, i < m → (D i).st.ph = .run := h.opn (by rw [htag]; rfl)
 have hm0 := h.mode.openSt (by rw [htag]; trivial)
 rw [htag] at hm0
 have hmd : Mode m (dP D) (.wa m) st sm := by
  rw [hm0.1, hm0.2.1]
  exact .opn (tag := .wa m) trivial hm0.2.2.1 (fun V e => by cases e; exact cnt_le _ _) fun V e => by cases e
 have hp : HInv G S W0 m (dM D) (dH D) (dX D) true G.N w' := by
  have hp0 := h.hp
  rw [htag] at hp0
  simp only [clo, sent] at hp0
  exact ⟨hr0.row hp0.row, ⟨_, _, hc'⟩, fun b hb => by rw [hone.size]; exact hp0.base b hb, fun b hb => by rw [hone.size]; exact hp0.sb b hb, fun j b hj hb => by rw [hone.size]; exact hp0.own j b hj hb, hp0.dis, hp0.hd, hp0.hdis, hp0.hall, fun j y hj hy => by rw [← hp0.sok j y hj hy]; exact cell_block (hone.block _ (Ne.symm nO)), hp0.w0.trans hr0⟩
 have hp' := hp
 refine ⟨_, _, muOf j0 m (fun i => { D i with pk := false }) _ .run Q, hrunT, Prod.Lex.left _ _ (by rw [hrm]; exact ⟨_, rfl⟩), m, _, w', sl, { s with tag := .wa m, g := g', w := w' }, f { s with tag := .wa m, g := g', w := w' }, .run, fun i => { D i with pk := false }, st, sm, Q, rfl, ?_, rfl⟩
 refine ⟨h.gk, h.j1, by simp [h.sz], by simp only [Array.size_append]; have := h.rt; omega, ⟨_, get_map_set_same' _ _ _ _ (by rw [h.sz]; omega), .run rfl rfl (hB m)⟩, fun j hj => ?_, fun k k1 k2 => ?_, ?_, by rw [hst2]; exact h.d0, wgAt_of h.wg (hone.block _ (Ne.symm nW)), hmd, fun _ => rfl, hp', fun j hj he => by have := h.bud j hj he; rw [htag] at this; exact this, fun j hj he _ => absurd (hopen j hj) he, fun e => by simp [clo] at e, fun _ j hj => rfl, fun e => (by cases e), fun _ => h.m1 (by rw [htag]; simp), by have := h.big; rw [htag] at this; simpa [left] using this⟩
 ·rw [hst2]
  obtain ⟨g2, hg2, hw2⟩ := h.wk j hj
  rw [get_map_set' _ _ _ _ _ (by omega), hg2]
  have hw3 := hw2.rely (hrel _ (hMC j hj))
  cases hw3 with
  | run h1 h2 h3 h4 h5 h6 h7 => exact ⟨g2, by simp [woken_running h3], .run h1 rfl h3 h4 h5 h6 h7⟩
  | park F h1 h2 h3 h4 h5 h6 h7 =>
   refine ⟨{ g2 with status := .running }, ?_, .run (by rw [h1]; simp) rfl rfl (fun W => ?_) ?_ (by simp only; rw [h4]; exact ⟨h5, .inr h6⟩) (by simp only; rw [h1]; exact h7)⟩
   ·simp only [Option.map_some, Option.some.injEq]
    unfold woken
    rw [if_pos (by rw [hag, hmw, hrun]; rfl), h3]
    exact again_recv_closed hc'
   ·subst h3
    exact stepG_same (h := (D j).st.g) rfl rfl rfl W
   ·subst h3
    rfl
  | out h1 h2 h3 => exact ⟨g2, by simp [woken_quitsD h3], .out h1 rfl h3⟩
 ·rw [hst2]
  obtain ⟨g2, hg2, hq⟩ := h.lv k k1 k2
  exact ⟨g2, by rw [get_map_set' _ _ _ _ _ (by omega), hg2]; simp [woken_quitsD hq], hq⟩
 ·exact h.tr.app h.rt (fun b hb => ⟨by rw [hone.size]; exact hb.1, hb.2⟩) (fun k l _ hl => hl) (hp.apart (j0 := j0) h.gk) (by omega) (.inl rfl) h.j1 (O := fun _ => False) (A := fun _ => False) (fun l hl => hl.elim) (tok_at hev) (nrel_at (S := S) fun e he a => hloc e he _)
end
end Go.Mx
namespace Go.Mx
open Go Go.Conc
open Go.ConcN (WgLive sumTo upd upd_same upd_ne sumTo_congr sumTo_upd le_sumTo sumTo_le Deaf_absent fork_knows RelBy get_map_set get_map_set_same)
open Go.ConcR (KK WgAt stA smA rd wr mk g_of_ofEvents loc_of_ofEvent)
section
variable {G : Geo} {P : Program} {Fin : Goroutine → Prop} {S : Nat → Prop} {W0 : World} {j0 r0 m : Nat} {gs : Array Goroutine} {w w' : World} {t : Trace} {s : MS} {rm : RT MS} {fl : MFl} {D : Nat → WD} {st sm : Int} {Q : Nat → Nat} {sl : Option (Nat × Nat)}
theorem set_main (h : RInv G P Fin S W0 j0 r0 m gs w t s rm fl D st sm Q) {fl' : MFl} {a' : Goroutine} {u : Trace} (hu : Plain (j0 + m) u) (hma : MAt G P Fin fl' s rm a' w) (hsem : sm = 1 → fl' = .run) (hnpk : fl' = .park → ∀ i, i < m → (D i).pk = false) (hpkt : fl' = .park → clo s.tag = false) {gs' : Array Goroutine} (hsz : gs'.size = gs.size) (h0 : gs'[0]? = some a') (ho : ∀ k, k ≠ 0 → gs'[k]? = gs[k]?) :
  RInv G P Fin S W0 j0 r0 m gs' w (t ++ u) s rm fl' D st sm Q := by
 have hj1 := h.j1
 refine ⟨h.gk, h.j1, by rw [hsz]; exact h.sz, by simp only [Array.size_append]; have := h.rt; omega, ⟨a', h0, hma⟩, fun j hj => ?_, fun k k1 k2 => ?_, ?_, by rw [hu.deaf]; exact h.d0, h.wg, h.mode, hsem, h.hp, h.bud, fun j hj he hes => ?_, h.opn, fun e j hj => ?_, hpkt, h.m1, h.big⟩
 ·rw [hu.deaf, ho _ (by omega)]; exact h.wk j hj
 ·rw [hu.deaf, ho _ (by omega)]; exact h.lv k k1 k2
 ·exact h.tr.mute h.rt (fun b hb => hb) (fun k l _ hl => hl) hu.mute (fun op hop => (hu op hop).1) fun op hop a => (hu op hop).2.2 _
 ·obtain ⟨⟨r, hr1⟩, hr2⟩ := h.rl j hj he hes
  exact ⟨⟨r, RelBy.mute hr1 hu.mute⟩, hr2⟩
 ·rcases e with e | e
  ·exact h.npk (.inl e) j hj
  ·exact hnpk e j hj
theorem plain_nil (n k : Nat) (fn : FuncId) (pos : String) : Plain n (MemOp.ofEvents k fn pos #[]) := fun op hop => by rw [ofEvents_eq] at hop; simp at hop
theorem main_send (h : RInv G P Fin S W0 j0 r0 m gs w t s rm fl D st sm Q) {a : Goroutine} (ha : gs[0]? = some a) (hag : a = s.g) (hfl : fl = .run) {f : MS → RT MS} (hrm : rm = .node f) (hst : s.g.status = .running) {x : Nat} (hS : ∀ w1, Rel G (fun _ => False) w w1 → SendM G P (fun s1 => BehM G P Fin (f s1) s1) { s with w := w1 } x) : Goal G P Fin S W0 j0 r0 gs w sl t (muOf j0 m D rm fl Q) 0 := by
 have hj1 := h.j1
 have Sd := hS w (Rel.refl ..)
 have htag : s.tag = .sd x := Sd.tag
 have hgo : stepG P (0 == 0) a w = .comm { s.g with status := .running, offers := none } #[scase G.Ch (.int .i64 x) G.zs] true .send w #[] := by rw [hag]; exact Sd.step
 obtain ⟨a1, b1, hc⟩ := h.hp.ch
 have hcl : clo s.tag = false := by rw [htag]; rfl
 rw [hcl] at hc
 have hmem : ∀ j k, (j, k) ∈ partners (gs.setIfInBounds 0 ph) G.Ch false → k = 0 ∧ ∃ i, i < m ∧ j = j0 + i ∧ (D i).pk = true ∧ gs[j]? = some (parked { (D i).st.g with status := .running, offers := none } #[rcase G.Ch G.z] (.recv true)) := by
  intro j k hjk
  obtain ⟨g2, hg2, hk⟩ := mem_partners.1 hjk
  rcases getElem?_stand gs 0 j g2 hg2 with ⟨_, rfl⟩ | ⟨hj0, hg2⟩
  ·rw [offersAt_ph] at hk; cases hk
  ·rcases h.who hg2 with ⟨hj0', _⟩ | ⟨i, hi, hj, hw⟩ | ⟨_, _, hq⟩
   ·exact absurd hj0' hj0
   ·cases hpk : (D i).pk with
    | false => rw [hw.offers.2.1 hpk] at hk; cases hk
    | true =>
     obtain ⟨e1, e2⟩ := hw.offers.2.2 hpk
     rw [e1] at hk
     simp at hk
     exact ⟨hk, i, hi, hj, hpk, by rw [hg2, e2]⟩
   ·rw [offers_run hq.status] at hk; cases hk
 by_cases hne : partners (gs.setIfInBounds 0 ph) G.Ch false = []
 ·have hrun := crowd_waits (P := P) (sl := sl) ha hgo (fun cc hcc => by
   have : cc = scase G.Ch (.int .i64 x) G.zs := by simpa using hcc
   subst this
   exact ways_send_none hc (by simp) hne)
  have hnp : ∀ i, i < m → (D i).pk = false := fun i hi => by
   cases hpk : (D i).pk with
   | false => rfl
   | true =>
    obtain ⟨g2, hg2, hw⟩ := h.wk i hi
    have : (j0 + i, 0) ∈ partners (gs.setIfInBounds 0 ph) G.Ch false := mem_partners.2 ⟨g2, by rw [Array.getElem?_setIfInBounds_ne (by omega)]; exact hg2, by rw [(hw.offers.2.2 hpk).1]; simp⟩
    rw [hne] at this; cases this
  refine ⟨_, _, muOf j0 m D rm .park Q, hrun, Prod.Lex.right _ (Prod.Lex.right _ (by rw [hfl]; simp [MFl.num])), m, _, w, sl, s, rm, .park, D, st, sm, Q, rfl, ?_, rfl⟩
  exact set_main h (plain_nil _ _ _ _) (.park f x rfl rfl hrm hst hS) (fun e => absurd e (sem_ne h.mode (by rw [htag]; simp))) (fun _ => hnp) (fun _ => hcl) (by simp) (Array.getElem?_setIfInBounds_self_of_lt (by rw [h.sz]; omega)) fun k hk => Array.getElem?_setIfInBounds_ne (Ne.symm hk)
 ·obtain ⟨j, gj, zj, shj, d, hj0, hgj, hrun⟩ := crowd_send_meets_some (P := P) (sl := sl) ha hgo hc hne (fun j k hjk => by
   obtain ⟨rfl, i, hi, rfl, _, hg⟩ := hmem j k hjk
   exact ⟨rfl, by omega, _, _, _, hg⟩)
  have ho : offersAt (parked gj #[rcase G.Ch zj] shj) G.Ch false = [0] := by rw [offersAt_parked_recv, if_pos rfl]
  have : ∃ i, i < m ∧ j = j0 + i ∧ gs[j]? = some (parked { (D i).st.g with status := .running, offers := none } #[rcase G.Ch G.z] (.recv true)) ∧ WAt G P (D i) (Deaf t (j0 + i)) (parked gj #[rcase G.Ch zj] shj) w ∧ (D i).pk = true := by
   rcases h.who hgj with ⟨hj0', _⟩ | ⟨i, hi, hj, hw⟩ | ⟨_, _, hq⟩
   ·exact absurd hj0' hj0
   ·cases hpk : (D i).pk with
    | false => rw [hw.offers.2.1 hpk] at ho; cases ho
    | true => exact ⟨i, hi, hj, by rw [hgj, (hw.offers.2.2 hpk).2], hw, hpk⟩
   ·rw [offers_run hq.status] at ho; cases ho
  obtain ⟨i, hi, rfl, hgj2, hw, hpk⟩ := this
  rw [hgj2] at hgj
  have hpe := Option.some.inj hgj
  obtain ⟨e1, e2, _⟩ := parked_inj hpe
  rw [← e2] at hrun
  rw [finishComm_send, show gj.finishComm P #[rcase G.Ch zj] (.recv true) 0 (.int .i64 x) true = Conc.served (D i).st.g (recvd true (.int .i64 x) true) from by rw [finishComm_recv, ← served_of_parked (P := P) hpe]; rfl, served_run] at hrun
  cases hw with
  | run h1 h2 _ _ _ _ _ => rw [hpk] at h2; cases h2
  | out _ h2 _ => rw [hpk] at h2; cases h2
  | park F h1 h2 h3 h4 h5 h6 h7 =>
   have hpl := comm_plain (n := j0 + m) (i := 0) (j := j0 + i) (by omega) (by omega) (a := .send G.Ch a1) (b := .recv G.Ch b1 0) (c := .sendDone G.Ch a1) (d := .recvDone G.Ch b1) ({ s.g with status := .running, offers := none } : Goroutine).frame.fn gj.frame.fn ({ s.g with status := .running, offers := none } : Goroutine).frame.place gj.frame.place (by simp [MemAct.touch?]) (by simp [MemAct.touch?]) (by simp [MemAct.touch?]) (by simp [MemAct.touch?]) a.frame.fn a.frame.place 0
   obtain ⟨s', rm', d', k1, k2⟩ := pass_item (a := a1 + 1) (b := b1 + 1) (d := d) (gs' := (gs.setIfInBounds (j0 + i) (Conc.served (D i).st.g (recvd true (.int .i64 x) true))).setIfInBounds 0 (Conc.served s.g undef)) h hi h4 h7 h1 h6 hrm hS hpl rfl (by simp only [Array.size_setIfInBounds]) (by rw [Array.getElem?_setIfInBounds_self_of_lt (by rw [Array.size_setIfInBounds, h.sz]; omega)]) (by rw [Array.getElem?_setIfInBounds_ne (by omega), Array.getElem?_setIfInBounds_self_of_lt (by rw [h.sz]; omega)]) (fun k k0 k1 => by rw [Array.getElem?_setIfInBounds_ne (by omega), Array.getElem?_setIfInBounds_ne (by omega)])
   exact ⟨_, _, muOf j0 m (upd D i d') rm' .run Q, hrun, Prod.Lex.left _ _ k2, m, _, _, sl, s', rm', .run, _, st, sm, Q, rfl, k1, rfl⟩
theorem main_go (h : RInv G P Fin S W0 j0 r0 m gs w t s rm fl D st sm Q) {a g' child : Goroutine} (ha : gs[0]? = some a) (hfl : fl = .run) {r : Nat} (htag : s.tag = .sp (r + 1) true) (hd : s.d = 0) (hgo : stepG P true a w = .spawn g' child w #[]) {rm' : RT MS} {s' : MS} (hs' : s' = { s with tag := spNext r, g := g', w := w }) (hB : BehM G P Fin rm' s') (hlt : RT.Lt rm' rm)
  (hC : ∃ q, BehW G P q ⟨.run, child, w, fun _ => False, fun _ => False, fun _ => False, G.N⟩) : Goal G P Fin S W0 j0 r0 gs w sl t (muOf j0 m D rm fl Q) 0 := by
 have hj1 := h.j1
 obtain ⟨q, hC⟩ := hC
 have hrunT := runT_crowd_spawn (P := P) (sl := sl) (i := 0) ha (by simpa using hgo)
 have hops : ((MemOp.ofEvents 0 a.frame.fn a.frame.place #[]).push { g := 0, fn := a.frame.fn, pos := a.frame.place, act := .go gs.size }).push { g := gs.size, fn := child.frame.fn, pos := a.frame.place, act := .start } = #[({ g := 0, fn := a.frame.fn, pos := a.frame.place, act := .go gs.size } : MemOp), { g := gs.size, fn := child.frame.fn, pos := a.frame.place, act := .start }] := by rw [ofEvents_eq]; simp
 rw [hops] at hrunT
 generalize hx : ({ g := 0, fn := a.frame.fn, pos := a.frame.place, act := .go gs.size } : MemOp) = x at hrunT
 generalize hy : ({ g := gs.size, fn := child.frame.fn, pos := a.frame.place, act := .start } : MemOp) = y at hrunT
 have hst2 : ∀ k, Deaf (t ++ #[x, y]) k = Deaf t k := fun k => ConcN.Deaf_still t k _ fun op hop => by
  simp at hop
  rcases hop with rfl | rfl
  ·rw [← hx]; simp
  ·rw [← hy]; simp
 have hmu : mute #[x, y] := by
  intro op hop
  simp at hop
  rcases hop with rfl | rfl
  ·rw [← hx]; rfl
  ·rw [← hy]; rfl
 have hgs : gs.size = j0 + m := h.sz
 have htr0 := h.tr.fork h.rt (by omega) (by omega) (x := x) (y := y) (by rw [← hx]; exact ⟨rfl, by simp only [hgs]⟩) (by rw [← hy]; exact ⟨hgs, rfl⟩) (h.d0.trans hd)
 have hnew : Deaf t (j0 + m) = 0 := Deaf_absent fun i op hi e => by have := h.tr.tr.gs i op hi; omega
 have hm0 := h.mode.openSt (by rw [htag]; trivial)
 have hopen : ∀ i, i < m → (D i).st.ph = .run := h.opn (by rw [htag]; rfl)
 have hp0 := h.hp
 rw [htag] at hp0
 simp only [clo, sent] at hp0
 have hclo : clo (spNext r) = false := by unfold spNext; split <;> rfl
 have hsent : sent G (spNext r) = 0 := by unfold spNext; split <;> rfl
 have hopn2 : isOpen (spNext r) := by unfold spNext; split <;> trivial
 have hpend : pend (spNext r) = 0 := by unfold spNext; split <;> rfl
 let D' : Nat → WD := upd D m ⟨⟨.run, child, w, fun _ => False, fun _ => False, fun _ => False, G.N⟩, q, false, 0⟩
 have hD : ∀ i, i < m → D' i = D i := fun i hi => upd_ne _ _ (by omega)
 have hDm : D' m = ⟨⟨.run, child, w, fun _ => False, fun _ => False, fun _ => False, G.N⟩, q, false, 0⟩ := upd_same ..
 have hall : ∀ i, i < m + 1 → dP D' i = .run := fun i hi => by
  by_cases e : i = m
  ·subst e; show (D' i).st.ph = _; rw [hDm]
  ·show (D' i).st.ph = _; rw [hD i (by omega)]; exact hopen i (by omega)
 have hcnt : cnt (m + 1) (dP D') = cnt m (dP D) + 1 := by
  have e1 : cnt m (dP D') = cnt m (dP D) := sumTo_congr fun i hi => by show cph (D' i).st.ph = _; rw [hD i hi]; rfl
  show cnt m (dP D') + cph (dP D' m) = _
  rw [e1, hall m (by omega)]; rfl
 have hM : ∀ i b, i < m + 1 → dM D' i b → i < m ∧ dM D i b := fun i b hi hb => by
  by_cases e : i = m
  ·subst e; have hb : (D' i).st.M b := hb; rw [hDm] at hb; exact hb.elim
  ·have hb : (D' i).st.M b := hb
   rw [hD i (by omega)] at hb; exact ⟨by omega, hb⟩
 have hH : ∀ i b, i < m + 1 → dH D' i b → i < m ∧ dH D i b := fun i b hi hb => by
  by_cases e : i = m
  ·subst e; have hb : (D' i).st.H b := hb; rw [hDm] at hb; exact hb.elim
  ·have hb : (D' i).st.H b := hb
   rw [hD i (by omega)] at hb; exact ⟨by omega, hb⟩
 have hX : ∀ i b, i < m + 1 → dX D' i b → i < m ∧ dX D i b := fun i b hi hb => by
  by_cases e : i = m
  ·subst e; have hb : (D' i).st.S b := hb; rw [hDm] at hb; exact hb.elim
  ·have hb : (D' i).st.S b := hb
   rw [hD i (by omega)] at hb; exact ⟨by omega, hb⟩
 have hp : HInv G S W0 (m + 1) (dM D') (dH D') (dX D') false 0 w := by
  refine ⟨hp0.row, hp0.ch, hp0.base, hp0.sb, fun i b hi hb => hp0.own i b (hM i b hi hb).1 (hM i b hi hb).2, fun i j b hi hj hb hb' => hp0.dis i j b (hM i b hi hb).1 (hM j b hj hb').1 (hM i b hi hb).2 (hM j b hj hb').2, fun i x hi hx => hp0.hd i x (hH i x hi hx).1 (hH i x hi hx).2, fun i j x hi hj hx hx' => hp0.hdis i j x (hH i x hi hx).1 (hH j x hj hx').1 (hH i x hi hx).2 (hH j x hj hx').2, fun x hx => by omega, fun i x hi hx => hp0.sok i x (hX i x hi hx).1 (hX i x hi hx).2, hp0.w0⟩
 have hsz1 : (gs.setIfInBounds 0 g').size = j0 + m := by simp [hgs]
 refine ⟨_, _, muOf j0 (m + 1) D' rm' .run Q, hrunT, Prod.Lex.left _ _ hlt, m + 1, _, w, sl, s', rm', .run, D', st, sm, Q, rfl, ?_, rfl⟩
 have hget : ∀ k, k ≠ 0 → k < j0 + m → ((gs.setIfInBounds 0 g').push child)[k]? = gs[k]? := fun k k0 k1 => by
  rw [Array.getElem?_push_lt (by rw [hsz1]; exact k1), ← Array.getElem?_eq_getElem, Array.getElem?_setIfInBounds_ne (Ne.symm k0)]
 refine ⟨h.gk, h.j1, by simp [hgs]; omega, by simp only [Array.size_append]; have := h.rt; omega, ⟨g', ?_, .run rfl (by rw [hs']) (by subst hs'; exact hB)⟩, fun j hj => ?_, fun k k1 k2 => ?_, ?_, by rw [hst2, hs']; exact h.d0, h.wg, ?_, fun _ => rfl, by rw [hs']; simp only [hclo, hsent]; exact hp, fun j hj he => ?_, fun j hj he _ => absurd (hall j hj) he, fun _ => hall, fun e => ?_, fun e => (by cases e), fun _ => by omega, ?_⟩
 ·rw [Array.getElem?_push_lt (by rw [hsz1]; omega), ← Array.getElem?_eq_getElem, Array.getElem?_setIfInBounds_self_of_lt (by omega)]
 ·rw [hst2]
  by_cases e : j = m
  ·subst e
   refine ⟨child, ?_, by rw [hDm]; exact .run (by simp) rfl (BehW.running hC) (fun _ => rfl) rfl hC hnew⟩
   rw [← hsz1, Array.getElem?_push_size]
  ·rw [hget _ (by omega) (by omega), hD j (by omega)]
   exact h.wk j (by omega)
 ·rw [hst2, hget _ (by omega) (by omega)]
  exact h.lv k k1 k2
 ·have := htr0.mute (u := #[]) (T' := fun b => b < w.heap.size ∧ ¬ S b) (Ow' := OwD G j0 (m + 1) (dM D') (dH D')) (by simp only [Array.size_append]; have := h.rt; omega) (fun b hb => hb) (fun k l hk hl => ?_) (fun op hop => by simp at hop) (fun op hop => by simp at hop) (fun op hop => by simp at hop)
  ·rw [Array.append_empty] at this; exact this
  ·obtain ⟨l1, l2⟩ := hl
   refine ⟨by omega, ?_⟩
   have e : D' (k - j0) = D (k - j0) := hD _ (by omega)
   show (∃ b, blk l = some b ∧ (D' (k - j0)).st.M b) ∨ ∃ x, l = .cell (oCell G x) ∧ (D' (k - j0)).st.H x
   rw [e]; exact l2
 ·rw [hs', hm0.1, hm0.2.1, htag]
  have := Mode.opn (m := m + 1) (F := dP D') hopn2 (fun i hi => .inl (hall i hi)) (fun V e => by unfold spNext at e; split at e <;> cases e) fun V e => by unfold spNext at e; split at e <;> cases e
  rw [hcnt, hpend] at this
  exact this
 ·rw [hs']
  simp only [hsent]
  by_cases e : j = m
  ·subst e; rw [hDm]; simp
  ·have := h.bud j (by omega) (hopen j (by omega))
   rw [htag] at this
   rw [hD j (by omega)]; exact this
 ·rw [hs'] at e
  simp only [hclo] at e
  rcases e with e | e <;> cases e
 ·have := h.big
  rw [htag] at this
  rw [hs']
  have : left (spNext r) ≤ r := by unfold spNext; split <;> simp [left]
  simp only [left] at *
  omega
end
end Go.Mx
namespace Go.Mx
open Go Go.Conc
open Go.ConcN (WgLive sumTo upd upd_same upd_ne sumTo_congr sumTo_upd le_sumTo sumTo_le Deaf_absent fork_knows RelBy get_map_set get_map_set_same)
open Go.ConcR (KK WgAt stA smA rd wr mk g_of_ofEvents loc_of_ofEvent)
section
variable {G : Geo} {P : Program} {Fin : Goroutine → Prop} {S : Nat → Prop} {W0 : World} {j0 r0 m : Nat} {gs : Array Goroutine} {w w' : World} {t : Trace} {s : MS} {rm : RT MS} {fl : MFl} {D : Nat → WD} {st sm : Int} {Q : Nat → Nat} {sl : Option (Nat × Nat)}
theorem at_mk {S : Nat → Prop} {mk : Mark} (h : (MemAct.mark mk).touch? = none) : ∀ e ∈ #[ConcR.mk mk], AtEv S e := by
 intro e he; simp at he; subst he; exact .inl h
theorem at_rd {S : Nat → Prop} {a : Addr} (h : S a.block) : ∀ e ∈ #[rd a], AtEv S e := by
 intro e he; simp at he; subst he; exact .inr (.inl ⟨_, _, rfl, h⟩)
theorem at_rdwr {S : Nat → Prop} {a : Addr} (h : S a.block) : ∀ e ∈ #[rd a, wr a], AtEv S e := by
 intro e he; simp at he
 rcases he with rfl | rfl <;> exact .inr (.inl ⟨_, _, rfl, h⟩)
theorem at_sem {S : Nat → Prop} {a : Addr} (h : S a.block) : ∀ e ∈ semEvents a, AtEv S e := by
 intro e he; simp [semEvents] at he
 rcases he with rfl | rfl | rfl | rfl
 ·exact .inl rfl
 ·exact .inr (.inl ⟨_, _, rfl, h⟩)
 ·exact .inr (.inl ⟨_, _, rfl, h⟩)
 ·exact .inl rfl
theorem nr_rdwr {a : Addr} : ∀ e ∈ #[rd a, wr a], ∀ b, e.loc ≠ .mark (.release b) := by
 intro e he b; simp at he
 rcases he with rfl | rfl <;> simp [rd, wr]
theorem nr_rd {a : Addr} : ∀ e ∈ #[rd a], ∀ b, e.loc ≠ .mark (.release b) := by
 intro e he b; simp at he; subst he; simp [rd]
theorem nr_sem {a : Addr} : ∀ e ∈ semEvents a, ∀ b, e.loc ≠ .mark (.release b) := by
 intro e he b; simp [semEvents] at he
 rcases he with rfl | rfl | rfl | rfl <;> simp
theorem Mode.w3St (h : Mode m (dP D) .w3 st sm) : sm = 0 ∨ (st = 0 ∧ sm = 1 ∧ ∀ i, i < m → dP D i = .out) := by
 cases h with
 | opn a _ _ _ => exact a.elim
 | reg _ _ => exact .inl rfl
 | last _ _ _ _ => exact .inl rfl
 | sema a => exact .inr ⟨rfl, rfl, a⟩
 | fin a _ => rcases a with a | a <;> cases a
theorem main_step (h : RInv G P Fin S W0 j0 r0 m gs w t s rm fl D st sm Q) {a : Goroutine} (ha : gs[0]? = some a) (hfl : fl = .run) (hag : a = s.g) (hb : BehM G P Fin rm { s with w := w }) : Goal G P Fin S W0 j0 r0 gs w sl t (muOf j0 m D rm fl Q) 0 ∨ EndStep G P Fin S W0 gs w sl t 0 := by
 have hj1 := h.j1
 have rt : ∀ (f : MS → RT MS) (s1 : MS), RT.Lt (f s1) (.node f) := fun f s1 => ⟨s1, rfl⟩
 cases rm with
 | leaf => exact hb.elim
 | node f =>
  obtain ⟨hst, hb⟩ := hb
  rcases hb with hA | ⟨x, hS⟩ | hS
  ·have act := hA w (Rel.refl ..)
   cases act with
   | @quiet g' w' es h1 h2 h3 h4 h5 =>
    simp only at h1 h2 h3 h4 h5
    refine .inl (mStep h ha (by rw [hag]; exact h1) (s' := { s with g := g', w := w' }) hfl rfl rfl h5 (rt ..) (h3.one _) (fun ⟨p, q, k⟩ => ⟨p, q, wgAt_of k (by rw [h3.heap])⟩) (wgAt_of h.wg (by rw [h3.heap])) h.mode rfl rfl h.m1 (Nat.le_refl _) (deafBehind_still (fun e he => (h4 e he).loc.1) _) ?_ (nrel_at (S := S) fun e he => (h4 e he).loc.2))
    exact tok_QEv0 h4 h.gk fun b hb => by rw [h3.heap]; exact h.hp.base b hb
   | @dis g' h1 h2 h3 =>
    simp only at h1 h2 h3
    exact .inl (mStep h ha (by rw [hag]; exact h1) (s' := { s with g := g', w := w, d := s.d + 1 }) hfl rfl rfl h3 (rt ..) (One.refl ..) id h.wg h.mode rfl rfl h.m1 (Nat.le_refl _) (by simp [deafBehind, mk]) (tok_at (at_mk rfl)) (nrel_at (S := S) (by simp [mk])))
   | @ena g' h1 h2 h3 =>
    simp only at h1 h2 h3
    exact .inl (mStep h ha (by rw [hag]; exact h1) (s' := { s with g := g', w := w, d := s.d - 1 }) hfl rfl rfl h3 (rt ..) (One.refl ..) id h.wg h.mode rfl rfl h.m1 (Nat.le_refl _) (by simp [deafBehind, mk]) (tok_at (at_mk rfl)) (nrel_at (S := S) (by simp [mk])))
   | add r h1 h2 =>
    simp only at h1 h2
    have hm := h.mode.openSt (by rw [h1]; trivial)
    have hwg := h.wg
    rw [hm.1, hm.2.1, h1] at hwg
    have hcm := cnt_le m (dP D)
    obtain ⟨g', c1, c2, c3⟩ := h2 (cnt m (dP D)) (by have := h.big; omega) hwg
    have hone : One G.Wg w _ := One.setCell w (stA G.Wg) (.int .u64 (((cnt m (dP D) + 1 : Nat) : Int) * KK))
    have hwg' := ConcR.WgAt.setSt hwg (((cnt m (dP D) + 1 : Nat) : Int) * KK)
    refine .inl (mStep h ha (by rw [hag]; exact c1) (s' := { s with tag := .sp (r + 1) true, g := g', w := _ }) hfl rfl rfl c3 (rt ..) hone (fun _ => WgAt.live hwg') hwg' ?_ (by rw [h1]; rfl) (by rw [h1]; rfl) (fun e => absurd rfl (e _ _)) (by rw [h1]; exact Nat.le_refl _) (by simp [deafBehind, rd, wr]) (tok_at (at_rdwr h.gk.sW)) (nrel_at (S := S) nr_rdwr))
    exact Mode.opn (tag := .sp (r + 1) true) trivial hm.2.2.1 (fun V e => by cases e) fun V e => by cases e
   | @go g' child r h1 h2 h3 h4 h5 h6 =>
    simp only at h1 h2 h3 h4 h5 h6
    exact .inl (main_go h ha hfl h1 h2 (by rw [hag]; exact h3) rfl h6 (rt ..) h5)
   | close h1 h2 h3 =>
    simp only at h1 h2 h3
    exact .inl (main_close h ha hag hfl rfl h1 h2 h3)
   | w1 V h1 h2 =>
    simp only at h1 h2
    have hm := h.mode.openSt (by rw [h1]; trivial)
    have hwg := h.wg
    rw [hm.1, hm.2.1, h1] at hwg
    have hcm := cnt_le m (dP D)
    have hbg := h.big
    obtain ⟨g', c1, c2, c3, c4⟩ := h2 (cnt m (dP D)) (hm.2.2.2.1 V h1) (by omega) hwg
    by_cases hv : cnt m (dP D) = 0
    ·refine .inl (mStep h ha (by rw [hag]; exact c1) (s' := { s with tag := .ke, g := g', w := w }) hfl rfl rfl (c3 hv) (rt ..) (One.refl ..) id h.wg ?_ (by rw [h1]; rfl) (by rw [h1]; rfl) (fun _ => h.m1 (by rw [h1]; simp)) (by rw [h1]; exact Nat.le_refl _) (by simp [deafBehind, rd]) (tok_at (at_rd h.gk.sW)) (nrel_at (S := S) nr_rd))
     rw [hm.1, hm.2.1, hv, h1]
     simpa [pend] using Mode.fin (tag := .ke) (.inr rfl) (out_of_cnt0 hm.2.2.1 hv)
    ·refine .inl (mStep h ha (by rw [hag]; exact c1) (s' := { s with tag := .cas _, g := g', w := w }) hfl rfl rfl (c4 hv) (rt ..) (One.refl ..) id h.wg ?_ (by rw [h1]; rfl) (by rw [h1]; rfl) (fun _ => h.m1 (by rw [h1]; simp)) (by rw [h1]; exact Nat.le_refl _) (by simp [deafBehind, rd]) (tok_at (at_rd h.gk.sW)) (nrel_at (S := S) nr_rd))
     rw [hm.1, hm.2.1, h1]
     exact Mode.opn (tag := .cas (cnt m (dP D))) trivial hm.2.2.1 (fun V e => by cases e) fun V e => by cases e; exact ⟨Nat.le_refl _, by omega⟩
   | w2 V h1 h2 =>
    simp only at h1 h2
    have hm := h.mode.openSt (by rw [h1]; trivial)
    have hwg := h.wg
    rw [hm.1, hm.2.1, h1] at hwg
    have hcm := cnt_le m (dP D)
    have hbg := h.big
    have hV := hm.2.2.2.2 V h1
    obtain ⟨c1, c2⟩ := h2 (cnt m (dP D)) hV.1 (by omega) hwg
    by_cases hv : cnt m (dP D) = V
    ·obtain ⟨g', d1, d2, d3⟩ := c1 hv
     have hone : One G.Wg w _ := One.setCell w (stA G.Wg) (.int .u64 ((cnt m (dP D) : Nat) * KK + 1))
     have hwg' := ConcR.WgAt.setSt hwg ((cnt m (dP D) : Nat) * KK + 1)
     exact .inl (mStep h ha (by rw [hag]; exact d1) (s' := { s with tag := .w3, g := g', w := _ }) hfl rfl rfl d3 (rt ..) hone (fun _ => WgAt.live hwg') hwg' (Mode.reg hm.2.2.1 (by omega)) (by rw [h1]; rfl) (by rw [h1]; rfl) (fun _ => h.m1 (by rw [h1]; simp)) (by rw [h1]; exact Nat.le_refl _) (by simp [deafBehind, rd, wr]) (tok_at (at_rdwr h.gk.sW)) (nrel_at (S := S) nr_rdwr))
    ·obtain ⟨g', d1, d2, d3⟩ := c2 hv
     refine .inl (mStep h ha (by rw [hag]; exact d1) (s' := { s with tag := .wa _, g := g', w := w }) hfl rfl rfl d3 (rt ..) (One.refl ..) id h.wg ?_ (by rw [h1]; rfl) (by rw [h1]; rfl) (fun _ => h.m1 (by rw [h1]; simp)) (by rw [h1]; exact Nat.le_refl _) (by simp [deafBehind, rd]) (tok_at (at_rd h.gk.sW)) (nrel_at (S := S) nr_rd))
     rw [hm.1, hm.2.1, h1]
     exact Mode.opn (tag := .wa (cnt m (dP D))) trivial hm.2.2.1 (fun V e => by cases e; exact Nat.le_refl _) fun V e => by cases e
   | w4 h1 h2 =>
    simp only at h1 h2
    have hm := h.mode.finSt (.inl h1)
    have hwg := h.wg
    rw [hm.1, hm.2.1] at hwg
    obtain ⟨g', c1, c2, c3⟩ := h2 hwg
    refine .inl (mStep h ha (by rw [hag]; exact c1) (s' := { s with tag := .ke, g := g', w := w }) hfl rfl rfl c3 (rt ..) (One.refl ..) id hwg (.fin (.inr rfl) hm.2.2) (by rw [h1]; rfl) (by rw [h1]; rfl) (fun _ => h.m1 (by rw [h1]; simp)) (by rw [h1]; exact Nat.le_refl _) (by simp [deafBehind, rd]) (tok_at (at_rd h.gk.sW)) (nrel_at (S := S) nr_rd))
   | @acq g' h1 h2 h3 h4 h5 =>
    simp only at h1 h2 h3 h4 h5
    exact .inr (main_acq h ha h1 h2 (by rw [hag]; exact h3) h4 h5)
  ·exact .inl (main_send h ha hag hfl rfl hst hS)
  ·have Sd := hS w (Rel.refl ..)
   have htag : s.tag = .w3 := Sd.tag
   have hmode := h.mode
   rw [htag] at hmode
   rcases hmode.w3St with hsm | ⟨e1, e2, hall⟩
   ·have hwg := h.wg
    rw [hsm] at hwg
    have hgo := Sd.down ⟨st, hwg⟩
    simp only at hgo
    have hrunT := runT_crowd_go (P := P) (sl := sl) (i := 0) ha (by rw [hag]; simpa using hgo)
    have hwk : woken P a { s.g with status := .blocked } w = id := by funext o; simp [woken]
    rw [hwk, Array.map_id] at hrunT
    refine .inl ⟨_, _, muOf j0 m D (.node f) .blk Q, hrunT, Prod.Lex.right _ (Prod.Lex.right _ (by rw [hfl]; simp [MFl.num])), m, _, w, sl, s, .node f, .blk, D, st, sm, Q, rfl, ?_, rfl⟩
    exact set_main h (plain_nil _ _ _ _) (.blk f rfl rfl rfl hst hS) (fun e => by rw [hsm] at e; cases e) (fun e => by cases e) (fun e => by cases e) (by simp) (Array.getElem?_setIfInBounds_self_of_lt (by rw [h.sz]; omega)) fun k hk => Array.getElem?_setIfInBounds_ne (Ne.symm hk)
   ·have hwg := h.wg
    rw [e1, e2] at hwg
    obtain ⟨g', c1, c2, c3⟩ := Sd.up hwg
    simp only at c1 c2 c3
    have hone : One G.Wg w _ := One.setCell w (smA G.Wg) (.int .u32 0)
    have hwg' := ConcR.WgAt.setSm hwg 0
    exact .inl (mStep h ha (by rw [hag]; exact c1) (s' := { s with tag := .w4, g := g', w := _ }) hfl rfl rfl c3 (rt ..) hone (fun _ => WgAt.live hwg') hwg' (.fin (.inl rfl) hall) (by rw [htag]; rfl) (by rw [htag]; rfl) (fun _ => h.m1 (by rw [htag]; simp)) (by rw [htag]; exact Nat.le_refl _) (by simp [deafBehind, semEvents]) (tok_at (at_sem h.gk.sW)) (nrel_at (S := S) nr_sem))
theorem worker_step (h : RInv G P Fin S W0 j0 r0 m gs w t s rm fl D st sm Q) {i : Nat} (hi : i < m) {g : Goroutine} (hg : gs[j0 + i]? = some g) (hr : g.status = .running) : Goal G P Fin S W0 j0 r0 gs w sl t (muOf j0 m D rm fl Q) (j0 + i) := by
 obtain ⟨g2, hg2, hw⟩ := h.wk i hi
 rw [hg] at hg2; cases hg2
 cases hw with
 | run h1 h2 h3 h4 h5 h6 h7 =>
  cases hrk : (D i).rk with
  | leaf => rw [hrk] at h6; exact h6.elim
  | node f =>
   rw [hrk] at h6
   rcases h6 with ⟨hst, h6 | h6⟩
   ·exact worker_act h hi hg hrk h1 h2 h4 h5 h7 (h6 w (Rel.refl ..))
   ·exact worker_recv h hi hg hrk h2 hst h4 h7 h6
 | park f h1 h2 h3 h4 h5 h6 h7 => subst h3; simp [parked] at hr
 | out h1 h2 h3 => exact worker_out h hi hg h1 h2 h3 hr
theorem all_awake (h : RInv G P Fin S W0 j0 r0 m gs w t s rm fl D st sm Q) : ∀ g ∈ gs, awake g := by
 intro g hg
 obtain ⟨k, hk⟩ := Array.mem_iff_getElem?.1 hg
 rcases h.who hk with ⟨_, hm⟩ | ⟨_, _, _, hw⟩ | ⟨_, _, hq⟩
 ·exact hm.awake
 ·exact hw.awake
 ·exact QuitsD.awake hq
theorem WAt.runs {d : WD} {dd : Nat} {g : Goroutine} (h : WAt G P d dd g w) (h1 : d.pk = false) (h2 : d.st.ph ≠ .out) : g.status = .running := by
 cases h with
 | run _ _ h3 _ _ _ _ => exact h3
 | park _ _ h3 _ _ _ _ _ => rw [h1] at h3; cases h3
 | out h3 _ _ => exact absurd h3 h2
theorem exists_counted {F : Nat → Ph} : ∀ {m : Nat}, 1 ≤ cnt m F → ∃ i, i < m ∧ cph (F i) = 1
 | 0, h => by simp [cnt, sumTo] at h
 | m + 1, h => by
  by_cases hc : cph (F m) = 1
  ·exact ⟨m, by omega, hc⟩
  ·have h0 : cph (F m) = 0 := by have := cph_le (F m); omega
   have : 1 ≤ cnt m F := by simp only [cnt, sumTo] at h ⊢; omega
   obtain ⟨i, hi, h5⟩ := exists_counted this
   exact ⟨i, by omega, h5⟩
theorem someone_runs (h : RInv G P Fin S W0 j0 r0 m gs w t s rm fl D st sm Q) : ∃ (k : Nat) (g : Goroutine), gs[k]? = some g ∧ g.status = .running := by
 obtain ⟨a, ha, hma⟩ := h.mn
 have wrk : ∀ i, i < m → (D i).pk = false → (D i).st.ph ≠ .out → ∃ (k : Nat) (g : Goroutine), gs[k]? = some g ∧ g.status = .running := fun i hi h1 h2 => by
  obtain ⟨g, hg, hw⟩ := h.wk i hi
  exact ⟨_, g, hg, hw.runs h1 h2⟩
 cases hma with
 | run h1 h2 h3 => exact ⟨0, a, ha, by rw [h2]; exact h3.running⟩
 | park f x h1 h2 h3 h4 h5 =>
  have htag : s.tag = .sd x := (h5 w (Rel.refl ..)).tag
  have hm := h.m1 (by rw [htag]; simp)
  exact wrk 0 (by omega) (h.npk (.inr h1) 0 (by omega)) (by rw [h.opn (by rw [htag]; rfl) 0 (by omega)]; simp)
 | blk f h1 h2 h3 h4 h5 =>
  have htag : s.tag = .w3 := (h5 w (Rel.refl ..)).tag
  have hpk : ∀ i, i < m → (D i).pk = false := h.npk (.inl (by rw [htag]; rfl))
  have hmode := h.mode
  have hsem := h.sem
  rw [htag] at hmode
  generalize htg : MTag.w3 = tg at hmode
  cases hmode with
  | opn c _ _ _ => subst htg; exact c.elim
  | reg c1 c2 =>
   obtain ⟨i, hi, hc⟩ := exists_counted c2
   exact wrk i hi (hpk i hi) fun e => by have : dP D i = .out := e; rw [this] at hc; cases hc
  | last L c1 c2 _ => exact wrk L c1 (hpk L c1) fun e => by have : dP D L = .out := e; rw [this] at c2; simp at c2
  | sema _ => have := hsem rfl; rw [h1] at this; cases this
  | fin c _ => subst htg; rcases c with c | c <;> cases c
theorem RInv.at (h : RInv G P Fin S W0 j0 r0 m gs w t s rm fl D st sm Q) (d : Nat) : RInv G P Fin S W0 j0 r0 m gs (w.at d) t s rm fl D st sm Q := by
 have hr : ∀ M, Rel G M w (w.at d) := fun M => Rel.at G M w d
 obtain ⟨a, ha, hma⟩ := h.mn
 have hp := h.hp
 exact ⟨h.gk, h.j1, h.sz, h.rt, ⟨a, ha, hma.rely (hr _)⟩, fun i hi => let ⟨g, hg, hw⟩ := h.wk i hi; ⟨g, hg, hw.rely (hr _)⟩, h.lv, h.tr, h.d0, h.wg, h.mode, h.sem, ⟨hp.row, hp.ch, hp.base, hp.sb, hp.own, hp.dis, hp.hd, hp.hdis, hp.hall, hp.sok, hp.w0.trans (hr _)⟩, h.bud, h.rl, h.opn, h.npk, h.pkt, h.m1, h.big⟩
theorem round_step {μ : RT MS × List (Nat × RT WS × Nat) × Nat} {mc : Machine} {t : Trace} (h : RI G P Fin S W0 j0 r0 μ mc t) :
  (∃ m' ops, stepT P mc = (.next m', ops) ∧ REnd G P Fin S W0 m' (t ++ ops)) ∨ (∃ m' ops μ', stepT P mc = (.next m', ops) ∧ MLt μ' μ ∧ RI G P Fin S W0 j0 r0 μ' m' (t ++ ops)) := by
 obtain ⟨m, gs, w, sl, s, rm, fl, D, st, sm, Q, rfl, h, rfl⟩ := h
 obtain ⟨k, g, d, sl', hg, hrun, hstep⟩ := crowd_pick (P := P) (w := w) (sl := sl) (all_awake h) (someone_runs h)
 rw [hstep]
 have h' := h.at d
 rcases h'.who hg with ⟨rfl, hm⟩ | ⟨i, hi, rfl, hw⟩ | ⟨k1, k2, hq⟩
 ·cases hm with
  | run h1 h2 h3 =>
   rcases main_step (sl := sl') h' hg h1 h2 h3 with ⟨m1, ops, μ', e1, e2, e3⟩ | ⟨m1, ops, e1, e2⟩
   ·exact .inr ⟨m1, ops, μ', e1, e2, e3⟩
   ·exact .inl ⟨m1, ops, e1, e2⟩
  | park f x h1 h2 h3 h4 h5 => subst h2; simp [parked] at hrun
  | blk f h1 h2 h3 h4 h5 => subst h2; simp at hrun
 ·exact .inr (worker_step (sl := sl') h' hi hg hrun)
 ·exact .inr (old_step (sl := sl') h' k1 k2 hg hrun)
theorem round_run : ∀ (μ : RT MS × List (Nat × RT WS × Nat) × Nat) (mc : Machine) (t : Trace), RI G P Fin S W0 j0 r0 μ mc t → ∃ N m' t', runNT P N mc t = (.next m', t') ∧ REnd G P Fin S W0 m' t' := by
 intro μ
 induction μ using MLt.wf.induction with
 | _ μ ih =>
  intro mc t h
  rcases round_step h with ⟨m', ops, h1, h2⟩ | ⟨m', ops, μ', h1, h2, h3⟩
  ·exact ⟨1, m', t ++ ops, by rw [runNT_succ_next h1]; rfl, h2⟩
  ·obtain ⟨N, m2, t2, k1, k2⟩ := ih μ' h2 m' (t ++ ops) h3
   exact ⟨N + 1, m2, t2, by rw [runNT_succ_next h1]; exact k1, k2⟩
theorem round_start {S0 T0 : Nat → Prop} {n R : Nat} (hc : Calm P S0 T0 n gs w t Q) {a : Goroutine} (ha : gs[0]? = some a) (hS : ∀ b, S b ↔ S0 b ∨ b = G.Wg ∨ b = G.Ch) (hgk : GeoOk G S) (hT : ¬ T0 G.Wg ∧ ¬ T0 G.Ch) (hS0 : ¬ S0 G.Wg ∧ ¬ S0 G.Ch)
  (hwg : WgAt G.ty G.Wg w 0 0) (hrow : RowLive G w) (hch : ∃ s r, w.heap[G.Ch]? = some (.chan 0 #[] false s r false)) (hbase : ∀ b, G.base b → b < w.heap.size) (hR1 : 1 ≤ R) (hR : R < 2147483647) {rm : RT MS} (hb : BehM G P Fin rm ⟨.sp R false, 0, a, w⟩) (sl : Option (Nat × Nat)) :
  ∃ N m' t', runNT P N (crowd gs w sl) t = (.next m', t') ∧ REnd G P Fin S w m' t' := by
 have nt : ∀ i x, touchAt t i = some x → ∀ b, blk x.loc = some b → b ≠ G.Wg ∧ b ≠ G.Ch := fun i x hx b hb => by
  refine ⟨fun e => ?_, fun e => ?_⟩ <;> subst e
  ·rcases hc.tr.tb i x hx _ hb with k | k
   ·exact hT.1 k
   ·exact hS0.1 k
  ·rcases hc.tr.tb i x hx _ hb with k | k
   ·exact hT.2 k
   ·exact hS0.2 k
 have sh : ∀ i x, touchAt t i = some x → ShL S x.loc → ShL S0 x.loc := fun i x hx ⟨b, hb, hSb⟩ => by
  rcases (hS b).1 hSb with k | k | k
  ·exact ⟨b, hb, k⟩
  ·exact absurd k (nt i x hx b hb).1
  ·exact absurd k (nt i x hx b hb).2
 have sh' : ∀ l, ShL S0 l → ShL S l := fun l ⟨b, hb, k⟩ => ⟨b, hb, (hS b).2 (.inl k)⟩
 have hlt : ∀ b, S b → b < w.heap.size := fun b hb => by
  rcases (hS b).1 hb with k | rfl | rfl
  ·exact hc.sb b k
  ·exact (Array.getElem?_eq_some_iff.1 hwg).1
  ·obtain ⟨_, _, k⟩ := hch; exact (Array.getElem?_eq_some_iff.1 k).1
 let D : Nat → WD := fun _ => ⟨default, .leaf, false, 0⟩
 refine round_run (j0 := n) (r0 := t.size) (muOf n 0 D rm .run Q) _ _ ⟨0, gs, w, sl, ⟨.sp R false, 0, a, w⟩, rm, .run, D, 0, 0, Q, rfl, ?_, rfl⟩
 refine ⟨hgk, hc.n1, by rw [hc.sz]; rfl, Nat.le_refl _, ⟨a, ha, .run rfl rfl hb⟩, fun i hi => by omega, hc.lv, ?_, hc.d0, hwg, ?_, fun e => (by cases e), ⟨hrow, hch, hbase, hlt, fun i b hi => by omega, fun i j b hi => by omega, fun i x hi => by omega, fun i j x hi => by omega, fun x hx => by simp [sent] at hx, fun i x hi => by omega, Rel.refl ..⟩, fun i hi => by omega, fun i hi => by omega, fun _ i hi => by omega, fun _ i hi => by omega, fun e => (by cases e), fun e => absurd rfl (e R false), by simpa [left] using hR⟩
 ·refine ⟨⟨fun i op x hi hx hs => ?_, hc.tr.nr, fun i op hi => hc.tr.gs i op hi, fun i x hx hm hs => hc.tr.pl i x hx hm fun k => hs (sh' _ k), fun i x hx b hb => ?_⟩, fun i x hi hx hm hs k hk hkn => ?_, fun i x hi hx => ?_, hc.ho, hc.nrl⟩
  ·exact hc.tr.quiet i op x hi hx (sh i x (by rw [touchAt_of hi]; exact hx) hs)
  ·by_cases e : S b
   ·exact .inr e
   ·refine .inl ⟨?_, e⟩
    rcases hc.tr.tb i x hx b hb with k | k
    ·exact hc.tb b k
    ·exact hc.sb b k
  ·have : k = 0 := by omega
   subst this
   exact hc.kn i x hx hm fun k => hs (sh' _ k)
  ·obtain ⟨op, ho, _⟩ := touch_of hx
   have := lt_size_of_getElem? ho
   omega
 ·have := Mode.opn (m := 0) (F := dP D) (tag := .sp R false) trivial (fun i hi => by omega) (fun V e => by cases e) fun V e => by cases e
  simpa [cnt, sumTo, pend] using this
end
end Go.Mx
namespace Go.Mx
open Go Go.Conc
open Go.ConcN (WgLive)
open Go.ConcR (KK WgAt stA smA rd wr mk DC0)
section
variable {G : Geo} {P : Program} {Fin : Goroutine → Prop}
theorem ActW.mono {K K' : WS → Prop} (hk : ∀ s, K s → K' s) {s : WS} (h : ActW G P K s) : ActW G P K' s := by
 cases h with
 | quiet a b c d e f => exact .quiet a b c d e (hk _ f)
 | idle a b c d => exact .idle a b c (hk _ d)
 | store i a b c d e f => exact .store i a b c d e (hk _ f)
 | rel a b c d e => exact .rel a b c d (hk _ e)
 | dis a b c d => exact .dis a b c (hk _ d)
 | d1 a b => exact .d1 a fun v wt h1 h2 h3 => let ⟨g', e1, e2, e3⟩ := b v wt h1 h2 h3; ⟨g', e1, fun k => ⟨(e2 k).1, hk _ (e2 k).2⟩, e3⟩
 | d2 a b => exact .d2 a fun h => let ⟨g', e1, e2, e3⟩ := b h; ⟨g', e1, e2, hk _ e3⟩
 | d3 a b => exact .d3 a fun h => let ⟨g', e1, e2, e3⟩ := b h; ⟨g', e1, e2, hk _ e3⟩
 | d4 a b c => exact .d4 a b c
theorem RecvW.mono {K K' : WS → Prop} (hk : ∀ s, K s → K' s) {s : WS} (h : RecvW G P K s) : RecvW G P K' s := ⟨h.ph, h.step, fun i k' a b => hk _ (h.got i k' a b), hk _ h.shut⟩
theorem ActM.mono {K K' : MS → Prop} (hk : ∀ s, K s → K' s) {s : MS} (h : ActM G P Fin K s) : ActM G P Fin K' s := by
 cases h with
 | quiet a b c d e => exact .quiet a b c d (hk _ e)
 | dis a b c => exact .dis a b (hk _ c)
 | ena a b c => exact .ena a b (hk _ c)
 | add r a b => exact .add r a fun v h1 h2 => let ⟨g', e1, e2, e3⟩ := b v h1 h2; ⟨g', e1, e2, hk _ e3⟩
 | go r a b c d e f => exact .go r a b c d e (hk _ f)
 | close a b c => exact .close a b fun x y h => let ⟨g', e1, e2, e3⟩ := c x y h; ⟨g', e1, e2, fun v => hk _ (e3 v)⟩
 | w1 V a b => exact .w1 V a fun v h1 h2 h3 => let ⟨g', e1, e2, e3, e4⟩ := b v h1 h2 h3; ⟨g', e1, e2, fun k => hk _ (e3 k), fun k => hk _ (e4 k)⟩
 | w2 V a b => exact .w2 V a fun v h1 h2 h3 => ⟨fun k => let ⟨g', e1, e2, e3⟩ := (b v h1 h2 h3).1 k; ⟨g', e1, e2, hk _ e3⟩, fun k => let ⟨g', e1, e2, e3⟩ := (b v h1 h2 h3).2 k; ⟨g', e1, e2, hk _ e3⟩⟩
 | w4 a b => exact .w4 a fun h => let ⟨g', e1, e2, e3⟩ := b h; ⟨g', e1, e2, hk _ e3⟩
 | acq a b c d e => exact .acq a b c d e
theorem SendM.mono {K K' : MS → Prop} (hk : ∀ s, K s → K' s) {s : MS} {i : Nat} (h : SendM G P K s i) : SendM G P K' s i := ⟨h.tag, h.lt, h.step, hk _ h.next⟩
theorem SemaM.mono {K K' : MS → Prop} (hk : ∀ s, K s → K' s) {s : MS} (h : SemaM G P K s) : SemaM G P K' s := ⟨h.tag, h.off, h.down, fun k => let ⟨g', e1, e2, e3⟩ := h.up k; ⟨g', e1, e2, hk _ e3⟩⟩
def EBW (G : Geo) (P : Program) (s : WS) : Prop := ∃ r, BehW G P r s
def EBM (G : Geo) (P : Program) (Fin : Goroutine → Prop) (s : MS) : Prop := ∃ r, BehM G P Fin r s
open Classical in
noncomputable def pickW (G : Geo) (P : Program) (s : WS) : RT WS := if h : EBW G P s then Classical.choose h else .leaf
open Classical in
noncomputable def pickM (G : Geo) (P : Program) (Fin : Goroutine → Prop) (s : MS) : RT MS := if h : EBM G P Fin s then Classical.choose h else .leaf
theorem pickW_ok {s : WS} (h : EBW G P s) : BehW G P (pickW G P s) s := by unfold pickW; rw [dif_pos h]; exact Classical.choose_spec h
theorem pickM_ok {s : MS} (h : EBM G P Fin s) : BehM G P Fin (pickM G P Fin s) s := by unfold pickM; rw [dif_pos h]; exact Classical.choose_spec h
theorem EBW.act {s : WS} (hs : s.g.status = .running) (h : ∀ w1, Rel G s.M s.w w1 → ActW G P (EBW G P) { s with w := w1 }) : EBW G P s :=
 ⟨.node (pickW G P), hs, .inl fun w1 hr => (h w1 hr).mono fun s1 => pickW_ok⟩
theorem EBW.recv {s : WS} (hs : s.g.status = .running) (h : ∀ w1, Rel G s.M s.w w1 → RecvW G P (EBW G P) { s with w := w1 }) : EBW G P s :=
 ⟨.node (pickW G P), hs, .inr fun w1 hr => (h w1 hr).mono fun s1 => pickW_ok⟩
theorem EBM.act {s : MS} (hs : s.g.status = .running) (h : ∀ w1, Rel G (fun _ => False) s.w w1 → ActM G P Fin (EBM G P Fin) { s with w := w1 }) : EBM G P Fin s :=
 ⟨.node (pickM G P Fin), hs, .inl fun w1 hr => (h w1 hr).mono fun s1 => pickM_ok⟩
theorem EBM.send {s : MS} (hs : s.g.status = .running) (i : Nat) (h : ∀ w1, Rel G (fun _ => False) s.w w1 → SendM G P (EBM G P Fin) { s with w := w1 } i) : EBM G P Fin s :=
 ⟨.node (pickM G P Fin), hs, .inr (.inl ⟨i, fun w1 hr => (h w1 hr).mono fun s1 => pickM_ok⟩)⟩
theorem EBM.sema {s : MS} (hs : s.g.status = .running) (h : ∀ w1, Rel G (fun _ => False) s.w w1 → SemaM G P (EBM G P Fin) { s with w := w1 }) : EBM G P Fin s :=
 ⟨.node (pickM G P Fin), hs, .inr (.inr fun w1 hr => (h w1 hr).mono fun s1 => pickM_ok)⟩
theorem EBW.goes {s : WS} (hp : s.ph ≠ .out) {Stop : Goroutine → World → Prop} (hst : ∀ g w, Stop g w → EBW G P { s with g := g, w := w }) : ∀ {n : Nat} {g : Goroutine} {w : World}, Conc.Goes P false (Rel G s.M) DC0 Stop n g w → EBW G P { s with g := g, w := w }
 | 0, g, w, h => hst g w (h w (Rel.refl ..))
 | n + 1, g, w, h => by
  rcases h with h | ⟨hs, h⟩
  ·exact hst g w (h w (Rel.refl ..))
  ·refine EBW.act hs fun w1 hr => ?_
   have k := h w1 hr
   cases e : stepG P false g w1 with
   | go g' w' es =>
    rw [e] at k
    obtain ⟨⟨e1, e2⟩, k2⟩ := k
    subst e1 e2
    have ih := EBW.goes (s := s) hp hst k2
    have hrun : g'.status = .running := by obtain ⟨r, hr⟩ := ih; exact BehW.running hr
    exact .idle hp e hrun ih
   | _ => rw [e] at k; exact k.elim
theorem EBM.goes {s : MS} {Stop : Goroutine → World → Prop} (hst : ∀ g w, Stop g w → EBM G P Fin { s with g := g, w := w }) : ∀ {n : Nat} {g : Goroutine} {w : World}, Conc.Goes P true (Rel G (fun _ => False)) DC0 Stop n g w → EBM G P Fin { s with g := g, w := w }
 | 0, g, w, h => hst g w (h w (Rel.refl ..))
 | n + 1, g, w, h => by
  rcases h with h | ⟨hs, h⟩
  ·exact hst g w (h w (Rel.refl ..))
  ·refine EBM.act hs fun w1 hr => ?_
   have k := h w1 hr
   cases e : stepG P true g w1 with
   | go g' w' es =>
    rw [e] at k
    obtain ⟨⟨e1, e2⟩, k2⟩ := k
    subst e1 e2
    have ih := EBM.goes (s := s) hst k2
    have hrun : g'.status = .running := by obtain ⟨r, hr⟩ := ih; exact BehM.running hr
    exact .quiet e hrun ⟨rfl, rfl, rfl, rfl⟩ (by simp) ih
   | _ => rw [e] at k; exact k.elim
end
/-! ### the calm starter, likewise -/
section
variable {P : Program} {S : Nat → Prop} {L : CS → Prop}
def EBC (P : Program) (S : Nat → Prop) (L : CS → Prop) (s : CS) : Prop := ∃ r, BehC P S L r s
open Classical in
noncomputable def pickC (P : Program) (S : Nat → Prop) (L : CS → Prop) (s : CS) : RT CS := if h : EBC P S L s then Classical.choose h else .leaf
theorem EBC.stop {s : CS} (hs : s.g.status = .running) (h : L s) : EBC P S L s := ⟨.leaf, hs, h⟩
theorem EBC.act {s : CS} (hs : s.g.status = .running) (h : ∀ d, ∃ g' w' es T', stepG P true s.g (s.w.at d) = .go g' w' es ∧ (∀ e ∈ es, QEv T' (fun _ => False) e) ∧ (∀ b, s.T b → T' b) ∧ (∀ b, T' b → b < w'.heap.size ∧ ¬ S b) ∧ s.w.heap.size ≤ w'.heap.size ∧ EBC P S L ⟨g', w', T'⟩) : EBC P S L s :=
 ⟨.node (pickC P S L), hs, fun d => let ⟨g', w', es, T', h1, h2, h3, h4, h5, h6⟩ := h d; ⟨g', w', es, T', h1, h2, h3, h4, h5, by unfold pickC; rw [dif_pos h6]; exact Classical.choose_spec h6⟩⟩
end
end Go.Mx
namespace Go.Mx
open Go Go.Conc Go.Pr
open Go.ConcN (WgLive)
open Go.ConcR (KK WgAt stA smA rd wr mk DC0)
section
variable {P : Program} {ρ : Rn} {Sx : Nat → Nat → Bool} {Q : LSt → Prop}
theorem sess_of_lone (E : Env P ρ Sx) {fr fr' : Frame} {w w' : World} (hfr : FrR P ρ Sx fr fr') (hb : Bot fr []) (hw : WR P ρ w w') (hQ : ∀ s T, Q ⟨s.fr, s.cs, on s.w T⟩ → Q s) (h : ∀ T, ∃ n fr2 cs2 w2, runN P n (lone fr [c0] (on w T)) = .next (lone fr2 cs2 w2) ∧ Q ⟨fr2, cs2, w2⟩) :
  ∃ r, Sess P Sx Q r ρ ⟨fr, [c0], w⟩ [] fr' [] w' := by
 obtain ⟨r, hr⟩ := (LT_of hQ ⟨fr, [c0], w⟩ h).rk
 exact ⟨r, hr, rfl, hfr, .nil, hb, hw, E⟩
def DoneQ (f : FuncId) (t : Tmp) (D : Value → Prop) (s : LSt) : Prop := s.cs = [c0] ∧ s.fr.mode = .returning ∧ s.fr.defers = [] ∧ s.fr.kind = .normal ∧ s.fr.fn = f ∧ D (s.fr.tmps.getD t undef)
theorem lone_calls {f : FuncId} {fn : Func} {args : Array Value} {t : Tmp} {D : Value → Prop} {w : World} (hf : P.funcs[f]? = some fn) (hr : fn.results = #[.tmp t]) (h : ∀ T, Calls P f args (on w T) fun e _ => ∃ v, e = .returned v ∧ D v) (T : Nat → Question → Nat) :
  ∃ n fr2 cs2 w2, runN P n (lone (Frame.enter P f args .normal) [c0] (on w T)) = .next (lone fr2 cs2 w2) ∧ DoneQ f t D ⟨fr2, cs2, w2⟩ := by
 obtain ⟨e, w2, fr, ⟨v, rfl, hD⟩, hc, hfn, h1, h2, h3, fn', h4, h5⟩ := h T [c0]
 obtain ⟨n, hn⟩ := hc
 refine ⟨n, fr, [c0], w2, hn, rfl, h1, h2, h3, hfn, ?_⟩
 rw [hfn, hf] at h4
 cases h4
 rw [results_tmp hr] at h5
 cases h5
 exact hD
theorem DoneQ.on {f : FuncId} {t : Tmp} {D : Value → Prop} (s : LSt) (T : Nat → Question → Nat) (h : DoneQ f t D ⟨s.fr, s.cs, Pr.on s.w T⟩) : DoneQ f t D s := h
theorem Sess.done {r : Rk} {s : LSt} {l l' : List Frame} {fr' : Frame} {w' : World} {f : FuncId} {fn : Func} {t : Tmp} {D : Value → Prop} (h : Sess P Sx Q r ρ s l fr' l' w') (hd : DoneQ f t D s) (hf : P.funcs[f]? = some fn) (hr : fn.results = #[.tmp t]) :
  l = [] ∧ l' = [] ∧ fr'.mode = .returning ∧ fr'.defers = [] ∧ fr'.kind = .normal ∧ fr'.fn = f ∧ ∃ v, D v ∧ VR ρ v (fr'.tmps.getD t undef) := by
 obtain ⟨h1, h2, h3, h4, h5, h6⟩ := hd
 have hl : l = [] := by
  have := h.cs
  rw [h1] at this
  cases l with
  | nil => rfl
  | cons a l => simp at this
 subst hl
 have hres := h.rest
 cases hres
 have hm := h.top.mode
 rw [h2] at hm
 have hdf := h.top.defers
 rw [h3] at hdf
 refine ⟨rfl, rfl, ?_, ?_, h.top.kind.trans h4, h.top.fn.trans h5, _, h6, ?_⟩
 ·generalize fr'.mode = md at hm; cases hm; rfl
 ·generalize fr'.defers = ds at hdf; cases hdf; rfl
 ·have hok := h.top.ok
  rw [h5] at hok
  have := h.env.res f fn hok hf (.tmp t) (by rw [hr]; simp)
  exact (h.top.tmps.getD t).1 (by rw [h5]; exact this)
theorem leave_gr {main : Bool} {fr c : Frame} {cs : List Frame} {w : World} {f : FuncId} {fn : Func} {t : Tmp} (h1 : fr.mode = .returning) (h2 : fr.defers = []) (h3 : fr.kind = .normal) (h4 : fr.fn = f) (hf : P.funcs[f]? = some fn) (hr : fn.results = #[.tmp t]) :
  stepG P main (gr fr (c :: cs)) w = .go (gr (c.finish (fr.tmps.getD t undef)) cs) w #[] := by
 obtain ⟨g, tm, td, df, md, kd, rn⟩ := fr
 simp only at h1 h2 h3 h4
 subst h1 h2 h3 h4
 simp [gr, stepG, unwind, doReturn, hf, results_tmp hr, events_results_tmp hr, seen, GStep.after]
theorem EvR.qev {σ : Rn} {e e' : Event} (h : EvR σ e e') {A B : Nat → Prop} (hA : ∀ x y, σ.r x y → A y) (hB : ∀ b, σ.K b ∨ σ.T b → B b) : QEv A B e' := by
 obtain ⟨loc, write, sync, low, flat⟩ := h
 obtain ⟨l', w, s⟩ := e'
 obtain ⟨l, w2, s2⟩ := e
 simp only at *
 subst write sync
 cases loc with
 | @cell a a' ha =>
  have hs : s = false := flat rfl
  subst hs
  refine ⟨fun m hm => (by cases hm), fun x hx _ => ?_⟩
  have hx' : x = ⟨.cell a', w, .plain⟩ := by cases w <;> simp [MemAct.ofEvent, MemAct.touch?] at hx <;> exact hx.symm
  subst hx'
  refine ⟨rfl, a'.block, rfl, ?_⟩
  rcases ha.b with ⟨k1, k2⟩ | k
  ·cases w with
   | false => exact .inr ⟨rfl, by rw [k2]; exact hB _ (.inl k1)⟩
   | true => exact .inl (hA _ _ (low a rfl rfl))
  ·exact .inl (hA _ _ k)
 | @tab a ha =>
  have hs : s = false := flat rfl
  subst hs
  refine ⟨fun m hm => (by cases hm), fun x hx _ => ?_⟩
  have hx' : x = ⟨.cell a, w, .plain⟩ := by cases w <;> simp [MemAct.ofEvent, MemAct.touch?] at hx <;> exact hx.symm
  subst hx'
  refine ⟨rfl, a.block, rfl, ?_⟩
  cases w with
  | false => exact .inr ⟨rfl, hB _ (.inr ha)⟩
  | true => exact .inl (hA _ _ (low a rfl rfl))
 | @obj r r' hr =>
  have hs : s = false := flat rfl
  subst hs
  refine ⟨fun m hm => (by cases hm), fun x hx _ => ?_⟩
  have hx' : x = ⟨.obj r', w, .plain⟩ := by cases w <;> simp [MemAct.ofEvent, MemAct.touch?] at hx <;> exact hx.symm
  subst hx'
  exact ⟨rfl, r', rfl, .inl (hA _ _ hr)⟩
 | ext f =>
  refine ⟨fun m hm => (by cases hm; trivial), fun x hx _ => ?_⟩
  cases w <;> cases s <;> simp [MemAct.ofEvent, MemAct.touch?] at hx
 | room =>
  refine ⟨fun m hm => (by cases hm; trivial), fun x hx _ => ?_⟩
  cases w <;> cases s <;> simp [MemAct.ofEvent, MemAct.touch?] at hx
 | out =>
  refine ⟨fun m hm => (by cases hm), fun x hx hm => ?_⟩
  cases w <;> cases s <;> simp [MemAct.ofEvent, MemAct.touch?] at hx <;> subst hx <;> simp [Loc.isMemory] at hm
theorem LsR.qev {σ : Rn} {A B : Nat → Prop} (hA : ∀ x y, σ.r x y → A y) (hB : ∀ b, σ.K b ∨ σ.T b → B b) : ∀ {l l' : List Event}, LsR σ l l' → ∀ e ∈ l', QEv A B e
 | _, _, .nil => fun e he => by cases he
 | _, _, .cons x y => fun e he => by
  cases he with
  | head => exact EvR.qev x hA hB
  | tail _ he => exact LsR.qev hA hB y e he
theorem wr_rely {w w1 w2 : World} (h : WR P ρ w w1) (hh : ∀ b, ρ.K b ∨ ρ.T b ∨ Own ρ b → w2.heap[b]? = w1.heap[b]?) (hos : w2.os = w1.os) (hsz : w1.heap.size ≤ w2.heap.size) : WR P ρ w w2 := by
 refine ⟨fun {x y} hr => ?_, fun x hx => ?_, fun x hx => ?_, hos.trans h.os, h.szL, Nat.le_trans h.szR hsz⟩
 ·obtain ⟨o, o', h1, h2, h3⟩ := h.own hr
  exact ⟨o, o', h1, (hh y (.inr (.inr ⟨x, hr⟩))).trans h2, h3⟩
 ·obtain ⟨c, e, n, h1, h2, h3⟩ := (h.low x hx).row
  exact ⟨c, e, n, h1, (hh x (.inl hx)).trans h2, h3⟩
 ·obtain ⟨c, e, fr, c', e', fr', h1, h2, h3⟩ := (h.tab x hx).row
  exact ⟨c, e, fr, c', e', fr', h1, (hh x (.inr (.inl hx))).trans h2, h3⟩
theorem Sess.rely {r : Rk} {s : LSt} {l l' : List Frame} {fr' : Frame} {w1 w2 : World} (h : Sess P Sx Q r ρ s l fr' l' w1) (hh : ∀ b, ρ.K b ∨ ρ.T b ∨ Own ρ b → w2.heap[b]? = w1.heap[b]?) (hos : w2.os = w1.os) (hsz : w1.heap.size ≤ w2.heap.size) : Sess P Sx Q r ρ s l fr' l' w2 :=
 ⟨h.rk, h.cs, h.top, h.rest, h.bot, wr_rely h.wr hh hos hsz, h.env⟩
structure Sep (G : Geo) (M : Nat → Prop) (w : World) : Prop where
 own : ∀ b, M b → ¬ G.base b ∧ b ≠ G.Wg ∧ b ≠ G.O
 base : ∀ b, G.base b → b < w.heap.size
 wg : G.Wg < w.heap.size
 o : G.O < w.heap.size
theorem Sep.rely {G : Geo} {M : Nat → Prop} {w w1 : World} (h : Sep G M w) (hs : w.heap.size ≤ w1.heap.size) : Sep G M w1 := ⟨h.own, fun b hb => Nat.lt_of_lt_of_le (h.base b hb) hs, Nat.lt_of_lt_of_le h.wg hs, Nat.lt_of_lt_of_le h.o hs⟩
theorem Sep.grow {G : Geo} {M : Nat → Prop} {w w1 : World} (h : Sep G M w) (hs : w.heap.size ≤ w1.heap.size) : Sep G (growM M w w1) w1 := by
 have := h.rely hs
 refine ⟨fun b hb => ?_, this.base, this.wg, this.o⟩
 rcases hb with hb | ⟨hb, _⟩
 ·exact h.own b hb
 ·exact ⟨fun k => by have := h.base b k; omega, fun k => by have := h.wg; omega, fun k => by have := h.o; omega⟩
theorem Sep.gu {G : Geo} {M : Nat → Prop} {w w1 : World} (h : Sep G M w) (hg : Gu M w w1) : Rel G (fun _ => False) w w1 :=
 Rel.gu hg (fun b hb => hb.elim (fun k => ⟨h.base b k, fun e => (h.own b e).1 k⟩) fun k => k.elim) (fun e => (h.own _ e).2.1 rfl) fun e => (h.own _ e).2.2 rfl
theorem sess_W {G : Geo} {H X : Nat → Prop} {k : Nat} {ext : List Frame} (hQ : ∀ s, Q s → s.cs ≠ []) :
  ∀ (r : Rk) {ρ : Rn} {s : LSt} {l l' : List Frame} {fr' : Frame} {w' : World} {M : Nat → Prop}, (∀ s, AtStop ρ s → Q s) → Sess P Sx Q r ρ s l fr' l' w' → (∀ b, ρ.K b ∨ ρ.T b → G.base b) → (∀ y, Own ρ y → M y) → Sep G M w' →
   (∀ (σ : Rn) (r1 : Rk) (s1 : LSt) (l1 l1' : List Frame) (fr1' : Frame) (w1' : World) (M1 : Nat → Prop), Sess P Sx Q r1 σ s1 l1 fr1' l1' w1' → Q s1 → Sep G M1 w1' → Rel G (fun _ => False) w' w1' → EBW G P ⟨.run, gr fr1' (l1' ++ ext), w1', M1, H, X, k⟩) →
   EBW G P ⟨.run, gr fr' (l' ++ ext), w', M, H, X, k⟩ := by
 intro r
 induction r using Rk.wf.induction with
 | _ r ih =>
  intro ρ s l l' fr' w' M hQS h hB hM hS hC
  by_cases hq : Q s
  ·exact hC ρ r s l l' fr' w' M h hq hS (Rel.refl ..)
  ·refine EBW.act rfl fun w1 hr => ?_
   simp only at hr
   have h1 : Sess P Sx Q r ρ s l fr' l' w1 := Sess.rely h (fun b hb => hr.fix b (hb.elim (fun e => .inl (hB b (.inl e))) fun e => e.elim (fun e => .inl (hB b (.inr e))) fun e => .inr (hM b e))) hr.os hr.size
   have hS1 := hS.rely hr.size
   obtain ⟨r1, σ, s1, l1, fr1', l1', w1', es, es', hlt, h2, hst, hgr, hls, hfrm⟩ := Sess.step (ext := ext) h1 hQ hQS hq (main := false)
   have hgu : Gu M w1 w1' := ⟨fun b hb hn => hfrm.heap b hb fun e => hn (hM b e), hfrm.os, hfrm.tape, hfrm.output, hfrm.size⟩
   have hown : ∀ x y, σ.r x y → growM M w1 w1' y := fun x y hxy => (hgr.new x y hxy).imp (fun e => hM y ⟨x, e⟩) id
   have hB' : ∀ b, σ.K b ∨ σ.T b → G.base b := fun b hb => hB b (by rw [hgr.le.K, hgr.le.T] at hb; exact hb)
   refine .quiet (.inl rfl) hst rfl hgu (fun e he => LsR.qev hown hB' hls e (Array.mem_toList_iff.2 he)) ?_
   refine ih r1 hlt (fun s2 hs2 => hQS s2 ?_) h2 hB' (fun y ⟨x, hxy⟩ => hown x y hxy) (hS1.grow hfrm.size) fun σ2 r2 s2 l2 l2' fr2' w2' M2 k1 k2 k3 k4 => hC σ2 r2 s2 l2 l2' fr2' w2' M2 k1 k2 k3 ((hr.mono fun _ e => e.elim).trans ((hS1.gu hgu).trans k4))
   obtain ⟨e1, ops, i, rest, k', o, e2, e3, e4⟩ := hs2
   obtain ⟨c, f, a1, a2, a3⟩ := e4
   exact ⟨e1, ops, i, rest, k', o, e2, e3, c, f, a1, a2, by rw [← hgr.le.sp]; exact a3⟩
theorem Gu.refl (M : Nat → Prop) (w : World) : Gu M w w := ⟨fun _ _ _ => rfl, rfl, rfl, rfl, Nat.le_refl _⟩
theorem sess_C {S : Nat → Prop} {L : CS → Prop} {ext : List Frame} (hQ : ∀ s, Q s → s.cs ≠ []) :
  ∀ (r : Rk) {ρ : Rn} {s : LSt} {l l' : List Frame} {fr' : Frame} {w' : World} {T : Nat → Prop}, (∀ s, AtStop ρ s → Q s) → Sess P Sx Q r ρ s l fr' l' w' → (∀ b, ρ.K b ∨ ρ.T b ∨ Own ρ b → T b) → (∀ b, T b → b < w'.heap.size ∧ ¬ S b) → (∀ b, S b → b < w'.heap.size) →
   (∀ (σ : Rn) (r1 : Rk) (s1 : LSt) (l1 l1' : List Frame) (fr1' : Frame) (w1' : World) (T1 : Nat → Prop), Sess P Sx Q r1 σ s1 l1 fr1' l1' w1' → Q s1 → (∀ b, T1 b → b < w1'.heap.size ∧ ¬ S b) → (∀ b, σ.K b ∨ σ.T b ∨ Own σ b → T1 b) → ρ.Le σ → (∀ x y, σ.r x y → ρ.r x y ∨ w'.heap.size ≤ y) → Gu (Own ρ) w' w1' → EBC P S L ⟨gr fr1' (l1' ++ ext), w1', T1⟩) →
   EBC P S L ⟨gr fr' (l' ++ ext), w', T⟩ := by
 intro r
 induction r using Rk.wf.induction with
 | _ r ih =>
  intro ρ s l l' fr' w' T hQS h hB hT hSb hC
  by_cases hq : Q s
  ·exact hC ρ r s l l' fr' w' T h hq hT hB (Rn.Le.refl ρ) (fun x y e => .inl e) (Gu.refl ..)
  ·refine EBC.act rfl fun d => ?_
   have h1 : Sess P Sx Q r ρ s l fr' l' (w'.at d) := Sess.rely h (fun b _ => rfl) rfl (Nat.le_refl _)
   obtain ⟨r1, σ, s1, l1, fr1', l1', w1', es, es', hlt, h2, hst, hgr, hls, hfrm⟩ := Sess.step (ext := ext) h1 hQ hQS hq (main := true)
   have hsz : w'.heap.size ≤ w1'.heap.size := hfrm.size
   let T1 : Nat → Prop := fun b => T b ∨ (w'.heap.size ≤ b ∧ b < w1'.heap.size)
   have hown : ∀ x y, σ.r x y → T1 y := fun x y hxy => (hgr.new x y hxy).imp (fun e => hB y (.inr (.inr ⟨x, e⟩))) id
   have hB' : ∀ b, σ.K b ∨ σ.T b ∨ Own σ b → T1 b := fun b hb => by
    rcases hb with hb | hb | ⟨x, hb⟩
    ·exact .inl (hB b (.inl (by rw [hgr.le.K] at hb; exact hb)))
    ·exact .inl (hB b (.inr (.inl (by rw [hgr.le.T] at hb; exact hb))))
    ·exact hown x b hb
   have hT1 : ∀ b, T1 b → b < w1'.heap.size ∧ ¬ S b := fun b hb => by
    rcases hb with hb | ⟨e1, e2⟩
    ·exact ⟨Nat.lt_of_lt_of_le (hT b hb).1 hsz, (hT b hb).2⟩
    ·exact ⟨e2, fun e => by have := hSb b e; omega⟩
   refine ⟨_, _, es', T1, hst, fun e he => ?_, fun b hb => .inl hb, hT1, hsz, ?_⟩
   ·have := LsR.qev (A := T1) (B := T1) hown (fun b hb => hB' b (hb.imp id .inl)) hls e (Array.mem_toList_iff.2 he)
    refine ⟨this.1, fun x hx hm => ?_⟩
    obtain ⟨p1, b, p2, p3⟩ := this.2 x hx hm
    exact ⟨p1, b, p2, .inl (p3.elim id fun e => e.2)⟩
   ·refine ih r1 hlt (fun s2 hs2 => hQS s2 ?_) h2 hB' hT1 (fun b hb => Nat.lt_of_lt_of_le (hSb b hb) hsz) fun σ2 r2 s2 l2 l2' fr2' w2' T2 k1 k2 k3 k4 k5 k6 k7 => hC σ2 r2 s2 l2 l2' fr2' w2' T2 k1 k2 k3 k4 (hgr.le.trans k5) (fun x y hxy => ?_) ?_
    ·obtain ⟨e1, ops, i, rest, k', o, e2, e3, c, f, a1, a2, a3⟩ := hs2
     exact ⟨e1, ops, i, rest, k', o, e2, e3, c, f, a1, a2, by rw [← hgr.le.sp]; exact a3⟩
    ·rcases k6 x y hxy with e | e
     ·exact (hgr.new x y e).imp id fun e2 => e2.1
     ·exact .inr (Nat.le_trans hsz e)
    ·refine ⟨fun b hb hn => (k7.old b (Nat.lt_of_lt_of_le hb hsz) fun ⟨x, hxy⟩ => ?_).trans (hfrm.heap b hb hn), k7.os.trans hfrm.os, k7.tape.trans hfrm.tape, k7.output.trans hfrm.output, Nat.le_trans hsz k7.size⟩
     rcases hgr.new x b hxy with e | e
     ·exact hn ⟨x, e⟩
     ·have : w'.heap.size ≤ b := e.1
      omega
end
end Go.Mx
