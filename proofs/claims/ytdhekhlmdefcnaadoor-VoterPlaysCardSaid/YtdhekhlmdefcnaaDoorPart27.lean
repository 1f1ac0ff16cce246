/- Part 27 of the proof: Two. -/
import Derived.Test.YtdhekhlmdefcnaaDoorPart25
import Derived.Test.YtdhekhlmdefcnaaDoorPart14
import Derived.Test.YtdhekhlmdefcnaaDoorPart26
import Derived.Deep.MidRow
/- A voter and the reference's, side by side. -/
namespace Go.Proofs.YtdhekhlmdefcnaaDoor
open Go.RowKit
def CmIn (c : Cm) : Prop := (-9223372036854775808 ≤ c.1 ∧ c.1 ≤ 9223372036854775807) ∧ (-9223372036854775808 ≤ c.2.1 ∧ c.2.1 ≤ 9223372036854775807) ∧ (-9223372036854775808 ≤ c.2.2 ∧ c.2.2 ≤ 9223372036854775807)
structure Two (w : World) (B g : Nat) (vt : Value) (g2 : Nat) (vt2 : Value) (bv bo : Nat) (v : Vo) : Prop where
  vo : VoAt w B g vt v
  rv : RVoAt w B g2 vt2 bv bo v
  dis : ∀ b, FV g vt b → ¬ FR g2 vt2 bv bo b
  wf : v.Wf
  cm : ∀ c ∈ v.trace, CmIn c
theorem VoAt.lt {w : World} {B g : Nat} {vt : Value} {v : Vo} (h : VoAt w B g vt v) : ∀ b, FV g vt b → b < w.heap.size := by
  intro b hb
  rcases hb with rfl | hb
  · exact h.has.lt
  · exact (h.own.lt b hb).2
theorem has_notFR {w : World} {B g bv bo b : Nat} {vt : Value} {v : Vo} {t : TypeId} {cs : Array Value} (h : RVoAt w B g vt bv bo v) (hb : Has w b t cs) (h1 : t ≠ 82) (h2 : t ≠ 88) : ¬ FR g vt bv bo b := by
  rintro (rfl | e | rfl | rfl)
  · exact hb.ne h.has h1 rfl
  · exact own_has_ne h.own hb (Ne.symm h2) e
  · exact imap_has_ne h.votes hb rfl
  · exact imap_has_ne h.outs hb rfl
theorem has_notFV {w : World} {B g b : Nat} {vt : Value} {v : Vo} {t : TypeId} {cs : Array Value} (h : VoAt w B g vt v) (hb : Has w b t cs) (h1 : t ≠ 157) (h2 : t ≠ 88) : ¬ FV g vt b := by
  rintro (rfl | e)
  · exact hb.ne h.has h1 rfl
  · exact own_has_ne h.own hb (Ne.symm h2) e
theorem framesAt_turned {w w' : World} {lo : Nat} {x : Value} {fs : List (List Int)} {F : Nat → Prop} (h : FramesAt w lo x fs) (ht : Turned F w w') (hn : ∀ b cs, Has w b 40 cs → ¬ F b) : FramesAt w' lo x fs := by
  rcases h with h | ⟨gr, e, hl, hh⟩
  · exact .inl h
  · exact .inr ⟨gr, e, hl, hh.turned ht (hn _ _ hh)⟩
section
variable {w w' w1 w2 w3 : World} {B g g2 bv bo bv' : Nat} {vt vt2 vt' vt2' : Value} {v v' : Vo}
theorem Two.mid (T : Two w B g vt g2 vt2 bv bo v) (hl : vt'.ownBlock = vt.ownBlock ∨ ∃ b, w.heap.size ≤ b ∧ vt'.ownBlock = some b) (ht : Turned (FV g vt) w w1) : RVoAt w1 B g2 vt2 bv bo v ∧ ∀ b, FV g vt' b → ¬ FR g2 vt2 bv bo b := by
  refine ⟨T.rv.turned ht (fun b h1 h2 => T.dis b h2 h1), fun b hb hr => ?_⟩
  rcases hb with rfl | hb
  · exact T.dis b (.inl rfl) hr
  · rcases hl with h | ⟨b', h1, h2⟩
    · exact T.dis b (.inr (h.symm.trans hb)) hr
    · rw [h2] at hb
      injection hb with hb
      subst hb
      exact absurd (T.rv.lt _ hr) (by omega)
theorem Two.end_ (hv : VoAt w2 B g vt' v') (hd : ∀ b, FV g vt' b → ¬ FR g2 vt2 bv bo b) (hr : RVoAt w3 B g2 vt2' bv' bo v') (hl : vt2'.ownBlock = vt2.ownBlock ∨ ∃ b, w2.heap.size ≤ b ∧ vt2'.ownBlock = some b) (hl2 : bv' = bv ∨ w2.heap.size ≤ bv') (ht : Turned (FR g2 vt2 bv bo) w2 w3)
    (hw : v'.Wf) (hc : ∀ c ∈ v'.trace, CmIn c) : Two w3 B g vt' g2 vt2' bv' bo v' := by
  refine ⟨hv.turned ht (fun b h1 h2 => hd b h1 h2), hr, fun b hb hr2 => ?_, hw, hc⟩
  have hlt := hv.lt b hb
  rcases hr2 with h | h | h | h
  · exact hd b hb (.inl h)
  · rcases hl with h1 | ⟨b', h1, h2⟩
    · exact hd b hb (.inr (.inl (h1.symm.trans h)))
    · rw [h2] at h
      injection h with h
      subst h
      omega
  · rcases hl2 with h1 | h1
    · exact hd b hb (.inr (.inr (.inl (h.trans h1))))
    · omega
  · exact hd b hb (.inr (.inr (.inr h)))
theorem Two.after (T : Two w B g vt g2 vt2 bv bo v) (hb : Below w.heap.size w w') : Two w' B g vt g2 vt2 bv bo v := ⟨T.vo.after hb, T.rv.after hb, T.dis, T.wf, T.cm⟩
theorem Two.turned {F : Nat → Prop} (T : Two w B g vt g2 vt2 bv bo v) (ht : Turned F w w') (h1 : ∀ b, FV g vt b → ¬ F b) (h2 : ∀ b, FR g2 vt2 bv bo b → ¬ F b) : Two w' B g vt g2 vt2 bv bo v := ⟨T.vo.turned ht h1, T.rv.turned ht h2, T.dis, T.wf, T.cm⟩
end
theorem cm_of {f : List Int} (h : Wf f) : CmIn (cmOf f) := by
  have key : ∀ i, i < 23 → -9223372036854775808 ≤ f.getD i 0 ∧ f.getD i 0 ≤ 9223372036854775807 := fun i hi => by
    have hl : i < f.length := by rw [h.1]; exact hi
    rw [List.getD_eq_getElem?_getD, List.getElem?_eq_getElem hl]
    exact h.2 _ (List.getElem_mem hl)
  exact ⟨key 3 (by decide), key 4 (by decide), key 5 (by decide)⟩
theorem frm_wf {k fr cy : Int} {c : Cm} (hk : 0 ≤ k ∧ k ≤ 5) (hf : 0 ≤ fr ∧ fr ≤ 3) (hy : 0 ≤ cy ∧ cy ≤ 1000000) (hc : CmIn c) : Wf (frm k fr cy c) := by
  refine ⟨rfl, fun x hx => ?_⟩
  obtain ⟨⟨_, _⟩, ⟨_, _⟩, ⟨_, _⟩⟩ := hc
  unfold frm at hx
  rcases List.mem_append.1 hx with hx | hx
  · simp at hx
    rcases hx with rfl | rfl | rfl | rfl | rfl | rfl <;> omega
  · have := List.eq_of_mem_replicate hx
    omega
theorem done_wf {v : Vo} (h : ∀ c ∈ v.trace, CmIn c) (k : Nat) (hk : k ≤ 1000) : Wf (voDone v k) := by
  unfold voDone
  refine frm_wf (by omega) (by omega) (by omega) ?_
  rw [List.getD_eq_getElem?_getD]
  cases hg : v.trace[k]? with
  | none => exact ⟨by decide, by decide, by decide⟩
  | some c => exact h c (List.mem_of_getElem? hg)
theorem take_cm {v : Vo} (h : ∀ c ∈ v.trace, CmIn c) {f : List Int} (hf : Wf f) : ∀ c ∈ (voTake v f).1.trace, CmIn c := by
  unfold voTake
  split
  · exact h
  split
  · exact h
  split
  · exact h
  split
  · exact h
  · dsimp only
    split
    · intro c hc
      have hc' : c ∈ v.trace ++ [cmOf f] := hc
      rcases List.mem_append.1 hc' with hc' | hc'
      · exact h c hc'
      · rw [List.mem_singleton.1 hc']; exact cm_of hf
    · exact h
theorem take_frames {v : Vo} (hw : v.Wf) (h : ∀ c ∈ v.trace, CmIn c) {f : List Int} (hf : Wf f) : (∀ x ∈ (voTake v f).2.1, Wf x) ∧ (voTake v f).2.1.length ≤ 2 := by
  have hm := hw.many
  unfold voTake
  split
  · exact ⟨fun x hx => (by cases hx), by simp⟩
  split
  · rename_i h2
    refine ⟨fun x hx => ?_, by simp⟩
    rw [List.mem_singleton.1 hx]
    exact done_wf h _ (by omega)
  split
  · rename_i h2 h3
    refine ⟨fun x hx => ?_, by simp⟩
    rcases List.mem_cons.1 hx with rfl | hx
    · exact done_wf h _ (by omega)
    · rw [List.mem_singleton.1 hx]
      exact done_wf h _ (by omega)
  split
  · exact ⟨fun x hx => (by cases hx), by simp⟩
  · rename_i h1 h2 h3 h4
    have hl : v.latched = false := by
      cases e : v.latched with
      | false => rfl
      | true => exact absurd (.inr (.inl e)) h4
    have := (hw.more hl).1
    dsimp only
    split
    · refine ⟨fun x hx => ?_, by simp⟩
      rw [List.mem_singleton.1 hx]
      refine done_wf (v := voCommits _ _) (fun c hc => ?_) _ (by omega)
      have hc' : c ∈ v.trace ++ [cmOf f] := hc
      rcases List.mem_append.1 hc' with hc' | hc'
      · exact h c hc'
      · rw [List.mem_singleton.1 hc']; exact cm_of hf
    · exact ⟨fun x hx => (by cases hx), by simp⟩
theorem two_new {w w1 w2 : World} {n : Int} {g2 bv bo : Nat} (h1 : 1 ≤ n) (h2 : n ≤ 20) (hv : VoAt w1 w.heap.size w.heap.size (.slice none 0 0) (Vo.new n)) (hb1 : Below w.heap.size w w1) (hr : RVoAt w2 w1.heap.size g2 (.slice none 0 0) bv bo (Vo.new n)) (hb2 : Below w1.heap.size w1 w2) :
    Two w2 w.heap.size w.heap.size (.slice none 0 0) g2 (.slice none 0 0) bv bo (Vo.new n) := by
  have hz := hb1.size
  refine ⟨hv.after hb2, ⟨hr.has, own_base hr.own hz, hr.votes, hr.outs, ⟨by have := hr.low.1; omega, by have := hr.low.2.1; omega, by have := hr.low.2.2; omega⟩, hr.ne⟩, fun b hb h => ?_, voNew_wf h1 h2, fun c hc => by cases hc⟩
  have e1 := hv.lt b hb
  have e2 := hr.ge b h
  omega
/-- both have taken the same, and told the same -/
def TookBoth (w : World) (g g2 bo gw lo : Nat) (x1 : Value) (fs : List (List Int)) (v : Vo) (x : Value) (wx : World) : Prop :=
  (∃ lo2, RFramesAt wx lo2 x fs) ∧ FramesAt wx lo x1 fs ∧ (∃ vt vt2 bv, Two wx g g vt g2 vt2 bv bo v) ∧ Has wx gw 67 #[.pointer (some ⟨g2, 0, none⟩)] ∧ Below g w wx
theorem took_both {w wa w' : World} {g g2 bo gw lo bv : Nat} {x1 vt1 vt2 : Value} {v : Vo} {F : List Int} {e : Ending} (hv : VoAt wa g g vt1 (voTake v F).1) (hd : ∀ b, FV g vt1 b → ¬ FR g2 vt2 bv bo b) (hrv : RVoAt wa g g2 vt2 bv bo v)
    (ht : RTook wa g g2 vt2 bv bo v F e w') (hw : v.Wf) (hc : ∀ c ∈ v.trace, CmIn c) (hF : Wf F) (hfr : FramesAt wa lo x1 (voTake v F).2.1) (kw : Has wa gw 67 #[.pointer (some ⟨g2, 0, none⟩)]) (hb : Below g w wa) (hg : g ≤ wa.heap.size) :
    (∃ x, e = .returned (.tuple #[x, .bool (voTake v F).2.2]) ∧ TookBoth w g g2 bo gw lo x1 (voTake v F).2.1 (voTake v F).1 x w') ∧ ∀ b t cs, Has wa b t cs → t ≠ 82 → t ≠ 88 → Has w' b t cs := by
  obtain ⟨⟨x, he, hx⟩, ⟨vt2', bv', hr', hl1, hl2⟩, htu⟩ := ht
  have hk : ∀ b t cs, Has wa b t cs → t ≠ 82 → t ≠ 88 → Has w' b t cs := fun b t cs hb h1 h2 => hb.turned htu (has_notFR hrv hb h1 h2)
  refine ⟨⟨x, he, ⟨_, hx⟩, framesAt_turned hfr htu (fun b cs hb => has_notFR hrv hb (by decide) (by decide)), ⟨vt1, vt2', bv', Two.end_ hv hd hr' hl1 hl2 htu (voTake_wf hw F) (take_cm hc hF)⟩, hk _ _ _ kw (by decide) (by decide), ?_⟩, hk⟩
  exact hb.trans (htu.below hrv.ge hg)
section
variable {ty : TypeId} {ps : String} {af : Array Edge} {g : Option (Nat × Bool)} {a : Act} {w : World} {K : Act → World → Prop} {Q : Exit → Act → World → Prop}
theorem wp_ptrLoad {b d s : Nat} {v : Value} (h0 : w.cell? ⟨b, 0, none⟩ = some v) (e3 : a.tmps.getD s undef = .pointer (some ⟨b, 0, none⟩)) (h : K (a.put (some d) v) w) :
    Oper.wp Tryd.prog { dst := some d, op := .load 67 (.tmp s), type := ty, pos := ps, after := af, guard := g } a w K Q := by
  have e3' : a.eval (.tmp s) = .pointer (some ⟨b, 0, none⟩) := e3
  go_simp
  exact h
theorem wp_callRTake {d s1 s2 : Nat} {ts : Array TypeId} {x y : Value} {R : Ending → World → Prop} (e1 : a.tmps.getD s1 undef = x) (e2 : a.tmps.getD s2 undef = y)
    (hc : Calls Tryd.prog 29 #[x, y] w R) (h : ∀ e w', R e w' → ∃ v, e = .returned v ∧ K (a.put (some d) v) w') :
    Oper.wp Tryd.prog { dst := some d, op := .call { callee := .value (.func 29), args := #[.tmp s1, .tmp s2], argTypes := ts }, type := ty, pos := ps, after := af, guard := g } a w K Q := by
  have e1' : a.eval (.tmp s1) = x := e1
  have e2' : a.eval (.tmp s2) = y := e2
  go_simp
  refine hc.mono ?_
  intro e w' hr
  obtain ⟨v, rfl, hk⟩ := h e w' hr
  exact hk
end
theorem setB_out : ∀ o : Nat, o < 8 → setB (fun i => o.testBit i) 3 = o := by decide
set_option maxHeartbeats 2000000 in
/-- the closure that tells who is out -/
theorem plays_clo {w : World} {B g2 bv bo gw : Nat} {vt2 : Value} {v : Vo} (kw : Has w gw 67 #[.pointer (some ⟨g2, 0, none⟩)]) (hr : RVoAt w B g2 vt2 bv bo v) (i : Nat) (hi : i < 3) :
    Calls Tryd.prog 35 #[I (i : Int), .pointer (some ⟨gw, 0, none⟩)] w fun e w' => e = .returned (.bool (v.out.testBit i)) ∧ Below w.heap.size w w' := by
  have c9 := kw.cellv 0 _ rfl
  have c4 := hr.has.cellv 4 (.map (some bo)) rfl
  have hlk := out_look hr.outs hi
  clear kw hr
  go_enter Tryd.func35, Tryd.ntmps35
  go_wp2
  go_ret
  exact ⟨rfl, Below.refl _ _⟩
theorem plays_set {w : World} {B g g2 bv bo gw : Nat} {vt vt2 : Value} {v : Vo} (kw : Has w gw 67 #[.pointer (some ⟨g2, 0, none⟩)]) (T : Two w B g vt g2 vt2 bv bo v) :
    Calls Tryd.prog 34 #[.int .i64 3, .func (.func 35) #[] #[.pointer (some ⟨gw, 0, none⟩)]] w fun e w' => e = .returned (I (v.out : Int)) ∧ Below w.heap.size w w' := by
  refine (set_ok 3 35 #[.pointer (some ⟨gw, 0, none⟩)] (fun i => v.out.testBit i) (enters_of Tryd.func35 (by kernel_rfl) rfl) (by decide) w (Lib.hid fun W i hi hb => plays_clo (kw.after hb) (T.rv.after hb) i hi)).mono ?_
  rintro e w' ⟨rfl, hb⟩
  exact ⟨by rw [setB_out _ T.wf.out], hb⟩
/-- the reference's voter is latched -/
theorem rv_latch {w : World} {B g bv bo : Nat} {vt : Value} {v : Vo} (h : RVoAt w B g vt bv bo v) : RVoAt (w.setCell ⟨g, 5, none⟩ (.bool true)) B g vt bv bo { v with latched := true } := by
  have kt : Turned (fun b => b = g) w (w.setCell ⟨g, 5, none⟩ (.bool true)) := (Turned.refl (fun b => b = g) w).setCell ⟨g, 5, none⟩ _ (.inl rfl)
  exact ⟨h.has.set 5 (.bool true), own_turned h.own kt (fun q hq e => own_has_ne h.own h.has (by decide) (by rw [hq, e])), h.votes.at_heap (kt.block _ h.votes.lt (imap_has_ne h.votes h.has)), h.outs.at_heap (kt.block _ h.outs.lt (imap_has_ne h.outs h.has)), h.low, h.ne⟩
end Go.Proofs.YtdhekhlmdefcnaaDoor
