/- Part 18 of the proof: RVo, RVoP, RVoA. -/
import Derived.Test.YtdhekhlmdefcnaaDoorPart16
import Derived.Test.YtdhekhlmdefcnaaDoorPart17
import Derived.Test.YtdhekhlmdefcnaaDoorPart9
import Derived.StillTailTactics
import Derived.Deep.QuietTactic
import Derived.Deep.RegionWith
import Derived.BigQuiet
/- The reference's voter: in memory; the walks over its small functions. -/
namespace Go.Proofs.YtdhekhlmdefcnaaDoor
open Go.RowKit
/-- what is committed, as a value -/
def cmV (c : Cm) : Value := .agg #[I c.1, I c.2.1, I c.2.2]
/-- the votes, and who is out, as maps -/
def vmap (v : Vo) (j : Nat) : Option Value := if (vv v j).2 then some (cmV (vv v j).1) else none
def omap (o : Nat) (j : Nat) : Option Value := if o.testBit j then some (.bool true) else none
theorem underK : Tryd.prog.underlying 3 = some (.int .i64) := Tryd.underlying3
/-- The reference's voter lies at block g, its trace in vt, its maps at bv and bo. -/
structure RVoAt (w : World) (B g : Nat) (vt : Value) (bv bo : Nat) (v : Vo) : Prop where
  has : Has w g 82 #[I v.window, I v.time, vt, .map (some bv), .map (some bo), .bool v.latched]
  own : w.ownsRow B 88 3 vt v.trace.length (cmsC v.trace)
  votes : IMap Tryd.prog 3 w bv 3 (vmap v)
  outs : IMap Tryd.prog 3 w bo 3 (omap v.out)
  low : B ≤ g ∧ B ≤ bv ∧ B ≤ bo
  ne : bv ≠ bo
def FR (g : Nat) (vt : Value) (bv bo : Nat) (b : Nat) : Prop := b = g ∨ vt.ownBlock = some b ∨ b = bv ∨ b = bo
theorem RVoAt.turned {F : Nat → Prop} {w w' : World} {B g bv bo : Nat} {vt : Value} {v : Vo} (h : RVoAt w B g vt bv bo v) (ht : Turned F w w') (hn : ∀ b, FR g vt bv bo b → ¬ F b) : RVoAt w' B g vt bv bo v :=
  ⟨h.has.turned ht (hn g (.inl rfl)), own_turned h.own ht fun q hq => hn q (.inr (.inl hq)), h.votes.at_heap (ht.block bv h.votes.lt (hn bv (.inr (.inr (.inl rfl))))), h.outs.at_heap (ht.block bo h.outs.lt (hn bo (.inr (.inr (.inr rfl))))), h.low, h.ne⟩
theorem RVoAt.after {w w' : World} {B g bv bo : Nat} {vt : Value} {v : Vo} (h : RVoAt w B g vt bv bo v) (hb : Below w.heap.size w w') : RVoAt w' B g vt bv bo v :=
  ⟨h.has.after hb, own_after h.own hb, h.votes.at_heap (hb.block bv h.votes.lt), h.outs.at_heap (hb.block bo h.outs.lt), h.low, h.ne⟩
theorem imap_has_ne {P : Program} {k t : TypeId} {w : World} {b K g : Nat} {m : Nat → Option Value} {cs : Array Value} (h : IMap P k w b K m) (hg : Has w g t cs) : b ≠ g := by
  rintro rfl
  obtain ⟨D, hd⟩ := h
  obtain ⟨es, clock, hb, _⟩ := hd.owns
  unfold Has at hg
  rw [hg] at hb
  cases hb
theorem imap_own_ne {P : Program} {k e : TypeId} {w : World} {b K base size n : Nat} {m : Nat → Option Value} {v : Value} {xs : List Value} (h : IMap P k w b K m) (ho : w.ownsRow base e size v n xs) : v.ownBlock ≠ some b := by
  rcases ho.2 with ⟨rfl, _⟩ | ⟨g', cap, cur, rfl, _, hh, _⟩
  · simp [Value.ownBlock]
  · intro he
    have : g' = b := by simpa [Value.ownBlock] using he
    exact imap_has_ne (t := e) h hh this.symm
theorem RVoAt.ge {w : World} {B g bv bo : Nat} {vt : Value} {v : Vo} (h : RVoAt w B g vt bv bo v) : ∀ b, FR g vt bv bo b → B ≤ b := by
  intro b hb
  rcases hb with rfl | hb | rfl | rfl
  · exact h.low.1
  · rcases h.own.2 with ⟨rfl, _⟩ | ⟨g', _, _, rfl, hg, _⟩
    · simp [Value.ownBlock] at hb
    · have : g' = b := by simpa [Value.ownBlock] using hb
      omega
  · exact h.low.2.1
  · exact h.low.2.2
theorem RVoAt.lt {w : World} {B g bv bo : Nat} {vt : Value} {v : Vo} (h : RVoAt w B g vt bv bo v) : ∀ b, FR g vt bv bo b → b < w.heap.size := by
  intro b hb
  rcases hb with rfl | hb | rfl | rfl
  · exact h.has.lt
  · exact (h.own.lt b hb).2
  · exact h.votes.lt
  · exact h.outs.lt
/-- the trace as a slice that is read -/
theorem trace_slice {w : World} {B : Nat} {vt : Value} {t : List Cm} (h : w.ownsRow B 88 3 vt t.length (cmsC t)) : ∃ A c, vt = .slice A t.length c ∧ t.length ≤ c ∧ ∀ k cm, t[k]? = some cm → ∃ b, A = some ⟨b, 0, none⟩ ∧ vt.ownBlock = some b ∧ b < w.heap.size ∧
    w.cell? ⟨b, k * 3, none⟩ = some (I cm.1) ∧ w.cell? ⟨b, k * 3 + 1, none⟩ = some (I cm.2.1) ∧ w.cell? ⟨b, k * 3 + 2, none⟩ = some (I cm.2.2) := by
  obtain ⟨h1, h2⟩ := h
  rcases h2 with ⟨hv, hn⟩ | ⟨b, cap, cur, hv, hg, hh, hnc, _, _, ht⟩
  · refine ⟨none, 0, by rw [hv, hn], by omega, fun k cm hk => ?_⟩
    have := (List.getElem?_eq_some_iff.1 hk).1
    omega
  · refine ⟨some ⟨b, 0, none⟩, cap, hv, hnc, fun k cm hk => ?_⟩
    have hc : Has w b 88 cur := hh
    have key : ∀ j u, (cmsC t)[j]? = some u → w.cell? ⟨b, j, none⟩ = some u := by
      intro j u hu
      rw [hc.cell]
      rw [← ht, List.getElem?_take] at hu
      split at hu
      · simpa using hu
      · cases hu
    obtain ⟨a1, a2, a3⟩ := cmsC_get _ _ _ hk
    rw [Nat.mul_comm] at a1 a2 a3
    exact ⟨b, rfl, by rw [hv]; rfl, hc.lt, key _ _ a1, key _ _ a2, key _ _ a3⟩
theorem vmap_new (n : Int) (j : Nat) : vmap (Vo.new n) j = none := by
  unfold vmap vv
  rw [if_neg]
  show ¬ (noVotes.getD j (Cm.zero, false)).2 = true
  unfold noVotes
  rw [List.getD_eq_getElem?_getD, List.getElem?_replicate]
  split <;> simp
theorem omap_new (j : Nat) : omap 0 j = none := by unfold omap; simp
set_option maxHeartbeats 2000000 in
theorem rvo_new (n : Int) (w : World) : Calls Tryd.prog 27 #[I n] w fun e w' => (∃ g bv bo, e = .returned (.pointer (some ⟨g, 0, none⟩)) ∧ RVoAt w' w.heap.size g (.slice none 0 0) bv bo (Vo.new n)) ∧ Below w.heap.size w w' := by
  have hmm := @run_makeMap Tryd.prog
  have k1 := (IMap.new Tryd.prog 3 w 3).congr (m' := vmap (Vo.new n)) fun j _ => vmap_new n j
  have k2 := (IMap.new Tryd.prog 3 (w.alloc (.map #[] 0)) 3).congr (m' := omap 0) fun j _ => omap_new j
  have k3 := Has.new ((w.alloc (.map #[] 0)).alloc (.map #[] 0)) 82 #[I n, I n, .slice none 0 0, .map (some w.heap.size), .map (some (w.heap.size + 1)), .bool false]
  have K1 := Lib.hid (k1.at_heap (w' := ((w.alloc (.map #[] 0)).alloc (.map #[] 0)).alloc (.cells #[I n, I n, .slice none 0 0, .map (some w.heap.size), .map (some (w.heap.size + 1)), .bool false] 82)) ((Below.heap_alloc _ _ _ (by simp; omega)).trans (Below.heap_alloc _ _ _ (by simp))))
  have K2 := Lib.hid (k2.at_heap (w' := ((w.alloc (.map #[] 0)).alloc (.map #[] 0)).alloc (.cells #[I n, I n, .slice none 0 0, .map (some w.heap.size), .map (some (w.heap.size + 1)), .bool false] 82)) (Below.heap_alloc _ _ _ (by simp)))
  have K3 := Lib.hid k3
  clear k1 k2 k3
  go_enter Tryd.func27, Tryd.ntmps27
  go_wp2
  go_ret
  refine ⟨⟨w.heap.size + 1 + 1, w.heap.size, w.heap.size + 1, rfl, ?_, World.ownsRow_nil _ _ _ _, K1.out, ?_, ?_, ?_⟩, (((Below.refl _ _).alloc (Nat.le_refl _) _).alloc (by simp) _).alloc (by simp; omega) _⟩
  · show Has _ _ 82 #[I n, I n, .slice none 0 0, .map (some w.heap.size), .map (some (w.heap.size + 1)), .bool false]
    simpa using K3.out
  · show IMap _ _ _ _ 3 (omap 0)
    simpa using K2.out
  · simp; omega
  · simp
section
variable {w : World} {B g bv bo : Nat} {vt : Value} {v : Vo}
set_option maxHeartbeats 2000000 in
theorem rvo_tick (h : RVoAt w B g vt bv bo v) (hw : v.Wf) : Calls Tryd.prog 32 #[.pointer (some ⟨g, 0, none⟩)] w fun e w' => e = .returned (.tuple #[]) ∧ RVoAt w' B g vt bv bo (voTick v) ∧ Turned (fun b => b = g) w w' := by
  have c5 := h.has.cellv 5 (.bool v.latched) rfl
  have f5 := h.has.free 5
  have c1 := h.has.cellv 1 (I v.time) rfl
  have f1 := h.has.free 1
  have HH := Lib.hid h
  clear h
  cases hla : v.latched with
  | true =>
    rw [hla] at c5
    have HE : Hid (voTick v = v) := Lib.hid (by unfold voTick; rw [hla]; rfl)
    clear hla
    go_enter Tryd.func32, Tryd.ntmps32
    go_wp2
    go_end0
    exact ⟨rfl, by rw [HE.out]; exact HH.out, Turned.refl _ _⟩
  | false =>
    rw [hla] at c5
    obtain ⟨_, h1⟩ := hw.more hla
    have h20 := hw.time
    have k := (HH.out.has.set 1 (I (v.time - 1))).set 5 (.bool (v.time - 1 == 0))
    have kt : Turned (fun b => b = g) w ((w.setCell ⟨g, 1, none⟩ (I (v.time - 1))).setCell ⟨g, 5, none⟩ (.bool (v.time - 1 == 0))) := ((Turned.refl (fun b => b = g) w).setCell ⟨g, 1, none⟩ _ (.inl rfl)).setCell ⟨g, 5, none⟩ _ (.inl rfl)
    have hE : RVoAt ((w.setCell ⟨g, 1, none⟩ (I (v.time - 1))).setCell ⟨g, 5, none⟩ (.bool (v.time - 1 == 0))) B g vt bv bo (voTick v) := by
      have e1 : voTick v = { v with time := v.time - 1, latched := (v.time - 1 == 0) } := by
        unfold voTick
        rw [hla]
        simp only [Bool.false_eq_true, if_false]
        by_cases ht : v.time - 1 = 0
        · rw [if_pos ht, ht]; rfl
        · rw [if_neg ht]
          have : (v.time - 1 == 0) = false := by simpa using ht
          rw [this, ← hla]
      rw [e1]
      refine ⟨k, own_turned HH.out.own kt fun q hq e => ?_, HH.out.votes.at_heap (kt.block _ HH.out.votes.lt (imap_has_ne HH.out.votes HH.out.has)), HH.out.outs.at_heap (kt.block _ HH.out.outs.lt (imap_has_ne HH.out.outs HH.out.has)), HH.out.low, HH.out.ne⟩
      exact own_has_ne HH.out.own HH.out.has (by decide) (by rw [hq, e])
    have HE := Lib.hid hE
    have KT := Lib.hid kt
    by_cases ht : v.time - 1 = 0
    · have hte : (v.time - 1 == 0) = true := by simpa using ht
      rw [hte] at HE KT
      clear hla ht k kt hE hw
      generalize voTick v = v' at *
      generalize v.time = t at *
      go_enter Tryd.func32, Tryd.ntmps32
      go_wp2
      go_end0
      exact ⟨rfl, HE.out, KT.out⟩
    · have hte : (v.time - 1 == 0) = false := by simpa using ht
      rw [hte] at HE KT
      clear hla ht k kt hE hw
      generalize voTick v = v' at *
      generalize v.time = t at *
      go_enter Tryd.func32, Tryd.ntmps32
      go_wp2
      go_end0
      exact ⟨rfl, HE.out, KT.out⟩
set_option maxHeartbeats 2000000 in
set_option maxRecDepth 100000 in
theorem rvo_done (h : RVoAt w B g vt bv bo v) (k : Nat) (hk : k < v.trace.length) : Calls Tryd.prog 82 #[.pointer (some ⟨g, 0, none⟩), I k] w fun e w' => e = .returned (.agg (frC (voDone v k))) ∧ Below w.heap.size w w' := by
  obtain ⟨A, c, hvt, hc, hget⟩ := trace_slice h.own
  obtain ⟨cm, hcm⟩ : ∃ cm, v.trace[k]? = some cm := ⟨_, List.getElem?_eq_getElem hk⟩
  obtain ⟨b, rfl, hb, hlt, a0, a1, a2⟩ := hget k cm hcm
  have hE : frC (voDone v k) = #[I 3, I 3, I k, I cm.1, I cm.2.1, I cm.2.2, I 0, I 0, I 0, I 0, I 0, I 0, I 0, I 0, I 0, I 0, I 0, I 0, I 0, I 0, I 0, I 0, I 0] := by
    unfold voDone
    rw [List.getD_eq_getElem?_getD, hcm]
    rfl
  have c0 : w.cell? ⟨g, 2, none⟩ = some (.slice (some ⟨b, 0, none⟩) v.trace.length c) := by rw [← hvt]; exact h.has.cellv 2 _ rfl
  have hgl := h.has.lt
  have HE := Lib.hid hE
  generalize v.trace.length = n at *
  clear h hget hvt hcm hE hb
  have hki : (k : Int) < (n : Int) := by omega
  go_enter Tryd.func82, Tryd.ntmps82
  go_upto_region 1 with (fail)
  have k2 : Has (w.alloc (.cells #[I 0, I 0, I 0, I 0, I 0, I 0, I 0, I 0, I 0, I 0, I 0, I 0, I 0, I 0, I 0, I 0, I 0, I 0, I 0, I 0, I 0, I 0, I 0] 45)) w.heap.size 45 (frC zeroF) := by rw [zeroFrame]; exact Has.new _ _ _
  have hb : Below w.heap.size w (w.alloc (.cells #[I 0, I 0, I 0, I 0, I 0, I 0, I 0, I 0, I 0, I 0, I 0, I 0, I 0, I 0, I 0, I 0, I 0, I 0, I 0, I 0, I 0, I 0, I 0] 45)) := (Below.refl _ _).alloc (Nat.le_refl _) _
  have d0 := (hb.cell (p := ⟨g, 2, none⟩) hgl).trans c0
  have d1 := (hb.cell (p := ⟨b, k * 3, none⟩) hlt).trans a0
  have d2 := (hb.cell (p := ⟨b, k * 3 + 1, none⟩) hlt).trans a1
  have d3 := (hb.cell (p := ⟨b, k * 3 + 2, none⟩) hlt).trans a2
  clear c0 a0 a1 a2
  generalize w.alloc (.cells #[I 0, I 0, I 0, I 0, I 0, I 0, I 0, I 0, I 0, I 0, I 0, I 0, I 0, I 0, I 0, I 0, I 0, I 0, I 0, I 0, I 0, I 0, I 0] 45) = w1 at *
  generalize hG : w.heap.size = g4 at *
  have HG := Lib.hid hG
  clear hG
  go_still_tail 18, (by kernel_rfl)
  change wpList _ _ _ _ _ w1.drew
  have hs1 : (Tryd.prog.info? 45).map (·.size) = some (frC (voDone v k)).size := by rw [HE.out]; kernel_rfl
  have hs2 : (frC zeroF).size = (frC (voDone v k)).size := by rw [HE.out]; rfl
  have k3 := k2.drew
  refine wpList_store_row rfl 45 (.tmp 4) (.tmp 22) rfl g4 (frC (voDone v k)) rfl (by rw [HE.out]; rfl) 45 _ k3 hs1 hs2 (frC_one _) ?_
  have hb5 := below_setRow (hb.drew) (Nat.le_refl _) (frC (voDone v k))
  have k4 := k3.setRow (frC (voDone v k))
  clear k3 k2 hb
  generalize (w1.drew.setRow g4 (frC (voDone v k))) = w2 at *
  go_wp2
  exact bodyPost_ret (results_cell_row rfl _ _ g4 _ (frC (voDone v k)) _ _ rfl k4 Tryd.underlying45 rfl hs1) rfl ⟨rfl, HG.out ▸ hb5⟩
set_option maxHeartbeats 2000000 in
set_option maxRecDepth 100000 in
theorem rvo_shown (h : RVoAt w B g vt bv bo v) (hw : v.trace.length ≤ 1000) : Calls Tryd.prog 37 #[.pointer (some ⟨g, 0, none⟩)] w fun e w' => e = .returned (I (voShown v)) ∧ w = w' := by
  obtain ⟨A, c, hvt, hc, hget⟩ := trace_slice h.own
  have c5 := h.has.cellv 5 (.bool v.latched) rfl
  have c0 : w.cell? ⟨g, 2, none⟩ = some (.slice A v.trace.length c) := by rw [← hvt]; exact h.has.cellv 2 _ rfl
  by_cases hn : v.trace.length = 0
  · have HE : Hid (voShown v = 0) := Lib.hid (by
      unfold voShown
      rw [List.getLast?_eq_none_iff.2 (List.eq_nil_of_length_eq_zero hn)]
      split <;> rfl)
    rw [hn] at c0
    clear h hget hvt hn
    go_enter Tryd.func37, Tryd.ntmps37
    go_wp2
    go_ret
    exact ⟨by rw [HE.out]; rfl, rfl⟩
  · obtain ⟨cm, hcm⟩ := some_at v.trace (v.trace.length - 1) (by omega)
    obtain ⟨b, rfl, hb, hlt, a0, a1, a2⟩ := hget _ cm hcm
    obtain ⟨m, hm⟩ : ∃ m, v.trace.length = m + 1 := ⟨v.trace.length - 1, by omega⟩
    cases hl : v.latched with
    | true =>
      have HE : Hid (voShown v = 0) := Lib.hid (by unfold voShown; rw [hl]; rfl)
      rw [hl] at c5
      rw [hm] at c0
      have hmi : (0 : Int) < (m : Int) + 1 := by omega
      clear h hget hvt hn hm hcm a0 a1 a2 hb hl
      go_enter Tryd.func37, Tryd.ntmps37
      go_wp2
      go_ret
      exact ⟨by rw [HE.out]; rfl, rfl⟩
    | false =>
      have HE : Hid (voShown v = cm.2.2) := Lib.hid (shown_last v cm hl hcm)
      rw [hl] at c5
      rw [hm] at c0 a2 hc
      have e1 : m + 1 - 1 = m := rfl
      rw [e1] at a2
      have hm0 : (0 : Int) < (m : Int) + 1 := by omega
      have hmi : (m : Int) < (m : Int) + 1 := by omega
      have hm1000 : m < 1000 := by omega
      clear h hget hvt hl hn hm hcm a0 a1 hb
      go_enter Tryd.func37, Tryd.ntmps37
      go_wp2
      go_ret
      exact ⟨by rw [HE.out]; rfl, rfl⟩
end
end Go.Proofs.YtdhekhlmdefcnaaDoor
/- The reference's Take: plain laws for its walk. -/
namespace Go.Proofs.YtdhekhlmdefcnaaDoor
open Go.RowKit
def sameB (v : Vo) (c : Cm) (j : Nat) : Bool := (vv v j).2 && decide ((vv v j).1 = c)
def othC (v : Vo) (c : Cm) (j : Nat) : Bool := othB (vv v j) c
theorem vmap_some {v : Vo} {j : Nat} {u : Value} (h : vmap v j = some u) : (vv v j).2 = true ∧ u = cmV (vv v j).1 := by
  unfold vmap at h
  split at h
  · rename_i h1
    injection h with h
    exact ⟨h1, h.symm⟩
  · cases h
theorem vmap_isSome (v : Vo) (j : Nat) : (vmap v j).isSome = (vv v j).2 := by
  unfold vmap
  cases (vv v j).2 <;> rfl
theorem omap_isSome (o j : Nat) : (omap o j).isSome = o.testBit j := by
  unfold omap
  cases o.testBit j <;> rfl
theorem vv_set {v : Vo} (hv : v.votes.length = 3) {J : Nat} (c : Cm) (j : Nat) (hJ : J < 3) : vv (voted v J c) j = if j = J then (c, true) else vv v j := by
  by_cases e : j = J
  · subst e; rw [if_pos rfl]; exact vv_vote v j c hJ hv
  · rw [if_neg e]
    unfold vv voted
    simp only [List.getD_eq_getElem?_getD]
    rw [List.getElem?_set_ne (by omega)]
theorem vmap_voted {v : Vo} (hv : v.votes.length = 3) {J : Nat} (c : Cm) (hJ : J < 3) (j : Nat) : vmap (voted v J c) j = upd (vmap v) J (some (cmV c)) j := by
  unfold vmap upd
  rw [vv_set hv c j hJ]
  by_cases e : j = J
  · rw [if_pos e, if_pos e, if_pos rfl]
  · rw [if_neg e, if_neg e]
theorem same_start (v : Vo) (c : Cm) : cntB (fun j => !(vmap v j).isSome && sameB v c j) 3 = 0 := by
  have h : ∀ j, (!(vmap v j).isSome && sameB v c j) = false := fun j => by
    rw [vmap_isSome]; unfold sameB
    cases (vv v j).2 <;> rfl
  rw [cntB_congr (q := fun _ => false) fun i _ => h i]
  rfl
theorem same_step (v : Vo) (c : Cm) (left : Nat → Bool) {j : Nat} (hj : j < 3) (hl : left j = true) :
    cntB (fun i => !(left i && !decide (i = j)) && sameB v c i) 3 = cntB (fun i => !left i && sameB v c i) 3 + if sameB v c j then 1 else 0 := by
  by_cases hs : sameB v c j = true
  · rw [if_pos hs]
    have e : cntB (fun i => !(left i && !decide (i = j)) && sameB v c i) 3 = cntB (fun i => (fun i => !left i && sameB v c i) i || decide (i = j)) 3 := cntB_congr fun i _ => by
      by_cases e : i = j
      · subst e; simp [hs]
      · simp [e]
    rw [e, cntB_set _ j 3 hj]
    have : (!left j && sameB v c j) = false := by rw [hl]; rfl
    simp only [this, Bool.false_eq_true, if_false]
  · rw [if_neg hs, Nat.add_zero]
    refine cntB_congr fun i _ => ?_
    by_cases e : i = j
    · subst e
      have : sameB v c i = false := by simpa using hs
      simp [this]
    · simp [e]
theorem same_end (v : Vo) (c : Cm) (left : Nat → Bool) (h : ∀ j, j < 3 → left j = false) : cntB (fun i => !left i && sameB v c i) 3 = cntB (sameB v c) 3 :=
  cntB_congr fun i hi => by rw [h i hi]; simp
theorem alike_two {v : Vo} {J : Nat} {c : Cm} (hJ : J < 3) (h : vv v J = (c, true)) : alike v.votes J c = decide (2 ≤ cntB (sameB v c) 3) := by
  have hs : sameB v c J = true := by unfold sameB; rw [h]; simp
  rw [alike_at]
  have e : ∀ r, alikeAt v J c r = (decide (r ≠ J) && sameB v c r) := fun r => by unfold alikeAt sameB; simp [Bool.and_assoc]
  rw [e, e, e]
  unfold cntB cntB cntB cntB
  have hc : J = 0 ∨ J = 1 ∨ J = 2 := by omega
  rcases hc with rfl | rfl | rfl <;> rw [hs] <;> (cases sameB v c 0 <;> cases sameB v c 1 <;> cases sameB v c 2 <;> first | rfl | simp)
theorem voOut_bits (v : Vo) (c : Cm) (out j : Nat) : ∀ k, (voOut v.votes c out k).testBit j = (out.testBit j || (decide (j < k) && othC v c j))
  | 0 => by simp [voOut]
  | k + 1 => by
    have ih := voOut_bits v c out j k
    rw [voOut_succ]
    by_cases e : j = k
    · subst e
      have h1 : (1 <<< j).testBit j = true := by rw [Nat.shiftLeft_eq, Nat.one_mul]; exact Nat.testBit_two_pow_self
      unfold othC at ih ⊢
      split
      · rename_i ho
        rw [Nat.testBit_or, h1, ho]; simp
      · rename_i ho
        rw [ih]
        have : othB (vv v j) c = false := by simpa using ho
        simp [this]
    · have h0 : (1 <<< k).testBit j = false := by rw [Nat.shiftLeft_eq, Nat.one_mul, Nat.testBit_two_pow]; simp; omega
      have hd : decide (j < k + 1) = decide (j < k) := by rw [decide_eq_decide]; omega
      rw [hd]
      split
      · rw [Nat.testBit_or, h0, ih]; simp
      · exact ih
def omapL (v : Vo) (c : Cm) (left : Nat → Bool) (j : Nat) : Option Value := if v.out.testBit j || (!left j && othC v c j) then some (.bool true) else none
theorem omapL_start (v : Vo) (c : Cm) (j : Nat) : omapL v c (fun i => (vmap v i).isSome) j = omap v.out j := by
  unfold omapL omap
  have : (!(vmap v j).isSome && othC v c j) = false := by
    rw [vmap_isSome]; unfold othC othB
    cases (vv v j).2 <;> rfl
  rw [this, Bool.or_false]
theorem omapL_no (v : Vo) (c : Cm) (left : Nat → Bool) {j : Nat} (h : othC v c j = false) (i : Nat) : omapL v c (fun i => left i && !decide (i = j)) i = omapL v c left i := by
  unfold omapL
  by_cases e : i = j
  · subst e; rw [h]; simp
  · simp [e]
theorem omapL_yes (v : Vo) (c : Cm) (left : Nat → Bool) {j : Nat} (h : othC v c j = true) (i : Nat) : omapL v c (fun i => left i && !decide (i = j)) i = upd (omapL v c left) j (some (.bool true)) i := by
  unfold upd
  by_cases e : i = j
  · subst e; rw [if_pos rfl]; unfold omapL; rw [h]; simp
  · rw [if_neg e]; unfold omapL; simp [e]
theorem omapL_end (v : Vo) (c : Cm) (left : Nat → Bool) (h : ∀ j, j < 3 → left j = false) (j : Nat) (hj : j < 3) : omapL v c left j = omap (voOut v.votes c v.out 3) j := by
  unfold omapL omap
  rw [voOut_bits, h j hj]
  simp [hj]
theorem out_two : ∀ o : Nat, o < 8 → decide (2 ≤ cntB (fun j => o.testBit j) 3) = manyOut o := by decide
theorem omap_two {o : Nat} (h : o < 8) : decide (2 ≤ cntB (fun j => (omap o j).isSome) 3) = manyOut o := by
  rw [cntB_congr (q := fun j => o.testBit j) fun i _ => omap_isSome o i]
  exact out_two o h
theorem underMB : Tryd.prog.underlying 80 = some (.map 3 4) := Tryd.underlying80
theorem underMC : Tryd.prog.underlying 79 = some (.map 3 88) := Tryd.underlying79
theorem zeroBool (w : World) : (zeroValue 4).run Tryd.prog w = .ok (.bool false) w := by kernel_rfl
/-- who is out, looked up -/
theorem out_look {w : World} {bo o J : Nat} (h : IMap Tryd.prog 3 w bo 3 (omap o)) (hJ : J < 3) : (Instr.lookup 80 (.map (some bo)) (.int .i64 (J : Int)) false).run Tryd.prog w = .ok (.bool (o.testBit J)) w := by
  rw [h.look underK underMB (zeroBool w) (by decide) hJ]
  unfold omap
  cases o.testBit J <;> rfl
theorem out_lookN {w : World} {bo o J : Nat} (h : IMap Tryd.prog 3 w bo 3 (omap o)) (hJ : J < 3) (n : Nat) : (Instr.lookup 80 (.map (some bo)) (.int .i64 (J : Int)) false).run Tryd.prog (w.drewN n) = .ok (.bool (o.testBit J)) (w.drewN n) :=
  out_look (h.at_heap rfl) hJ
/-- A slice of the reference's frames, made behind lo. -/
def RFramesAt (w : World) (lo : Nat) (x : Value) (fs : List (List Int)) : Prop := w.ownsRow lo 45 23 x fs.length (frsC fs).toList
theorem rframes_nil (w : World) (lo : Nat) : RFramesAt w lo (.slice none 0 0) [] := World.ownsRow_nil _ _ _ _
theorem rframes_one {w : World} {lo : Nat} (hb : lo ≤ w.heap.size) (f : List Int) (hf : f.length = 23) : RFramesAt (w.alloc (.cells (frC f) 45)) lo (.slice (some ⟨w.heap.size, 0, none⟩) 1 1) [f] := by
  unfold RFramesAt
  rw [frsC_one]
  exact World.ownsRow_lit w (frC f) 1 hb (by unfold maxLen; omega) (by rw [frC_size _ hf])
theorem infoRF : (Tryd.prog.info? 45).map (fun i => (i.zero, i.size, i.bytes)) = some (some (.agg #[I 0, I 0, I 0, I 0, I 0, I 0, I 0, I 0, I 0, I 0, I 0, I 0, I 0, I 0, I 0, I 0, I 0, I 0, I 0, I 0, I 0, I 0, I 0]), 23, 184) := by kernel_rfl
theorem frC_ones (f : List Int) : ∀ u ∈ (frC f).toList, u.oneCell' = true := by
  intro u hu
  unfold frC at hu
  simp [ints] at hu
  obtain ⟨x, _, rfl⟩ := hu
  rfl
theorem inR_yes {j : Nat} (h : j < 3) : inR (j : Int) 0 2 = true := by unfold inR; simp; omega
theorem inR_no {j : Int} (h : j < 0 ∨ 3 ≤ j) : inR j 0 2 = false := by
  unfold inR
  rcases h with h | h
  · have : ¬ 0 ≤ j := by omega
    simp [this]
  · have : ¬ j ≤ 2 := by omega
    simp [this]
theorem in_is {n a b : Int} {r : Bool} (h : inR n a b = r) (w : World) : Calls Tryd.prog 78 #[.int .i64 n, .int .i64 a, .int .i64 b] w fun e w' => e = .returned (.bool r) ∧ w' = w :=
  (in_any n a b w).mono fun _ _ ⟨h1, h2⟩ => ⟨by rw [h1, h], h2.symm⟩
end Go.Proofs.YtdhekhlmdefcnaaDoor
/- The walk over the reference's Take: where nothing is voted. -/
namespace Go.Proofs.YtdhekhlmdefcnaaDoor
open Go.RowKit
/-- what Take leaves -/
def RTook (w : World) (B g : Nat) (vt : Value) (bv bo : Nat) (v : Vo) (f : List Int) (e : Ending) (w' : World) : Prop :=
  (∃ x, e = .returned (.tuple #[x, .bool (voTake v f).2.2]) ∧ RFramesAt w' w.heap.size x (voTake v f).2.1) ∧
  (∃ vt' bv', RVoAt w' B g vt' bv' bo (voTake v f).1 ∧ (vt'.ownBlock = vt.ownBlock ∨ ∃ b, w.heap.size ≤ b ∧ vt'.ownBlock = some b) ∧ (bv' = bv ∨ w.heap.size ≤ bv')) ∧ Turned (FR g vt bv bo) w w'
section
variable {w : World} {B g bv bo : Nat} {vt : Value} {v : Vo}
set_option maxHeartbeats 4000000 in
set_option maxRecDepth 100000 in
theorem rtake_a (h : RVoAt w B g vt bv bo v) (hw : v.Wf) (f : List Int) (hf : Wf f)
    (ha : voHears v f = false ∨ f.getD 2 0 < v.trace.length ∨ (v.trace.length : Int) < f.getD 2 0 ∨ v.latched = true ∨ f.getD 0 0 = 4) : Calls Tryd.prog 29 #[.pointer (some ⟨g, 0, none⟩), .agg (frC f)] w fun e w' => RTook w B g vt bv bo v f e w' := by
  unfold RTook
  obtain ⟨k, hk⟩ := some_at f 0 (by rw [hf.1]; decide)
  obtain ⟨j, hj⟩ := some_at f 1 (by rw [hf.1]; decide)
  obtain ⟨cy, hcy⟩ := some_at f 2 (by rw [hf.1]; decide)
  have HK : Hid (f.getD 0 0 = k) := Lib.hid (getDi hk)
  have HJ : Hid (f.getD 1 0 = j) := Lib.hid (getDi hj)
  have HC : Hid (f.getD 2 0 = cy) := Lib.hid (getDi hcy)
  have kb := Has.new w 45 (frC f)
  have h1 := h.after ((Below.refl w.heap.size w).alloc (Nat.le_refl _) (.cells (frC f) 45))
  have ht1 : Turned (FR g vt bv bo) w (w.alloc (.cells (frC f) 45)) := (Turned.refl (FR g vt bv bo) w).alloc _
  have HT1 := Lib.hid ht1
  have H1 := Lib.hid h1
  have HW := Lib.hid hw
  have HA := Lib.hid ha
  have hgl := h1.has.lt
  have a0 := kb.cellv 0 _ (frC_get f 0 k hk)
  have a1 := kb.cellv 1 _ (frC_get f 1 j hj)
  have a2 := kb.cellv 2 _ (frC_get f 2 cy hcy)
  have X0 := Lib.hid (frC_get f 0 k hk)
  have X1 := Lib.hid (frC_get f 1 j hj)
  have X2 := Lib.hid (frC_get f 2 cy hcy)
  have c4 := h1.has.cellv 4 (.map (some bo)) rfl
  have hj64 := (hf.2 j (List.mem_of_getElem? hj))
  clear hk hj hcy h h1 ht1 hw hf ha
  go_enter Tryd.func29, Tryd.ntmps29
  go_upto_region 1 with (fail)
  generalize w.alloc (.cells (frC f) 45) = w1 at *
  generalize hG : w.heap.size = g0 at *
  have HG := Lib.hid hG
  clear hG
  have HE : Hid (voHears v f = ((decide (k = 2) || decide (k = 4)) && decide (0 ≤ j) && decide (j < 3) && decide (0 ≤ cy) && !v.out.testBit j.toNat)) := Lib.hid (by unfold voHears; rw [HK.out, HJ.out, HC.out])
  go_cut [41] (fun s41 wx => s41 = .bool (!voHears v f) ∧ Hid (∃ q, w1.drewN q = wx))
  case first =>
    by_cases hk2 : k = 2 ∨ k = 4
    · by_cases hjr : j < 0 ∨ 3 ≤ j
      · have HN : Hid (voHears v f = false) := Lib.hid (by
          rw [HE.out]
          rcases hjr with h | h
          · have : ¬ 0 ≤ j := by omega
            simp [this]
          · have : ¬ j < 3 := by omega
            simp [this])
        have HIN := Lib.hid (fun wx => in_is (inR_no hjr) wx)
        clear hjr
        rcases hk2 with rfl | rfl
        all_goals
          go_quiet ((go_at_call 78; exact Calls.quiet_of_same (HIN.out _)))
          go_wp2_with fail
          go_meet
          case rel => exact ⟨by rw [HN.out]; rfl, Lib.hid ⟨_, rfl⟩⟩
      · obtain ⟨J, rfl⟩ : ∃ J : Nat, j = (J : Int) := ⟨j.toNat, by omega⟩
        have hJ3 : J < 3 := by omega
        have HIN := Lib.hid (fun wx => in_is (inR_yes hJ3) wx)
        have hlk := out_lookN H1.out.outs hJ3
        have hlk0 := out_look H1.out.outs hJ3
        cases hbb : v.out.testBit J with
        | true =>
          have HN : Hid (voHears v f = false) := Lib.hid (by rw [HE.out]; simp [hbb])
          rw [hbb] at hlk hlk0
          clear hbb hjr
          rcases hk2 with rfl | rfl
          all_goals
            go_quiet ((go_at_call 78; exact Calls.quiet_of_same (HIN.out _)))
            go_wp2_with fail
            go_meet
            case rel => exact ⟨by rw [HN.out]; rfl, Lib.hid ⟨_, rfl⟩⟩
        | false =>
          by_cases hc0 : cy < 0
          · have HN : Hid (voHears v f = false) := Lib.hid (by rw [HE.out]; have : ¬ 0 ≤ cy := by omega
                                                               simp [this])
            rw [hbb] at hlk hlk0
            clear hbb hjr
            rcases hk2 with rfl | rfl
            all_goals
              go_quiet ((go_at_call 78; exact Calls.quiet_of_same (HIN.out _)))
              go_wp2_with fail
              go_meet
              case rel => exact ⟨by rw [HN.out]; rfl, Lib.hid ⟨_, rfl⟩⟩
          · have HN : Hid (voHears v f = true) := Lib.hid (by
              rw [HE.out]
              have h1 : (0 : Int) ≤ (J : Int) := by omega
              have h2 : (J : Int) < 3 := by omega
              have h3 : 0 ≤ cy := by omega
              rcases hk2 with h | h <;> simp [h, h2, h3, hbb])
            rw [hbb] at hlk hlk0
            clear hbb hjr
            rcases hk2 with rfl | rfl
            all_goals
              go_quiet ((go_at_call 78; exact Calls.quiet_of_same (HIN.out _)))
              go_wp2_with fail
              go_meet
              case rel => exact ⟨by rw [HN.out]; rfl, Lib.hid ⟨_, rfl⟩⟩
    · have HN : Hid (voHears v f = false) := Lib.hid (by
        rw [HE.out]
        have h2 : ¬ k = 2 := fun h => hk2 (.inl h)
        have h4 : ¬ k = 4 := fun h => hk2 (.inr h)
        simp [h2, h4])
      have n2 : (k != 2) = true := by simpa using fun h => hk2 (.inl h)
      have n4 : (k != 4) = true := by simpa using fun h => hk2 (.inr h)
      clear hk2
      go_quiet (fail)
      go_wp2_with fail
      go_meet
      case rel => exact ⟨by rw [HN.out]; rfl, Lib.hid ⟨_, rfl⟩⟩
  case rest =>
    obtain ⟨rfl, hq⟩ := hcut
    obtain ⟨q, rfl⟩ := hq.out
    have H2 : Hid (RVoAt (w1.drewN q) B g vt bv bo v) := Lib.hid (H1.out.turned ((Turned.refl (fun _ => False) w1).drewN q) (fun _ _ h => h))
    have HT2 := Lib.hid (HT1.out.drewN q)
    have kb2 := kb.drewN q
    have hg2 := kb2.lt
    clear hq H1 HT1 kb a0 a1 a2 c4 HE hgl
    generalize w1.drewN q = w2 at *
    cases hh : voHears v f with
    | false =>
      have HE := Lib.hid (take_no hh)
      clear hh
      go_wp2
      go_ret2
      rw [HG.out, HE.out]
      exact ⟨⟨_, rfl, rframes_nil _ _⟩, ⟨vt, bv, H2.out, .inl rfl, .inl rfl⟩, HT2.out⟩
    | true =>
      have hh2 := hh
      unfold voHears at hh2
      rw [and5, HK.out, HJ.out, HC.out] at hh2
      obtain ⟨hk2, hj0, hj3, hc0, _⟩ := hh2
      simp only [Bool.or_eq_true, decide_eq_true_eq] at hk2 hj0 hj3 hc0
      obtain ⟨J, rfl⟩ : ∃ J : Nat, j = (J : Int) := ⟨j.toNat, by omega⟩
      obtain ⟨C, rfl⟩ : ∃ C : Nat, cy = (C : Int) := ⟨cy.toNat, by omega⟩
      have HH := Lib.hid hh
      have hn1000 := HW.out.many
      obtain ⟨A, c, hvt, hcc, hget⟩ := trace_slice H2.out.own
      have HVT := Lib.hid hvt
      have b2 : w2.cell? ⟨g, 2, none⟩ = some (.slice A v.trace.length c) := by rw [← hvt]; exact H2.out.has.cellv 2 _ rfl
      have b5 := H2.out.has.cellv 5 (.bool v.latched) rfl
      have x0 := kb2.cellv 0 (I k) X0.out
      have x2 := kb2.cellv 2 (I (C : Int)) X2.out
      clear hget hvt hj0 hc0 hj64 hh
      by_cases hlast : C + 1 = v.trace.length
      · have HE := Lib.hid (take_last HH.out HC.out hlast)
        have ht : (C : Int) < (C : Int) + 1 := by omega
        have ht2 : ¬ (C : Int) < (C : Int) := by omega
        have HD := Lib.hid (rvo_done H2.out C (by omega))
        have HF9 : Hid ((frC (voDone v C)).size = 23) := Lib.hid (frC_size _ rfl)
        have HF8 : Hid ((voDone v C).length = 23) := Lib.hid rfl
        rw [← hlast] at b2 hcc hn1000
        clear hlast
        go_upto_region 6 with (first
          | (go_at_call 82; refine HD.out.mono ?_; rintro e wd ⟨rfl, hbd⟩)
          | (refine wpList_rframes1 rfl (.tmp 54) rfl (frC (voDone v C)) rfl HF9.out ?_))
        have hbd2 := hbd.alloc hbd.size (.cells (frC (voDone v C)) 45)
        have hg3 := Nat.lt_of_lt_of_le hg2 hbd2.size
        have x2' := (kb2.after hbd2).cellv 2 (I (C : Int)) X2.out
        go_wp2
        go_ret2
        rw [HG.out, HE.out]
        exact ⟨⟨_, rfl, rframes_one (by have := hbd.size; have := HT2.out.size; have := HG.out; omega) _ HF8.out⟩, ⟨vt, bv, H2.out.after hbd2, .inl rfl, .inl rfl⟩, HT2.out.thenBelow hbd2⟩
      · by_cases hold : C + 1 < v.trace.length
        · have HE := Lib.hid (take_old HH.out HC.out hold)
          obtain ⟨i0, hi0, hz0, hz1, hz2⟩ := info_parts infoRF
          obtain ⟨m, hm⟩ : ∃ m, v.trace.length = m + 1 := ⟨v.trace.length - 1, by omega⟩
          have ht : (C : Int) < (m : Int) := by omega
          have ht2 : (C : Int) < (m : Int) + 1 := by omega
          have HD := Lib.hid (fun w' (h' : RVoAt w' B g vt bv bo v) => rvo_done h' C (by omega))
          have HD2 := Lib.hid (fun w' (h' : RVoAt w' B g vt bv bo v) => rvo_done h' m (by omega))
          have HF9 : Hid ((frC (voDone v C)).size = 23) := Lib.hid (frC_size _ rfl)
          have HF8 : Hid ((frC (voDone v m)).size = 23) := Lib.hid (frC_size _ rfl)
          have HL9 : Hid ((voDone v C).length = 23) := Lib.hid rfl
          have HL8 : Hid ((voDone v m).length = 23) := Lib.hid rfl
          rw [hm] at b2 HE hcc hn1000
          have hlo : g0 ≤ w2.heap.size := by have := HT2.out.size; have := HG.out; omega
          clear hlast hold
          have HM := Lib.hid hm
          clear hm
          have HNE : Hid (∀ b, FR g vt bv bo b → b < w2.heap.size) := Lib.hid (fun b hb => H2.out.lt b hb)
          go_upto_region 6 with (first
            | (go_at_call 82; refine (HD.out _ H2.out).mono ?_; rintro e wd ⟨rfl, hbd⟩)
            | (refine wpList_rframes1 rfl (.tmp 54) rfl (frC (voDone v C)) rfl HF9.out ?_))
          have HO1 : Hid (RFramesAt (wd.alloc (.cells (frC (voDone v C)) 45)) g0 (.slice (some ⟨wd.heap.size, 0, none⟩) 1 1) [voDone v C]) := Lib.hid (rframes_one (by have := hbd.size; omega) _ HL9.out)
          have hbd2 := hbd.alloc hbd.size (.cells (frC (voDone v C)) 45)
          have H3 := Lib.hid (H2.out.after hbd2)
          have kb3 := kb2.after hbd2
          have hg3 := Nat.lt_of_lt_of_le hg2 hbd2.size
          have x2' := kb3.cellv 2 (I (C : Int)) X2.out
          have hlo3 := Nat.le_trans hlo hbd2.size
          have HT3 := Lib.hid (HT2.out.thenBelow hbd2)
          have HT2s : Hid (w.heap.size ≤ w2.heap.size) := Lib.hid HT2.out.size
          clear hbd2 x0 x2 b2 b5 kb2 hg2 hlo HT2 H2
          have HGD : Hid (w2.heap.size ≤ wd.heap.size) := Lib.hid hbd.size
          clear hbd
          generalize wd.heap.size = gd at *
          generalize wd.alloc (.cells (frC (voDone v C)) 45) = w3 at *
          go_wp2_with (first
            | (go_at_call 82; refine (HD2.out _ H3.out).mono ?_; rintro e we ⟨rfl, hbe⟩)
            | (refine wpList_rframes1 rfl (.tmp 65) rfl (frC (voDone v m)) rfl HF8.out ?_)
            | (at_builtin; go_loud (refine wpList_append_own _ rfl (.tmp 61) (.tmp 66) 72 rfl g0 45 i0 _ 23 184 Tryd.underlying72 hi0 hz0 hz1 hz2 rfl (by decide) _ 1 _ rfl (own_after HO1.out (hbe.alloc hbe.size _)) ⟨we.heap.size, 0, none⟩ 1 1 (frC (voDone v m)).toList rfl ?d0 ?d1 (frC_ones _) ?d3 ?d4 ?d5 ?_)))
          case d0 => rw [Array.length_toList, HF8.out]
          case d1 => exact cells_new _ _ _
          case d3 => unfold maxLen; omega
          case d4 => omega
          case d5 => simp; have := hbe.size; omega
          intro v4 w4 hown4 hgrow4 _
          have hbe2 := hbe.alloc hbe.size (.cells (frC (voDone v m)) 45)
          have hfin : RFramesAt w4 g0 v4 [voDone v C, voDone v m] := by
            unfold RFramesAt
            have e : (frsC [voDone v C, voDone v m]).toList = (frsC [voDone v C]).toList ++ (frC (voDone v m)).toList := by rw [frsC_two, frsC_one]; simp
            rw [e]
            exact hown4
          have hbe3 : Below g0 w3 w4 := (hbe2.mono hlo3).grown hgrow4 (Nat.le_trans hlo3 hbe2.size) (fun q hq => by simp [Value.ownBlock] at hq; subst hq; exact (HO1.out.lt _ rfl).1)
          have HFIN := Lib.hid hfin
          have hh4 : ∀ b, FR g vt bv bo b → w4.heap[b]? = w3.heap[b]? := fun b hb => by
            have hl := H3.out.lt b hb
            rw [hgrow4.block b (Nat.lt_of_lt_of_le hl hbe2.size) ?_]
            · exact hbe2.block b hl
            · intro e
              simp [Value.ownBlock] at e
              subst e
              exact absurd (HNE.out _ hb) (by have := HGD.out; omega)
          have hR4 : RVoAt w4 B g vt bv bo v := ⟨(hh4 g (.inl rfl)).trans H3.out.has, own_keep H3.out.own (fun q _ hq _ => hh4 q (.inr (.inl hq))), H3.out.votes.at_heap (hh4 bv (.inr (.inr (.inl rfl)))), H3.out.outs.at_heap (hh4 bo (.inr (.inr (.inr rfl)))), H3.out.low, H3.out.ne⟩
          have HR4 := Lib.hid hR4
          have HT4 : Hid (Turned (FR g vt bv bo) w w4) := Lib.hid ((HT3.out.thenBelow hbe2).grown hgrow4 (fun q hq => by simp [Value.ownBlock] at hq; subst hq; exact .inr (by have := HGD.out; have := HG.out; have := HT2s.out; omega)))
          clear hown4 hR4 hh4 hbe3
          go_wp2
          go_ret2
          rw [HG.out, HE.out]
          exact ⟨⟨_, rfl, HFIN.out⟩, ⟨vt, bv, HR4.out, .inl rfl, .inl rfl⟩, HT4.out⟩
        · have hcn : v.trace.length ≤ C := by omega
          have ht2 : ¬ (C : Int) < (v.trace.length : Int) := by omega
          have hno : v.trace.length < C ∨ v.latched = true ∨ k = 4 := by
            rcases HA.out with h | h | h | h | h
            · rw [HH.out] at h; cases h
            · rw [HC.out] at h; omega
            · rw [HC.out] at h; exact .inl (by omega)
            · exact .inr (.inl h)
            · rw [HK.out] at h; exact .inr (.inr h)
          have HE := Lib.hid (take_not HH.out HC.out hcn (by rw [HK.out]; exact hno))
          by_cases hgt : v.trace.length < C
          · have ht3 : (v.trace.length : Int) < (C : Int) := by omega
            clear hlast hold hcn hno hgt
            generalize v.trace.length = n at *
            go_wp2
            go_ret2
            rw [HG.out, HE.out]
            exact ⟨⟨_, rfl, rframes_nil _ _⟩, ⟨vt, bv, H2.out, .inl rfl, .inl rfl⟩, HT2.out⟩
          · have ht3 : ¬ (v.trace.length : Int) < (C : Int) := by omega
            by_cases hk4 : k = 4
            · subst hk4
              clear hlast hold hcn hno hgt hk2
              generalize v.trace.length = n at *
              go_wp2
              go_ret2
              rw [HG.out, HE.out]
              exact ⟨⟨_, rfl, rframes_nil _ _⟩, ⟨vt, bv, H2.out, .inl rfl, .inl rfl⟩, HT2.out⟩
            · have hla : v.latched = true := by
                rcases hno with h | h | h
                · exact absurd h hgt
                · exact h
                · exact absurd h hk4
              have hkk : k = 2 := by
                rcases hk2 with h | h
                · exact h
                · exact absurd h hk4
              subst hkk
              rw [hla] at b5
              clear hlast hold hcn hno hgt hla hk2 hk4
              generalize v.trace.length = n at *
              go_wp2
              go_ret2
              rw [HG.out, HE.out]
              exact ⟨⟨_, rfl, rframes_nil _ _⟩, ⟨vt, bv, H2.out, .inl rfl, .inl rfl⟩, HT2.out⟩
end
end Go.Proofs.YtdhekhlmdefcnaaDoor
