/- Part 23 of the proof: RcMem, RcBusy, RcStep. -/
import Derived.Test.YtdhekhlmdefcnaaDoorPart21
import Derived.Test.YtdhekhlmdefcnaaDoorPart17
import Derived.Test.YtdhekhlmdefcnaaDoorPart22
import Derived.StillTailTactics
/- The reference's core: in memory. -/
namespace Go.Proofs.YtdhekhlmdefcnaaDoor
open Go.RowKit
/-- the sections that were used, as a map -/
def usedM (u : Nat) (j : Nat) : Option Value := if u.testBit j then some (.bool true) else none
theorem usedM_zero (j : Nat) : usedM 0 j = none := by unfold usedM; simp
theorem usedM_isSome (u j : Nat) : (usedM u j).isSome = u.testBit j := by unfold usedM; cases u.testBit j <;> rfl
theorem usedM_getD (u j : Nat) : (usedM u j).getD (.bool false) = .bool (u.testBit j) := by unfold usedM; cases u.testBit j <;> rfl
theorem usedM_upd (u k j : Nat) : upd (usedM u) k (some (.bool true)) j = usedM (u ||| 1 <<< k) j := by
  unfold upd usedM
  rw [testBit_or1]
  by_cases h : j = k
  · subst h; simp
  · rw [if_neg h]
    have : decide (k = j) = false := by simpa using fun e => h e.symm
    rw [this, Bool.or_false]
theorem keyI : Tryd.prog.underlying 3 = some (.int .i64) := Tryd.underlying3
theorem mapB : Tryd.prog.underlying 80 = some (.map 3 4) := Tryd.underlying80
theorem imapC_ne {P : Program} {k t : TypeId} {w : World} {b K g : Nat} {m : Nat → Option Value} {cs : Array Value} (h : IMap P k w b K m) (hg : Has w g t cs) : b ≠ g := by
  rintro rfl
  obtain ⟨D, hd⟩ := h
  obtain ⟨es, clock, hb, _⟩ := hd.owns
  unfold Has at hg
  rw [hg] at hb
  cases hb
/-- where a core of the reference lies -/
structure RcX where
  g : Nat
  rb : Nat
  cap : Nat
  mb : Nat → Nat
/-- the blocks that a step turns -/
def FC (x : RcX) (n b : Nat) : Prop := b = x.rb ∨ ∃ i, i < n ∧ b = x.mb i
/-- one route's cells -/
def rcCells (cs : Array Value) (x : RcX) (s : St) (i : Nat) : Prop := cs[i * 3]? = some (.bool (s.set.testBit i)) ∧ cs[i * 3 + 1]? = some (.map (some (x.mb i))) ∧ cs[i * 3 + 2]? = some (I (s.idle.getD i 0 : Nat))
structure RcAt (w : World) (B : Nat) (x : RcX) (A : Option Addr) (c : Nat) (L : Lay) (s : St) : Prop where
  has : Has w x.g 167 #[I L.secs, .slice A L.routes.length c, I L.delay, .slice (some ⟨x.rb, 0, none⟩) L.routes.length x.cap]
  lay : Reads w B A (ints (zs L.routes))
  rows : ∃ cs, Has w x.rb 169 cs ∧ L.routes.length * 3 ≤ cs.size ∧ ∀ i, i < L.routes.length → rcCells cs x s i
  maps : ∀ i, i < L.routes.length → IMap Tryd.prog 3 w (x.mb i) 12 (usedM (s.used.getD i 0))
  inj : ∀ i j, i < L.routes.length → j < L.routes.length → x.mb i = x.mb j → i = j
  lowg : B ≤ x.g
  lowr : B ≤ x.rb
  lowm : ∀ i, i < L.routes.length → B ≤ x.mb i
  capn : L.routes.length ≤ x.cap
  base : B ≤ w.heap.size
section
variable {w w' w1 : World} {B : Nat} {x x' : RcX} {A : Option Addr} {c : Nat} {L : Lay} {s s' : St}
theorem RcAt.lt (h : RcAt w B x A c L s) {b : Nat} (hb : FC x L.routes.length b) : b < w.heap.size := by
  rcases hb with rfl | ⟨i, hi, rfl⟩
  · obtain ⟨cs, hh, _⟩ := h.rows
    exact hh.lt
  · exact (h.maps i hi).lt
theorem RcAt.ge (h : RcAt w B x A c L s) {b : Nat} (hb : FC x L.routes.length b) : B ≤ b := by
  rcases hb with rfl | ⟨i, hi, rfl⟩
  · exact h.lowr
  · exact h.lowm i hi
theorem RcAt.notF (h : RcAt w B x A c L s) {g : Nat} {t : TypeId} {cs : Array Value} (hg : Has w g t cs) (ht : t ≠ 169) : ¬ FC x L.routes.length g := by
  rintro (rfl | ⟨i, hi, e⟩)
  · obtain ⟨cs', hh, _⟩ := h.rows
    unfold Has at hh hg
    rw [hh] at hg
    injection hg with hg
    injection hg with _ e
    exact ht e.symm
  · exact imapC_ne (h.maps i hi) hg e.symm
theorem RcAt.gNotF (h : RcAt w B x A c L s) : ¬ FC x L.routes.length x.g := h.notF h.has (by decide)
theorem RcAt.at_heap (h : RcAt w B x A c L s) (hw : w.heap.size ≤ w'.heap.size) (hg : w'.heap[x.g]? = w.heap[x.g]?) (hF : ∀ b, FC x L.routes.length b → w'.heap[b]? = w.heap[b]?) (hl : Reads w' B A (ints (zs L.routes))) : RcAt w' B x A c L s := by
  obtain ⟨cs, hh, r⟩ := h.rows
  exact ⟨hg.trans h.has, hl, ⟨cs, (hF _ (.inl rfl)).trans hh, r⟩, fun i hi => (h.maps i hi).at_heap (hF _ (.inr ⟨i, hi, rfl⟩)), h.inj, h.lowg, h.lowr, h.lowm, h.capn, Nat.le_trans h.base hw⟩
theorem RcAt.after (h : RcAt w B x A c L s) (hb : Below w.heap.size w w') : RcAt w' B x A c L s :=
  h.at_heap hb.size (hb.block _ h.has.lt) (fun b hf => hb.block b (h.lt hf)) (h.lay.below (hb.mono h.base))
theorem RcAt.turned {F : Nat → Prop} (h : RcAt w B x A c L s) (ht : Turned F w w') (h1 : ¬ F x.g) (h2 : ∀ b, FC x L.routes.length b → ¬ F b) (h3 : ∀ b, F b → B ≤ b) : RcAt w' B x A c L s :=
  h.at_heap ht.size (ht.block _ h.has.lt h1) (fun b hf => ht.block b (h.lt hf) (h2 b hf)) (h.lay.below (ht.below h3 h.base))
theorem RcAt.drew (h : RcAt w B x A c L s) : RcAt w.drew B x A c L s := h.after (Below.refl _ _).drew
/-- a route's cells, as they are read -/
theorem RcAt.cells (h : RcAt w B x A c L s) {i : Nat} (hi : i < L.routes.length) : w.cell? ⟨x.rb, i * 3, none⟩ = some (.bool (s.set.testBit i)) ∧ w.cell? ⟨x.rb, i * 3 + 1, none⟩ = some (.map (some (x.mb i))) ∧ w.cell? ⟨x.rb, i * 3 + 2, none⟩ = some (I (s.idle.getD i 0 : Nat)) := by
  obtain ⟨cs, hh, _, hc⟩ := h.rows
  obtain ⟨a, b, d⟩ := hc i hi
  exact ⟨by rw [hh.cell]; exact a, by rw [hh.cell]; exact b, by rw [hh.cell]; exact d⟩
theorem RcAt.rlt (h : RcAt w B x A c L s) : x.rb < w.heap.size := h.lt (.inl rfl)
/-- a cell of a route was stored -/
theorem RcAt.setCell (h : RcAt w B x A c L s) (k : Nat) (v : Value) (hk : ∀ cs : Array Value, (∀ i, i < L.routes.length → rcCells cs x s i) → L.routes.length * 3 ≤ cs.size → ∀ i, i < L.routes.length → rcCells (cs.setIfInBounds k v) x s' i)
    (hu : ∀ i, i < L.routes.length → s'.used.getD i 0 = s.used.getD i 0) : RcAt (w.setCell ⟨x.rb, k, none⟩ v) B x A c L s' := by
  obtain ⟨cs, hh, hsz, hc⟩ := h.rows
  have hgr : x.g ≠ x.rb := fun e => h.gNotF (.inl e)
  refine ⟨?_, ?_, ⟨_, hh.set k v, by simpa using hsz, hk cs hc hsz⟩, fun i hi => ?_, h.inj, h.lowg, h.lowr, h.lowm, h.capn, by simpa using h.base⟩
  · exact (Below.heap_setCell _ _ _ _ hgr).trans h.has
  · exact h.lay.below ((Below.refl _ _).setCell (p := ⟨x.rb, k, none⟩) h.lowr v)
  · rw [hu i hi]
    exact (h.maps i hi).at_heap (Below.heap_setCell _ _ _ _ (imapC_ne (h.maps i hi) hh))
theorem RcAt.route (h : RcAt w B x A c L s) : ∃ cs, Has w x.rb 169 cs ∧ L.routes.length * 3 ≤ cs.size := by
  obtain ⟨cs, hh, hsz, _⟩ := h.rows
  exact ⟨cs, hh, hsz⟩
theorem getI_set {α : Type} {cs : Array α} {k j : Nat} {v u : α} (h : cs[j]? = some u) (hne : k ≠ j) : (cs.setIfInBounds k v)[j]? = some u := by rw [Array.getElem?_setIfInBounds_ne hne]; exact h
theorem getI_same {α : Type} {cs : Array α} {k : Nat} {v : α} (h : k < cs.size) : (cs.setIfInBounds k v)[k]? = some v := by rw [Array.getElem?_setIfInBounds_self, if_pos h]
/-- a route is set -/
theorem RcAt.putSet (h : RcAt w B x A c L s) {i : Nat} (hi : i < L.routes.length) : RcAt (w.setCell ⟨x.rb, i * 3, none⟩ (.bool true)) B x A c L { s with set := s.set ||| 1 <<< i } := by
  refine h.setCell _ _ (fun cs hc hsz j hj => ?_) (fun _ _ => rfl)
  obtain ⟨a, b, d⟩ := hc j hj
  by_cases e : j = i
  · subst e
    refine ⟨?_, getI_set b (by omega), getI_set d (by omega)⟩
    show (cs.setIfInBounds (j * 3) _)[j * 3]? = some (.bool ((s.set ||| 1 <<< j).testBit j))
    rw [getI_same (by omega), testBit_or1]
    simp
  · refine ⟨?_, getI_set b (by omega), getI_set d (by omega)⟩
    show (cs.setIfInBounds (i * 3) _)[j * 3]? = some (.bool ((s.set ||| 1 <<< i).testBit j))
    rw [testBit_or1]
    have : decide (i = j) = false := by simpa using fun e' => e e'.symm
    rw [this, Bool.or_false]
    exact getI_set a (by omega)
/-- how long nobody wanted it -/
theorem RcAt.putIdle (h : RcAt w B x A c L s) {i : Nat} (hi : i < L.routes.length) (h8 : i < s.idle.length) (k : Nat) : RcAt (w.setCell ⟨x.rb, i * 3 + 2, none⟩ (I (k : Nat))) B x A c L { s with idle := s.idle.set i k } := by
  refine h.setCell _ _ (fun cs hc hsz j hj => ?_) (fun _ _ => rfl)
  obtain ⟨a, b, d⟩ := hc j hj
  by_cases e : j = i
  · subst e
    refine ⟨getI_set a (by omega), getI_set b (by omega), ?_⟩
    show (cs.setIfInBounds (j * 3 + 2) _)[j * 3 + 2]? = some (I ((s.idle.set j k).getD j 0 : Nat))
    rw [getI_same (by omega), List.getD_eq_getElem?_getD, List.getElem?_set_self h8]
    rfl
  · refine ⟨getI_set a (by omega), getI_set b (by omega), ?_⟩
    show (cs.setIfInBounds (i * 3 + 2) _)[j * 3 + 2]? = some (I ((s.idle.set i k).getD j 0 : Nat))
    rw [List.getD_eq_getElem?_getD, List.getElem?_set_ne (fun e' => e e'.symm), ← List.getD_eq_getElem?_getD]
    exact getI_set d (by omega)
/-- a section of it was used -/
theorem RcAt.putUsed (h : RcAt w B x A c L s) {i k : Nat} (hi : i < L.routes.length) (h8 : i < s.used.length) (hm : IMap Tryd.prog 3 w' (x.mb i) 12 (upd (usedM (s.used.getD i 0)) k (some (.bool true)))) (hg : w.grownBy w' (some (x.mb i))) :
    RcAt w' B x A c L { s with used := s.used.set i (s.used.getD i 0 ||| 1 <<< k) } := by
  have hrow := h.lt (.inl rfl : FC x L.routes.length x.rb)
  obtain ⟨cs, hh, hsz, hc⟩ := h.rows
  have hge : ∀ b, b < w.heap.size → b ≠ x.mb i → w'.heap[b]? = w.heap[b]? := fun b hb hne => hg.block b hb (fun e => hne (by cases e; rfl))
  refine ⟨(hge _ h.has.lt (fun e => imapC_ne (h.maps i hi) h.has e.symm)).trans h.has, h.lay.below ((Below.refl _ _).grown hg h.base (fun q hq => by cases hq; exact h.lowm i hi)), ⟨cs, (hge _ hrow (fun e => imapC_ne (h.maps i hi) hh e.symm)).trans hh, hsz, hc⟩, fun j hj => ?_, h.inj, h.lowg, h.lowr, h.lowm, h.capn, Nat.le_trans h.base hg.size⟩
  by_cases e : j = i
  · subst e
    refine hm.congr (fun q _ => ?_)
    show usedM ((s.used.set j _).getD j 0) q = _
    rw [List.getD_eq_getElem?_getD (l := s.used.set j _), List.getElem?_set_self h8]
    exact (usedM_upd _ _ _).symm
  · show IMap _ _ w' (x.mb j) 12 (usedM ((s.used.set i _).getD j 0))
    rw [List.getD_eq_getElem?_getD, List.getElem?_set_ne (fun e' => e e'.symm), ← List.getD_eq_getElem?_getD]
    exact (h.maps j hj).at_heap (hge _ (h.maps j hj).lt (fun e' => e (h.inj j i hj hi e')))
/-- a route is made anew, with a new map -/
def RcX.renew (x : RcX) (i m : Nat) : RcX := { x with mb := fun j => if j = i then m else x.mb j }
theorem RcAt.reset (h : RcAt w B x A c L s) {i m : Nat} (hi : i < L.routes.length) (h8 : i < s.used.length) (h9 : i < s.idle.length) (hm : IMap Tryd.prog 3 w m 12 (usedM 0)) (hne : ∀ j, j < L.routes.length → x.mb j ≠ m) (hlow : B ≤ m) :
    RcAt (((w.setCell ⟨x.rb, i * 3, none⟩ (.bool false)).setCell ⟨x.rb, i * 3 + 1, none⟩ (.map (some m))).setCell ⟨x.rb, i * 3 + 2, none⟩ (I 0)) B (x.renew i m) A c L ⟨nb s.set (1 <<< i), s.used.set i 0, s.idle.set i 0⟩ := by
  obtain ⟨cs, hh, hsz, hc⟩ := h.rows
  have hgr : x.g ≠ x.rb := fun e => h.gNotF (.inl e)
  have hmr : m ≠ x.rb := imapC_ne hm hh
  have far : ∀ b, b ≠ x.rb → (((w.setCell ⟨x.rb, i * 3, none⟩ (.bool false)).setCell ⟨x.rb, i * 3 + 1, none⟩ (.map (some m))).setCell ⟨x.rb, i * 3 + 2, none⟩ (I 0)).heap[b]? = w.heap[b]? := fun b hb => ((Below.heap_setCell _ _ _ _ hb).trans (Below.heap_setCell _ _ _ _ hb)).trans (Below.heap_setCell _ _ _ _ hb)
  refine ⟨(far _ hgr).trans h.has, h.lay.below ((((Below.refl _ _).setCell (p := ⟨x.rb, i * 3, none⟩) h.lowr _).setCell (p := ⟨x.rb, i * 3 + 1, none⟩) h.lowr _).setCell (p := ⟨x.rb, i * 3 + 2, none⟩) h.lowr _), ⟨_, ((hh.set (i * 3) (.bool false)).set (i * 3 + 1) (.map (some m))).set (i * 3 + 2) (I 0), by simpa using hsz, fun j hj => ?_⟩, fun j hj => ?_, fun j k hj hk e => ?_, h.lowg, h.lowr, fun j hj => ?_, h.capn, by simpa using h.base⟩
  · obtain ⟨a, b, d⟩ := hc j hj
    unfold rcCells
    by_cases e : j = i
    · subst e
      refine ⟨?_, ?_, ?_⟩
      · show _ = some (Value.bool ((nb s.set (1 <<< j)).testBit j))
        rw [Array.getElem?_setIfInBounds_ne (by omega), Array.getElem?_setIfInBounds_ne (by omega), getI_same (by omega), testBit_nb1]
        simp
      · rw [Array.getElem?_setIfInBounds_ne (by omega), getI_same (by simp; omega)]
        simp [RcX.renew]
      · rw [getI_same (by simp; omega)]
        show _ = some (I ((s.idle.set j 0).getD j 0 : Nat))
        rw [List.getD_eq_getElem?_getD, List.getElem?_set_self h9]
        rfl
    · refine ⟨?_, ?_, ?_⟩
      · show _ = some (Value.bool ((nb s.set (1 <<< i)).testBit j))
        rw [Array.getElem?_setIfInBounds_ne (by omega), Array.getElem?_setIfInBounds_ne (by omega), Array.getElem?_setIfInBounds_ne (by omega), a, testBit_nb1]
        have : decide (i = j) = false := by simpa using fun e' => e e'.symm
        rw [this]
        simp
      · rw [Array.getElem?_setIfInBounds_ne (by omega), Array.getElem?_setIfInBounds_ne (by omega), Array.getElem?_setIfInBounds_ne (by omega), b]
        simp [RcX.renew, e]
      · rw [Array.getElem?_setIfInBounds_ne (by omega), Array.getElem?_setIfInBounds_ne (by omega), Array.getElem?_setIfInBounds_ne (by omega), d]
        show _ = some (I ((s.idle.set i 0).getD j 0 : Nat))
        rw [List.getD_eq_getElem?_getD (l := s.idle.set i 0), List.getElem?_set_ne (fun e' => e e'.symm), ← List.getD_eq_getElem?_getD]
  · by_cases e : j = i
    · subst e
      show IMap _ _ _ (if j = j then m else x.mb j) 12 (usedM ((s.used.set j 0).getD j 0))
      rw [if_pos rfl, List.getD_eq_getElem?_getD, List.getElem?_set_self h8]
      exact hm.at_heap (far _ hmr)
    · show IMap _ _ _ (if j = i then m else x.mb j) 12 (usedM ((s.used.set i 0).getD j 0))
      rw [if_neg e, List.getD_eq_getElem?_getD, List.getElem?_set_ne (fun e' => e e'.symm), ← List.getD_eq_getElem?_getD]
      exact (h.maps j hj).at_heap (far _ (imapC_ne (h.maps j hj) hh))
  · have e2 : (if j = i then m else x.mb j) = (if k = i then m else x.mb k) := e
    by_cases e3 : j = i
    · by_cases e4 : k = i
      · rw [e3, e4]
      · rw [if_pos e3, if_neg e4] at e2
        exact absurd e2.symm (hne k hk)
    · by_cases e4 : k = i
      · rw [if_neg e3, if_pos e4] at e2
        exact absurd e2 (hne j hj)
      · rw [if_neg e3, if_neg e4] at e2
        exact h.inj j k hj hk e2
  · show B ≤ (if j = i then m else x.mb j)
    split
    · exact hlow
    · exact h.lowm j hj
end
end Go.Proofs.YtdhekhlmdefcnaaDoor
/- The reference's core: how many sections of a route are busy, of how many. -/
namespace Go.Proofs.YtdhekhlmdefcnaaDoor
open Go.RowKit
def busyN (r cl S : Nat) : Nat := cntB (fun k => r.testBit k && !cl.testBit k) S
def allN (r S : Nat) : Nat := cntB (fun k => r.testBit k) S
theorem cntB_step (p : Nat → Bool) (n : Nat) : cntB p (n + 1) = if p n then cntB p n + 1 else cntB p n := by rw [cntB]; split <;> omega
theorem cntB_zero (p : Nat → Bool) : ∀ n, cntB p n = 0 ↔ ∀ i, i < n → p i = false
  | 0 => ⟨fun _ i h => by omega, fun _ => rfl⟩
  | n + 1 => by
    rw [cntB_step]
    constructor
    · intro h i hi
      split at h
      · omega
      · rename_i hp
        by_cases e : i = n
        · subst e; simpa using hp
        · exact (cntB_zero p n).1 h i (by omega)
    · intro h
      rw [if_neg (by rw [h n (by omega)]; simp)]
      exact (cntB_zero p n).2 fun i hi => h i (by omega)
/-- none of it is busy -/
theorem busyN_zero {r cl S : Nat} (hr : r < 2 ^ S) : busyN r cl S = 0 ↔ nb r cl = 0 := by
  unfold busyN
  rw [cntB_zero]
  constructor
  · intro h
    apply Nat.eq_of_testBit_eq
    intro i
    rw [testBit_nb, Nat.zero_testBit]
    by_cases hi : i < S
    · exact h i hi
    · rw [Nat.testBit_lt_two_pow (Nat.lt_of_lt_of_le hr (Nat.pow_le_pow_right (by decide) (by omega)))]
      rfl
  · intro h i _
    have := congrArg (fun x => x.testBit i) h
    simp only [testBit_nb, Nat.zero_testBit] at this
    exact this
theorem cntB_sub {p q : Nat → Bool} (h : ∀ i, p i = true → q i = true) : ∀ n, cntB p n ≤ cntB q n ∧ (cntB p n = cntB q n ↔ ∀ i, i < n → p i = q i)
  | 0 => ⟨Nat.le_refl _, fun _ i hi => by omega, fun _ => rfl⟩
  | n + 1 => by
    obtain ⟨h1, h2⟩ := cntB_sub h n
    rw [cntB_step, cntB_step]
    by_cases hp : p n = true
    · have hq := h n hp
      rw [if_pos hp, if_pos hq]
      refine ⟨by omega, fun e i hi => ?_, fun e => ?_⟩
      · by_cases e2 : i = n
        · subst e2; rw [hp, hq]
        · exact h2.1 (by omega) i (by omega)
      · have := h2.2 (fun i hi => e i (by omega))
        omega
    · rw [if_neg hp]
      by_cases hq : q n = true
      · rw [if_pos hq]
        refine ⟨by omega, fun e => by omega, fun e => ?_⟩
        have := e n (by omega)
        rw [hq] at this
        exact absurd this hp
      · rw [if_neg hq]
        refine ⟨h1, fun e i hi => ?_, fun e => h2.2 (fun i hi => e i (by omega))⟩
        by_cases e2 : i = n
        · subst e2
          rw [Bool.not_eq_true] at hp hq
          rw [hp, hq]
        · exact h2.1 e i (by omega)
/-- all of it was used -/
theorem allN_eq {u r S : Nat} (hu : ∀ i, u.testBit i = true → r.testBit i = true) (hr : r < 2 ^ S) : cntB (fun k => u.testBit k) S = allN r S ↔ u = r := by
  unfold allN
  rw [(cntB_sub (p := fun k => u.testBit k) (q := fun k => r.testBit k) hu S).2]
  constructor
  · intro h
    apply Nat.eq_of_testBit_eq
    intro i
    by_cases hi : i < S
    · exact h i hi
    · have h0 : r.testBit i = false := Nat.testBit_lt_two_pow (Nat.lt_of_lt_of_le hr (Nat.pow_le_pow_right (by decide) (by omega)))
      cases hui : u.testBit i with
      | false => exact h0.symm
      | true => rw [hu i hui] at h0; cases h0
  · rintro rfl i _
    rfl
section
variable {w : World} {B : Nat} {x : RcX} {A : Option Addr} {c : Nat} {L : Lay} {s : St}
theorem RcAt.route_ (h : RcAt w B x A c L s) {i : Nat} (hi : i < L.routes.length) : ∃ b o, A = some ⟨b, o, none⟩ ∧ b < w.heap.size ∧ w.cell? ⟨b, o + i, none⟩ = some (I (rt L.routes i : Nat)) := by
  obtain ⟨r, hr⟩ := some_at L.routes i hi
  obtain ⟨b, o, e, hb, hc⟩ := h.lay.at_ (zs_some hr)
  exact ⟨b, o, e, Nat.lt_of_lt_of_le hb h.base, by rw [rt_of hr]; exact hc⟩
theorem rt_small {L : Lay} (hL : L.Ok) {i : Nat} (hi : i < L.routes.length) : rt L.routes i < 4096 ∧ rt L.routes i < 2 ^ L.secs := by
  obtain ⟨r, hr⟩ := some_at L.routes i hi
  rw [rt_of hr]
  exact ⟨hL.small r (List.mem_of_getElem? hr), hL.high r (List.mem_of_getElem? hr)⟩
set_option maxHeartbeats 2000000 in
set_option maxRecDepth 100000 in
theorem busy_ok (h : RcAt w B x A c L s) (hL : L.Ok) (bc bx i cl wa : Nat) (hi : i < L.routes.length) (hc : Has w bc 98 #[.pointer (some ⟨x.g, 0, none⟩)]) (hx : Has w bx 35 #[I (cl : Int), I (wa : Int)]) (hcl : cl < 4096) :
    Calls Tryd.prog 86 #[I (i : Int), .pointer (some ⟨bc, 0, none⟩), .pointer (some ⟨bx, 0, none⟩)] w fun e w' => e = .returned (.tuple #[I (busyN (rt L.routes i) cl L.secs : Nat), I (allN (rt L.routes i) L.secs : Nat)]) ∧ w = w' := by
  obtain ⟨br, or', rfl, hbr, hcr⟩ := h.route_ hi
  obtain ⟨hr4, hr2⟩ := rt_small hL hi
  have c0 := hc.cellv 0 _ rfl
  have x0 := hx.cellv 0 (I (cl : Int)) rfl
  have g0 := h.has.cellv 0 (I L.secs) rfl
  have g1 := h.has.cellv 1 (.slice (some ⟨br, or', none⟩) L.routes.length c) rfl
  have hg := h.has.lt
  have hs12 := hL.secs2
  have hii : (i : Int) < (L.routes.length : Int) := by omega
  have hin : ¬ (i : Int) < 0 := by omega
  generalize rt L.routes i = r at *
  clear hc hx h
  go_enter Tryd.func86, Tryd.ntmps86
  go_wp2_with fail
  go_loopw [4, 5, 12] (fun nv av kv wr => ∃ k : Nat, k ≤ L.secs ∧ kv = I k ∧ nv = I (busyN r cl k : Nat) ∧ av = I (allN r k : Nat) ∧ w = wr) (fun _ _ kv _ => L.secs - (intOf kv).toNat)
  case atStart => exact ⟨0, Nat.zero_le _, rfl, rfl, rfl, rfl⟩
  case round =>
    obtain ⟨k, hk, rfl, rfl, rfl, rfl⟩ := hrel
    by_cases hlt : k < L.secs
    · have hki : (k : Int) < (L.secs : Int) := by omega
      have HB := Lib.hid (cntB_step (fun k => r.testBit k && !cl.testBit k) k)
      have HA := Lib.hid (cntB_step (fun k => r.testBit k) k)
      have hb1 : busyN r cl k ≤ k := cntB_le _ _
      have ha1 : allN r k ≤ k := cntB_le _ _
      have hH1 := hasB_nat r k
      have hH2 := hasB_nat cl k
      have HL := Lib.hid hlt
      cases e1 : r.testBit k with
      | false =>
        rw [e1] at hH1
        have hb2 : busyN r cl (k + 1) = busyN r cl k := by unfold busyN; rw [HB.out]; simp [e1]
        have ha2 : allN r (k + 1) = allN r k := by unfold allN; rw [HA.out]; simp [e1]
        have HB2 := Lib.hid hb2
        have HA2 := Lib.hid ha2
        clear e1 hH2 hb2 ha2 hlt hk
        go_wp2_with (go_at_call 84; refine (has_any _ (by omega) (by omega) k (by omega) _).mono ?_; rintro e w9 ⟨rfl, rfl⟩; rw [hH1])
        go_roundw
        case rel => exact ⟨k + 1, HL.out, by go_num, by rw [HB2.out], by rw [HA2.out], trivial⟩
        case measure => have := HL.out; simp [intOf]; omega
      | true =>
        rw [e1] at hH1
        have ha2 : allN r (k + 1) = allN r k + 1 := by unfold allN; rw [HA.out]; simp [e1]
        have HA2 := Lib.hid ha2
        cases e2 : cl.testBit k with
        | true =>
          rw [e2] at hH2
          have hb2 : busyN r cl (k + 1) = busyN r cl k := by unfold busyN; rw [HB.out]; simp [e2]
          have HB2 := Lib.hid hb2
          clear e1 e2 hb2 ha2 hlt hk
          go_wp2_with (go_at_call 84; refine (has_any _ (by omega) (by omega) k (by omega) _).mono ?_; rintro e w9 ⟨rfl, rfl⟩; first | rw [hH1] | rw [hH2])
          go_roundw
          case rel => exact ⟨k + 1, HL.out, by go_num, by rw [HB2.out], by rw [HA2.out]; go_num, trivial⟩
          case measure => have := HL.out; simp [intOf]; omega
        | false =>
          rw [e2] at hH2
          have hb2 : busyN r cl (k + 1) = busyN r cl k + 1 := by unfold busyN; rw [HB.out]; simp [e1, e2]
          have HB2 := Lib.hid hb2
          clear e1 e2 hb2 ha2 hlt hk
          go_wp2_with (go_at_call 84; refine (has_any _ (by omega) (by omega) k (by omega) _).mono ?_; rintro e w9 ⟨rfl, rfl⟩; first | rw [hH1] | rw [hH2])
          go_roundw
          case rel => exact ⟨k + 1, HL.out, by go_num, by rw [HB2.out]; go_num, by rw [HA2.out]; go_num, trivial⟩
          case measure => have := HL.out; simp [intOf]; omega
    · have hkn : k = L.secs := by omega
      subst hkn
      have hki : ¬ (L.secs : Int) < (L.secs : Int) := by omega
      clear hlt hk
      go_wp2
      go_ret2
      exact ⟨rfl, rfl⟩
end
end Go.Proofs.YtdhekhlmdefcnaaDoor
/- The reference's core: what Step turns; the first loop of it, in plain. -/
namespace Go.Proofs.YtdhekhlmdefcnaaDoor
open Go.RowKit
def accU (u r cl : Nat) : Nat → Nat
  | 0 => u
  | j + 1 => if r.testBit j && !cl.testBit j then accU u r cl j ||| 1 <<< j else accU u r cl j
theorem accU_bit (u r cl i : Nat) : ∀ j, (accU u r cl j).testBit i = (u.testBit i || (decide (i < j) && (r.testBit i && !cl.testBit i)))
  | 0 => by simp [accU]
  | j + 1 => by
    rw [accU]
    by_cases h : (r.testBit j && !cl.testBit j) = true
    · rw [if_pos h, testBit_or1, accU_bit u r cl i j]
      by_cases e : j = i
      · subst e
        have h1 : decide (j < j + 1) = true := by simp
        rw [h1, h]
        simp
      · have h1 : decide (i < j + 1) = decide (i < j) := by
          have : (i < j + 1) ↔ (i < j) := by omega
          simp [this]
        have h2 : decide (j = i) = false := by simpa using e
        rw [h1, h2, Bool.or_false]
    · rw [if_neg h, accU_bit u r cl i j]
      by_cases e : j = i
      · subst e
        rw [Bool.not_eq_true] at h
        rw [h]
        simp
      · have h1 : decide (i < j + 1) = decide (i < j) := by
          have : (i < j + 1) ↔ (i < j) := by omega
          simp [this]
        rw [h1]
theorem accU_all {u r cl S : Nat} (hr : r < 2 ^ S) : accU u r cl S = u ||| nb r cl := by
  apply Nat.eq_of_testBit_eq
  intro i
  rw [accU_bit, Nat.testBit_or, testBit_nb]
  by_cases hi : i < S
  · simp [hi]
  · have h0 : r.testBit i = false := Nat.testBit_lt_two_pow (Nat.lt_of_lt_of_le hr (Nat.pow_le_pow_right (by decide) (by omega)))
    rw [h0]
    simp
/-- of each route only sections of it were used -/
def UsedIn (L : Lay) (s : St) : Prop := ∀ i, i < L.routes.length → ∀ b, (s.used.getD i 0).testBit b = true → (rt L.routes i).testBit b = true
theorem cntB_cut {p : Nat → Bool} {S : Nat} (h : ∀ i, S ≤ i → p i = false) : ∀ K, S ≤ K → cntB p K = cntB p S
  | 0, hK => by
    have : S = 0 := by omega
    rw [this]
  | K + 1, hK => by
    by_cases e : S = K + 1
    · rw [e]
    · rw [cntB_step, if_neg (by rw [h K (by omega)]; simp), cntB_cut h K (by omega)]
/-- how many were used -/
def lenU (u : Nat) : Nat := cntB (fun j => (usedM u j).isSome) 12
theorem lenU_eq {u r S : Nat} (hu : ∀ b, u.testBit b = true → r.testBit b = true) (hr : r < 2 ^ S) (hS : S ≤ 12) : lenU u = cntB (fun k => u.testBit k) S := by
  unfold lenU
  have e : cntB (fun j => (usedM u j).isSome) 12 = cntB (fun k => u.testBit k) 12 := cntB_congr fun i _ => usedM_isSome u i
  rw [e]
  refine cntB_cut (fun i hi => ?_) 12 hS
  cases h : u.testBit i with
  | false => rfl
  | true =>
    have := hu i h
    rw [Nat.testBit_lt_two_pow (Nat.lt_of_lt_of_le hr (Nat.pow_le_pow_right (by decide) hi))] at this
    cases this
theorem lenU_zero {u : Nat} (hu : u < 4096) : lenU u = 0 ↔ u = 0 := by
  unfold lenU
  rw [cntB_zero]
  constructor
  · intro h
    apply Nat.eq_of_testBit_eq
    intro i
    rw [Nat.zero_testBit]
    by_cases hi : i < 12
    · rw [← usedM_isSome]; exact h i hi
    · exact Nat.testBit_lt_two_pow (Nat.lt_of_lt_of_le hu (show 2 ^ 12 ≤ 2 ^ i from Nat.pow_le_pow_right (by decide) (by omega)))
  · rintro rfl i _
    rw [usedM_isSome, Nat.zero_testBit]
theorem lenU_le (u : Nat) : lenU u ≤ 12 := cntB_le _ _
/-- a core, and what a step of it holds beside, while it is under way -/
structure StAt (w0 w : World) (B : Nat) (x0 x : RcX) (A : Option Addr) (c : Nat) (L : Lay) (bc bx b5 cl wa : Nat) (s : St) : Prop where
  rc : RcAt w B x A c L s
  hc : Has w bc 98 #[.pointer (some ⟨x.g, 0, none⟩)]
  hx : Has w bx 35 #[I (cl : Int), I (wa : Int)]
  h5 : Has w b5 172 #[.func (.func 86) #[] #[.pointer (some ⟨bc, 0, none⟩), .pointer (some ⟨bx, 0, none⟩)]]
  same : x.g = x0.g
  moved : Turned (FC x0 L.routes.length) w0 w
  blocks : ∀ b, FC x L.routes.length b → FC x0 L.routes.length b ∨ w0.heap.size ≤ b
section
variable {w0 w w' : World} {B bc bx b5 cl wa : Nat} {x0 x x' : RcX} {A : Option Addr} {c : Nat} {L : Lay} {s s' : St}
theorem StAt.turn (h : StAt w0 w B x0 x A c L bc bx b5 cl wa s) (ht : Turned (FC x L.routes.length) w w') (hr : RcAt w' B x' A c L s') (hg : x'.g = x.g) (hb : ∀ b, FC x' L.routes.length b → FC x L.routes.length b ∨ w.heap.size ≤ b) : StAt w0 w' B x0 x' A c L bc bx b5 cl wa s' := by
  refine ⟨hr, by rw [hg]; exact h.hc.turned ht (h.rc.notF h.hc (by decide)), h.hx.turned ht (h.rc.notF h.hx (by decide)), h.h5.turned ht (h.rc.notF h.h5 (by decide)), hg.trans h.same, h.moved.trans ht (fun k hk hf => ?_), fun b hf => ?_⟩
  · rcases h.blocks k hf with h1 | h1
    · exact h1
    · omega
  · rcases hb b hf with h1 | h1
    · exact h.blocks b h1
    · exact .inr (Nat.le_trans h.moved.size h1)
theorem StAt.after (h : StAt w0 w B x0 x A c L bc bx b5 cl wa s) (hb : Below w.heap.size w w') : StAt w0 w' B x0 x A c L bc bx b5 cl wa s :=
  h.turn (Turned.of_below hb _) (h.rc.after hb) rfl (fun _ hf => .inl hf)
theorem StAt.putIdle (h : StAt w0 w B x0 x A c L bc bx b5 cl wa s) {i : Nat} (hi : i < L.routes.length) (h8 : i < s.idle.length) (k : Nat) : StAt w0 (w.setCell ⟨x.rb, i * 3 + 2, none⟩ (I (k : Nat))) B x0 x A c L bc bx b5 cl wa { s with idle := s.idle.set i k } :=
  h.turn ((Turned.refl _ _).setCell _ _ (.inl (.inl rfl))) (h.rc.putIdle hi h8 k) rfl (fun _ hf => .inl hf)
theorem StAt.putSet (h : StAt w0 w B x0 x A c L bc bx b5 cl wa s) {i : Nat} (hi : i < L.routes.length) : StAt w0 (w.setCell ⟨x.rb, i * 3, none⟩ (.bool true)) B x0 x A c L bc bx b5 cl wa { s with set := s.set ||| 1 <<< i } :=
  h.turn ((Turned.refl _ _).setCell _ _ (.inl (.inl rfl))) (h.rc.putSet hi) rfl (fun _ hf => .inl hf)
theorem StAt.putUsed (h : StAt w0 w B x0 x A c L bc bx b5 cl wa s) {i k : Nat} (hi : i < L.routes.length) (h8 : i < s.used.length) (hm : IMap Tryd.prog 3 w' (x.mb i) 12 (upd (usedM (s.used.getD i 0)) k (some (.bool true)))) (hg : w.grownBy w' (some (x.mb i))) :
    StAt w0 w' B x0 x A c L bc bx b5 cl wa { s with used := s.used.set i (s.used.getD i 0 ||| 1 <<< k) } :=
  h.turn ((Turned.refl _ _).grown hg (fun q hq => .inl (.inr ⟨i, hi, by cases hq; rfl⟩))) (h.rc.putUsed hi h8 hm hg) rfl (fun _ hf => .inl hf)
theorem StAt.reset (h : StAt w0 w B x0 x A c L bc bx b5 cl wa s) {i : Nat} (hi : i < L.routes.length) (h8 : i < s.used.length) (h9 : i < s.idle.length) :
    StAt w0 ((((w.alloc (.map #[] 0)).setCell ⟨x.rb, i * 3, none⟩ (.bool false)).setCell ⟨x.rb, i * 3 + 1, none⟩ (.map (some w.heap.size))).setCell ⟨x.rb, i * 3 + 2, none⟩ (I 0)) B x0 (x.renew i w.heap.size) A c L bc bx b5 cl wa ⟨nb s.set (1 <<< i), s.used.set i 0, s.idle.set i 0⟩ := by
  have h1 := h.rc.after (show Below w.heap.size w (w.alloc (.map #[] 0)) from (Below.refl _ _).alloc (Nat.le_refl _) _)
  refine h.turn (((((Turned.refl _ _).alloc _).setCell _ _ (.inl (.inl rfl))).setCell _ _ (.inl (.inl rfl))).setCell _ _ (.inl (.inl rfl))) (h1.reset hi h8 h9 ((IMap.new Tryd.prog 3 w 12).congr fun j _ => usedM_zero j) (fun j hj => Nat.ne_of_lt (h.rc.maps j hj).lt) h.rc.base) rfl (fun b hf => ?_)
  rcases hf with rfl | ⟨j, hj, rfl⟩
  · exact .inl (.inl rfl)
  · show FC x _ (if j = i then w.heap.size else x.mb j) ∨ _ ≤ (if j = i then w.heap.size else x.mb j)
    split
    · exact .inr (Nat.le_refl _)
    · exact .inl (.inr ⟨j, hj, rfl⟩)
end
theorem wrap_succ {d : Nat} (h : d ≤ 2000000) : wrap64 ((d : Int) + 1) = ((d + 1 : Nat) : Int) := by unfold wrap64; omega
theorem used_acc {s : St} {k : Nat} (h8 : k < s.used.length) (a b : Nat) : ({ s with used := s.used.set k a } : St).used.getD k 0 = a ∧ ({ s with used := (s.used.set k a).set k b } : St) = { s with used := s.used.set k b } :=
  ⟨by show (s.used.set k a).getD k 0 = a; rw [List.getD_eq_getElem?_getD, List.getElem?_set_self h8]; rfl, by rw [List.set_set]⟩
theorem used_same {s : St} {k : Nat} : ({ s with used := s.used.set k (s.used.getD k 0) } : St) = s := by
  obtain ⟨a, u, d⟩ := s
  show (⟨a, u.set k (u.getD k 0), d⟩ : St) = ⟨a, u, d⟩
  congr 1
  apply List.ext_getElem?
  intro j
  rw [List.getElem?_set]
  split
  · rename_i e
    subst e
    split
    · rename_i h
      rw [List.getD_eq_getElem?_getD, List.getElem?_eq_getElem h]
      rfl
    · rename_i h
      rw [List.getElem?_eq_none (by omega)]
  · rfl
/-- what a route's lot hangs on -/
theorem one_at {L : Lay} {cl wa k : Nat} {s : St} (h : s.set.testBit k = true) (u i : Nat) (hu : u = s.used.getD k 0 ||| nb (rt L.routes k) cl) (hi : i = if wa.testBit k then 0 else s.idle.getD k 0 + 1) :
    one L.delay cl wa s k (L.routes.getD k 0) = if u = rt L.routes k ∧ nb (rt L.routes k) cl = 0 ∨ u = 0 ∧ L.delay < i then ⟨nb s.set (1 <<< k), s.used.set k 0, s.idle.set k 0⟩ else ⟨s.set, s.used.set k u, s.idle.set k i⟩ := by
  unfold one
  rw [if_pos h]
  dsimp only
  rw [hu, hi]
  rfl
theorem one_not {L : Lay} {cl wa k : Nat} {s : St} (h : s.set.testBit k = false) : one L.delay cl wa s k (L.routes.getD k 0) = s := by
  unfold one
  rw [if_neg (by rw [h]; simp)]
theorem usedIn_one {L : Lay} {cl wa k : Nat} {s : St} (h : UsedIn L s) : UsedIn L (one L.delay cl wa s k (L.routes.getD k 0)) := by
  refine one_cases (P := UsedIn L) _ _ _ _ _ _ (fun _ => h) (fun _ _ _ => ?_) (fun _ _ => ?_)
  · intro i hi b hb
    by_cases e : k = i
    · subst e
      have hb' : ((s.used.set k 0).getD k 0).testBit b = true := hb
      rw [List.getD_eq_getElem?_getD, List.getElem?_set] at hb'
      split at hb'
      · split at hb'
        · simp at hb'
        · simp at hb'
      · exact absurd rfl (by assumption)
    · have hb' : ((s.used.set k 0).getD i 0).testBit b = true := hb
      rw [getD_setN_ne _ _ _ _ e] at hb'
      exact h i hi b hb'
  · intro i hi b hb
    by_cases e : k = i
    · subst e
      have hb' : ((s.used.set k (s.used.getD k 0 ||| nb (L.routes.getD k 0) cl)).getD k 0).testBit b = true := hb
      rw [List.getD_eq_getElem?_getD, List.getElem?_set] at hb'
      split at hb'
      · split at hb'
        · rw [Option.getD_some, Nat.testBit_or, testBit_nb] at hb'
          rcases Bool.or_eq_true_iff.1 hb' with h1 | h1
          · exact h k hi b h1
          · exact (Bool.and_eq_true_iff.1 h1).1
        · simp at hb'
      · exact absurd rfl (by assumption)
    · have hb' : ((s.used.set k (s.used.getD k 0 ||| nb (L.routes.getD k 0) cl)).getD i 0).testBit b = true := hb
      rw [getD_setN_ne _ _ _ _ e] at hb'
      exact h i hi b hb'
theorem usedIn_letGo {L : Lay} {cl wa : Nat} {s : St} (h : UsedIn L s) : ∀ k, UsedIn L (letGo L cl wa s k)
  | 0 => h
  | k + 1 => usedIn_one (usedIn_letGo h k)
section
variable {w0 w w' : World} {B bc bx b5 cl wa : Nat} {x0 x x' : RcX} {A : Option Addr} {c : Nat} {L : Lay} {s s' : St}
structure StView (w : World) (bc bx b5 cl wa : Nat) (g : Nat) (x : RcX) (A : Option Addr) (c : Nat) (L : Lay) : Prop where
  c0 : w.cell? ⟨bc, 0, none⟩ = some (.pointer (some ⟨g, 0, none⟩))
  g0 : w.cell? ⟨g, 0, none⟩ = some (I L.secs)
  g1 : w.cell? ⟨g, 1, none⟩ = some (.slice A L.routes.length c)
  g2 : w.cell? ⟨g, 2, none⟩ = some (I L.delay)
  g3 : w.cell? ⟨g, 3, none⟩ = some (.slice (some ⟨x.rb, 0, none⟩) L.routes.length x.cap)
  x0 : w.cell? ⟨bx, 0, none⟩ = some (I (cl : Int))
  x1 : w.cell? ⟨bx, 1, none⟩ = some (I (wa : Int))
  f0 : w.cell? ⟨b5, 0, none⟩ = some (.func (.func 86) #[] #[.pointer (some ⟨bc, 0, none⟩), .pointer (some ⟨bx, 0, none⟩)])
  lc : bc < w.heap.size
  lx : bx < w.heap.size
  l5 : b5 < w.heap.size
  lg : g < w.heap.size
  lr : x.rb < w.heap.size
theorem StAt.view (h : StAt w0 w B x0 x A c L bc bx b5 cl wa s) : StView w bc bx b5 cl wa x0.g x A c L := by
  have e := h.same
  refine ⟨?_, ?_, ?_, ?_, ?_, h.hx.cellv 0 (I (cl : Int)) rfl, h.hx.cellv 1 (I (wa : Int)) rfl, h.h5.cellv 0 _ rfl, h.hc.lt, h.hx.lt, h.h5.lt, by rw [← e]; exact h.rc.has.lt, h.rc.rlt⟩
  · rw [← e]; exact h.hc.cellv 0 _ rfl
  · rw [← e]; exact h.rc.has.cellv 0 (I L.secs) rfl
  · rw [← e]; exact h.rc.has.cellv 1 (.slice A L.routes.length c) rfl
  · rw [← e]; exact h.rc.has.cellv 2 (I L.delay) rfl
  · rw [← e]; exact h.rc.has.cellv 3 (.slice (some ⟨x.rb, 0, none⟩) L.routes.length x.cap) rfl
theorem StAt.routeAt (h : StAt w0 w B x0 x A c L bc bx b5 cl wa s) {k br o : Nat} (hA : A = some ⟨br, o, none⟩) (hk : k < L.routes.length) : w.cell? ⟨br, o + k, none⟩ = some (I (rt L.routes k : Nat)) ∧ br < w.heap.size := by
  obtain ⟨b, o', e, hb, hc⟩ := h.rc.route_ hk
  rw [hA] at e
  cases e
  exact ⟨hc, hb⟩
end
end Go.Proofs.YtdhekhlmdefcnaaDoor
