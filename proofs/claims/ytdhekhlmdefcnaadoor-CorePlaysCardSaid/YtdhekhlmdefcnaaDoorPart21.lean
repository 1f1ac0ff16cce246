/- Part 21 of the proof: IMap. -/
import Derived.Test.YtdhekhlmdefcnaaDoorPart3
import Derived.Maps.RangeWalk
import Derived.Maps.OwnOps
/- Maps keyed by small numbers: what is at each key; the laws at the operations. -/
namespace Go.Proofs.YtdhekhlmdefcnaaDoor
open Go.RowKit Go.Maps
/-- a value reads as itself -/
def Rh : Value → Option (DataW Value × List MemPlace) := fun v => some (.held v, [])
def kl (j : Nat) : Lit := .int .i64 (j : Int)
/-- numbers that are small enough -/
theorem kl_wf (j : Nat) (h : j < 9223372036854775808) : (kl j).wf = true := by
  unfold kl
  exact WalkArith.wf_i64 (by omega)
theorem kl_inj {i j : Nat} (h : kl i = kl j) : i = j := by
  unfold kl at h
  injection h with _ h
  omega
theorem kl_same (i j : Nat) : (kl i).sameKey (kl j) = decide (i = j) := by
  by_cases h : i = j
  · subst h
    rw [WideAt.sameKey_self (by exact trivial)]
    simp
  · rw [Maps.sameKey_ne (fun e => h (kl_inj e))]
    simp [h]
section
variable {P : Program} {k e t : TypeId} {w : World} {b K : Nat} {m : Nat → Option Value} {D : DataW Value}
theorem tight {R : Value → Option (DataW Value × List MemPlace)} {n : Nat} (h : w.ownsMap P k R b n D) : w.ownsMap P k R b (Maps.size D) D := by
  obtain ⟨es, clock, hb, F, _, rfl⟩ := h
  exact ⟨es, clock, hb, F, by simp [Maps.size, length_sorted], rfl⟩
/-- Block b is a map whose keys are below K; m says what is at each. -/
structure IMapD (P : Program) (k : TypeId) (w : World) (b K : Nat) (m : Nat → Option Value) (D : DataW Value) : Prop where
  owns : w.ownsMap P k Rh b (Maps.size D) D
  size : Maps.size D = cntB (fun j => (m j).isSome) K
  has : ∀ j, j < K → Maps.has D (kl j) = (m j).isSome
  at_ : ∀ j, j < K → ∀ v, m j = some v → ∀ z, D.atKey (kl j) z = .held v
  keys : ∀ l, Maps.has D l = true → ∃ j, j < K ∧ l = kl j
def IMap (P : Program) (k : TypeId) (w : World) (b K : Nat) (m : Nat → Option Value) : Prop := ∃ D, IMapD P k w b K m D
theorem IMap.lt (h : IMap P k w b K m) : b < w.heap.size := by
  obtain ⟨D, h⟩ := h
  exact h.owns.lt
theorem IMapD.at_heap {w' : World} (h : IMapD P k w b K m D) (hh : w'.heap[b]? = w.heap[b]?) : IMapD P k w' b K m D := by
  obtain ⟨es, clock, hb, F, hs, hD⟩ := h.owns
  exact ⟨⟨es, clock, hh.trans hb, F, hs, hD⟩, h.size, h.has, h.at_, h.keys⟩
theorem IMap.at_heap {w' : World} (h : IMap P k w b K m) (hh : w'.heap[b]? = w.heap[b]?) : IMap P k w' b K m := by
  obtain ⟨D, h⟩ := h
  exact ⟨D, h.at_heap hh⟩
theorem IMap.congr {m' : Nat → Option Value} (h : IMap P k w b K m) (he : ∀ j, j < K → m' j = m j) : IMap P k w b K m' := by
  obtain ⟨D, h⟩ := h
  exact ⟨D, h.owns, by rw [h.size]; exact cntB_congr fun i hi => by rw [he i hi], fun j hj => by rw [h.has j hj, he j hj], fun j hj v hv => h.at_ j hj v (by rw [← he j hj]; exact hv), h.keys⟩
theorem IMap.new (P : Program) (k : TypeId) (w : World) (K : Nat) : IMap P k (w.alloc (.map #[] 0)) w.heap.size K (fun _ => none) := by
  refine ⟨.map [], tight (World.ownsMap_made w P k Rh), ?_, fun j _ => (by simp [Maps.has]), fun j _ v hv => (by cases hv), fun l hl => (by simp [Maps.has] at hl)⟩
  have : ∀ n, cntB (fun j => ((fun _ => none : Nat → Option Value) j).isSome) n = 0 := by
    intro n
    induction n with
    | zero => rfl
    | succ n ih => rw [cntB, ih]; rfl
  rw [this]
  rfl
theorem cntB_le (p : Nat → Bool) : ∀ n, cntB p n ≤ n
  | 0 => Nat.le_refl _
  | n + 1 => by
    have := cntB_le p n
    rw [cntB]
    split <;> omega
theorem cntB_set (p : Nat → Bool) (i : Nat) : ∀ n, i < n → cntB (fun j => p j || decide (j = i)) n = if p i then cntB p n else cntB p n + 1
  | 0, h => by omega
  | n + 1, h => by
    rw [cntB, cntB]
    by_cases e : n = i
    · subst e
      have h1 : cntB (fun j => p j || decide (j = n)) n = cntB p n := cntB_congr fun j hj => by
        have : j ≠ n := by omega
        simp [this]
      rw [h1]
      cases p n <;> simp
    · rw [cntB_set p i n (by omega)]
      have : decide (n = i) = false := by simpa using e
      rw [this, Bool.or_false]
      split <;> split <;> omega
theorem cntB_del (p : Nat → Bool) (i : Nat) : ∀ n, i < n → cntB (fun j => p j && !decide (j = i)) n + (if p i then 1 else 0) = cntB p n
  | 0, h => by omega
  | n + 1, h => by
    rw [cntB, cntB]
    by_cases e : n = i
    · subst e
      have h1 : cntB (fun j => p j && !decide (j = n)) n = cntB p n := cntB_congr fun j hj => by
        have : j ≠ n := by omega
        simp [this]
      rw [h1]
      cases p n <;> simp
    · have := cntB_del p i n (by omega)
      have h2 : decide (n = i) = false := by simpa using e
      rw [h2, Bool.not_false, Bool.and_true]
      cases p n <;> simp <;> omega
def upd (m : Nat → Option Value) (i : Nat) (v : Option Value) : Nat → Option Value := fun j => if j = i then v else m j
/-- what is looked up -/
theorem IMap.look (h : IMap P k w b K m) (hk : P.underlying k = some (.int .i64)) (ht : P.underlying t = some (.map k e)) {z : Value} (hz : (zeroValue e).run P w = .ok z w) (hK : K < 1000000) {j : Nat} (hj : j < K) :
    (Instr.lookup t (.map (some b)) (.int .i64 (j : Int)) false).run P w = .ok ((m j).getD z) w := by
  obtain ⟨D, h⟩ := h
  obtain ⟨v, ps, hrun, hv⟩ := h.owns.lookup (int_keyed hk) ht hz (zd := .held z) (zp := []) rfl (keyOf_int_mk hk (kl_wf j (by omega)))
  rw [hrun]
  unfold Rh at hv
  injection hv with hv
  injection hv with hv _
  cases hm : m j with
  | some u =>
    have := h.at_ j hj u hm (.held z)
    unfold kl at this
    rw [this] at hv
    injection hv with hv
    rw [hv]
    rfl
  | none =>
    have hn := h.has j hj
    rw [hm] at hn
    have := Maps.atKey_of_not_has (k := kl j) hn (.held z)
    unfold kl at this
    rw [this] at hv
    injection hv with hv
    rw [hv]
    rfl
theorem IMap.len (h : IMap P k w b K m) (ht : P.underlying t = some (.map k e)) (ty : TypeId) : (Builtin.len_ #[t] ty #[.map (some b)]).run P w = .ok (.int .i64 (cntB (fun j => (m j).isSome) K : Nat)) w := by
  obtain ⟨D, h⟩ := h
  rw [h.owns.len ht ty, h.size]
theorem IMap.store (h : IMap P k w b K m) (hk : P.underlying k = some (.int .i64)) (ht : P.underlying t = some (.map k e)) (hK : K < 1000000) {j : Nat} (hj : j < K) (v : Value) :
    ∃ w', (Instr.mapUpdate t (.map (some b)) (.int .i64 (j : Int)) v).run P w = .ok () w' ∧ IMap P k w' b K (upd m j (some v)) ∧ w.grownBy w' (some b) := by
  obtain ⟨D, h⟩ := h
  have hle : Maps.size D ≤ K := by rw [h.size]; exact cntB_le _ _
  obtain ⟨w', hrun, hown, hg⟩ := h.owns.update (int_keyed hk) ht (by unfold maxLen; omega) (val := v) (d := .held v) (ps := []) (keyOf_int_mk hk (kl_wf j (by omega))) rfl
  have hM := h.owns.isMap
  have hT := h.owns.tidy (int_keyed hk)
  refine ⟨w', hrun, ⟨D.put (kl j) (.held v), tight hown, ?_, fun i hi => ?_, fun i hi u hu z => ?_, fun l hl => ?_⟩, hg⟩
  · rw [Maps.size_put hT (k := kl j), h.has j hj, h.size]
    have e1 : cntB (fun i => (upd m j (some v) i).isSome) K = cntB (fun i => (fun i => (m i).isSome) i || decide (i = j)) K := cntB_congr fun i _ => by
      unfold upd
      by_cases e : i = j
      · subst e; simp
      · simp [e]
    rw [e1, cntB_set _ j K hj]
  · unfold upd
    by_cases e : i = j
    · subst e
      rw [if_pos rfl, Maps.has_put_same hM (by exact trivial)]
      rfl
    · rw [if_neg e, Maps.has_put_other (fun e' => e (kl_inj e')), h.has i hi]
  · unfold upd at hu
    by_cases e : i = j
    · subst e
      rw [if_pos rfl] at hu
      injection hu with hu
      subst hu
      exact Maps.atKey_put_same hM (by exact trivial) _ _
    · rw [if_neg e] at hu
      rw [Maps.atKey_put_other (fun e' => e (kl_inj e'))]
      exact h.at_ i hi u hu z
  · by_cases e : l = kl j
    · exact ⟨j, hj, e⟩
    · rw [Maps.has_put_other e] at hl
      exact h.keys l hl
/-- A range over such a map is under way: 'left' are still to come. -/
structure IRangeD (P : Program) (k : TypeId) (w : World) (b r K : Nat) (m : Nat → Option Value) (left : Nat → Bool) (D : DataW Value) (lf : Lit → Bool) (cnt : Nat) : Prop where
  rng : w.ranges P k Rh b r (Maps.size D) D lf cnt
  map : IMapD P k w b K m D
  left : ∀ j, j < K → lf (kl j) = left j
  sub : ∀ l, lf l = true → Maps.has D l = true
def IRange (P : Program) (k : TypeId) (w : World) (b r K : Nat) (m : Nat → Option Value) (left : Nat → Bool) : Prop := ∃ D lf cnt, IRangeD P k w b r K m left D lf cnt
theorem IRange.imap {r : Nat} {left : Nat → Bool} (h : IRange P k w b r K m left) : IMap P k w b K m := by
  obtain ⟨D, lf, cnt, h⟩ := h
  exact ⟨D, h.map⟩
theorem IRange.ne {r : Nat} {left : Nat → Bool} (h : IRange P k w b r K m left) : r ≠ b := by
  obtain ⟨D, lf, cnt, h⟩ := h
  exact h.rng.ne
theorem IRange.lt {r : Nat} {left : Nat → Bool} (h : IRange P k w b r K m left) : r < w.heap.size := by
  obtain ⟨D, lf, cnt, h⟩ := h
  exact h.rng.lt
theorem IRange.at_heap {w' : World} {r : Nat} {left : Nat → Bool} (h : IRange P k w b r K m left) (h1 : w'.heap[b]? = w.heap[b]?) (h2 : w'.heap[r]? = w.heap[r]?) : IRange P k w' b r K m left := by
  obtain ⟨D, lf, cnt, h⟩ := h
  obtain ⟨es, clock, since, seen, c0, hb, F, hs, hD, hr, rest⟩ := h.rng
  exact ⟨D, lf, cnt, ⟨es, clock, since, seen, c0, h1.trans hb, F, hs, hD, h2.trans hr, rest⟩, h.map.at_heap h1, h.left, h.sub⟩
theorem rangeLeft_at {w' : World} {r : Nat} (h1 : w'.heap[b]? = w.heap[b]?) (h2 : w'.heap[r]? = w.heap[r]?) : w'.rangeLeft b r = w.rangeLeft b r := by
  unfold World.rangeLeft
  rw [h1, h2]
theorem IMap.range (h : IMap P k w b K m) (hk : P.underlying k = some (.int .i64)) (ht : P.underlying t = some (.map k e)) :
    ∃ w', (Instr.range t (.map (some b))).run P w = .ok (.pointer (some ⟨w.heap.size, 0, none⟩)) w' ∧ IRange P k w' b w.heap.size K m (fun j => (m j).isSome) ∧ w.grownBy w' none ∧ w'.heap.size = w.heap.size + 1 := by
  have hlt := h.lt
  obtain ⟨D, h⟩ := h
  obtain ⟨w', hrun, hr, hg, hs⟩ := h.owns.range (int_keyed hk) ht
  exact ⟨w', hrun, ⟨D, _, _, hr, h.at_heap (hg.block b hlt (by simp)), fun j hj => h.has j hj, fun l hl => hl⟩, hg, hs⟩
theorem IRange.next {r : Nat} {left : Nat → Bool} (h : IRange P k w b r K m left) (hk : P.underlying k = some (.int .i64)) (ty : TypeId) :
    ((∀ j, j < K → left j = false) ∧ (Instr.next (.pointer (some ⟨r, 0, none⟩)) false ty).run P w = .ok (.tuple #[.bool false]) w) ∨
    ∃ j v w', j < K ∧ left j = true ∧ m j = some v ∧ (Instr.next (.pointer (some ⟨r, 0, none⟩)) false ty).run P w = .ok (.tuple #[.bool true, .int .i64 (j : Int), v]) w' ∧
      IRange P k w' b r K m (fun i => left i && !decide (i = j)) ∧ w'.rangeLeft b r < w.rangeLeft b r ∧ w.grownBy w' (some r) ∧ w'.heap.size = w.heap.size ∧ (Instr.entry (.pointer (some ⟨r, 0, none⟩))).run P w' = .ok (.tuple #[.int .i64 (j : Int), v]) w' := by
  have hblt := h.imap.lt
  have hne := h.ne
  obtain ⟨D, lf, cnt, h⟩ := h
  rcases h.rng.next (int_keyed hk) ty with ⟨h0, hl, hrun⟩ | ⟨key, v, l, y, w', cnt', hkey, hlk, hv, hat, hrun, hrg, hlt, hgr, hsz, hen⟩
  · refine .inl ⟨fun j hj => ?_, hrun⟩
    rw [← h.left j hj]
    exact hl _
  · obtain ⟨j, hj, rfl⟩ := h.map.keys l (h.sub l hlk)
    obtain ⟨x, rfl, hx, _⟩ := Maps.keyOf_int_inv hk hkey
    unfold kl at hx
    injection hx with _ hx
    subst hx
    unfold Rh at hv
    injection hv with hv
    subst hv
    refine .inr ⟨j, v, w', hj, by rw [← h.left j hj]; exact hlk, ?_, hrun, ⟨D, _, _, hrg, h.map.at_heap (hgr.block b hblt (by intro e; injection e with e; exact hne e.symm)), fun i hi => ?_, fun l hl => ?_⟩, by rw [hrg.left_eq, h.rng.left_eq]; exact hlt, hgr, hsz, hen⟩
    · have hh := h.map.has j hj
      rw [h.sub _ hlk] at hh
      obtain ⟨u, hu⟩ := Option.isSome_iff_exists.1 hh.symm
      have h1 := h.map.at_ j hj u hu .nil
      rw [hat] at h1
      injection h1 with h1
      rw [hu, h1]
    · show (lf (kl i) && !(kl i).sameKey (kl j)) = _
      rw [h.left i hi, kl_same]
    · simp only [Bool.and_eq_true] at hl
      exact h.sub l hl.1
end
section
variable {P : Program} (w : World) {ops : Array Oper} {rest : List Oper} {o : Oper} {a : Act} {Q : Exit → Act → World → Prop}
theorem wpList_imap_look (hg : o.guard = none) (x y : Operand) (t : TypeId) (hop : o.op = Op.lookup t x y false) (k e : TypeId) (hk : P.underlying k = some (.int .i64)) (ht : P.underlying t = some (.map k e)) (z : Value) (hz : (zeroValue e).run P w = .ok z w)
    (b K : Nat) (m : Nat → Option Value) (hm : a.eval x = .map (some b)) (h : IMap P k w b K m) (hK : K < 1000000) (j : Nat) (hy : a.eval y = .int .i64 (j : Int)) (hj : j < K)
    (hn : wpList P ops Q rest (a.put o.dst ((m j).getD z)) w) : wpList P ops Q (o :: rest) a w := by
  refine wpList_plain hg fun K' hK' => ?_
  unfold Oper.wp
  simp [execOp, hop, hm, hy, h.look hk ht hz hK hj, Result.andThen]
  exact hK' _ _ hn
theorem wpList_imap_len (hg : o.guard = none) (x : Operand) (t : TypeId) (hop : o.op = Op.call { callee := Callee.builtin Builtin.len, args := #[x], argTypes := #[t] }) (k e : TypeId) (ht : P.underlying t = some (.map k e))
    (b K : Nat) (m : Nat → Option Value) (hm : a.eval x = .map (some b)) (h : IMap P k w b K m)
    (hn : wpList P ops Q rest (a.put o.dst (.int .i64 (cntB (fun j => (m j).isSome) K : Nat))) w) : wpList P ops Q (o :: rest) a w := by
  refine wpList_plain hg fun K' hK' => ?_
  unfold Oper.wp
  simp [execOp, hop, resolve, invoke, builtin, hm, h.len ht, Result.andThen]
  exact hK' _ _ hn
theorem wpList_imap_store (hg : o.guard = none) (x y v : Operand) (t : TypeId) (hop : o.op = Op.mapUpdate t x y v) (k e : TypeId) (hk : P.underlying k = some (.int .i64)) (ht : P.underlying t = some (.map k e))
    (b K : Nat) (m : Nat → Option Value) (hm : a.eval x = .map (some b)) (h : IMap P k w b K m) (hK : K < 1000000) (j : Nat) (hy : a.eval y = .int .i64 (j : Int)) (hj : j < K) (u : Value) (hv : a.eval v = u)
    (hn : ∀ w', IMap P k w' b K (upd m j (some u)) → w.grownBy w' (some b) → wpList P ops Q rest (a.put o.dst undef) w') : wpList P ops Q (o :: rest) a w := by
  refine wpList_plain hg fun K' hK' => ?_
  obtain ⟨w', hrun, h1, h2⟩ := h.store hk ht hK hj u
  unfold Oper.wp
  simp [execOp, hop, hm, hy, hv, hrun, Result.andThen]
  exact hK' _ _ (hn w' h1 h2)
theorem wpList_imap_range (hg : o.guard = none) (x : Operand) (t : TypeId) (hop : o.op = Op.range t x) (k e : TypeId) (hk : P.underlying k = some (.int .i64)) (ht : P.underlying t = some (.map k e))
    (b K : Nat) (m : Nat → Option Value) (hm : a.eval x = .map (some b)) (h : IMap P k w b K m)
    (hn : ∀ w', IRange P k w' b w.heap.size K m (fun j => (m j).isSome) → w.grownBy w' none → w'.heap.size = w.heap.size + 1 → wpList P ops Q rest (a.put o.dst (.pointer (some ⟨w.heap.size, 0, none⟩))) w') : wpList P ops Q (o :: rest) a w := by
  refine wpList_plain hg fun K' hK' => ?_
  obtain ⟨w', hrun, h1, h2, h3⟩ := h.range hk ht
  unfold Oper.wp
  simp [execOp, hop, hm, hrun, Result.andThen]
  exact hK' _ _ (hn w' h1 h2 h3)
theorem wpList_imap_next (hg : o.guard = none) (it : Operand) (hop : o.op = Op.next it false) (k : TypeId) (hk : P.underlying k = some (.int .i64)) (b r K : Nat) (m : Nat → Option Value) (left : Nat → Bool)
    (hit : a.eval it = .pointer (some ⟨r, 0, none⟩)) (h : IRange P k w b r K m left)
    (hDone : (∀ j, j < K → left j = false) → wpList P ops Q rest (a.put o.dst (.tuple #[.bool false])) w)
    (hMore : ∀ (j : Nat) (v : Value) (w' : World), j < K → left j = true → m j = some v → IRange P k w' b r K m (fun i => left i && !decide (i = j)) → w'.rangeLeft b r < w.rangeLeft b r → w.grownBy w' (some r) → w'.heap.size = w.heap.size →
      (Instr.entry (.pointer (some ⟨r, 0, none⟩))).run P w' = .ok (.tuple #[.int .i64 (j : Int), v]) w' → wpList P ops Q rest (a.put o.dst (.tuple #[.bool true, .int .i64 (j : Int), v])) w') :
    wpList P ops Q (o :: rest) a w := by
  refine wpList_plain hg fun K' hK' => ?_
  unfold Oper.wp
  rcases h.next hk o.type with ⟨h0, hrun⟩ | ⟨j, v, w', hj, hl, hm, hrun, h1, h2, h3, h4, h5⟩
  · simp [execOp, hop, hit, hrun, Result.andThen]
    exact hK' _ _ (hDone h0)
  · simp [execOp, hop, hit, hrun, Result.andThen]
    exact hK' _ _ (hMore j v w' hj hl hm h1 h2 h3 h4 h5)
end
end Go.Proofs.YtdhekhlmdefcnaaDoor
