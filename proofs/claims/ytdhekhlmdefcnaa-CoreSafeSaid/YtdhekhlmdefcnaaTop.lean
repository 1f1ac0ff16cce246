/- CoreSafe: NO TWO MEET: for every layout that line makes and whatever is seen step by step, the law returns true: no condition. -/
import Derived.Test.YtdhekhlmdefcnaaCoreSafe
import Derived.ProofKit
import Derived.OpenShut
import Derived.Deep.Slices
import Derived.Deep.Fields
import Derived.ChangeOld
namespace Go.Proofs.Ytdhekhlmdefcnaa
open Go.ChangeShapes Go.WideShapes Go.ChangeAt Go.RowKit Go.Deep

theorem own : ownKnob Try.prog.godebug = none := by kernel_rfl
theorem laidOut : laidOutB Try.prog = true := by kernel_rfl
theorem spot_none {w : World} {x : Addr} {v : Value} (h : w.cell? (x.add 0) = some v) : ∃ b o, x = ⟨b, o, none⟩ := by
  obtain ⟨b, o, s⟩ := x
  have : s = none := by simpa [Addr.add] using World.cell?_spot h
  exact ⟨b, o, by rw [this]⟩
theorem list_of {P : Nat → Int × Int → Prop} : ∀ n, (∀ i, i < n → ∃ p, P i p) → ∃ l : List (Int × Int), l.length = n ∧ ∀ i p, l[i]? = some p → P i p
  | 0, _ => ⟨[], rfl, fun i p h => by simp at h⟩
  | n + 1, h => by
    obtain ⟨l, hl, hp⟩ := list_of n (fun i hi => h i (by omega))
    obtain ⟨q, hq⟩ := h n (by omega)
    refine ⟨l ++ [q], by simp [hl], fun i p hi => ?_⟩
    rw [List.getElem?_append] at hi
    split at hi
    · exact hp i p hi
    · have : i - l.length = 0 := by
        rcases Nat.eq_zero_or_pos (i - l.length) with h0 | h0
        · exact h0
        · rw [List.getElem?_eq_none (by simp; omega)] at hi; cases hi
      rw [this] at hi
      simp at hi
      subst hi
      have : i = n := by omega
      subst this
      exact hq
section
variable {H : Type} {enc : TypeId × Value → H} {w : World}
/-- a slice of ints that came in -/
theorem ints_in {t e : TypeId} {a : Option Addr} {n c : Nat} {d : DataW H} {p : List MemPlace} (ht : Try.prog.underlying t = some (.slice e)) (he : Try.prog.underlying e = some (.int .i64)) (hC : Try.prog.cellsOf e = 1)
    (h : DataW.Trod enc Try.prog w 0 (fun _ => true) true t (.slice a n c) d p) : ∃ xs : List Int, xs.length = n ∧ n ≤ c ∧ Reads w w.heap.size a (ints xs) := by
  obtain ⟨fuel, hf⟩ := h
  rcases open_ints ht he hC hf with ⟨hcs, _⟩ | ⟨x, l, c', zs', hcs, _, hl, hm, hz, _, hcell, hwz⟩
  · simp [Value.cells] at hcs
    obtain ⟨rfl, rfl, rfl⟩ := hcs
    exact ⟨[], rfl, Nat.le_refl _, fun h => absurd rfl h⟩
  · simp [Value.cells] at hcs
    obtain ⟨rfl, rfl, rfl⟩ := hcs
    have hz' : zs'.length = c := by simpa using hz
    refine ⟨zs'.take n, by simp; omega, hl, fun hne => ?_⟩
    have hn0 : 0 < n := by
      rcases Nat.eq_zero_or_pos n with h0 | h0
      · subst h0; simp [ints] at hne
      · exact h0
    have h0 := hcell 0 (by omega)
    obtain ⟨b, o, rfl⟩ := spot_none h0
    rw [add_at] at h0
    refine ⟨b, o, rfl, World.block_lt_of_cell? w ⟨b, o + 0, none⟩ h0, fun j u hu => ?_⟩
    rw [ints_get, List.getElem?_take] at hu
    split at hu
    · rename_i hj
      have := hcell j (by omega)
      rw [add_at] at this
      rw [this, ← hu, List.getD_eq_getElem?_getD, List.getElem?_eq_getElem (by omega)]
      rfl
    · cases hu
/-- a slice of pairs of ints that came in -/
theorem pairs_in {t e : TypeId} {f0 f1 : Field} {a : Option Addr} {n c : Nat} {d : DataW H} {p : List MemPlace} (ht : Try.prog.underlying t = some (.slice e)) (he : Try.prog.underlying e = some (.struct #[f0, f1])) (hone : oneCellFields Try.prog #[f0, f1] = true)
    (h0 : Try.prog.underlying f0.type = some (.int .i64)) (h1 : Try.prog.underlying f1.type = some (.int .i64)) (hC : Try.prog.cellsOf e = 2)
    (h : DataW.Trod enc Try.prog w 0 (fun _ => true) true t (.slice a n c) d p) : ∃ xs : List (Int × Int), xs.length = n ∧ n ≤ c ∧ Reads w w.heap.size a (inCells xs) := by
  obtain ⟨fuel, hf⟩ := h
  rcases open_slice ht hf with ⟨hcs, _⟩ | ⟨x, l, c', m, k, D, Pl, hcs, _, hl, hm, hmm, _, hi⟩
  · simp [Value.cells] at hcs
    obtain ⟨rfl, rfl, rfl⟩ := hcs
    exact ⟨[], rfl, Nat.le_refl _, fun h => absurd rfl h⟩
  · simp [Value.cells] at hcs
    obtain ⟨rfl, rfl, rfl⟩ := hcs
    have hmn : n ≤ m := by rw [hmm]; simp; omega
    have key : ∀ i, i < n → ∃ pq : Int × Int, w.cell? ((x.add (i * 2)).add 0) = some (I pq.1) ∧ w.cell? ((x.add (i * 2)).add 1) = some (I pq.2) := by
      intro i hin
      obtain ⟨cs', hc, ht'⟩ := hi i (by omega)
      rw [hC] at hc
      obtain ⟨ys, n', _, _, _, hyl, hff⟩ := DataW.trod_struct he ht'
      obtain ⟨_, hcl, hat⟩ := World.cells?_some hc
      obtain ⟨o0, k0⟩ := hone_of hone 0 f0 rfl
      obtain ⟨o1, k1⟩ := hone_of hone 1 f1 rfl
      match cs', hcl with
      | [v0, v1], _ =>
        have g0 := hff 0 f0 rfl
        have g1 := hff 1 f1 rfl
        rw [o0, k0] at g0
        rw [o1, k1] at g1
        have e0 : (List.drop 0 [v0, v1]).take 1 = [v0] := rfl
        have e1 : (List.drop 1 [v0, v1]).take 1 = [v1] := rfl
        rw [e0] at g0
        rw [e1] at g1
        match ys, hyl with
        | [y0, y1], _ =>
          obtain ⟨p0, hp0, _, _⟩ := DataW.trod_int h0 (x := y0) g0
          obtain ⟨p1, hp1, _, _⟩ := DataW.trod_int h1 (x := y1) g1
          injection hp0 with hp0
          injection hp1 with hp1
          subst hp0
          subst hp1
          exact ⟨(p0, p1), hat 0 (by decide), hat 1 (by decide)⟩
    obtain ⟨xs, hxl, hxs⟩ := list_of n key
    refine ⟨xs, hxl, hl, fun hne => ?_⟩
    have hn0 : 0 < n := by
      rcases Nat.eq_zero_or_pos n with h0 | h0
      · rw [h0] at hxl
        rw [List.eq_nil_of_length_eq_zero hxl] at hne
        exact absurd rfl hne
      · exact h0
    obtain ⟨q, hq⟩ := some_at xs 0 (by omega)
    have hz := (hxs 0 q hq).1
    have hb0 : ∃ b o, x = ⟨b, o, none⟩ := by
      have : (x.add (0 * 2)).add 0 = x.add 0 := by simp [Addr.add]
      rw [this] at hz
      exact spot_none hz
    obtain ⟨b, o, rfl⟩ := hb0
    rw [add_at, add_at] at hz
    refine ⟨b, o, rfl, World.block_lt_of_cell? w _ hz, fun j u hu => ?_⟩
    have hj2 : j / 2 < xs.length := by
      have hjl := (List.getElem?_eq_some_iff.1 hu).1
      have : (inCells xs).length = xs.length * 2 := by
        clear hu hjl hxs hxl hq hne hz
        induction xs with
        | nil => rfl
        | cons y ys ih =>
          have hc : inCells (y :: ys) = I y.1 :: I y.2 :: inCells ys := rfl
          rw [hc]; simp only [List.length_cons, ih]; omega
      omega
    obtain ⟨y, hy⟩ := some_at xs (j / 2) hj2
    obtain ⟨a1, a2⟩ := hxs _ y hy
    obtain ⟨b1, b2⟩ := inCells_get xs _ y hy
    rw [add_at, add_at] at a1 a2
    rcases Nat.mod_two_eq_zero_or_one j with hj | hj
    · have e : j / 2 * 2 = j := by omega
      rw [e] at a1 b1
      rw [b1] at hu
      injection hu with hu
      rw [← hu, ← a1]
      rfl
    · have e : j / 2 * 2 + 1 = j := by omega
      rw [e] at b2
      rw [b2] at hu
      injection hu with hu
      have e2 : o + j / 2 * 2 + 1 = o + j := by omega
      rw [e2] at a2
      rw [← hu, ← a2]
end
set_option maxRecDepth 100000 in
theorem coreSafe_out (a d : Int) (A A2 : Option Addr) (n m c c2 : Nat) (w : World) (h : 30 < n ∨ (n ≤ 30 ∧ 150 < m)) :
    Calls Try.prog 3 #[I a, I d, .slice A n c, .slice A2 m c2] w fun e w' => e = .returned (.bool true) ∧ Below w.heap.size w w' := by
  rcases h with h | ⟨h1, h⟩
  all_goals
    go_enter Try.func3, Try.ntmps3
    go_wp2
    go_ret
    exact ⟨rfl, Below.refl _ _⟩
set_option maxRecDepth 100000 in
theorem coreSafe_lifted (os : Os) (started : os.Started) (H : Type) (enc : TypeId × Value → H) :
    ReturnsInHanded {} Try.checked os 3 .any (Rows.coreSafeSpec.pre6 enc Try.prog Try.f3 Rows.coreSafeRow.domain false) (Rows.coreSafeSpec.post enc Try.prog Try.f3 false true false false) := by
  refine returnsInHanded_of_change (C := Try.checked) own started (by kernel_rfl) Try.func3
    (ChangeSpec.witness6 (enc := enc) (C := Try.checked) false ⟨#[], #[.int .i64 0, .int .i64 0, .slice none 0 0, .slice none 0 0], []⟩ 8 (by kernel_rfl) (by kernel_rfl) (by kernel_rfl) (by kernel_rfl)) ?_
  intro W base args ds gs before hval0 hW hcnd _
  have hval : ∀ (j : Nat) t v, Try.f3.params[j]? = some t → args[j]? = some v → Value.okWide Try.prog W .any base t v := hval0
  have hW' := hW
  obtain ⟨p, q, hA0, hV, rfl, hfz, hnd⟩ := hW
  have hA : DataW.TrodAll enc Try.prog W 0 (fun _ => true) true Try.f3.params.toList args.toList ds p := hA0
  rw [Try.params3] at hA hval
  obtain ⟨v0, v1, v2, v3, d0, d1, d2, d3, p0, p1, p2, p3, rfl, rfl, rfl, h0, h1, h2, h3⟩ := trodAll_four hA
  obtain ⟨rfl, rfl⟩ := trodVars_none hV
  obtain ⟨a0, rfl, rfl, rfl, w0⟩ := open_int Try.underlying3 (hval 0 3 v0 rfl rfl) h0
  obtain ⟨a1, rfl, rfl, rfl, w1⟩ := open_int Try.underlying3 (hval 1 3 v1 rfl rfl) h1
  obtain ⟨A2, n2, c2, rfl⟩ := okWide_slice Try.underlying22 (hval 2 22 v2 rfl rfl)
  obtain ⟨A3, n3, c3, rfl⟩ := okWide_slice Try.underlying23 (hval 3 23 v3 rfl rfl)
  have k2 := h2
  have k3 := h3
  have lt2 : ∀ x ∈ p2, x.block < W.heap.size := by obtain ⟨m, hm⟩ := k2; exact DataW.trod_lt m _ _ _ hm
  have lt3 : ∀ x ∈ p3, x.block < W.heap.size := by obtain ⟨m, hm⟩ := k3; exact DataW.trod_lt m _ _ _ hm
  obtain ⟨xs, hx, hxc, hrx⟩ := ints_in Try.underlying22 Try.underlying3 (by kernel_rfl) h2
  obtain ⟨ins, hi, hic, hri⟩ := pairs_in Try.underlying23 Try.underlying39 (by kernel_rfl) Try.underlying3 Try.underlying3 (by kernel_rfl) h3
  clear hA0 hval0
  have hwalk : Calls Try.prog 3 #[I a0, I a1, .slice A2 n2 c2, .slice A3 n3 c3] W fun e w' => e = .returned (.bool true) ∧ Below W.heap.size W w' := by
    by_cases hb : n2 ≤ 30 ∧ n3 ≤ 150
    · subst hx
      subst hi
      exact coreSafe_in a0 a1 A2 A3 c2 c3 xs ins W hb.1 hb.2 hrx hri
    · exact coreSafe_out a0 a1 A2 A3 n2 n3 c2 c3 W (by omega)
  refine hwalk.mono fun e W' ⟨he, bel⟩ => ?_
  subst he
  exact ⟨_, rfl, _, _, _, [], _, [], hW', trodAll_mk1 (shut_bool Try.underlying4 _), trodAll_mk4 (shut_int Try.underlying3 w0) (shut_int Try.underlying3 w1) (Below.trod laidOut (by kernel_rfl) (of_decide_eq_true (by kernel_rfl)) k2 bel lt2) (Below.trod laidOut (by kernel_rfl) (of_decide_eq_true (by kernel_rfl)) k3 bel lt3), rfl, bel.frame _, fun h => by cases h⟩
theorem coreSafe_holds : Rows.CoreSafeSaid :=
  OpenClaim.holds_of_wide 3 Try.f3 rfl rfl rfl rfl rfl rfl rfl ⟨rfl, rfl, rfl, rfl, rfl⟩ rfl rfl rfl rfl rfl (by kernel_rfl) Try.func3 (by kernel_rfl)
    (of_decide_eq_true (by kernel_rfl)) (by unfold Func.isWrapper; first | (rw [if_pos (by decide +kernel)]; kernel_rfl) | (rw [if_neg (by decide +kernel)]; exact ⟨rfl, rfl⟩))
    (fun os started H enc _ => coreSafe_lifted os started H enc)
#print axioms coreSafe_holds
end Go.Proofs.Ytdhekhlmdefcnaa
