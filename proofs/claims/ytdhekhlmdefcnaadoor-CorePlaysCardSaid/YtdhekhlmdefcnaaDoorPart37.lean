/- Part 37 of the proof: CoreTop. -/
import Derived.Test.YtdhekhlmdefcnaaDoorPart20
import Derived.Test.YtdhekhlmdefcnaaDoorPart36
/- CorePlays: Whatever is seen, step by step, which signals show proceed, and what is known, is the document's: for every layout, list of inputs and state the law returns true; errors.errorType is listed, and tied by the card. -/
namespace Go.Proofs.YtdhekhlmdefcnaaDoor
open Go.ChangeShapes Go.WideShapes Go.ChangeAt Go.RowKit Go.Deep
theorem sigIns : sig Tryd.prog 6 35 = some (List.replicate 2 (some .i64)) := by kernel_rfl
theorem sigSt : sig Tryd.prog 6 38 = some (List.replicate 17 (some .i64)) := by kernel_rfl
theorem list_from' {T : Type} {P : Nat → T → Prop} : ∀ n, (∀ i, i < n → ∃ p, P i p) → ∃ l : List T, l.length = n ∧ ∀ i p, l[i]? = some p → P i p
  | 0, _ => ⟨[], rfl, fun i p h => by simp at h⟩
  | n + 1, h => by
    obtain ⟨l, hl, hp⟩ := list_from' n (fun i hi => h i (by omega))
    obtain ⟨q, hq⟩ := h n (by omega)
    refine ⟨l ++ [q], by simp [hl], fun i p hi => ?_⟩
    rw [List.getElem?_append] at hi
    split at hi
    · exact hp i p hi
    · have : i - l.length = 0 := by
        rcases Nat.eq_zero_or_pos (i - l.length) with h0 | h0
        · exact h0
        · rw [List.getElem?_eq_none (by simp; omega)] at hi; cases hi
      rw [this] at hi
      simp at hi
      subst hi
      have : i = n := by omega
      subst this
      exact hq
section
variable {H : Type} {enc : TypeId × Value → H} {w : World}
set_option maxRecDepth 100000 in
/-- inputs that came in -/
theorem ins_in {a : Option Addr} {n c : Nat} {d : DataW H} {p : List MemPlace} (h : DataW.Trod enc Tryd.prog w 0 (fun _ => true) true 90 (.slice a n c) d p) :
    ∃ ss : List (Int × Int), ss.length = n ∧ InsAt w w.heap.size a ss := by
  obtain ⟨fuel, hf⟩ := h
  rcases open_slice Tryd.underlying90 hf with ⟨hcs, _⟩ | ⟨x, l, c', m, k, D, Pl, hcs, _, hl, hm, hmm, _, hi⟩
  · simp [Value.cells] at hcs
    obtain ⟨rfl, rfl, rfl⟩ := hcs
    exact ⟨[], rfl, fun i s h => by simp at h⟩
  · simp [Value.cells] at hcs
    obtain ⟨rfl, rfl, rfl⟩ := hcs
    have hmn : n ≤ m := by rw [hmm]; simp; omega
    have hC : Tryd.prog.cellsOf 35 = 2 := by kernel_rfl
    have hb0 : 0 < n → ∃ b o, x = ⟨b, o, none⟩ := by
      intro hn
      obtain ⟨cs', hc, ht'⟩ := hi 0 (by omega)
      rw [hC] at hc
      obtain ⟨_, hcl, hat⟩ := World.cells?_some hc
      have h0 := hat 0 (Nat.zero_lt_succ 1)
      have e : (x.add (0 * 2)).add 0 = x.add 0 := by simp [Addr.add]
      obtain ⟨v, hv⟩ := some_at cs' 0 (by rw [hcl]; decide)
      exact spot_none ((congrArg w.cell? e.symm).trans (h0.trans hv))
    have key : ∀ i, i < n → ∃ s : Int × Int, ∃ b o, x = ⟨b, o, none⟩ ∧ b < w.heap.size ∧ w.cell? ⟨b, o + i * 2, none⟩ = some (I s.1) ∧ w.cell? ⟨b, o + i * 2 + 1, none⟩ = some (I s.2) ∧ In64 s.1 ∧ In64 s.2 := by
      intro i hin
      obtain ⟨cs', hc, ht'⟩ := hi i (by omega)
      rw [hC] at hc
      obtain ⟨_, hcl, hat⟩ := World.cells?_some hc
      obtain ⟨ls, hls, hll, hlr⟩ := ints_of_fit 2 cs' (sig_trod 6 _ _ _ _ _ sigIns ht')
      match ls, hll with
      | [q, r], hll =>
        have h0 := hat 0 (by decide)
        have h1 := hat 1 (by decide)
        rw [hls] at h0 h1
        obtain ⟨b, o, rfl⟩ := hb0 (by omega)
        rw [add_at, add_at] at h0 h1
        have hq := hlr q (by simp)
        have hr := hlr r (by simp)
        exact ⟨(q, r), b, o, rfl, World.block_lt_of_cell? w _ h0, h0, h1, ⟨hq.1, by show q < _; omega⟩, ⟨hr.1, by show r < _; omega⟩⟩
    obtain ⟨xs, hxl, hxs⟩ := list_from' n key
    refine ⟨xs, hxl, fun i s hs => ?_⟩
    obtain ⟨b, o, e, r⟩ := hxs i s hs
    exact ⟨b, o, by rw [e], r⟩
set_option maxRecDepth 100000 in
/-- a state that came in -/
theorem state_in {cs : Array Value} {d : DataW H} {p : List MemPlace} (h : DataW.Trod enc Tryd.prog w 0 (fun _ => true) true 38 (.agg cs) d p) : ∃ l : List Int, cs = (ints l).toArray ∧ l.length = 17 ∧ ∀ x ∈ l, -9223372036854775808 ≤ x ∧ x ≤ 9223372036854775807 := by
  obtain ⟨fuel, hf⟩ := h
  obtain ⟨l, hl, h1, h2⟩ := ints_of_fit 17 cs.toList (sig_trod 6 _ _ _ _ _ sigSt hf)
  exact ⟨l, Array.toList_inj.1 hl, h1, h2⟩
end
set_option maxRecDepth 100000 in
theorem corePlays_lifted (os : Os) (started : os.Started) (H : Type) (enc : TypeId × Value → H) :
    ReturnsInHanded {} Tryd.checked os 9 .any (fun w args => (Rows.corePlaysSpec.pre enc Tryd.prog Tryd.f9 [] false w args ∧ laidMetH Tryd.prog etList w) ∧ sizedMet enc Tryd.prog Tryd.f9 (OpenSpec.ofChange Rows.corePlaysSpec) false w args)
      (Rows.corePlaysSpec.post enc Tryd.prog Tryd.f9 false true false false) := by
  refine returnsInHanded_of_change_and (C := Tryd.checked) (X := fun w _ => laidMetH Tryd.prog etList w) (fun _ _ _ hh h => h.of_heap hh) own started (by kernel_rfl) Tryd.func9
    (ChangeSpec.witness_shaped (enc := enc) (C := Tryd.checked) (os := os) (X := fun w _ => laidMetH Tryd.prog etList w) false (World.doorLaid Tryd.prog 400 os) #[.agg #[I 0, .slice none 0 0, I 0], .slice none 0 0, .agg #[I 0, I 0, I 0, I 0, I 0, I 0, I 0, I 0, I 0, I 0, I 0, I 0, I 0, I 0, I 0, I 0, I 0]] 8 rfl (World.shaped_of_RefB (by kernel_rfl) (by kernel_rfl)) (by kernel_rfl) (by kernel_rfl) (by kernel_rfl) (et_met os _)) ?_
  intro W base args ds gs before hval0 hW _ _ hL _
  have hval : ∀ (j : Nat) t v, Tryd.f9.params[j]? = some t → args[j]? = some v → Value.okWide Tryd.prog W .any base t v := hval0
  have hW' := hW
  obtain ⟨p, q, hA0, hV, rfl, hfz, hnd⟩ := hW
  have hA : DataW.TrodAll enc Tryd.prog W 0 (fun _ => true) true Tryd.f9.params.toList args.toList ds p := hA0
  rw [Tryd.params9] at hA hval
  obtain ⟨v0, v1, v2, d0, d1, d2, p0, p1, p2, rfl, rfl, rfl, h0, h1, h2⟩ := trodAll_three hA
  obtain ⟨rfl, rfl⟩ := trodVars_none hV
  obtain ⟨cs0, rfl, -⟩ := okWide_struct Tryd.underlying25 (hval 0 25 v0 rfl rfl)
  obtain ⟨A1, n1, c1, rfl⟩ := okWide_slice Tryd.underlying90 (hval 1 90 v1 rfl rfl)
  obtain ⟨cs2, rfl, -⟩ := okWide_struct Tryd.underlying38 (hval 2 38 v2 rfl rfl)
  have k0 := h0
  have lt0 : ∀ x ∈ p0, x.block < W.heap.size := by obtain ⟨m, hm⟩ := k0; exact DataW.trod_lt m _ _ _ hm
  have k1 := h1
  have lt1 : ∀ x ∈ p1, x.block < W.heap.size := by obtain ⟨m, hm⟩ := k1; exact DataW.trod_lt m _ _ _ hm
  have k2 := h2
  have lt2 : ∀ x ∈ p2, x.block < W.heap.size := by obtain ⟨m, hm⟩ := k2; exact DataW.trod_lt m _ _ _ hm
  obtain ⟨S, D, A, n, c, xs, rfl, hx, hxc, hrx⟩ := layout_in h0
  obtain ⟨ss, hs, his⟩ := ins_in h1
  obtain ⟨l, rfl, hl, hlo⟩ := state_in h2
  clear hA0 hval0
  refine (core_any S D A A1 n c n1 c1 xs l ss W hx hxc hrx hs his hl hlo (Lib.hid (etype_of_laid hL))).mono fun e W' ⟨he, bel⟩ => ?_
  subst he
  exact ⟨_, rfl, _, _, _, [], _, [], hW', trodAll_mk1 (shut_bool Tryd.underlying4 _), trodAll_mk3 (Below.trod laidOut (by kernel_rfl) (of_decide_eq_true (by kernel_rfl)) k0 bel lt0) (Below.trod laidOut (by kernel_rfl) (of_decide_eq_true (by kernel_rfl)) k1 bel lt1) (Below.trod laidOut (by kernel_rfl) (of_decide_eq_true (by kernel_rfl)) k2 bel lt2), rfl, bel.frame _, fun h => by cases h⟩
theorem corePlays_holds : Rows.CorePlaysSaid :=
  OpenClaim.holds_of_wide 9 Tryd.f9 rfl rfl rfl rfl rfl rfl rfl ⟨rfl, rfl, rfl, rfl, rfl⟩ rfl rfl rfl rfl rfl (by kernel_rfl) Tryd.func9 (by kernel_rfl)
    (of_decide_eq_true (by kernel_rfl)) (by unfold Func.isWrapper; first | (rw [if_pos (by decide +kernel)]; kernel_rfl) | (rw [if_neg (by decide +kernel)]; exact ⟨rfl, rfl⟩))
    (fun os started H enc _ => corePlays_lifted os started H enc)
end Go.Proofs.YtdhekhlmdefcnaaDoor
