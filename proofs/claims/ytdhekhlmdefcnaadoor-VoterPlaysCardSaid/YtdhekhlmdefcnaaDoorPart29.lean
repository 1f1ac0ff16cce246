/- Part 29 of the proof: SaysIn, PlaysTop. -/
import Derived.Test.YtdhekhlmdefcnaaDoorPart11
import Derived.Test.YtdhekhlmdefcnaaDoorPart28
/- A slice of what is told to a voter that came in. -/
namespace Go.Proofs.YtdhekhlmdefcnaaDoor
open Go.ChangeShapes Go.WideShapes Go.ChangeAt Go.RowKit Go.Deep
theorem sigSay : sig Tryd.prog 6 77 = some (List.replicate 24 (some .i64)) := by kernel_rfl
theorem list_from {T : Type} {P : Nat → T → Prop} : ∀ n, (∀ i, i < n → ∃ p, P i p) → ∃ l : List T, l.length = n ∧ ∀ i p, l[i]? = some p → P i p
  | 0, _ => ⟨[], rfl, fun i p h => by simp at h⟩
  | n + 1, h => by
    obtain ⟨l, hl, hp⟩ := list_from n (fun i hi => h i (by omega))
    obtain ⟨q, hq⟩ := h n (by omega)
    refine ⟨l ++ [q], by simp [hl], fun i p hi => ?_⟩
    rw [List.getElem?_append] at hi
    split at hi
    · exact hp i p hi
    · have : i - l.length = 0 := by
        rcases Nat.eq_zero_or_pos (i - l.length) with h0 | h0
        · exact h0
        · rw [List.getElem?_eq_none (by simp; omega)] at hi; cases hi
      rw [this] at hi
      simp at hi
      subst hi
      have : i = n := by omega
      subst this
      exact hq
section
variable {H : Type} {enc : TypeId × Value → H} {w : World}
set_option maxRecDepth 100000 in
theorem says_in {a : Option Addr} {n c : Nat} {d : DataW H} {p : List MemPlace} (h : DataW.Trod enc Tryd.prog w 0 (fun _ => true) true 63 (.slice a n c) d p) :
    ∃ ss : List (Int × List Int), ss.length = n ∧ SaysAt w w.heap.size a ss := by
  obtain ⟨fuel, hf⟩ := h
  rcases open_slice Tryd.underlying63 hf with ⟨hcs, _⟩ | ⟨x, l, c', m, k, D, Pl, hcs, _, hl, hm, hmm, _, hi⟩
  · simp [Value.cells] at hcs
    obtain ⟨rfl, rfl, rfl⟩ := hcs
    exact ⟨[], rfl, fun i s h => by simp at h⟩
  · simp [Value.cells] at hcs
    obtain ⟨rfl, rfl, rfl⟩ := hcs
    have hmn : n ≤ m := by rw [hmm]; simp; omega
    have hC : Tryd.prog.cellsOf 77 = 24 := by kernel_rfl
    have hb0 : 0 < n → ∃ b o, x = ⟨b, o, none⟩ := by
      intro hn
      obtain ⟨cs', hc, ht'⟩ := hi 0 (by omega)
      rw [hC] at hc
      obtain ⟨_, hcl, hat⟩ := World.cells?_some hc
      have h0 := hat 0 (Nat.zero_lt_succ 23)
      have e : (x.add (0 * 24)).add 0 = x.add 0 := by simp [Addr.add]
      obtain ⟨v, hv⟩ := some_at cs' 0 (by rw [hcl]; decide)
      exact spot_none ((congrArg w.cell? e.symm).trans (h0.trans hv))
    have key : ∀ i, i < n → ∃ s : Int × List Int, (∃ b o, x = ⟨b, o, none⟩ ∧ b < w.heap.size ∧ w.cell? ⟨b, o + i * 24, none⟩ = some (I s.1) ∧ w.rangeAt b (o + i * 24 + 1) (ints s.2)) ∧ Wf s.2 := by
      intro i hin
      obtain ⟨cs', hc, ht'⟩ := hi i (by omega)
      rw [hC] at hc
      obtain ⟨_, hcl, hat⟩ := World.cells?_some hc
      obtain ⟨ls, hls, hll, hlr⟩ := ints_of_fit 24 cs' (sig_trod 6 _ _ _ _ _ sigSay ht')
      match ls, hll with
      | q :: fs, hll =>
        have hfl : fs.length = 23 := by simpa using hll
        have h0 := hat 0 (Nat.zero_lt_succ 23)
        rw [hls] at h0
        obtain ⟨b, o, rfl⟩ := hb0 (by omega)
        rw [add_at, add_at] at h0
        refine ⟨(q, fs), ⟨b, o, rfl, World.block_lt_of_cell? w _ h0, h0, fun j u hu => ?_⟩, hfl, fun y hy => hlr y (List.mem_cons_of_mem _ hy)⟩
        have hj : j < 23 := by
          have := (List.getElem?_eq_some_iff.1 hu).1
          simpa [ints, hfl] using this
        have h1 := hat (j + 1) (by omega)
        rw [add_at, add_at, hls] at h1
        rw [show o + i * 24 + 1 + j = o + i * 24 + (j + 1) by omega, h1]
        exact hu
    obtain ⟨xs, hxl, hxs⟩ := list_from n key
    refine ⟨xs, hxl, fun i s hs => ?_⟩
    obtain ⟨⟨b, o, e, h1, h2, h3⟩, h4⟩ := hxs i s hs
    exact ⟨b, o, by rw [e], h1, h2, h3, h4⟩
end
end Go.Proofs.YtdhekhlmdefcnaaDoor
/- VoterPlays: Whatever is told to it, what a voter commits, who is out, and when it is latched, is the document's: for every window, list of what is told and number the law returns true; errors.errorType is listed, and tied by the card. -/
namespace Go.Proofs.YtdhekhlmdefcnaaDoor
open Go.ChangeShapes Go.WideShapes Go.ChangeAt Go.RowKit Go.Deep
set_option maxRecDepth 100000 in
theorem voterPlays_lifted (os : Os) (started : os.Started) (H : Type) (enc : TypeId × Value → H) :
    ReturnsInHanded {} Tryd.checked os 8 .any (fun w args => (Rows.voterPlaysSpec.pre enc Tryd.prog Tryd.f8 [] false w args ∧ laidMetH Tryd.prog etList w) ∧ sizedMet enc Tryd.prog Tryd.f8 (OpenSpec.ofChange Rows.voterPlaysSpec) false w args)
      (Rows.voterPlaysSpec.post enc Tryd.prog Tryd.f8 false true false false) := by
  refine returnsInHanded_of_change_and (C := Tryd.checked) (X := fun w _ => laidMetH Tryd.prog etList w) (fun _ _ _ hh h => h.of_heap hh) own started (by kernel_rfl) Tryd.func8
    (ChangeSpec.witness_shaped (enc := enc) (C := Tryd.checked) (os := os) (X := fun w _ => laidMetH Tryd.prog etList w) false (World.doorLaid Tryd.prog 400 os) #[.int .i64 0, .slice none 0 0, .int .i64 0] 8 rfl (World.shaped_of_RefB (by kernel_rfl) (by kernel_rfl)) (by kernel_rfl) (by kernel_rfl) (by kernel_rfl) (et_met os _)) ?_
  intro W base args ds gs before hval0 hW _ _ hL _
  have hval : ∀ (j : Nat) t v, Tryd.f8.params[j]? = some t → args[j]? = some v → Value.okWide Tryd.prog W .any base t v := hval0
  have hW' := hW
  obtain ⟨p, q, hA0, hV, rfl, hfz, hnd⟩ := hW
  have hA : DataW.TrodAll enc Tryd.prog W 0 (fun _ => true) true Tryd.f8.params.toList args.toList ds p := hA0
  rw [Tryd.params8] at hA hval
  obtain ⟨v0, v1, v2, d0, d1, d2, p0, p1, p2, rfl, rfl, rfl, h0, h1, h2⟩ := trodAll_three hA
  obtain ⟨rfl, rfl⟩ := trodVars_none hV
  obtain ⟨a0, rfl, rfl, rfl, w0⟩ := open_int Tryd.underlying3 (hval 0 3 v0 rfl rfl) h0
  obtain ⟨A1, n1, c1, rfl⟩ := okWide_slice Tryd.underlying63 (hval 1 63 v1 rfl rfl)
  obtain ⟨a2, rfl, rfl, rfl, w2⟩ := open_int Tryd.underlying3 (hval 2 3 v2 rfl rfl) h2
  have k1 := h1
  have lt1 : ∀ x ∈ p1, x.block < W.heap.size := by obtain ⟨m, hm⟩ := k1; exact DataW.trod_lt m _ _ _ hm
  obtain ⟨xs, hx, hrx⟩ := says_in h1
  clear hA0 hval0
  refine (plays_any a0 a2 A1 n1 c1 xs W hx hrx (Lib.hid (etype_of_laid hL))).mono fun e W' ⟨he, bel⟩ => ?_
  subst he
  exact ⟨_, rfl, _, _, _, [], _, [], hW', trodAll_mk1 (shut_bool Tryd.underlying4 _), trodAll_mk3 (shut_int Tryd.underlying3 w0) (Below.trod laidOut (by kernel_rfl) (of_decide_eq_true (by kernel_rfl)) k1 bel lt1) (shut_int Tryd.underlying3 w2), rfl, bel.frame _, fun h => by cases h⟩
theorem voterPlays_holds : Rows.VoterPlaysSaid :=
  OpenClaim.holds_of_wide 8 Tryd.f8 rfl rfl rfl rfl rfl rfl rfl ⟨rfl, rfl, rfl, rfl, rfl⟩ rfl rfl rfl rfl rfl (by kernel_rfl) Tryd.func8 (by kernel_rfl)
    (of_decide_eq_true (by kernel_rfl)) (by unfold Func.isWrapper; first | (rw [if_pos (by decide +kernel)]; kernel_rfl) | (rw [if_neg (by decide +kernel)]; exact ⟨rfl, rfl⟩))
    (fun os started H enc _ => voterPlays_lifted os started H enc)
end Go.Proofs.YtdhekhlmdefcnaaDoor
