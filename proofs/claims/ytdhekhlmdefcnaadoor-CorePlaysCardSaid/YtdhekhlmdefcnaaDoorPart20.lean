/- Part 20 of the proof: LayTop. -/
import Derived.Test.YtdhekhlmdefcnaaDoorPart11
import Derived.Test.YtdhekhlmdefcnaaDoorPart14
import Derived.Test.YtdhekhlmdefcnaaDoorPart19
/- LayoutChecks: What is wrong with a layout, its conflicts, how many routes may be set at once, and what of an input counts, is the document's: for every layout and input the law returns true; the listed variables are tied by the card. -/
namespace Go.Proofs.YtdhekhlmdefcnaaDoor
open Go.ChangeShapes Go.WideShapes Go.ChangeAt Go.RowKit Go.Deep
theorem tab_of_laidH {W : World} (h : laidMetH Tryd.prog Rows.layoutChecksRow.laid W) : TabIs W ∧ 1 < W.heap.size ∧ EType W := by
  have h' : laidMet Tryd.prog [("math/bits.deBruijn32tab", Rows.laid_math_bits_deBruijn32tab), ("math/bits.deBruijn64tab", Rows.laid_math_bits_deBruijn64tab)] W ∧ handlesMet Tryd.prog [("errors.errorType", Rows.laid_errors_errorType)] W := h
  obtain ⟨h1, h2⟩ := h'
  obtain ⟨t1, t2⟩ := tab_of_laid h1
  exact ⟨t1, t2, etype_of_handles (List.mem_singleton.2 rfl) h2⟩
theorem lay_met (os : Os) (args : Array Value) : laidMetH Tryd.prog Rows.layoutChecksRow.laid ((World.doorLaid Tryd.prog 400 os).forCall (fun _ _ => 0) ⟨#[], args, []⟩).memory :=
  laidMetH_of_parts3 (fuel := 8) (laidMet_of_run' 66 (by kernel_rfl) (by kernel_rfl)) (by kernel_rfl) (by kernel_rfl)
theorem sigLayoutA : Tryd.prog.cellsOf 25 = 3 := by kernel_rfl
section
variable {H : Type} {enc : TypeId × Value → H} {w : World}
set_option maxRecDepth 100000 in
/-- a layout that came in -/
theorem layout_in {cs : Array Value} {d : DataW H} {p : List MemPlace} (h : DataW.Trod enc Tryd.prog w 0 (fun _ => true) true 25 (.agg cs) d p) :
    ∃ (S D : Int) (A : Option Addr) (n c : Nat) (xs : List Int), cs = #[I S, .slice A n c, I D] ∧ xs.length = n ∧ n ≤ c ∧ Reads w w.heap.size A (ints xs) := by
  obtain ⟨fuel, hf⟩ := h
  obtain ⟨ys, k, _, _, hl, hyl, hff⟩ := DataW.trod_struct Tryd.underlying25 hf
  rw [sigLayoutA] at hl
  obtain ⟨l⟩ := cs
  match l, hl with
  | [v0, v1, v2], _ =>
    have g0 := hff 0 _ rfl
    have g1 := hff 1 _ rfl
    have g2 := hff 2 _ rfl
    match ys, hyl with
    | [y0, y1, y2], _ =>
      have g0' : DataW.trod enc Tryd.prog w 0 (fun _ => true) true k 3 [v0] = some y0 := g0
      have g1' : DataW.trod enc Tryd.prog w 0 (fun _ => true) true k 22 [v1] = some y1 := g1
      have g2' : DataW.trod enc Tryd.prog w 0 (fun _ => true) true k 3 [v2] = some y2 := g2
      obtain ⟨p0, hp0, _, _⟩ := DataW.trod_int Tryd.underlying3 (x := y0) g0'
      obtain ⟨p2, hp2, _, _⟩ := DataW.trod_int Tryd.underlying3 (x := y2) g2'
      injection hp0 with hp0
      injection hp2 with hp2
      subst hp0
      subst hp2
      have hs : ∃ (A : Option Addr) (n c : Nat), v1 = .slice A n c := by
        rcases open_ints Tryd.underlying22 Tryd.underlying3 (by kernel_rfl) g1' with ⟨hcs, _⟩ | ⟨x, l, c', zs', hcs, _⟩
        · injection hcs with hcs
          exact ⟨_, _, _, hcs⟩
        · injection hcs with hcs
          exact ⟨_, _, _, hcs⟩
      obtain ⟨A, n, c, rfl⟩ := hs
      obtain ⟨xs, h1, h2, h3⟩ := ints_in (d := y1.1) (p := y1.2) Tryd.underlying22 Tryd.underlying3 (by kernel_rfl) ⟨k, g1'⟩
      exact ⟨p0, p2, A, n, c, xs, rfl, h1, h2, h3⟩
set_option maxRecDepth 100000 in
/-- an input that came in -/
theorem input_in {cs : Array Value} {d : DataW H} {p : List MemPlace} (h : DataW.Trod enc Tryd.prog w 0 (fun _ => true) true 35 (.agg cs) d p) : ∃ a b : Int, cs = #[I a, I b] ∧ In64 a ∧ In64 b := by
  obtain ⟨fuel, hf⟩ := h
  obtain ⟨l, hl, h1, h2⟩ := ints_of_fit 2 cs.toList (sig_trod 5 _ _ _ _ _ (show sig Tryd.prog 5 35 = some (List.replicate 2 (some .i64)) by kernel_rfl) hf)
  match l, h1 with
  | [a, b], _ =>
    refine ⟨a, b, Array.toList_inj.1 hl, ?_, ?_⟩
    · have := h2 a (by simp); exact ⟨this.1, by omega⟩
    · have := h2 b (by simp); exact ⟨this.1, by omega⟩
end
set_option maxRecDepth 100000 in
theorem layoutChecks_lifted (os : Os) (started : os.Started) (H : Type) (enc : TypeId × Value → H) :
    ReturnsInHanded {} Tryd.checked os 10 .any (fun w args => (Rows.layoutChecksSpec.pre enc Tryd.prog Tryd.f10 [] false w args ∧ laidMetH Tryd.prog Rows.layoutChecksRow.laid w) ∧ sizedMet enc Tryd.prog Tryd.f10 (OpenSpec.ofChange Rows.layoutChecksSpec) false w args)
      (Rows.layoutChecksSpec.post enc Tryd.prog Tryd.f10 false true false false) := by
  refine returnsInHanded_of_change_and (C := Tryd.checked) (X := fun w _ => laidMetH Tryd.prog Rows.layoutChecksRow.laid w) (fun _ _ _ hh h => h.of_heap hh) own started (by kernel_rfl) Tryd.func10
    (ChangeSpec.witness_shaped (enc := enc) (C := Tryd.checked) (os := os) (X := fun w _ => laidMetH Tryd.prog Rows.layoutChecksRow.laid w) false (World.doorLaid Tryd.prog 400 os) #[.agg #[I 0, .slice none 0 0, I 0], .agg #[I 0, I 0]] 8 rfl (World.shaped_of_RefB (by kernel_rfl) (by kernel_rfl)) (by kernel_rfl) (by kernel_rfl) (by kernel_rfl) (lay_met os _)) ?_
  intro W base args ds gs before hval0 hW _ _ hL _
  have hval : ∀ (j : Nat) t v, Tryd.f10.params[j]? = some t → args[j]? = some v → Value.okWide Tryd.prog W .any base t v := hval0
  have hW' := hW
  obtain ⟨p, q, hA0, hV, rfl, hfz, hnd⟩ := hW
  have hA : DataW.TrodAll enc Tryd.prog W 0 (fun _ => true) true Tryd.f10.params.toList args.toList ds p := hA0
  rw [Tryd.params10] at hA hval
  obtain ⟨v0, v1, d0, d1, p0, p1, rfl, rfl, rfl, h0, h1⟩ := trodAll_two hA
  obtain ⟨rfl, rfl⟩ := trodVars_none hV
  obtain ⟨cs0, rfl, -⟩ := okWide_struct Tryd.underlying25 (hval 0 25 v0 rfl rfl)
  obtain ⟨cs1, rfl, -⟩ := okWide_struct Tryd.underlying35 (hval 1 35 v1 rfl rfl)
  have k0 := h0
  have lt0 : ∀ x ∈ p0, x.block < W.heap.size := by obtain ⟨m, hm⟩ := k0; exact DataW.trod_lt m _ _ _ hm
  have k1 := h1
  have lt1 : ∀ x ∈ p1, x.block < W.heap.size := by obtain ⟨m, hm⟩ := k1; exact DataW.trod_lt m _ _ _ hm
  obtain ⟨S, D, A, n, c, xs, rfl, hx, hxc, hrx⟩ := layout_in h0
  obtain ⟨a, b, rfl, ha, hb⟩ := input_in h1
  obtain ⟨ht, hgt, he⟩ := tab_of_laidH hL
  clear hA0 hval0
  refine (checks_any S D a b A n c xs W hx hxc hrx ha hb (Lib.hid he) (Lib.hid ht) hgt).mono fun e W' ⟨he, bel⟩ => ?_
  subst he
  exact ⟨_, rfl, _, _, _, [], _, [], hW', trodAll_mk1 (shut_bool Tryd.underlying4 _), trodAll_mk2 (Below.trod laidOut (by kernel_rfl) (of_decide_eq_true (by kernel_rfl)) k0 bel lt0) (Below.trod laidOut (by kernel_rfl) (of_decide_eq_true (by kernel_rfl)) k1 bel lt1), rfl, bel.frame _, fun h => by cases h⟩
theorem layoutChecks_holds : Rows.LayoutChecksSaid :=
  OpenClaim.holds_of_wide 10 Tryd.f10 rfl rfl rfl rfl rfl rfl rfl ⟨rfl, rfl, rfl, rfl, rfl⟩ rfl rfl rfl rfl rfl (by kernel_rfl) Tryd.func10 (by kernel_rfl)
    (of_decide_eq_true (by kernel_rfl)) (by unfold Func.isWrapper; first | (rw [if_pos (by decide +kernel)]; kernel_rfl) | (rw [if_neg (by decide +kernel)]; exact ⟨rfl, rfl⟩))
    (fun os started H enc _ => layoutChecks_lifted os started H enc)
end Go.Proofs.YtdhekhlmdefcnaaDoor
