/- Part 48 of the proof: SeesTop. -/
import Derived.Test.YtdhekhlmdefcnabGreatDoorPart32
import Derived.Test.YtdhekhlmdefcnabGreatDoorPart47
import Derived.Test.YtdhekhlmdefcnabGreatDoorPart14
namespace Go.Proofs.YtdhekhlmdefcnabGreatDoor
open Go.ChangeShapes Go.WideShapes Go.ChangeAt Go.RowKit Go.Deep
set_option maxRecDepth 100000 in
theorem input_in {H : Type} {enc : TypeId × Value → H} {w : World} {cs : Array Value} {d : DataW H} {p : List MemPlace} (h : DataW.Trod enc Tryz.prog w 0 (fun _ => true) true 26 (.agg cs) d p) : ∃ a b : Int, cs = #[I a, I b] := by
 obtain ⟨fuel, hf⟩ := h
 obtain ⟨l, hl, h1, h2⟩ := ints_of_fit 2 cs.toList (sig_trod 5 _ _ _ _ _ (show sig Tryz.prog 5 26 = some (List.replicate 2 (some .i64)) by kernel_rfl) hf)
 match l, h1 with
 | [a, b], _ => exact ⟨a, b, Array.toList_inj.1 hl⟩
set_option maxRecDepth 100000 in
theorem deskSees_lifted (os : Os) (started : os.Started) (H : Type) (enc : TypeId × Value → H) :
  ReturnsInHanded {} Tryz.checked os 4 .any (fun w args => (Rows.deskSeesSpec.pre enc Tryz.prog Tryz.f4 [] false w args ∧ laidMetH Tryz.prog Rows.deskSeesRow.laid w) ∧ sizedMet enc Tryz.prog Tryz.f4 (OpenSpec.ofChange Rows.deskSeesSpec) false w args)
   (Rows.deskSeesSpec.post enc Tryz.prog Tryz.f4 false true false false) := by
 refine returnsInHanded_of_change_and (C := Tryz.checked) (X := fun w _ => laidMetH Tryz.prog Rows.deskSeesRow.laid w) (fun _ _ _ hh h => h.of_heap hh) own started (by kernel_rfl) Tryz.func4
  (ChangeSpec.witness_shaped (enc := enc) (C := Tryz.checked) (os := os) (X := fun w _ => laidMetH Tryz.prog Rows.deskSeesRow.laid w) false (deskW os) #[.agg #[I 0, I 0], .int .i64 0] 8 (deskW_os os) (desk_shape os _) (by kernel_rfl) (by kernel_rfl) (by kernel_rfl) (desk_met os _)) ?_
 intro W base args ds gs before hval0 hW _ _ hL _
 have hval : ∀ (j : Nat) t v, Tryz.f4.params[j]? = some t → args[j]? = some v → Value.okWide Tryz.prog W .any base t v := hval0
 have hW' := hW
 obtain ⟨p, q, hA0, hV, rfl, hfz, hnd⟩ := hW
 have hA : DataW.TrodAll enc Tryz.prog W 0 (fun _ => true) true Tryz.f4.params.toList args.toList ds p := hA0
 rw [Tryz.params4] at hA hval
 obtain ⟨v0, v1, d0, d1, p0, p1, rfl, rfl, rfl, h0, h1⟩ := trodAll_two hA
 obtain ⟨rfl, rfl⟩ := trodVars_none hV
 obtain ⟨cs0, rfl, -⟩ := okWide_struct Tryz.underlying26 (hval 0 26 v0 rfl rfl)
 obtain ⟨r, rfl, rfl, rfl, w1⟩ := open_int Tryz.underlying3 (hval 1 3 v1 rfl rfl) h1
 have k0 := h0
 have lt0 : ∀ x ∈ p0, x.block < W.heap.size := by obtain ⟨m, hm⟩ := k0; exact DataW.trod_lt m _ _ _ hm
 obtain ⟨a, b, rfl⟩ := input_in h0
 have hS : Std W := std_of_laid hL
 clear hA0 hval0
 refine (sees_any a b r W hS).mono fun e W' ⟨he, bel⟩ => ?_
 subst he
 exact ⟨_, rfl, _, _, _, [], _, [], hW', trodAll_mk1 (shut_bool Tryz.underlying4 _), trodAll_mk2 (Below.trod laidOut (by kernel_rfl) (of_decide_eq_true (by kernel_rfl)) k0 bel lt0) (shut_int Tryz.underlying3 w1), rfl, bel.frame _, fun h => by cases h⟩
theorem deskSees_holds : Rows.DeskSeesSaid :=
 OpenClaim.holds_of_wide 4 Tryz.f4 rfl rfl rfl rfl rfl rfl rfl ⟨rfl, rfl, rfl, rfl, rfl⟩ rfl rfl rfl rfl rfl (by kernel_rfl) Tryz.func4 (by kernel_rfl)
  (of_decide_eq_true (by kernel_rfl)) (by unfold Func.isWrapper; first | (rw [if_pos (by decide +kernel)]; kernel_rfl) | (rw [if_neg (by decide +kernel)]; exact ⟨rfl, rfl⟩))
  (fun os started H enc _ => deskSees_lifted os started H enc)
end Go.Proofs.YtdhekhlmdefcnabGreatDoor
