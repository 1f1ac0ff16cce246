/- Part 46 of the proof: PiecesTop. -/
import Derived.Test.YtdhekhlmdefcnabGreatDoorPart32
import Derived.Test.YtdhekhlmdefcnabGreatDoorPart45
import Derived.SizedLaws
import Derived.ChangeMaps5
namespace Go.Proofs.YtdhekhlmdefcnabGreatDoor
open Go.ChangeShapes Go.WideShapes Go.ChangeAt Go.RowKit Go.Deep
set_option maxRecDepth 100000 in
theorem deskPieces_lifted (os : Os) (started : os.Started) (H : Type) (enc : TypeId × Value → H) :
  ReturnsInHanded {} Tryz.checked os 3 .any (fun w args => (Rows.deskPiecesSpec.pre enc Tryz.prog Tryz.f3 [] false w args ∧ laidMetH Tryz.prog Rows.deskPiecesRow.laid w) ∧ sizedMet enc Tryz.prog Tryz.f3 (OpenSpec.ofChange Rows.deskPiecesSpec) false w args)
   (Rows.deskPiecesSpec.post enc Tryz.prog Tryz.f3 false true false false) := by
 refine returnsInHanded_of_change_and (C := Tryz.checked) (X := fun w _ => laidMetH Tryz.prog Rows.deskPiecesRow.laid w) (fun _ _ _ hh h => h.of_heap hh) own started (by kernel_rfl) Tryz.func3
  (ChangeSpec.witness_shaped (enc := enc) (C := Tryz.checked) (os := os) (X := fun w _ => laidMetH Tryz.prog Rows.deskPiecesRow.laid w) false (deskW os) #[.string ⟨#[]⟩, .string ⟨#[]⟩] 8 (deskW_os os) (desk_shape os _) (by kernel_rfl) (by kernel_rfl) (by kernel_rfl) (desk_met os _)) ?_
 intro W base args ds gs before hval0 hW _ hsz hL _
 have hval : ∀ (j : Nat) t v, Tryz.f3.params[j]? = some t → args[j]? = some v → Value.okWide Tryz.prog W .any base t v := hval0
 have hW' := hW
 obtain ⟨p, q, hA0, hV, rfl, hfz, hnd⟩ := hW
 have hA : DataW.TrodAll enc Tryz.prog W 0 (fun _ => true) true Tryz.f3.params.toList args.toList ds p := hA0
 have hs : (DataW.weightsEach Tryz.prog (Tryz.f3.params.toList ++ []) (ds ++ gs)).all (· ≤ reachBytes) = true := hsz
 rw [Tryz.params3] at hA hval hs
 obtain ⟨v0, v1, d0, d1, p0, p1, rfl, rfl, rfl, h0, h1⟩ := trodAll_two hA
 obtain ⟨rfl, rfl⟩ := trodVars_none hV
 obtain ⟨a, rfl, rfl, rfl, wa⟩ := Go.ChangeMaps.open_string Tryz.underlying9 (hval 0 9 v0 rfl rfl) h0
 obtain ⟨b, rfl, rfl, rfl, wb⟩ := Go.ChangeMaps.open_string Tryz.underlying9 (hval 1 9 v1 rfl rfl) h1
 have z0 := sized_string (ts := [9, 9]) (by simpa using hs) (j := 0) (t := 9) (bytes := a.data.toList) rfl rfl
 have z1 := sized_string (ts := [9, 9]) (by simpa using hs) (j := 1) (t := 9) (bytes := b.data.toList) rfl rfl
 have hr : reachBytes ≤ 200000000000000 := by decide
 have ea : a.data.toList.length = a.size := by rw [Array.length_toList]; rfl
 have eb : b.data.toList.length = b.size := by rw [Array.length_toList]; rfl
 have hS : Std W := std_of_laid hL
 clear hA0 hval0
 refine (pieces_any a b W hS (by omega) (by omega)).mono fun e W' ⟨he, bel⟩ => ?_
 subst he
 exact ⟨_, rfl, _, _, _, [], _, [], hW', trodAll_mk1 (shut_bool Tryz.underlying4 _), trodAll_mk2 (Go.ChangeMaps.shut_string Tryz.underlying9 wa) (Go.ChangeMaps.shut_string Tryz.underlying9 wb), rfl, bel.frame _, fun h => by cases h⟩
theorem deskPieces_holds : Rows.DeskPiecesSaid :=
 OpenClaim.holds_of_wide 3 Tryz.f3 rfl rfl rfl rfl rfl rfl rfl ⟨rfl, rfl, rfl, rfl, rfl⟩ rfl rfl rfl rfl rfl (by kernel_rfl) Tryz.func3 (by kernel_rfl)
  (of_decide_eq_true (by kernel_rfl)) (by unfold Func.isWrapper; first | (rw [if_pos (by decide +kernel)]; kernel_rfl) | (rw [if_neg (by decide +kernel)]; exact ⟨rfl, rfl⟩))
  (fun os started H enc _ => deskPieces_lifted os started H enc)
end Go.Proofs.YtdhekhlmdefcnabGreatDoor
