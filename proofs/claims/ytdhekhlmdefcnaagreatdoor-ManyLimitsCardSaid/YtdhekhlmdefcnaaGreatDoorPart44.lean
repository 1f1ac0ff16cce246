/- Part 44 of the proof: Mb14. -/
import Derived.Test.YtdhekhlmdefcnaaGreatDoorPart43
import Derived.Test.YtdhekhlmdefcnaaGreatDoorPart41
import Derived.Conc.Holds
import Derived.Conc.LeavingOf
namespace Go.Proofs.YtdhekhlmdefcnaaGreatDoor
open Go.ChangeShapes Go.WideShapes Go.ChangeAt Go.RowKit Go.Deep Go.Conc
theorem kept_below {w w1 : World} (h : Mx.Kept w w1) : Below w.heap.size w w1 := ⟨h.os, h.tape, h.output, h.size, h.old⟩
set_option maxRecDepth 100000 in
theorem manyLimits_lifted (os : Os) (started : os.Started) (H : Type) (enc : TypeId × Value → H) :
  ReturnsInLeavingWide {} Tryz.checked os 4 .any (fun w args => (Rows.manyLimitsSpec.pre enc Tryz.prog Tryz.f4 [] false w args ∧ laidMetH Tryz.prog Rows.manyLimitsRow.laid w) ∧ sizedMet enc Tryz.prog Tryz.f4 (OpenSpec.ofChange Rows.manyLimitsSpec) false w args)
   (Rows.manyLimitsSpec.post enc Tryz.prog Tryz.f4 false true false false) := by
 refine returnsInLeavingWide_of_good (C := Tryz.checked) own started
  (ChangeSpec.witness_shaped (enc := enc) (C := Tryz.checked) (os := os) (X := fun w _ => laidMetH Tryz.prog Rows.manyLimitsRow.laid w) false (deskW os) #[.int .i64 0, .int .i64 0, .int .i64 0] 8 (deskW_os os) (desk_shape os _) (by kernel_rfl) (by kernel_rfl) (by kernel_rfl) (desk_met os _)) ?_
 intro w tape i _ hsh _ hok hpre _
 obtain ⟨_, _, _, fn', hfn', _, _, _, _, hval0⟩ := hok
 obtain rfl : fn' = Tryz.f4 := Option.some.inj (hfn'.symm.trans Tryz.func4)
 obtain ⟨⟨⟨ds, gs, before, hw, hc⟩, hx⟩, hz⟩ := hpre
 have hW := DataW.Whole.of_heap (w' := w.forCall tape i) (by rfl) hw
 have hL : laidMetH Tryz.prog Rows.manyLimitsRow.laid (w.forCall tape i) := hx.of_heap (by rfl)
 generalize w.forCall tape i = W at hsh hval0 hW hL ⊢
 generalize hargs : i.args = args at hval0 hW ⊢
 have hval : ∀ (j : Nat) t v, Tryz.f4.params[j]? = some t → args[j]? = some v → Value.okWide Tryz.prog W .any w.heap.size t v := hval0
 have hW' := hW
 obtain ⟨p, q, hA0, hV, rfl, hfz, hnd⟩ := hW
 have hA : DataW.TrodAll enc Tryz.prog W 0 (fun _ => true) true Tryz.f4.params.toList args.toList ds p := hA0
 rw [Tryz.params4] at hA hval
 obtain ⟨v0, v1, v2, d0, d1, d2, p0, p1, p2, rfl, rfl, rfl, h0, h1, h2⟩ := trodAll_three hA
 obtain ⟨rfl, rfl⟩ := trodVars_none hV
 obtain ⟨a0, rfl, rfl, rfl, w0⟩ := open_int Tryz.underlying3 (hval 0 3 v0 rfl rfl) h0
 obtain ⟨a1, rfl, rfl, rfl, w1⟩ := open_int Tryz.underlying3 (hval 1 3 v1 rfl rfl) h1
 obtain ⟨a2, rfl, rfl, rfl, w2⟩ := open_int Tryz.underlying3 (hval 2 3 v2 rfl rfl) h2
 obtain ⟨N, last, o, w', t', k1, k2, k3, k4⟩ := Mx.limits_run (Mx.laid_of hsh hL) a0 a1 a2 (Post := fun v w' => Rows.manyLimitsSpec.post enc Tryz.prog Tryz.f4 false true false false W #[.int .i64 a0, .int .i64 a1, .int .i64 a2] v w') fun w' hk =>
  ⟨_, _, _, [], _, [], hW', trodAll_mk1 (shut_bool Tryz.underlying4 _), trodAll_mk3 (shut_int Tryz.underlying3 w0) (shut_int Tryz.underlying3 w1) (shut_int Tryz.underlying3 w2), rfl, (kept_below hk).frame _, fun h => by cases h⟩
 exact ⟨N, last, o, w', t', k1, k2, k3, k4.mono fun v hp => ChangeSpec.post_blind hp⟩
theorem manyLimits_holds : Rows.ManyLimitsSaid :=
 OpenClaim.holds_of_wide_leaving 4 Tryz.f4 rfl rfl rfl rfl rfl rfl rfl ⟨rfl, rfl, rfl, rfl, rfl⟩ rfl rfl rfl rfl rfl (by kernel_rfl) Tryz.func4 (by kernel_rfl)
  (of_decide_eq_true (by kernel_rfl)) (by unfold Func.isWrapper; first | (rw [if_pos (by decide +kernel)]; kernel_rfl) | (rw [if_neg (by decide +kernel)]; exact ⟨rfl, rfl⟩))
  (fun os started H enc _ => manyLimits_lifted os started H enc)
end Go.Proofs.YtdhekhlmdefcnaaGreatDoor
