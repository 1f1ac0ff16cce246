/- Part 14 of the proof: MostTop. -/
import Derived.Test.YtdhekhlmdefcnaaDoorPart5
import Derived.Test.YtdhekhlmdefcnaaDoorPart13
/- LayoutMost: A ROUTE IS ITS OWN: for every number of sections, list of routes and set the law returns true; the two tables of math/bits are listed, and tied by the card. -/
namespace Go.Proofs.YtdhekhlmdefcnaaDoor
open Go.ChangeShapes Go.WideShapes Go.ChangeAt Go.RowKit Go.Deep
theorem gTab : Tryd.prog.globalNamed "math/bits.deBruijn64tab" = some 1 := by kernel_rfl
theorem tTab : (Tryd.prog.globals[1]?).map (·.type) = some 201 := by kernel_rfl
theorem tabList : (Rows.laid_math_bits_deBruijn64tab : DataW Unit) = Lib.tabData .u8 (dbTab.map fun (x : Nat) => (x : Int)) := by kernel_rfl
theorem tab_of_laid {W : World} {x : String × DataW Unit} {l : List (String × DataW Unit)} (h : laidMet Tryd.prog (x :: ("math/bits.deBruijn64tab", Rows.laid_math_bits_deBruijn64tab) :: l) W) : TabIs W ∧ 1 < W.heap.size := by
  have h1 := laidMet.tail h
  rw [tabList] at h1
  have h2 := Lib.tabIs_of_head gTab tTab Tryd.underlying201 Tryd.underlying5 (by kernel_rfl) (by kernel_rfl) h1
  have h3 : TabIs W := fun j v hv => by
    have hj := (List.getElem?_eq_some_iff.1 hv).1
    have := h2.cell gTab j (by simpa using hj)
    rw [this]
    congr 1
    simp [List.getD_eq_getElem?_getD, hv]
  exact ⟨h3, World.block_lt_of_cell? W ⟨1, 0, none⟩ (h3 0 0 rfl)⟩
set_option maxRecDepth 100000 in
theorem layoutMost_out (a set : Int) (A : Option Addr) (n c : Nat) (w : World) (h : 30 < n) :
    Calls Tryd.prog 3 #[I a, .slice A n c, I set] w fun e w' => e = .returned (.bool true) ∧ Below w.heap.size w w' := by
  go_enter Tryd.func3, Tryd.ntmps3
  go_wp2
  go_ret
  exact ⟨rfl, Below.refl _ _⟩
/-- The door's own heap meets the condition. -/
theorem most_met (os : Os) (args : Array Value) : laidMetH Tryd.prog Rows.layoutMostRow.laid ((World.doorLaid Tryd.prog 400 os).forCall (fun _ _ => 0) ⟨#[], args, []⟩).memory :=
  laidMetH_of_parts3 (fuel := 8) (laidMet_of_run' 66 (by kernel_rfl) (by kernel_rfl)) (by kernel_rfl) (by kernel_rfl)
set_option maxRecDepth 100000 in
theorem layoutMost_lifted (os : Os) (started : os.Started) (H : Type) (enc : TypeId × Value → H) :
    ReturnsInHanded {} Tryd.checked os 3 .any (fun w args => (Rows.layoutMostSpec.pre enc Tryd.prog Tryd.f3 [] false w args ∧ laidMetH Tryd.prog Rows.layoutMostRow.laid w) ∧ sizedMet enc Tryd.prog Tryd.f3 (OpenSpec.ofChange Rows.layoutMostSpec) false w args)
      (Rows.layoutMostSpec.post enc Tryd.prog Tryd.f3 false true false false) := by
  refine returnsInHanded_of_change_and (C := Tryd.checked) (X := fun w _ => laidMetH Tryd.prog Rows.layoutMostRow.laid w) (fun _ _ _ hh h => h.of_heap hh) own started (by kernel_rfl) Tryd.func3
    (ChangeSpec.witness_shaped (enc := enc) (C := Tryd.checked) (os := os) (X := fun w _ => laidMetH Tryd.prog Rows.layoutMostRow.laid w) false (World.doorLaid Tryd.prog 400 os) #[.int .i64 0, .slice none 0 0, .int .i64 0] 8 rfl (World.shaped_of_RefB (by kernel_rfl) (by kernel_rfl)) (by kernel_rfl) (by kernel_rfl) (by kernel_rfl) (most_met os _)) ?_
  intro W base args ds gs before hval0 hW _ _ hL _
  have hval : ∀ (j : Nat) t v, Tryd.f3.params[j]? = some t → args[j]? = some v → Value.okWide Tryd.prog W .any base t v := hval0
  have hW' := hW
  obtain ⟨p, q, hA0, hV, rfl, hfz, hnd⟩ := hW
  have hA : DataW.TrodAll enc Tryd.prog W 0 (fun _ => true) true Tryd.f3.params.toList args.toList ds p := hA0
  rw [Tryd.params3] at hA hval
  obtain ⟨v0, v1, v2, d0, d1, d2, p0, p1, p2, rfl, rfl, rfl, h0, h1, h2⟩ := trodAll_three hA
  obtain ⟨rfl, rfl⟩ := trodVars_none hV
  obtain ⟨a0, rfl, rfl, rfl, w0⟩ := open_int Tryd.underlying3 (hval 0 3 v0 rfl rfl) h0
  obtain ⟨A1, n1, c1, rfl⟩ := okWide_slice Tryd.underlying22 (hval 1 22 v1 rfl rfl)
  obtain ⟨a2, rfl, rfl, rfl, w2⟩ := open_int Tryd.underlying3 (hval 2 3 v2 rfl rfl) h2
  have k1 := h1
  have lt1 : ∀ x ∈ p1, x.block < W.heap.size := by obtain ⟨m, hm⟩ := k1; exact DataW.trod_lt m _ _ _ hm
  obtain ⟨xs, hx, hxc, hrx⟩ := ints_in Tryd.underlying22 Tryd.underlying3 (by kernel_rfl) h1
  clear hA0 hval0
  rw [MakeChecks.laidMetH_plain _ _ _ (by kernel_rfl)] at hL
  obtain ⟨hT, hg⟩ := tab_of_laid hL
  have hwalk : Calls Tryd.prog 3 #[I a0, .slice A1 n1 c1, I a2] W fun e w' => e = .returned (.bool true) ∧ Below W.heap.size W w' := by
    by_cases hb : n1 ≤ 30
    · subst hx
      exact layoutMost_in a0 a2 A1 c1 xs W hb hrx (Lib.hid hT) hg
    · exact layoutMost_out a0 a2 A1 n1 c1 W (by omega)
  refine hwalk.mono fun e W' ⟨he, bel⟩ => ?_
  subst he
  exact ⟨_, rfl, _, _, _, [], _, [], hW', trodAll_mk1 (shut_bool Tryd.underlying4 _), trodAll_mk3 (shut_int Tryd.underlying3 w0) (Below.trod laidOut (by kernel_rfl) (of_decide_eq_true (by kernel_rfl)) k1 bel lt1) (shut_int Tryd.underlying3 w2), rfl, bel.frame _, fun h => by cases h⟩
theorem layoutMost_holds : Rows.LayoutMostSaid :=
  OpenClaim.holds_of_wide 3 Tryd.f3 rfl rfl rfl rfl rfl rfl rfl ⟨rfl, rfl, rfl, rfl, rfl⟩ rfl rfl rfl rfl rfl (by kernel_rfl) Tryd.func3 (by kernel_rfl)
    (of_decide_eq_true (by kernel_rfl)) (by unfold Func.isWrapper; first | (rw [if_pos (by decide +kernel)]; kernel_rfl) | (rw [if_neg (by decide +kernel)]; exact ⟨rfl, rfl⟩))
    (fun os started H enc _ => layoutMost_lifted os started H enc)
end Go.Proofs.YtdhekhlmdefcnaaDoor
