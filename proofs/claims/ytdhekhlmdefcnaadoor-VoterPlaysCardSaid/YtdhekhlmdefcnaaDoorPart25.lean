/- Part 25 of the proof: Told. -/
import Derived.Test.YtdhekhlmdefcnaaDoorPart19
import Derived.Test.YtdhekhlmdefcnaaDoorPart20
import Derived.Test.YtdhekhlmdefcnaaDoorPart24
/- The walk over told: frames that are told are the reference's; Take joined. -/
namespace Go.Proofs.YtdhekhlmdefcnaaDoor
open Go.RowKit
section
variable {w : World} {B g bv bo : Nat} {vt : Value} {v : Vo}
theorem rvo_take (h : RVoAt w B g vt bv bo v) (hw : v.Wf) (hB : B ≤ w.heap.size) (f : List Int) (hf : Wf f) : Calls Tryd.prog 29 #[.pointer (some ⟨g, 0, none⟩), .agg (frC f)] w fun e w' => RTook w B g vt bv bo v f e w' := by
  by_cases ha : voHears v f = false ∨ f.getD 2 0 < v.trace.length ∨ (v.trace.length : Int) < f.getD 2 0 ∨ v.latched = true ∨ f.getD 0 0 = 4
  · exact rtake_a h hw f hf ha
  · refine rtake_b h hw hB f hf ?_ ?_ ?_ ?_
    · cases e : voHears v f with
      | true => rfl
      | false => exact absurd (.inl e) ha
    · have h1 : ¬ f.getD 2 0 < v.trace.length := fun e => ha (.inr (.inl e))
      have h2 : ¬ (v.trace.length : Int) < f.getD 2 0 := fun e => ha (.inr (.inr (.inl e)))
      omega
    · cases e : v.latched with
      | false => rfl
      | true => exact absurd (.inr (.inr (.inr (.inl e)))) ha
    · exact fun e => ha (.inr (.inr (.inr (.inr e))))
end
/-- frames that are read -/
def FrsRead (w : World) (x : Value) (fs : List (List Int)) : Prop :=
  ∃ A c, x = .slice A fs.length c ∧ fs.length ≤ c ∧ ∀ i f, fs[i]? = some f → ∃ b, A = some ⟨b, 0, none⟩ ∧ b < w.heap.size ∧ w.rangeAt b (i * 23) (ints f)
theorem frsC_at : ∀ (fs : List (List Int)), (∀ f ∈ fs, f.length = 23) → ∀ i f, fs[i]? = some f → ∀ j u, (ints f)[j]? = some u → (frsC fs)[i * 23 + j]? = some u
  | [], _, i, f, h => by simp at h
  | d :: fs, hl, 0, f, h => fun j u hu => by
    simp at h
    subst h
    have hj : j < (frC d).size := by
      have := (List.getElem?_eq_some_iff.1 hu).1
      rw [ints_length] at this
      rw [frC_size _ (hl d (by simp))]
      rw [hl d (by simp)] at this
      exact this
    show (frC d ++ frsC fs)[0 * 23 + j]? = some u
    rw [Nat.zero_mul, Nat.zero_add, Array.getElem?_append_left hj]
    unfold frC
    simpa using hu
  | d :: fs, hl, i + 1, f, h => fun j u hu => by
    rw [List.getElem?_cons_succ] at h
    have ih := frsC_at fs (fun f hf => hl f (List.mem_cons_of_mem _ hf)) i f h j u hu
    have hd : (frC d).size = 23 := frC_size _ (hl d (by simp))
    show (frC d ++ frsC fs)[(i + 1) * 23 + j]? = some u
    rw [Array.getElem?_append_right (by rw [hd]; omega), hd, show (i + 1) * 23 + j - 23 = i * 23 + j by omega]
    exact ih
theorem frs_read {w : World} {lo : Nat} {x : Value} {fs : List (List Int)} (h : FramesAt w lo x fs) (hl : ∀ f ∈ fs, f.length = 23) : FrsRead w x fs := by
  rcases h with ⟨rfl, rfl⟩ | ⟨gr, rfl, _, hh⟩
  · exact ⟨none, 0, rfl, Nat.le_refl _, fun i f hf => by simp at hf⟩
  · exact ⟨_, _, rfl, Nat.le_refl _, fun i f hf => ⟨gr, rfl, hh.lt, fun j u hu => by rw [hh.cell]; exact frsC_at fs hl i f hf j u hu⟩⟩
theorem rfrs_read {w : World} {lo : Nat} {x : Value} {fs : List (List Int)} (h : RFramesAt w lo x fs) (hl : ∀ f ∈ fs, f.length = 23) : FrsRead w x fs := by
  obtain ⟨h1, h2⟩ := h
  rcases h2 with ⟨hv, hn⟩ | ⟨g, cap, cur, hv, hg, hh, hnc, _, _, ht⟩
  · exact ⟨none, 0, by rw [hv, hn], by omega, fun i f hf => by have := (List.getElem?_eq_some_iff.1 hf).1; omega⟩
  · refine ⟨some ⟨g, 0, none⟩, cap, hv, hnc, fun i f hf => ⟨g, rfl, (Array.getElem?_eq_some_iff.1 hh).1, fun j u hu => ?_⟩⟩
    have hc : Has w g 45 cur := hh
    have hk := frsC_at fs hl i f hf j u hu
    rw [hc.cell]
    have hk2 : (frsC fs).toList[i * 23 + j]? = some u := by simpa using hk
    rw [← ht, List.getElem?_take] at hk2
    split at hk2
    · simpa using hk2
    · cases hk2
theorem FrsRead.after {w w' : World} {x : Value} {fs : List (List Int)} (h : FrsRead w x fs) (hb : Below w.heap.size w w') : FrsRead w' x fs := by
  obtain ⟨A, c, e, hc, h⟩ := h
  refine ⟨A, c, e, hc, fun i f hf => ?_⟩
  obtain ⟨b, hA, hlt, hr⟩ := h i f hf
  exact ⟨b, hA, Nat.lt_of_lt_of_le hlt hb.size, fun j u hu => (hb.cell (p := ⟨b, i * 23 + j, none⟩) hlt).trans (hr j u hu)⟩
section
variable {ty : TypeId} {ps : String} {af : Array Edge} {g : Option (Nat × Bool)} {a : Act} {w : World} {K : Act → World → Prop} {Q : Exit → Act → World → Prop}
theorem wp_frIndex {bi n c k d s t : Nat} (hk : (k : Int) < (n : Int)) (e2 : a.tmps.getD s undef = .slice (some ⟨bi, 0, none⟩) n c) (e3 : a.tmps.getD t undef = I k) (h : K (a.put (some d) (.pointer (some ⟨bi, k * 23, none⟩))) w) :
    Oper.wp Tryd.prog { dst := some d, op := .indexAddr 69 (.tmp s) (.tmp t), type := ty, pos := ps, after := af, guard := g } a w K Q := by
  have e2' : a.eval (.tmp s) = .slice (some ⟨bi, 0, none⟩) n c := e2
  have e3' : a.eval (.tmp t) = I k := e3
  go_simp
  exact h
theorem wp_rfrIndex {bi n c k d s t : Nat} (hk : (k : Int) < (n : Int)) (e2 : a.tmps.getD s undef = .slice (some ⟨bi, 0, none⟩) n c) (e3 : a.tmps.getD t undef = I k) (h : K (a.put (some d) (.pointer (some ⟨bi, k * 23, none⟩))) w) :
    Oper.wp Tryd.prog { dst := some d, op := .indexAddr 72 (.tmp s) (.tmp t), type := ty, pos := ps, after := af, guard := g } a w K Q := by
  have e2' : a.eval (.tmp s) = .slice (some ⟨bi, 0, none⟩) n c := e2
  have e3' : a.eval (.tmp t) = I k := e3
  go_simp
  exact h
end
theorem rangeAt_below {w w' : World} {b o B : Nat} {cs : List Value} (h : w.rangeAt b o cs) (hb : Below B w w') (hlt : b < B) : w'.rangeAt b o cs := fun j u hu => (hb.cell (p := ⟨b, o + j, none⟩) hlt).trans (h j u hu)
set_option maxHeartbeats 4000000 in
set_option maxRecDepth 100000 in
theorem told_ok {w : World} {x y : Value} {fs : List (List Int)} (hx : FrsRead w x fs) (hy : FrsRead w y fs) (hwf : ∀ f ∈ fs, Wf f) (hn : fs.length ≤ 1000) :
    Calls Tryd.prog 30 #[x, y] w fun e w' => e = .returned (.bool true) ∧ Below w.heap.size w w' := by
  obtain ⟨A, c, rfl, hc, hX⟩ := hx
  obtain ⟨A', c', rfl, hc', hY⟩ := hy
  have HX := Lib.hid hX
  have HY := Lib.hid hY
  have HF := Lib.hid hwf
  obtain ⟨n, hnn⟩ : ∃ n, fs.length = n := ⟨_, rfl⟩
  rw [hnn] at hc hc' hn ⊢
  have HN := Lib.hid hnn
  clear hX hY hwf hnn
  go_enter Tryd.func30, Tryd.ntmps30
  go_wp2_with fail
  go_loopw [5] (fun i wr => ∃ k : Nat, k ≤ n ∧ i = I k ∧ Below w.heap.size w wr) (fun i _ => n - (intOf i).toNat)
  case atStart => exact ⟨0, by omega, rfl, Below.refl _ _⟩
  case round =>
    obtain ⟨k, hk, rfl, hbr⟩ := hrel
    by_cases hlt : k < n
    · obtain ⟨f, hf⟩ := some_at fs k (by rw [HN.out]; exact hlt)
      obtain ⟨bx, rfl, hbx, hrx⟩ := HX.out k f hf
      obtain ⟨by_, rfl, hby, hry⟩ := HY.out k f hf
      have hfw := HF.out f (List.mem_of_getElem? hf)
      have hki : (k : Int) < (n : Int) := by omega
      have HW := Lib.hid hfw
      have HRX := Lib.hid (rangeAt_below hrx hbr hbx)
      have HRY := Lib.hid (rangeAt_below hry hbr hby)
      have hbx' := Nat.lt_of_lt_of_le hbx hbr.size
      have hby' := Nat.lt_of_lt_of_le hby hbr.size
      have hs4 : Hid ((Tryd.prog.info? 40).map (·.size) = some (ints f).length) := Lib.hid (by rw [ints_length, HW.out.1]; exact infoFrame)
      have hs5 : Hid ((Tryd.prog.info? 45).map (·.size) = some (ints f).length) := Lib.hid (by rw [ints_length, HW.out.1]; exact infoRef)
      clear hf hrx hry hfw
      go_wp2_with fail
      go_cut [26] (fun s26 wx => s26 = .bool false ∧ Below wr.heap.size wr wx)
      case first =>
        rename_i J0 K0 hJ0 hK0
        have HK := Lib.hid hK0
        refine region_tabF (by kernel_rfl) (fun b0 => b0.tmps.getD 0 undef = .slice (some ⟨bx, 0, none⟩) n c ∧ b0.tmps.getD 1 undef = .slice (some ⟨by_, 0, none⟩) n c' ∧ b0.tmps.getD 5 undef = I k) ⟨rfl, rfl, rfl⟩ 27 rfl
          (fun i => ([.slice (some ⟨bx, 0, none⟩) n c, I k, .pointer (some ⟨bx, k * 23, none⟩), .agg (frC f), .agg (frC f), .slice (some ⟨by_, 0, none⟩) n c', I k, .pointer (some ⟨by_, k * 23, none⟩), .agg (frC f), .bool false] : List Value).getD i undef)
          (fun _ wx => Below wr.heap.size wr wx) [17, 18, 19, 20, 21, 22, 23, 24, 25, 26] (by kernel_rfl) (by kernel_rfl) ((Below.refl _ _).drew) ?_ ?_
        · intro b0 hb0 i o ho
          have hi : i < 10 := (Array.getElem?_eq_some_iff.1 ho).1
          obtain ⟨f0, f1, f5⟩ := hb0
          have hcase : i = 0 ∨ i = 1 ∨ i = 2 ∨ i = 3 ∨ i = 4 ∨ i = 5 ∨ i = 6 ∨ i = 7 ∨ i = 8 ∨ i = 9 := by omega
          rcases hcase with rfl | rfl | rfl | rfl | rfl | rfl | rfl | rfl | rfl | rfl
          · cases ho
            exact does_quiet rfl (fun li w _ h => h) (fun li a w hF hed hK hW K hk => wp_move_at rfl (by rw [hF.slot (by decide)]; exact f0) hk)
          · cases ho
            exact does_quiet rfl (fun li w _ h => h) (fun li a w hF hed hK hW K hk => wp_move_at rfl (by rw [hF.slot (by decide)]; exact f5) hk)
          · cases ho
            exact does_quiet rfl (fun li w _ h => h) (fun li a w hF hed hK hW K hk => wp_frIndex hki (hK 0 _ rfl (hed ⟨0, .data⟩ (by simp) rfl) 17 rfl) (hK 1 _ rfl (hed ⟨1, .data⟩ (by simp) rfl) 18 rfl) hk)
          · cases ho
            exact does_quiet rfl (fun li w _ h => h) (fun li a w hF hed hK hW K hk => wp_load_mid 40 (.tmp 19) rfl bx (k * 23) (hK 2 _ rfl (hed ⟨2, .data⟩ (by simp) rfl) 19 rfl) (ints f) _ (rangeAt_below HRX.out hW hbx') Tryd.underlying40 rfl hs4.out hk)
          · cases ho
            refine does_turn rfl (fun li a w hs hn hF hed hK hW K hk => ?_)
            refine wp_callGiven (hK 3 _ rfl (hed ⟨3, .data⟩ (by simp) rfl) 20 rfl) (given_ok f HW.out w) ?_
            rintro r w' ⟨rfl, hb⟩
            exact ⟨_, rfl, hk _ (hW.trans (hb.mono hW.size))⟩
          · cases ho
            exact does_quiet rfl (fun li w _ h => h) (fun li a w hF hed hK hW K hk => wp_move_at rfl (by rw [hF.slot (by decide)]; exact f1) hk)
          · cases ho
            exact does_quiet rfl (fun li w _ h => h) (fun li a w hF hed hK hW K hk => wp_move_at rfl (by rw [hF.slot (by decide)]; exact f5) hk)
          · cases ho
            exact does_quiet rfl (fun li w _ h => h) (fun li a w hF hed hK hW K hk => wp_rfrIndex hki (hK 5 _ rfl (hed ⟨5, .data⟩ (by simp) rfl) 22 rfl) (hK 6 _ rfl (hed ⟨6, .data⟩ (by simp) rfl) 23 rfl) hk)
          · cases ho
            exact does_quiet rfl (fun li w _ h => h) (fun li a w hF hed hK hW K hk => wp_load_mid 45 (.tmp 24) rfl by_ (k * 23) (hK 7 _ rfl (hed ⟨7, .data⟩ (by simp) rfl) 24 rfl) (ints f) _ (rangeAt_below HRY.out hW hby') Tryd.underlying45 rfl hs5.out hk)
          · cases ho
            exact does_quiet rfl (fun li w _ h => h) (fun li a w hF hed hK hW K hk =>
              wp_neq_row 45 45 5 (frC f) (frC f) (List.replicate 23 (some .i64)) (.tmp 21) (.tmp 25) rfl (hK 4 _ rfl (hed ⟨4, .data⟩ (by simp) rfl) 21 rfl) (hK 8 _ rfl (hed ⟨8, .data⟩ (by simp) rfl) 25 rfl) (by decide) (by kernel_rfl) sigRef (by kernel_rfl) (by kernel_rfl) (by kernel_rfl) (fit_frame HW.out) (fit_frame HW.out) true (by simp) hk)
        · intro li a w' hF hK hall hW
          have e26 := hK 9 _ rfl (hall 9 (by decide)) 26 rfl
          have hM := hF.meet
          simp only [List.foldl_cons, List.foldl_nil, List.setIfInBounds_toArray, List.set_cons_succ, List.set_cons_zero, e26] at hM
          refine HK.out _ _ (Met.intro (hJ0 _ _ ?_))
          (repeat apply Exists.intro)
          exact ⟨⟨rfl, hW⟩, hM⟩
      case rest =>
        obtain ⟨rfl, hbc⟩ := hcut
        go_wp2_with fail
        go_roundw
        case rel => exact ⟨k + 1, by omega, by go_num, hbr.trans (hbc.mono hbr.size)⟩
        case measure => simp [intOf]; omega
    · have hkn : k = n := by omega
      subst hkn
      go_wp2
      go_ret
      exact ⟨rfl, hbr⟩
end Go.Proofs.YtdhekhlmdefcnaaDoor
