/- Part 29 of the proof: LatLaw, TaRight. -/
import Derived.Test.YtdhekhlmdefcnabPart28
/- DANGER IS FOR GOOD: what a system shows, and a trace that was handed out before. -/
namespace Go.Proofs.Ytdhekhlmdefcnab
open Go.RowKit
theorem msk_low (x : Int) (m n : Nat) (h : n ≤ m) : msk x m % 2 ^ n = msk x n := by
  unfold msk
  have h0 : (0 : Int) < 2 ^ m := Int.pow_pos (by decide)
  have hdvd : (2 : Int) ^ n ∣ 2 ^ m := ⟨2 ^ (m - n), by rw [← Int.pow_add]; congr 1; omega⟩
  have h1 : ((((x % 2 ^ m).toNat % 2 ^ n : Nat)) : Int) = x % 2 ^ n := by
    rw [Int.natCast_emod, Int.toNat_of_nonneg (Int.emod_nonneg _ (Int.ne_of_gt h0))]
    simp only [Int.natCast_pow]
    exact Int.emod_emod_of_dvd x hdvd
  rw [← h1]
  rfl
theorem nb_low {r n : Nat} (p : Int) (hr : r < 2 ^ n) (hn : n ≤ 62) : bits .andNot .i64 (r : Int) p = ((nb r (msk p n) : Nat) : Int) := by
  have h2 : (2 : Nat) ^ n ≤ 2 ^ 62 := Nat.pow_le_pow_right (by decide) hn
  rw [andNot_msk r (by omega) p]
  congr 1
  apply Nat.eq_of_testBit_eq
  intro i
  rw [testBit_nb, testBit_nb]
  by_cases hi : i < n
  · rw [← msk_low p 64 n (by omega), Nat.testBit_mod_two_pow]
    simp [hi]
  · rw [Nat.testBit_lt_two_pow (Nat.lt_of_lt_of_le hr (Nat.pow_le_pow_right (by decide) (by omega)))]
    rfl
theorem heldTo_zero (rs : List Nat) : ∀ k, heldTo rs 0 k = 0
  | 0 => rfl
  | k + 1 => by rw [heldTo, heldTo_zero rs k, Nat.zero_testBit]; rfl
theorem nb_or_zero {a b m : Nat} (h1 : nb a m = 0) (h2 : nb b m = 0) : nb (a ||| b) m = 0 := by
  apply Nat.eq_of_testBit_eq
  intro i
  have e1 := congrArg (fun x => x.testBit i) h1
  have e2 := congrArg (fun x => x.testBit i) h2
  simp only [testBit_nb, Nat.zero_testBit] at e1 e2
  rw [testBit_nb, Nat.testBit_or, Nat.zero_testBit, Bool.and_or_distrib_right, e1, e2]
  rfl
theorem nb_nil (m : Nat) : nb 0 m = 0 := by
  apply Nat.eq_of_testBit_eq
  intro i
  rw [testBit_nb, Nat.zero_testBit]
  rfl
theorem held_nb {rs : List Nat} {o m : Nat} (h : ∀ k, k < rs.length → o.testBit k = true → nb (rt rs k) m = 0) : ∀ k, k ≤ rs.length → nb (heldTo rs o k) m = 0
  | 0, _ => nb_nil m
  | k + 1, hk => by
    have ih := held_nb h k (by omega)
    rw [heldTo]
    split
    · rename_i hb
      exact nb_or_zero ih (h k (by omega) hb)
    · exact ih
/-- what is shown: a number, of routes that do not meet, all of whose sections were seen clear -/
structure ShownOk (L : Lay) (v : Vo) (o : Nat) : Prop where
  eq : voShown v = (o : Int)
  lt : o < 256
  latched : v.latched = true → o = 0
  free : ∀ l, l < L.routes.length → o.testBit l = true → heldTo L.routes o l &&& rt L.routes l = 0
  clear : ∀ cm, v.trace[v.trace.length - 1]? = some cm → nb (heldTo L.routes o L.routes.length) (msk cm.1 L.secs) = 0
theorem shown_zero {L : Lay} {v : Vo} (h : voShown v = 0) : ShownOk L v 0 :=
  ⟨h, by decide, fun _ => rfl, fun l _ h => (by rw [Nat.zero_testBit] at h; cases h), fun cm _ => (by rw [heldTo_zero]; exact nb_nil _)⟩
theorem shown_ok {L : Lay} {ℓ : Nat} {σ : List Sight} {v : Vo} (hL : L.Ok) (h : VoOk L ℓ σ v) : ∃ o, ShownOk L v o := by
  cases hl : v.latched with
  | true => exact ⟨0, shown_zero (by unfold voShown; rw [hl]; rfl)⟩
  | false =>
    cases hc : v.trace[v.trace.length - 1]? with
    | none => exact ⟨0, shown_zero (by unfold voShown; rw [hl, List.getLast?_eq_getElem?, hc]; rfl)⟩
    | some cm =>
      have e := shown_good h hl hc
      obtain ⟨hI, hS⟩ := fold_inv (L := L) (t := v.trace) (v.trace.length - 1)
      generalize foldN L v.trace (v.trace.length - 1) = s at *
      have hs := fun j (hj : j < L.routes.length) => step_safe (c := cm.1) (w := cm.2.1) hI hS (j := j) (r := rt L.routes j) (by
        unfold rt; rw [List.getD_eq_getElem?_getD, List.getElem?_eq_getElem hj]; rfl)
      have hI' := (step_inv (cl := msk cm.1 L.secs) (wa := msk cm.2.1 L.routes.length) hI hS).1
      have hsub : ∀ i, (step L cm.1 cm.2.1 s).2.testBit i = true → (step L cm.1 cm.2.1 s).1.set.testBit i = true := fun i hi => by
        have hlt : i < L.routes.length := by
          rcases Nat.lt_or_ge i L.routes.length with h1 | h1
          · exact h1
          · have hp : (step L cm.1 cm.2.1 s).2 < 2 ^ L.routes.length := outTo_pow _ _ _ _ _
            rw [Nat.testBit_lt_two_pow (Nat.lt_of_lt_of_le hp (Nat.pow_le_pow_right (by decide) h1))] at hi
            cases hi
        exact (hs i hlt).out1 hi
      refine ⟨(step L cm.1 cm.2.1 s).2, e, outTo_lt _ _ _ _ _ hL.many2, fun h => (by rw [hl] at h; cases h), fun l hl' hb => ?_, fun cm' hcm => ?_⟩
      · exact held_free (inv_sub hI' hsub) l hl' hb l (Nat.le_refl _)
      · rw [hc] at hcm
        injection hcm with hcm
        subst hcm
        exact held_nb (fun k hk hb => (hs k hk).out3 hb) _ (Nat.le_refl _)
/-- a trace that was handed out, in blocks that nobody turns -/
def WasAt (w : World) (y : TaX) (v : Value) (t : List Cm) : Prop := ∃ A c, v = .slice A t.length c ∧ ∀ i cm, t[i]? = some cm → ∃ b, A = some ⟨b, 0, none⟩ ∧ b < w.heap.size ∧ ¬ FA y b ∧ w.cell? ⟨b, i * 3, none⟩ = some (I cm.1) ∧ w.cell? ⟨b, i * 3 + 1, none⟩ = some (I cm.2.1) ∧ w.cell? ⟨b, i * 3 + 2, none⟩ = some (I cm.2.2)
section
variable {w w' w1 : World} {B : Nat} {y y' : TaX} {L : Lay} {ℓ : Nat} {Ta : Tale} {T : Nat} {v : Value} {t : List Cm}
theorem WasAt.nil (w : World) (y : TaX) : WasAt w y (.slice none 0 0) [] := ⟨none, 0, rfl, fun i cm h => by simp at h⟩
theorem TaAt.fa_lt (h : TaAt w B y L ℓ Ta) {b : Nat} (e : FA y b) : b < w.heap.size := by
  rcases e with e | e | e
  · exact h.sys.lt e
  · rw [e]; exact h.has.lt
  · obtain ⟨_, cur, hh⟩ := own_block h.seen e
    exact hh.lt
theorem WasAt.moved (h : WasAt w y v t) (m : AMoved w w' y y') : WasAt w' y' v t := by
  obtain ⟨A, c, e, hg⟩ := h
  refine ⟨A, c, e, fun i cm hi => ?_⟩
  obtain ⟨b, e1, e2, e3, e4, e5, e6⟩ := hg i cm hi
  have hb : ∀ k, w'.cell? ⟨b, k, none⟩ = w.cell? ⟨b, k, none⟩ := fun k => m.turned.cellT e3 e2
  refine ⟨b, e1, Nat.lt_of_lt_of_le e2 m.turned.size, fun hf => ?_, (hb _).trans e4, (hb _).trans e5, (hb _).trans e6⟩
  rcases m.blocks b hf with h1 | h1
  · exact e3 h1
  · omega
theorem WasAt.after (h : WasAt w y v t) (hb : Below w.heap.size w w') : WasAt w' y v t := h.moved (AMoved.of_below hb)
theorem WasAt.new (h : TaAt w B y L ℓ Ta) (_hb : Below w.heap.size w w') (ho : w'.ownsRow w.heap.size 50 3 v t.length (cmsC t)) : WasAt w' y v t := by
  obtain ⟨A, c, e, _, hg⟩ := own_cms ho
  refine ⟨A, c, e, fun i cm hi => ?_⟩
  obtain ⟨b, e1, e2, e4, e5, e6⟩ := hg i cm hi
  refine ⟨b, e1, e2, fun hf => ?_, e4, e5, e6⟩
  have h1 : w.heap.size ≤ b := (own_block ho (by rw [e, e1]; rfl)).1
  have := h.fa_lt hf
  omega
end
end Go.Proofs.Ytdhekhlmdefcnab
/- The walk over a tale's right: what was committed shows just what the core shows. -/
namespace Go.Proofs.Ytdhekhlmdefcnab
open Go.RowKit
theorem typ_of {w : World} {g : Nat} {t t' : TypeId} {cs cs' : Array Value} (h : Has w g t cs) (h' : Has w g t' cs') : t = t' := by
  unfold Has at h h'
  rw [h] at h'
  injection h' with h'
  injection h' with _ ht
theorem CoreAt.keepO {w w' : World} {g : Nat} {L : Lay} (h : CoreAt w g L) {B : Nat} {t : TypeId} {cs : Array Value} (hB : Has w B t cs) (h1 : t ≠ 93) (h2 : t ≠ 3)
    (hk : ∀ b, b ≠ B → w'.heap[b]? = w.heap[b]?) : CoreAt w' g L := by
  obtain ⟨vr, vc, k1, k2, k3⟩ := h
  exact ⟨vr, vc, (hk g (by rintro rfl; exact h1 (typ_of hB k1))).trans k1, own_keep k2 fun b cs' _ hh => hk b (by rintro rfl; exact h2 (typ_of hB hh)),
    own_keep k3 fun b cs' _ hh => hk b (by rintro rfl; exact h2 (typ_of hB hh))⟩
/-- a state, a core and a trace in memory, while a state is reckoned -/
structure RgAt (w0 w : World) (gB g5 gc : Nat) (L : Lay) (s : St) (A : Option Addr) (c : Nat) (t : List Cm) : Prop where
  below : Below gB w0 w
  core : CoreAt w gc L
  st : Has w g5 33 (stC s)
  row : w.ownsRow 0 50 3 (.slice A t.length c) t.length (cmsC t)
  lo : gB ≤ g5
  hi : gB ≤ w.heap.size
section
variable {w0 w w' : World} {gB g5 gc : Nat} {L : Lay} {s : St} {A : Option Addr} {c : Nat} {t : List Cm}
theorem RgAt.after (h : RgAt w0 w gB g5 gc L s A c t) (hb : Below w.heap.size w w') : RgAt w0 w' gB g5 gc L s A c t :=
  ⟨h.below.trans (hb.mono h.hi), h.core.after hb, h.st.after hb, own_after h.row hb, h.lo, Nat.le_trans h.hi hb.size⟩
theorem RgAt.alloc (h : RgAt w0 w gB g5 gc L s A c t) (o : Obj) : RgAt w0 (w.alloc o) gB g5 gc L s A c t := h.after ((Below.refl _ _).alloc (Nat.le_refl _) _)
theorem RgAt.setOther (h : RgAt w0 w gB g5 gc L s A c t) {g8 : Nat} {cs0 : Array Value} (k8 : Has w g8 33 cs0) (hne : g8 ≠ g5) (hlo : gB ≤ g8) (cs : Array Value) : RgAt w0 (w.setRow g8 cs) gB g5 gc L s A c t :=
  ⟨below_setRow h.below hlo cs, h.core.keepO k8 (by decide) (by decide) (fun b hb => heap_setRow_other _ _ _ _ hb), h.st.farRow (fun e => hne e.symm) cs, own_keep h.row (fun b cs' _ hh => heap_setRow_other _ _ _ _ (by rintro rfl; exact absurd (typ_of k8 hh) (by decide))), h.lo, Nat.le_trans h.hi (by simp [World.setRow])⟩
theorem RgAt.set (h : RgAt w0 w gB g5 gc L s A c t) (s' : St) : RgAt w0 (w.setRow g5 (stC s')) gB g5 gc L s' A c t :=
  ⟨below_setRow h.below h.lo _, h.core.keepO h.st (by decide) (by decide) (fun b hb => heap_setRow_other _ _ _ _ hb), h.st.setRow _, own_keep h.row (fun b cs' _ hh => heap_setRow_other _ _ _ _ (by rintro rfl; exact absurd (typ_of h.st hh) (by decide))), h.lo, Nat.le_trans h.hi (by simp [World.setRow])⟩
theorem RgAt.cells (h : RgAt w0 w gB g5 gc L s A c t) {i : Nat} {cm : Cm} (hc : t[i]? = some cm) {b : Nat} (hA : A = some ⟨b, 0, none⟩) : b < w.heap.size ∧ w.cell? ⟨b, i * 3, none⟩ = some (I cm.1) ∧ w.cell? ⟨b, i * 3 + 1, none⟩ = some (I cm.2.1) ∧ w.cell? ⟨b, i * 3 + 2, none⟩ = some (I cm.2.2) := by
  obtain ⟨A', c', e, _, hg⟩ := own_cms h.row
  injection e with e1 _ _
  obtain ⟨b', e2, r⟩ := hg i cm hc
  rw [← e1, hA] at e2
  injection e2 with e2
  injection e2 with e2 _ _
  subst e2
  exact r
theorem RgAt.S (h : RgAt w0 w gB g5 gc L s A c t) {i : Nat} {cm : Cm} (hc : t[i]? = some cm) {b : Nat} (hA : A = some ⟨b, 0, none⟩) : w.rangeAt g5 0 (stL s) ∧ w.cell? ⟨b, i * 3, none⟩ = some (I cm.1) ∧ w.cell? ⟨b, i * 3 + 1, none⟩ = some (I cm.2.1) := by
  obtain ⟨_, a, b', _⟩ := h.cells hc hA
  refine ⟨fun j u hu => ?_, a, b'⟩
  rw [h.st.cell]
  simpa [stC] using hu
theorem RgAt.addr (h : RgAt w0 w gB g5 gc L s A c t) {i : Nat} {cm : Cm} (hc : t[i]? = some cm) : ∃ b, A = some ⟨b, 0, none⟩ := by
  obtain ⟨A', c', e, _, hg⟩ := own_cms h.row
  injection e with e1 _ _
  obtain ⟨b', e2, r⟩ := hg i cm hc
  exact ⟨b', by rw [e1, e2]⟩
end
section
variable {w : World} {B : Nat} {y : TaX} {L : Lay} {ℓ : Nat} {Ta : Tale}
set_option maxHeartbeats 8000000 in
set_option maxRecDepth 100000 in
theorem ta_right (h : TaAt w B y L ℓ Ta) (hL : L.Ok) (hok : TaleOk L ℓ Ta) (hn : Ta.s.v.trace.length ≤ 1000) :
    Calls Try.prog 15 #[.pointer (some ⟨y.g, 0, none⟩)] w fun e w' => e = .returned (.bool true) ∧ Below w.heap.size w w' := by
  have d1 := h.has.cellv 1 (I L.secs) rfl
  have d2 := h.has.cellv 2 y.vr rfl
  have d3 := h.has.cellv 3 (I L.delay) rfl
  obtain ⟨AL, cL, hvr, hcL, _, _, hrl⟩ := own_read h.routes
  rw [hvr] at d2
  have HNEW := Lib.hid (new_ok AL L.routes.length cL L w hL (Lib.hid rfl) hcL hrl)
  have hg := h.has.lt
  have HH := Lib.hid h
  have HOK := Lib.hid hok
  clear h hok hvr hrl
  go_enter Try.func15, Try.ntmps15
  go_upto_region 5 with (go_at_call 18; refine HNEW.out.mono ?_; rintro e wn ⟨⟨gc, hgc, rfl, hco⟩, hbn⟩; have HCO := Lib.hid hco; have HBN := Lib.hid hbn; clear hco hbn)
  have k5 := Has.new wn 33 (stC St.zero)
  have hb5 : Below wn.heap.size wn (wn.alloc (.cells (stC St.zero) 33)) := (Below.refl _ _).alloc (Nat.le_refl _) _
  have HCO5 := Lib.hid (HCO.out.after hb5)
  have HB5 := Lib.hid (HBN.out.trans (hb5.mono HBN.out.size))
  have hg5 : w.heap.size ≤ wn.heap.size := HBN.out.size
  rw [← zeroState]
  generalize wn.alloc (.cells (stC St.zero) 33) = w5 at *
  generalize wn.heap.size = g5 at *
  have HT5 := Lib.hid (HH.out.after HB5.out)
  have s0 := HT5.out.scell
  have hgy := HT5.out.has.lt
  have K5 := Lib.hid k5
  clear d1 d2 d3 hb5 HCO HBN hg k5 HNEW
  go_upto_region 6 with (go_at_call 12; refine (sy_trace HT5.out.sys hn).mono ?_; rintro e w6 ⟨⟨vr, rfl, ho⟩, hb6⟩)
  obtain ⟨A, c, rfl, hc, _⟩ := own_cms ho
  have HR6 : Hid (RgAt w w6 w.heap.size g5 gc L (foldN L Ta.s.v.trace 0) A c Ta.s.v.trace) := Lib.hid ⟨HB5.out.trans (hb6.mono HB5.out.size), HCO5.out.after hb6, by rw [foldN_zero]; exact K5.out.after hb6, own_base ho (Nat.zero_le _), hg5, Nat.le_trans HB5.out.size hb6.size⟩
  have HTR := Lib.hid (fun i cm (hc : Ta.s.v.trace[i]? = some cm) => (HOK.out.sys.voter.trace i cm hc).out)
  clear ho hb6 s0 hgy HT5 HB5 HCO5 K5 HOK HH hc hcL
  generalize Ta.s.v.trace = t at *
  generalize hGB : w.heap.size = gB at *
  have HGB := Lib.hid hGB
  clear hGB
  go_wp2_with fail
  go_loopw [7] (fun iv wr => ∃ i : Nat, i ≤ t.length ∧ iv = I i ∧ Hid (RgAt w wr gB g5 gc L (foldN L t i) A c t)) (fun iv _ => t.length - (intOf iv).toNat)
  case atStart => exact ⟨0, Nat.zero_le _, rfl, HR6⟩
  case round =>
    clear HR6
    obtain ⟨i, hi, rfl, HR⟩ := hrel
    by_cases hlt : i < t.length
    · obtain ⟨cm, hcm⟩ := some_at t i hlt
      obtain ⟨b, hA⟩ := HR.out.addr hcm
      subst hA
      have HCM := Lib.hid hcm
      have hstep := foldN_succ (L := L) hcm
      have HO := Lib.hid (HTR.out i cm hcm)
      have HF : Hid ((foldN L t i).Fits 8000) := Lib.hid ((fold_fits (t := t) hL i).mono (by omega))
      have HFN : Hid ((step L cm.1 cm.2.1 (foldN L t i)).1.Fits 8008) := Lib.hid (step_fits hL HF.out)
      have HRD := Lib.hid (HR.out.after (show Below wr.heap.size wr wr.drew from (Below.refl _ _).drew))
      have HSN := Lib.hid hstep
      have HLT := Lib.hid hlt
      have hii : (i : Int) < (t.length : Int) := by omega
      clear hcm hstep hlt hi HTR
      generalize foldN L t i = s at *
      have HSI : Hid ((Try.prog.info? 33).map (·.size) = some (stL s).length) := Lib.hid (by rw [stL_17 HF.out]; exact infoState)
      have hiN : (Try.prog.info? 33).map (·.size) = some (stC (step L cm.1 cm.2.1 s).1).size := by unfold stC; rw [List.size_toArray, stL_17 HFN.out]; exact infoState
      have hzN : (stC St.zero).size = (stC (step L cm.1 cm.2.1 s).1).size := by unfold stC; rw [List.size_toArray, List.size_toArray, stL_17 HFN.out]; rfl
      go_wp2_with fail
      go_cut [8, 9] (fun s8 s9 wx => ∃ g8, s8 = .pointer (some ⟨g8, 0, none⟩) ∧ s9 = I (step L cm.1 cm.2.1 s).2 ∧ g8 ≠ g5 ∧ Hid (RgAt w wx gB g5 gc L s (some ⟨b, 0, none⟩) c t) ∧ Hid (Has wx g8 33 (stC (step L cm.1 cm.2.1 s).1)))
      case first =>
        refine wp_region_held_drew (S := fun wx => wx.rangeAt g5 0 (stL s) ∧ wx.cell? ⟨b, i * 3, none⟩ = some (I cm.1) ∧ wx.cell? ⟨b, i * 3 + 1, none⟩ = some (I cm.2.1)) (by kernel_rfl) (HRD.out.S HCM.out rfl) (fun hHeld => ?_)
        refine wpAnyH_take (i := 0) (oi := { dst := some 36, op := Op.move (Operand.tmp 3), type := 56, pos := "keep.go:315", after := #[], guard := none }) (v := .pointer (some ⟨gc, 0, none⟩)) rfl (by kernel_rfl) (by kernel_rfl) (by kernel_rfl) (fun _ _ _ h => h) (Or.inl ⟨by rfl, ?_⟩) hHeld ?_
        · rintro wx ⟨hs0, hs1, hs2⟩
          go_simp
        simp only [Act.put, List.setIfInBounds_toArray, List.set_cons_zero, List.set_cons_succ]
        refine wpAnyH_take (i := 1) (oi := { dst := some 37, op := Op.load 33 (Operand.tmp 5), type := 33, pos := "keep.go:315", after := #[], guard := none }) (v := .agg (stC s)) rfl (by kernel_rfl) (by kernel_rfl) (by kernel_rfl) (fun _ _ _ h => h) (yieldsIf_load_mid (by rfl) 33 (.tmp 5) rfl g5 0 rfl (stL s) _ (fun _ h => h.1) Try.underlying33 rfl HSI.out) hHeld ?_
        simp only [Act.put, List.setIfInBounds_toArray, List.set_cons_zero, List.set_cons_succ]
        refine wpAnyH_take (i := 2) (oi := { dst := some 38, op := Op.move (Operand.tmp 6), type := 40, pos := "keep.go:315", after := #[], guard := none }) (v := .slice (some ⟨b, 0, none⟩) t.length c) rfl (by kernel_rfl) (by kernel_rfl) (by kernel_rfl) (fun _ _ _ h => h) (Or.inl ⟨by rfl, ?_⟩) hHeld ?_
        · rintro wx ⟨hs0, hs1, hs2⟩
          go_simp
        simp only [Act.put, List.setIfInBounds_toArray, List.set_cons_zero, List.set_cons_succ]
        refine wpAnyH_take (i := 3) (oi := { dst := some 39, op := Op.move (Operand.tmp 7), type := 3, pos := "keep.go:315", after := #[], guard := none }) (v := I i) rfl (by kernel_rfl) (by kernel_rfl) (by kernel_rfl) (fun _ _ _ h => h) (Or.inl ⟨by rfl, ?_⟩) hHeld ?_
        · rintro wx ⟨hs0, hs1, hs2⟩
          go_simp
        simp only [Act.put, List.setIfInBounds_toArray, List.set_cons_zero, List.set_cons_succ]
        refine wpAnyH_take (i := 4) (oi := { dst := some 40, op := Op.indexAddr 40 (Operand.tmp 38) (Operand.tmp 39), type := 0, pos := "keep.go:315", after := #[{ on := 2, ground := Ground.data }, { on := 3, ground := Ground.data }], guard := none }) (v := .pointer (some ⟨b, i * 3, none⟩)) rfl (by kernel_rfl) (by kernel_rfl) (by kernel_rfl) (fun _ _ _ h => h) (Or.inl ⟨by rfl, ?_⟩) hHeld ?_
        · rintro wx ⟨hs0, hs1, hs2⟩
          go_simp
        simp only [Act.put, List.setIfInBounds_toArray, List.set_cons_zero, List.set_cons_succ]
        refine wpAnyH_take (i := 5) (oi := { dst := some 41, op := Op.fieldAddr 50 (Operand.tmp 40) 0, type := 0, pos := "keep.go:315", after := #[{ on := 4, ground := Ground.data }], guard := none }) (v := .pointer (some ⟨b, i * 3, none⟩)) rfl (by kernel_rfl) (by kernel_rfl) (by kernel_rfl) (fun _ _ _ h => h) (Or.inl ⟨by rfl, ?_⟩) hHeld ?_
        · rintro wx ⟨hs0, hs1, hs2⟩
          go_simp
        simp only [Act.put, List.setIfInBounds_toArray, List.set_cons_zero, List.set_cons_succ]
        refine wpAnyH_take (i := 6) (oi := { dst := some 42, op := Op.load 30 (Operand.tmp 41), type := 30, pos := "keep.go:315", after := #[{ on := 5, ground := Ground.data }], guard := none }) (v := .agg #[I cm.1, I cm.2.1]) rfl (by kernel_rfl) (by kernel_rfl) (by kernel_rfl) (fun _ _ _ h => h) (Or.inl ⟨by rfl, ?_⟩) hHeld ?_
        · rintro wx ⟨hs0, hs1, hs2⟩
          go_simp
        simp only [Act.put, List.setIfInBounds_toArray, List.set_cons_zero, List.set_cons_succ]
        refine wpAnyH_ready (rs := [7, 11]) (by kernel_rfl) (by simp) (AllReadyH.cons (o := { dst := some 43, op := Op.call { callee := Callee.value (Operand.func 19), args := #[Operand.tmp 36, Operand.tmp 37, Operand.tmp 42], argTypes := #[56, 33, 30] }, type := 59, pos := "keep.go:315", after := #[{ on := 0, ground := Ground.data }, { on := 1, ground := Ground.data }, { on := 6, ground := Ground.data }], guard := none }) rfl (fun K hK => ?_) (AllReadyH.cons (o := { dst := some 8, op := Op.alloc 33, type := 0, pos := "keep.go:315", after := #[], guard := none }) rfl (fun K hK => ?_) AllReadyH.nil))
        · go_simp
          go_at_call 19; refine (step_ok gc L s 8000 cm.1 cm.2.1 _ hL (by decide) HF.out HRD.out.core).mono ?_; rintro e wt ⟨rfl, hbt⟩; have HRT := Lib.hid (HRD.out.after hbt); clear hbt
          refine hK.out _ _ (HRT.out.S HCM.out rfl) (fun hHeld => ?_)
          clear hK K
          try simp only [Act.put, List.setIfInBounds_toArray, List.set_cons_zero, List.set_cons_succ]
          refine wpAnyH_take (i := 8) (oi := { dst := some 35, op := Op.move (Operand.tmp 43), type := 59, pos := "keep.go:315", after := #[{ on := 7, ground := Ground.data }], guard := none }) (v := .tuple #[.agg (stC (step L cm.1 cm.2.1 s).1), I (step L cm.1 cm.2.1 s).2]) rfl (by kernel_rfl) (by kernel_rfl) (by kernel_rfl) (fun _ _ _ h => h) (Or.inl ⟨by rfl, ?_⟩) hHeld ?_
          · rintro wx ⟨hs0, hs1, hs2⟩
            go_simp
          simp only [Act.put, List.setIfInBounds_toArray, List.set_cons_zero, List.set_cons_succ]
          refine wpAnyH_take (i := 9) (oi := { dst := some 44, op := Op.extract (Operand.tmp 35) 0, type := 33, pos := "keep.go:315", after := #[{ on := 8, ground := Ground.data }], guard := none }) (v := .agg (stC (step L cm.1 cm.2.1 s).1)) rfl (by kernel_rfl) (by kernel_rfl) (by kernel_rfl) (fun _ _ _ h => h) (Or.inl ⟨by rfl, ?_⟩) hHeld ?_
          · rintro wx ⟨hs0, hs1, hs2⟩
            go_simp
          simp only [Act.put, List.setIfInBounds_toArray, List.set_cons_zero, List.set_cons_succ]
          refine wpAnyH_take (i := 10) (oi := { dst := some 45, op := Op.extract (Operand.tmp 35) 1, type := 3, pos := "keep.go:315", after := #[{ on := 8, ground := Ground.data }, { on := 12, ground := Ground.gcOnly Departure.lateStores }], guard := none }) (v := I (step L cm.1 cm.2.1 s).2) rfl (by kernel_rfl) (by kernel_rfl) (by kernel_rfl) (fun _ _ _ h => h) (Or.inl ⟨by rfl, ?_⟩) hHeld ?_
          · rintro wx ⟨hs0, hs1, hs2⟩
            go_simp
          simp only [Act.put, List.setIfInBounds_toArray, List.set_cons_zero, List.set_cons_succ]
          refine wpAnyH_ready (rs := [11]) (by kernel_rfl) (by simp) (AllReadyH.cons (o := { dst := some 8, op := Op.alloc 33, type := 0, pos := "keep.go:315", after := #[], guard := none }) rfl (fun K hK => ?_) AllReadyH.nil)
          go_simp
          rw [← zeroState]
          have k8 := Has.new wt 33 (stC St.zero)
          have hne8 : wt.heap.size ≠ g5 := Nat.ne_of_gt HRT.out.st.lt
          have hlo8 : gB ≤ wt.heap.size := HRT.out.hi
          have HRA := Lib.hid (HRT.out.alloc (.cells (stC St.zero) 33))
          refine hK.out _ _ (HRA.out.S HCM.out rfl) (fun hHeld => ?_)
          clear hK K
          try simp only [Act.put, List.setIfInBounds_toArray, List.set_cons_zero, List.set_cons_succ]
          refine wpAnyH_ready (rs := [12]) (by kernel_rfl) (by simp) (AllReadyH.cons (o := { dst := none, op := Op.store 33 (Operand.tmp 8) (Operand.tmp 44), type := 0, pos := "keep.go:315", after := #[{ on := 11, ground := Ground.data }, { on := 9, ground := Ground.data }, { on := 7, ground := Ground.chain }, { on := 0, ground := Ground.phase }, { on := 1, ground := Ground.phase }, { on := 2, ground := Ground.phase }, { on := 3, ground := Ground.phase }, { on := 4, ground := Ground.phase }, { on := 5, ground := Ground.phase }, { on := 6, ground := Ground.phase }, { on := 7, ground := Ground.phase }, { on := 8, ground := Ground.phase }, { on := 9, ground := Ground.phase }, { on := 10, ground := Ground.textOnly Departure.lateStores }, { on := 11, ground := Ground.phase }], guard := none }) rfl (fun K hK => ?_) AllReadyH.nil)
          rw [if_pos (by rfl)]
          refine wp_store_row 33 (.tmp 8) (.tmp 44) rfl wt.heap.size (stC (step L cm.1 cm.2.1 s).1) rfl rfl 33 (stC St.zero) k8 hiN hzN (stC_ones _) ?_
          have HRS := Lib.hid (HRA.out.setOther k8 hne8 hlo8 (stC (step L cm.1 cm.2.1 s).1))
          have KS := Lib.hid (k8.setRow (stC (step L cm.1 cm.2.1 s).1))
          refine hK.out _ _ (HRS.out.S HCM.out rfl) (fun hHeld => ?_)
          clear hK K
          try simp only [Act.put]
          refine wpAnyH_take (i := 13) (oi := { dst := some 9, op := Op.assign (Operand.tmp 45), type := 3, pos := "keep.go:315", after := #[{ on := 10, ground := Ground.data }, { on := 12, ground := Ground.chain }, { on := 0, ground := Ground.phase }, { on := 1, ground := Ground.phase }, { on := 2, ground := Ground.phase }, { on := 3, ground := Ground.phase }, { on := 4, ground := Ground.phase }, { on := 5, ground := Ground.phase }, { on := 6, ground := Ground.phase }, { on := 7, ground := Ground.phase }, { on := 8, ground := Ground.phase }, { on := 9, ground := Ground.phase }, { on := 10, ground := Ground.phase }, { on := 11, ground := Ground.phase }, { on := 12, ground := Ground.phase }], guard := none }) (v := I (step L cm.1 cm.2.1 s).2) rfl (by kernel_rfl) (by kernel_rfl) (by kernel_rfl) (fun _ _ _ h => h) (Or.inl ⟨by rfl, ?_⟩) hHeld ?_
          · rintro wx ⟨hs0, hs1, hs2⟩
            go_simp
          simp only [Act.put, List.setIfInBounds_toArray, List.set_cons_zero, List.set_cons_succ]
          refine wpAnyH_done (by kernel_rfl) ?_ _
          go_wp2_with fail
          go_meet
          case rel => exact ⟨_, rfl, rfl, hne8, HRS, KS⟩
        · go_simp
          rw [← zeroState]
          have k8 := Has.new wr.drew 33 (stC St.zero)
          have hne8 : wr.drew.heap.size ≠ g5 := Nat.ne_of_gt HRD.out.st.lt
          have hlo8 : gB ≤ wr.drew.heap.size := HRD.out.hi
          have HRA := Lib.hid (HRD.out.alloc (.cells (stC St.zero) 33))
          refine hK.out _ _ (HRA.out.S HCM.out rfl) (fun hHeld => ?_)
          clear hK K
          try simp only [Act.put, List.setIfInBounds_toArray, List.set_cons_zero, List.set_cons_succ]
          refine wpAnyH_ready (rs := [7]) (by kernel_rfl) (by simp) (AllReadyH.cons (o := { dst := some 43, op := Op.call { callee := Callee.value (Operand.func 19), args := #[Operand.tmp 36, Operand.tmp 37, Operand.tmp 42], argTypes := #[56, 33, 30] }, type := 59, pos := "keep.go:315", after := #[{ on := 0, ground := Ground.data }, { on := 1, ground := Ground.data }, { on := 6, ground := Ground.data }], guard := none }) rfl (fun K hK => ?_) AllReadyH.nil)
          go_simp
          go_at_call 19; refine (step_ok gc L s 8000 cm.1 cm.2.1 _ hL (by decide) HF.out HRA.out.core).mono ?_; rintro e wt ⟨rfl, hbt⟩; have HRT := Lib.hid (HRA.out.after hbt); have k9 := k8.after hbt; clear hbt
          refine hK.out _ _ (HRT.out.S HCM.out rfl) (fun hHeld => ?_)
          clear hK K
          try simp only [Act.put, List.setIfInBounds_toArray, List.set_cons_zero, List.set_cons_succ]
          refine wpAnyH_take (i := 8) (oi := { dst := some 35, op := Op.move (Operand.tmp 43), type := 59, pos := "keep.go:315", after := #[{ on := 7, ground := Ground.data }], guard := none }) (v := .tuple #[.agg (stC (step L cm.1 cm.2.1 s).1), I (step L cm.1 cm.2.1 s).2]) rfl (by kernel_rfl) (by kernel_rfl) (by kernel_rfl) (fun _ _ _ h => h) (Or.inl ⟨by rfl, ?_⟩) hHeld ?_
          · rintro wx ⟨hs0, hs1, hs2⟩
            go_simp
          simp only [Act.put, List.setIfInBounds_toArray, List.set_cons_zero, List.set_cons_succ]
          refine wpAnyH_take (i := 9) (oi := { dst := some 44, op := Op.extract (Operand.tmp 35) 0, type := 33, pos := "keep.go:315", after := #[{ on := 8, ground := Ground.data }], guard := none }) (v := .agg (stC (step L cm.1 cm.2.1 s).1)) rfl (by kernel_rfl) (by kernel_rfl) (by kernel_rfl) (fun _ _ _ h => h) (Or.inl ⟨by rfl, ?_⟩) hHeld ?_
          · rintro wx ⟨hs0, hs1, hs2⟩
            go_simp
          simp only [Act.put, List.setIfInBounds_toArray, List.set_cons_zero, List.set_cons_succ]
          refine wpAnyH_take (i := 10) (oi := { dst := some 45, op := Op.extract (Operand.tmp 35) 1, type := 3, pos := "keep.go:315", after := #[{ on := 8, ground := Ground.data }, { on := 12, ground := Ground.gcOnly Departure.lateStores }], guard := none }) (v := I (step L cm.1 cm.2.1 s).2) rfl (by kernel_rfl) (by kernel_rfl) (by kernel_rfl) (fun _ _ _ h => h) (Or.inl ⟨by rfl, ?_⟩) hHeld ?_
          · rintro wx ⟨hs0, hs1, hs2⟩
            go_simp
          simp only [Act.put, List.setIfInBounds_toArray, List.set_cons_zero, List.set_cons_succ]
          refine wpAnyH_ready (rs := [12]) (by kernel_rfl) (by simp) (AllReadyH.cons (o := { dst := none, op := Op.store 33 (Operand.tmp 8) (Operand.tmp 44), type := 0, pos := "keep.go:315", after := #[{ on := 11, ground := Ground.data }, { on := 9, ground := Ground.data }, { on := 7, ground := Ground.chain }, { on := 0, ground := Ground.phase }, { on := 1, ground := Ground.phase }, { on := 2, ground := Ground.phase }, { on := 3, ground := Ground.phase }, { on := 4, ground := Ground.phase }, { on := 5, ground := Ground.phase }, { on := 6, ground := Ground.phase }, { on := 7, ground := Ground.phase }, { on := 8, ground := Ground.phase }, { on := 9, ground := Ground.phase }, { on := 10, ground := Ground.textOnly Departure.lateStores }, { on := 11, ground := Ground.phase }], guard := none }) rfl (fun K hK => ?_) AllReadyH.nil)
          rw [if_pos (by rfl)]
          refine wp_store_row 33 (.tmp 8) (.tmp 44) rfl wr.heap.size (stC (step L cm.1 cm.2.1 s).1) rfl rfl 33 (stC St.zero) k9 hiN hzN (stC_ones _) ?_
          have HRS := Lib.hid (HRT.out.setOther k9 hne8 hlo8 (stC (step L cm.1 cm.2.1 s).1))
          have KS := Lib.hid (k9.setRow (stC (step L cm.1 cm.2.1 s).1))
          refine hK.out _ _ (HRS.out.S HCM.out rfl) (fun hHeld => ?_)
          clear hK K
          try simp only [Act.put]
          refine wpAnyH_take (i := 13) (oi := { dst := some 9, op := Op.assign (Operand.tmp 45), type := 3, pos := "keep.go:315", after := #[{ on := 10, ground := Ground.data }, { on := 12, ground := Ground.chain }, { on := 0, ground := Ground.phase }, { on := 1, ground := Ground.phase }, { on := 2, ground := Ground.phase }, { on := 3, ground := Ground.phase }, { on := 4, ground := Ground.phase }, { on := 5, ground := Ground.phase }, { on := 6, ground := Ground.phase }, { on := 7, ground := Ground.phase }, { on := 8, ground := Ground.phase }, { on := 9, ground := Ground.phase }, { on := 10, ground := Ground.phase }, { on := 11, ground := Ground.phase }, { on := 12, ground := Ground.phase }], guard := none }) (v := I (step L cm.1 cm.2.1 s).2) rfl (by kernel_rfl) (by kernel_rfl) (by kernel_rfl) (fun _ _ _ h => h) (Or.inl ⟨by rfl, ?_⟩) hHeld ?_
          · rintro wx ⟨hs0, hs1, hs2⟩
            go_simp
          simp only [Act.put, List.setIfInBounds_toArray, List.set_cons_zero, List.set_cons_succ]
          refine wpAnyH_done (by kernel_rfl) ?_ _
          go_wp2_with fail
          go_meet
          case rel => exact ⟨_, rfl, rfl, hne8, HRS, KS⟩
      case rest =>
        obtain ⟨g8, rfl, rfl, hne, HR2, K8⟩ := hcut
        obtain ⟨hbl, _, _, c2⟩ := HR2.out.cells HCM.out rfl
        rw [HO.out] at c2
        have HS3 := Lib.hid (HR2.out.set (step L cm.1 cm.2.1 s).1)
        have HK5 := Lib.hid HR2.out.st
        have hz5 : (stC s).size = (stC (step L cm.1 cm.2.1 s).1).size := by unfold stC; rw [List.size_toArray, List.size_toArray, stL_17 HFN.out, stL_17 HF.out]
        go_upto_region 12 with fail
        clear c2
        go_wp2_with (first
          | (refine wpList_load_row rfl 33 (.tmp 8) rfl g8 rfl 33 (stC (step L cm.1 cm.2.1 s).1) (0, 0) _ K8.out Try.underlying33 rfl hiN ?_)
          | (refine wpList_store_row rfl 33 (.tmp 5) (.tmp 53) rfl g5 (stC (step L cm.1 cm.2.1 s).1) rfl rfl 33 (stC s) HK5.out hiN hz5 (stC_ones _) ?_))
        go_roundw
        case rel => exact ⟨i + 1, HLT.out, by go_num, by rw [HSN.out]; exact HS3⟩
        case measure => have := HLT.out; simp [intOf]; omega
    · have hii : ¬ (i : Int) < (t.length : Int) := by omega
      clear hlt
      go_wp2
      go_ret
      exact ⟨rfl, by rw [HGB.out]; exact HR.out.below⟩
end
end Go.Proofs.Ytdhekhlmdefcnab
