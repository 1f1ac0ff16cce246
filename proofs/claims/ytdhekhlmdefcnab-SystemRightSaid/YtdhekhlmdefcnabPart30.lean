/- Part 30 of the proof: SystemRight. -/
import Derived.Test.YtdhekhlmdefcnabPart29
/- The walk over SystemRight: what is committed is right. -/
namespace Go.Proofs.Ytdhekhlmdefcnab
open Go.RowKit
theorem out_low {out ℓ : Nat} (h : ∀ j, out.testBit j = true → j < 3 ∧ j = ℓ) : out < 8 := by
  refine Nat.lt_pow_two_of_testBit (n := 3) _ fun i hi => ?_
  cases e : out.testBit i with
  | false => rfl
  | true => have := (h i e).1; omega
theorem out_only {out ℓ : Nat} (h : ∀ j, out.testBit j = true → j < 3 ∧ j = ℓ) (hℓ : ℓ ≤ 3) : bits .andNot .i64 (out : Int) ((2 ^ ℓ : Nat) : Int) = 0 := by
  have h8 := out_low h
  rw [andNot_msk out (by omega)]
  have : nb out (msk ((2 ^ ℓ : Nat) : Int) 64) = 0 := nb_zero fun b hb => by
    obtain ⟨h3, rfl⟩ := h b hb
    have hm : msk ((2 ^ b : Nat) : Int) 64 = 2 ^ b := msk_id (Nat.pow_lt_pow_right (by decide) (by omega))
    rw [hm, Nat.testBit_two_pow_self]
  rw [this]
  rfl
theorem sigState : sig Try.prog 5 33 = some (List.replicate 17 (some .i64)) := by kernel_rfl
theorem fit_state {s : St} {M : Nat} (h : s.Fits M) (hM : M ≤ 1000000) : Fit (List.replicate 17 (some .i64)) (stC s).toList := by
  have e : (stC s).toList = ints ((s.set : Int) :: (zs s.used ++ zs s.idle)) := by unfold stC stL ints; simp
  rw [e]
  have := fit_ints ((s.set : Int) :: (zs s.used ++ zs s.idle)) (fun x hx => by
    have hb : 0 ≤ x ∧ x ≤ 1000000 := by
      rcases List.mem_cons.1 hx with rfl | hx
      · have := h.set; constructor <;> omega
      · rcases List.mem_append.1 hx with hx | hx
        · obtain ⟨n, hn, rfl⟩ := List.mem_map.1 hx
          have := h.used n hn; constructor <;> omega
        · obtain ⟨n, hn, rfl⟩ := List.mem_map.1 hx
          have := h.idle n hn; constructor <;> omega
    exact wf_i64 (by omega) (by omega))
  have hl : ((s.set : Int) :: (zs s.used ++ zs s.idle)).length = 17 := by simp [zs, h.used8, h.idle8]
  rw [hl] at this
  exact this
section
variable {w : World}
set_option maxHeartbeats 8000000 in
set_option maxRecDepth 100000 in
theorem right_any (a d : Int) (A : Option Addr) (c : Nat) (xs : List Int) (win liar : Int) (A2 : Option Addr) (c2 : Nat) (l : List Stp) (w : World) (hr : Reads w w.heap.size A (ints xs)) (hs : StepsAt w w.heap.size A2 l) :
    Calls Try.prog 5 #[I a, I d, .slice A xs.length c, I win, I liar, .slice A2 l.length c2] w fun e w' => e = .returned (.bool true) ∧ Below w.heap.size w w' := by
  have HFT := Lib.hid (fits_ok A2 c2 l hs)
  by_cases hx : 30 < xs.length
  · have hxi : (30 : Int) < (xs.length : Int) := by omega
    clear hx
    go_enter Try.func5, Try.ntmps5
    go_wp2
    go_ret
    exact ⟨rfl, Below.refl _ _⟩
  · have hxi : ¬ (30 : Int) < (xs.length : Int) := by omega
    have HX := Lib.hid hx
    cases hfb : fitsB l with
    | false =>
      rw [hfb] at HFT
      clear hfb hx
      go_enter Try.func5, Try.ntmps5
      go_wp2_with (go_at_call 7; refine HFT.out.mono ?_; rintro e w' ⟨rfl, he⟩; cases he)
      go_ret
      exact ⟨rfl, Below.refl _ _⟩
    | true =>
      obtain ⟨hl, hby⟩ := fitsB_of hfb
      rw [hfb] at HFT
      obtain ⟨N, hN⟩ : ∃ N, N = 1200 := ⟨_, rfl⟩
      have HN := Lib.hid hN
      have HR := Lib.hid hr
      have HST := Lib.hid hs
      have HBY := Lib.hid hby
      have hp4 := pkN_lt liar (n := 4) (by decide)
      clear hfb hx hN hr hs hby
      go_enter Try.func5, Try.ntmps5
      go_upto_region 8 with (first
        | (go_at_call 7; refine HFT.out.mono ?_; rintro e w' ⟨rfl, he⟩; cases he)
        | (go_at_call 8; refine (ran_ok w).mono ?_; rintro e w1 ⟨rfl, hb1⟩; have HB1 := Lib.hid hb1; clear hb1)
        | (go_at_call 9; refine (tells_ok a d A c xs win liar (by have := HX.out; omega) ((HR.out.below HB1.out).more HB1.out.size)).mono ?_; rintro e w2 ⟨⟨y, L, wi, hL, hw1, hw2, rfl, hta, hgy⟩, hb2⟩; have HTA := Lib.hid hta; have HB2 := Lib.hid (HB1.out.trans (hb2.mono HB1.out.size)); have hB12 := HB1.out.size; clear hta hb2 HB1))
      have HT0 : Hid (TaAt w2 w1.heap.size y L (pkN liar 4) (taleTo L (pkN liar 4) N wi l 0)) := HTA
      clear HTA HFT HR
      have hℓ : pkN liar 4 ≤ 3 := by omega
      generalize pkN liar 4 = ℓ at *
      generalize w1.heap.size = b1 at *
      go_wp2_with fail
      go_loopw [14] (fun iv wr => ∃ i : Nat, i ≤ l.length ∧ iv = I i ∧ ∃ y', Hid (TaAt wr b1 y' L ℓ (taleTo L ℓ N wi l i)) ∧ Hid (y'.g = y.g) ∧ Hid (Below w.heap.size w wr)) (fun iv _ => l.length - (intOf iv).toNat)
      case atStart => exact ⟨0, Nat.zero_le _, rfl, y, HT0, Lib.hid rfl, HB2⟩
      case round =>
        clear HT0 HB2
        obtain ⟨i, hi, rfl, y1, HT, HG, HB⟩ := hrel
        by_cases hlt : i < l.length
        · obtain ⟨x, hx⟩ := some_at l i hlt
          obtain ⟨b, o, A', c', rfl, hbb, hrg, hwf, hc1, hc2, hcl, hrd⟩ := (HST.out.below HB.out) i x hx
          obtain ⟨hfi, hsn⟩ := taleTo_fine (ℓ := ℓ) hL HN.out hℓ hw1 hw2 HST.out.nums i hi
          have hbl := HBY.out x (List.mem_of_getElem? hx)
          have hcall := ta_does N HN.out HT.out hfi hL (by omega) (by omega) hℓ x hwf A' c' hcl ((hrd.more hB12)) (by omega)
          rw [HG.out, ← taleTo_succ hx] at hcall
          have HCL := Lib.hid hcall
          have HRG := Lib.hid hrg
          have hsI : Hid ((Try.prog.info? 38).map (·.size) = some (stpC x (.slice A' x.bytes.length c')).toList.length) := Lib.hid (by rw [stpC_size hwf.1]; exact infoStp)
          have hii : (i : Int) < (l.length : Int) := by omega
          have HLT := Lib.hid hlt
          clear hcall hx hbb hrg hwf hc1 hc2 hcl hrd hfi hsn hbl hlt hi
          go_wp2_with (first
            | (refine wpList_load_mid rfl 38 (.tmp 50) rfl b (o + i * 29) rfl (stpC x (.slice A' x.bytes.length c')).toList _ HRG.out Try.underlying38 rfl hsI.out ?_)
            | (go_at_call 10; refine HCL.out.mono ?_; rintro e wb ⟨rfl, y2, hy2, hm2⟩; have HT2 := Lib.hid hy2; have HG2 := Lib.hid (hm2.same.trans HG.out); have HBB := Lib.hid (HB.out.trans ((hm2.below HT.out).mono hB12)); clear hy2 hm2))
          go_roundw
          case rel => exact ⟨i + 1, HLT.out, by rfl, y2, HT2, HG2, HBB⟩
          case measure => have := HLT.out; simp [intOf]; omega
        · have hin : i = l.length := by omega
          subst hin
          obtain ⟨hfi, hsn⟩ := taleTo_fine (ℓ := ℓ) hL HN.out hℓ hw1 hw2 HST.out.nums l.length (Nat.le_refl _)
          have hok := taleTo_ok (ℓ := ℓ) (N := N) (wi := wi) (l := l) hL l.length
          have hii : ¬ (l.length : Int) < (l.length : Int) := by omega
          clear hlt hi hsn HST HBY
          generalize taleTo L ℓ N wi l l.length = Tb at *
          have HFI := Lib.hid hfi
          have HOK := Lib.hid hok
          have HMANY : Hid (Tb.s.v.trace.length ≤ 1000) := Lib.hid hfi.vo.many
          obtain ⟨m2, hm2⟩ : ∃ m2 : Int, m2 = ((2 ^ ℓ : Nat) : Int) := ⟨_, rfl⟩
          have tO : bits .andNot .i64 (Tb.s.v.out : Int) m2 = 0 := by rw [hm2]; exact out_only hok.sys.voter.out hℓ
          have HMP := Lib.hid hm2
          clear hm2
          have HS0 : Hid (wr.cell? ⟨y.g, 0, none⟩ = some (.pointer (some ⟨y1.x.g, 0, none⟩))) := Lib.hid (by rw [← HG.out]; exact HT.out.scell)
          have HS4 : Hid (wr.cell? ⟨y.g, 4, none⟩ = some (I ℓ)) := Lib.hid (by rw [← HG.out]; exact HT.out.lcell)
          have HGY : Hid (y.g < wr.heap.size) := Lib.hid (by rw [← HG.out]; exact HT.out.has.lt)
          have hrt := ta_right (HT.out.after (show Below wr.heap.size wr wr.drew from (Below.refl _ _).drew)) hL hok hfi.vo.many
          rw [HG.out] at hrt
          have HRT := Lib.hid hrt
          have HT2 := HT
          have hgy2 := HGY.out
          clear hrt hfi hok HT
          go_upto_region 12 with fail
          go_cut [69] (fun s69 wx => s69 = .bool false ∧ Hid (Below wr.heap.size wr wx))
          case first =>
            refine wp_region_held_drew (S := fun wx => wx.cell? ⟨y.g, 0, none⟩ = some (.pointer (some ⟨y1.x.g, 0, none⟩)) ∧ wx.cell? ⟨y.g, 4, none⟩ = some (I ℓ)) (by kernel_rfl) ⟨HS0.out, HS4.out⟩ (fun hHeld => ?_)
            refine wpAnyH_take (i := 0) (oi := { dst := some 53, op := Op.move (Operand.tmp 13), type := 26, pos := "keep.go:371", after := #[], guard := none }) (v := .pointer (some ⟨y.g, 0, none⟩)) rfl (by kernel_rfl) (by kernel_rfl) (by kernel_rfl) (fun _ _ _ h => h) (Or.inl ⟨by rfl, ?_⟩) hHeld ?_
            · rintro wx ⟨hs0, hs1⟩
              go_simp
            simp only [Act.put, List.setIfInBounds_toArray, List.set_cons_zero, List.set_cons_succ]
            refine wpAnyH_ready (rs := [1]) (by kernel_rfl) (by simp) (AllReadyH.cons (o := { dst := some 54, op := Op.call { callee := Callee.value (Operand.func 15), args := #[Operand.tmp 53], argTypes := #[26] }, type := 4, pos := "keep.go:371", after := #[{ on := 0, ground := Ground.data }], guard := none }) rfl (fun K hK => ?_) AllReadyH.nil)
            go_simp
            go_at_call 15; refine HRT.out.mono ?_; rintro e wt ⟨rfl, hbt⟩; have HBT := Lib.hid hbt; clear hbt
            refine hK.out _ _ ⟨(HBT.out.cell (p := ⟨y.g, 0, none⟩) HGY.out).trans HS0.out, (HBT.out.cell (p := ⟨y.g, 4, none⟩) HGY.out).trans HS4.out⟩ (fun hHeld => ?_)
            clear hK K
            try simp only [Act.put, List.setIfInBounds_toArray, List.set_cons_zero, List.set_cons_succ]
            refine wpAnyH_take (i := 2) (oi := { dst := some 55, op := Op.unOp UnOp.not 4 (Operand.tmp 54), type := 4, pos := "keep.go:371", after := #[{ on := 1, ground := Ground.data }], guard := none }) (v := .bool false) rfl (by kernel_rfl) (by kernel_rfl) (by kernel_rfl) (fun _ _ _ h => h) (Or.inl ⟨by rfl, ?_⟩) hHeld ?_
            · rintro wx ⟨hs0, hs1⟩
              go_simp
            simp only [Act.put, List.setIfInBounds_toArray, List.set_cons_zero, List.set_cons_succ]
            refine wpAnyH_take (i := 3) (oi := { dst := some 56, op := Op.move (Operand.tmp 55), type := 4, pos := "keep.go:371", after := #[{ on := 2, ground := Ground.data }, { on := 1, ground := Ground.chain }], guard := none }) (v := .bool false) rfl (by kernel_rfl) (by kernel_rfl) (by kernel_rfl) (fun _ _ _ h => h) (Or.inl ⟨by rfl, ?_⟩) hHeld ?_
            · rintro wx ⟨hs0, hs1⟩
              go_simp
            simp only [Act.put, List.setIfInBounds_toArray, List.set_cons_zero, List.set_cons_succ]
            refine wpAnyH_take (i := 4) (oi := { dst := some 57, op := Op.move (Operand.tmp 13), type := 26, pos := "keep.go:371", after := #[{ on := 3, ground := Ground.guard }], guard := some (3, false) }) (v := .pointer (some ⟨y.g, 0, none⟩)) rfl (by kernel_rfl) (by kernel_rfl) (by kernel_rfl) (fun _ _ _ h => h) (Or.inl ⟨by rfl, ?_⟩) hHeld ?_
            · rintro wx ⟨hs0, hs1⟩
              go_simp
            simp only [Act.put, List.setIfInBounds_toArray, List.set_cons_zero, List.set_cons_succ]
            refine wpAnyH_take (i := 5) (oi := { dst := some 58, op := Op.nilCheck (Operand.tmp 57), type := 0, pos := "keep.go:371", after := #[{ on := 4, ground := Ground.data }, { on := 3, ground := Ground.guard }], guard := some (3, false) }) (v := .pointer (some ⟨y.g, 0, none⟩)) rfl (by kernel_rfl) (by kernel_rfl) (by kernel_rfl) (fun _ _ _ h => h) (Or.inl ⟨by rfl, ?_⟩) hHeld ?_
            · rintro wx ⟨hs0, hs1⟩
              go_simp
            simp only [Act.put, List.setIfInBounds_toArray, List.set_cons_zero, List.set_cons_succ]
            refine wpAnyH_take (i := 6) (oi := { dst := some 59, op := Op.fieldAddr 47 (Operand.tmp 58) 0, type := 0, pos := "keep.go:371", after := #[{ on := 5, ground := Ground.data }, { on := 3, ground := Ground.guard }], guard := some (3, false) }) (v := .pointer (some ⟨y.g, 0, none⟩)) rfl (by kernel_rfl) (by kernel_rfl) (by kernel_rfl) (fun _ _ _ h => h) (Or.inl ⟨by rfl, ?_⟩) hHeld ?_
            · rintro wx ⟨hs0, hs1⟩
              go_simp
            simp only [Act.put, List.setIfInBounds_toArray, List.set_cons_zero, List.set_cons_succ]
            refine wpAnyH_take (i := 7) (oi := { dst := some 60, op := Op.load 41 (Operand.tmp 59), type := 41, pos := "keep.go:371", after := #[{ on := 6, ground := Ground.data }, { on := 3, ground := Ground.guard }], guard := some (3, false) }) (v := .pointer (some ⟨y1.x.g, 0, none⟩)) rfl (by kernel_rfl) (by kernel_rfl) (by kernel_rfl) (fun _ _ _ h => h) (Or.inl ⟨by rfl, ?_⟩) hHeld ?_
            · rintro wx ⟨hs0, hs1⟩
              go_simp
            simp only [Act.put, List.setIfInBounds_toArray, List.set_cons_zero, List.set_cons_succ]
            refine wpAnyH_take (i := 9) (oi := { dst := some 62, op := Op.move (Operand.tmp 13), type := 26, pos := "keep.go:371", after := #[{ on := 3, ground := Ground.guard }], guard := some (3, false) }) (v := .pointer (some ⟨y.g, 0, none⟩)) rfl (by kernel_rfl) (by kernel_rfl) (by kernel_rfl) (fun _ _ _ h => h) (Or.inl ⟨by rfl, ?_⟩) hHeld ?_
            · rintro wx ⟨hs0, hs1⟩
              go_simp
            simp only [Act.put, List.setIfInBounds_toArray, List.set_cons_zero, List.set_cons_succ]
            refine wpAnyH_take (i := 10) (oi := { dst := some 63, op := Op.nilCheck (Operand.tmp 62), type := 0, pos := "keep.go:371", after := #[{ on := 9, ground := Ground.data }, { on := 3, ground := Ground.guard }], guard := some (3, false) }) (v := .pointer (some ⟨y.g, 0, none⟩)) rfl (by kernel_rfl) (by kernel_rfl) (by kernel_rfl) (fun _ _ _ h => h) (Or.inl ⟨by rfl, ?_⟩) hHeld ?_
            · rintro wx ⟨hs0, hs1⟩
              go_simp
            simp only [Act.put, List.setIfInBounds_toArray, List.set_cons_zero, List.set_cons_succ]
            refine wpAnyH_take (i := 11) (oi := { dst := some 64, op := Op.fieldAddr 47 (Operand.tmp 63) 2, type := 0, pos := "keep.go:371", after := #[{ on := 10, ground := Ground.data }, { on := 3, ground := Ground.guard }], guard := some (3, false) }) (v := .pointer (some ⟨y.g, 4, none⟩)) rfl (by kernel_rfl) (by kernel_rfl) (by kernel_rfl) (fun _ _ _ h => h) (Or.inl ⟨by rfl, ?_⟩) hHeld ?_
            · rintro wx ⟨hs0, hs1⟩
              go_simp
            simp only [Act.put, List.setIfInBounds_toArray, List.set_cons_zero, List.set_cons_succ]
            refine wpAnyH_take (i := 12) (oi := { dst := some 65, op := Op.load 3 (Operand.tmp 64), type := 3, pos := "keep.go:371", after := #[{ on := 11, ground := Ground.data }, { on := 3, ground := Ground.guard }], guard := some (3, false) }) (v := I ℓ) rfl (by kernel_rfl) (by kernel_rfl) (by kernel_rfl) (fun _ _ _ h => h) (Or.inl ⟨by rfl, ?_⟩) hHeld ?_
            · rintro wx ⟨hs0, hs1⟩
              go_simp
            simp only [Act.put, List.setIfInBounds_toArray, List.set_cons_zero, List.set_cons_succ]
            refine wpAnyH_take (i := 13) (oi := { dst := some 66, op := Op.binOp BinOp.shl 3 (Operand.const (Value.int IntKind.i64 1)) (Operand.tmp 65) 3, type := 3, pos := "keep.go:371", after := #[{ on := 12, ground := Ground.data }, { on := 3, ground := Ground.guard }], guard := some (3, false) }) (v := I m2) rfl (by kernel_rfl) (by kernel_rfl) (by kernel_rfl) (fun _ _ _ h => h) (Or.inl ⟨by rfl, ?_⟩) hHeld ?_
            · rintro wx ⟨hs0, hs1⟩
              have h4 : ℓ = 0 ∨ ℓ = 1 ∨ ℓ = 2 ∨ ℓ = 3 := by omega
              rcases h4 with rfl | rfl | rfl | rfl <;> (go_simp; rw [HMP.out]; rfl)
            simp only [Act.put, List.setIfInBounds_toArray, List.set_cons_zero, List.set_cons_succ]
            refine wpAnyH_ready (rs := [8]) (by kernel_rfl) (by simp) (AllReadyH.cons (o := { dst := some 61, op := Op.call { callee := Callee.value (Operand.func 16), args := #[Operand.tmp 60], argTypes := #[41] }, type := 3, pos := "keep.go:371", after := #[{ on := 7, ground := Ground.data }, { on := 3, ground := Ground.chain }, { on := 3, ground := Ground.guard }], guard := some (3, false) }) rfl (fun K hK => ?_) AllReadyH.nil)
            go_simp
            go_at_call 16; refine (sy_out (HT2.out.after ((show Below wr.heap.size wr wr.drew from (Below.refl _ _).drew).trans HBT.out)).sys).mono ?_; rintro e w' ⟨rfl, rfl⟩
            refine hK.out _ _ hHeld (fun hHeld => ?_)
            clear hK K
            try simp only [Act.put, List.setIfInBounds_toArray, List.set_cons_zero, List.set_cons_succ]
            refine wpAnyH_take (i := 14) (oi := { dst := some 67, op := Op.binOp BinOp.andNot 3 (Operand.tmp 61) (Operand.tmp 66) 3, type := 3, pos := "keep.go:371", after := #[{ on := 8, ground := Ground.data }, { on := 13, ground := Ground.data }, { on := 3, ground := Ground.guard }], guard := some (3, false) }) (v := I (bits .andNot .i64 (Tb.s.v.out : Int) m2)) rfl (by kernel_rfl) (by kernel_rfl) (by kernel_rfl) (fun _ _ _ h => h) (Or.inl ⟨by rfl, ?_⟩) hHeld ?_
            · rintro wx ⟨hs0, hs1⟩
              go_simp
            simp only [Act.put, List.setIfInBounds_toArray, List.set_cons_zero, List.set_cons_succ]
            refine wpAnyH_take (i := 15) (oi := { dst := some 68, op := Op.binOp BinOp.neq 3 (Operand.tmp 67) (Operand.const (Value.int IntKind.i64 0)) 3, type := 4, pos := "keep.go:371", after := #[{ on := 14, ground := Ground.data }, { on := 3, ground := Ground.guard }], guard := some (3, false) }) (v := .bool false) rfl (by kernel_rfl) (by kernel_rfl) (by kernel_rfl) (fun _ _ _ h => h) (Or.inl ⟨by rfl, ?_⟩) hHeld ?_
            · rintro wx ⟨hs0, hs1⟩
              go_simp
            simp only [Act.put, List.setIfInBounds_toArray, List.set_cons_zero, List.set_cons_succ]
            refine wpAnyH_take (i := 16) (oi := { dst := some 69, op := Op.pick (Operand.tmp 56) (Operand.const (Value.bool true)) (Operand.tmp 68), type := 4, pos := "keep.go:371", after := #[{ on := 3, ground := Ground.data }, { on := 15, ground := Ground.data }], guard := none }) (v := .bool false) rfl (by kernel_rfl) (by kernel_rfl) (by kernel_rfl) (fun _ _ _ h => h) (Or.inl ⟨by rfl, ?_⟩) hHeld ?_
            · rintro wx ⟨hs0, hs1⟩
              go_simp
            simp only [Act.put, List.setIfInBounds_toArray, List.set_cons_zero, List.set_cons_succ]
            refine wpAnyH_done (by kernel_rfl) ?_ _
            go_wp2_with fail
            go_meet
            case rel => exact ⟨rfl, Lib.hid ((show Below wr.heap.size wr wr.drew from (Below.refl _ _).drew).trans HBT.out)⟩
          case rest =>
            obtain ⟨rfl, HBX⟩ := hcut
            have HTX := Lib.hid (HT2.out.after HBX.out)
            have HBXX := Lib.hid (HB.out.trans (HBX.out.mono HB.out.size))
            clear HT2 HB HBX HS0 HS4 HGY HRT hgy2 tO HMP
            have s0 := HTX.out.scell
            rw [HG.out] at s0
            have hgx : y.g < wc.heap.size := by rw [← HG.out]; exact HTX.out.has.lt
            go_upto_region 15 with (go_at_call 12; refine (sy_trace HTX.out.sys HMANY.out).mono ?_; rintro e w3 ⟨⟨vr, rfl, ho⟩, hb3⟩)
            obtain ⟨AT, cT, rfl, hcT, _⟩ := own_cms ho
            have HO3 : Hid (w3.ownsRow 0 50 3 (.slice AT Tb.s.v.trace.length cT) Tb.s.v.trace.length (cmsC Tb.s.v.trace)) := Lib.hid (own_base ho (Nat.zero_le _))
            have HT3 := Lib.hid (HTX.out.after hb3)
            have HB3 := Lib.hid (HBXX.out.trans (hb3.mono HBXX.out.size))
            have HREP : Hid (∀ k, k < 3 → k ≠ ℓ → (re Tb.s k).cycle ≤ Tb.s.v.trace.length ∧ (re Tb.s k).state = foldN L Tb.s.v.trace (re Tb.s k).cycle) := Lib.hid (fun k h1 h2 => ⟨(HOK.out.sys.reps k h1 h2).cycle, (HOK.out.sys.reps k h1 h2).state⟩)
            clear ho hb3 s0 hgx HTX HBXX HOK hcT
            generalize ht : Tb.s.v.trace = t at *
            clear ht
            go_wp2_with fail
            go_loopw [16] (fun kv wr => ∃ k : Nat, k ≤ 3 ∧ kv = I k ∧ Hid (TaAt wr b1 y1 L ℓ Tb) ∧ Hid (wr.ownsRow 0 50 3 (.slice AT t.length cT) t.length (cmsC t)) ∧ Hid (Below w.heap.size w wr)) (fun kv _ => 3 - (intOf kv).toNat)
            case atStart => exact ⟨0, by omega, rfl, HT3, HO3, HB3⟩
            case round =>
              clear HT3 HO3 HB3
              obtain ⟨k, hk, rfl, HT4, HO4, HB4⟩ := hrel
              by_cases hk3 : k < 3
              · have HK3 := Lib.hid hk3
                have hki : (k : Int) < 3 := by omega
                have s0 := HT4.out.scell
                rw [HG.out] at s0
                have hgx : y.g < wr.heap.size := by rw [← HG.out]; exact HT4.out.has.lt
                have HCR := Lib.hid (sy_replica HT4.out.sys HFI.out k hk3)
                have hfs := (HFI.out.fits k hk3).state
                have HREK := Lib.hid (HREP.out k hk3)
                have HN := Lib.hid (stL_17 hfs)
                have HF18 := Lib.hid hfs
                clear hfs hk hk3
                generalize (re Tb.s k).state = sr at *
                generalize (re Tb.s k).cycle = n at *
                have hi18 : (Try.prog.info? 33).map (·.size) = some (stC sr).size := by unfold stC; rw [List.size_toArray, HN.out]; exact infoState
                have hz18 : (stC St.zero).size = (stC sr).size := by unfold stC; rw [List.size_toArray, List.size_toArray, HN.out]; rfl
                go_upto_region 19 with (first
                  | (go_at_call 17; refine HCR.out.mono ?_; rintro e wR ⟨rfl, hbR⟩; have HBR := Lib.hid hbR; clear hbR)
                  | (rw [← zeroState]; refine wpList_store_row rfl 33 (.tmp 18) (.tmp 87) rfl wR.heap.size (stC sr) rfl rfl 33 (stC St.zero) (Has.new wR 33 (stC St.zero)) hi18 hz18 (stC_ones _) ?_))
                have hb5 : Below wr.heap.size wr ((wR.alloc (.cells (stC St.zero) 33)).setRow wR.heap.size (stC sr)) := HBR.out.trans ((below_setRow ((Below.refl _ _).alloc (Nat.le_refl _) _) (Nat.le_refl _) _).mono HBR.out.size)
                have K18 := Lib.hid ((Has.new wR 33 (stC St.zero)).setRow (stC sr))
                generalize (wR.alloc (.cells (stC St.zero) 33)).setRow wR.heap.size (stC sr) = w5 at *
                generalize wR.heap.size = g18 at *
                have HT5 := Lib.hid (HT4.out.after hb5)
                have HO5 := Lib.hid (own_after HO4.out hb5)
                have HB5 := Lib.hid (HB4.out.trans (hb5.mono HB4.out.size))
                clear hb5 HBR HCR s0 hgx HT4 HO4 HB4 hz18
                have d4 := HT5.out.lcell
                rw [HG.out] at d4
                have hg5 : y.g < w5.heap.size := by rw [← HG.out]; exact HT5.out.has.lt
                by_cases hkl : k = ℓ
                · have t1 : ((k : Int) == (ℓ : Int)) = true := by rw [hkl]; simp
                  clear hkl
                  by_cases hbig : t.length < n
                  · have hbi : (t.length : Int) < (n : Int) := by omega
                    clear hbig
                    go_wp2_with fail
                    go_ret
                    exact ⟨rfl, HB5.out⟩
                  · have hbi : ¬ (t.length : Int) < (n : Int) := by omega
                    clear hbig
                    go_wp2_with fail
                    go_roundw
                    case rel => exact ⟨k + 1, HK3.out, by go_num, HT5, HO5, HB5⟩
                    case measure => have := HK3.out; simp [intOf]; omega
                · have t1 : ((k : Int) == (ℓ : Int)) = false := by simpa using (fun e => hkl (by omega) : ¬ (k : Int) = (ℓ : Int))
                  obtain ⟨hnl, hsr⟩ := HREK.out hkl
                  have hbi : ¬ (t.length : Int) < (n : Int) := by omega
                  have HNL := Lib.hid hnl
                  have HSR := Lib.hid hsr
                  clear hkl hnl hsr
                  obtain ⟨AL, cL, hvr, hcL, _, _, hrl⟩ := own_read HT5.out.routes
                  have d1 := HT5.out.has.cellv 1 (I L.secs) rfl
                  have d2 := HT5.out.has.cellv 2 y1.vr rfl
                  have d3 := HT5.out.has.cellv 3 (I L.delay) rfl
                  rw [hvr, HG.out] at d2
                  rw [HG.out] at d1 d3
                  have HNEW := Lib.hid (new_ok AL L.routes.length cL L w5 hL (Lib.hid rfl) hcL hrl)
                  clear hvr hcL hrl
                  go_upto_region 26 with (go_at_call 18; refine HNEW.out.mono ?_; rintro e wn ⟨⟨gc, hgc, rfl, hco⟩, hbn⟩; have HCO := Lib.hid hco; have HBN := Lib.hid hbn; clear hco hbn)
                  have k21 := Has.new wn 33 (stC St.zero)
                  have hb7 : Below wn.heap.size wn (wn.alloc (.cells (stC St.zero) 33)) := (Below.refl _ _).alloc (Nat.le_refl _) _
                  have hn18 : g18 ≠ wn.heap.size := Nat.ne_of_lt (Nat.lt_of_lt_of_le K18.out.lt HBN.out.size)
                  have HR7 : Hid (RgAt w5 (wn.alloc (.cells (stC St.zero) 33)) w5.heap.size wn.heap.size gc L (foldN L t 0) AT cT t) := Lib.hid ⟨HBN.out.trans (hb7.mono HBN.out.size), HCO.out.after hb7, by rw [foldN_zero]; exact k21, own_after (own_after HO5.out HBN.out) hb7, HBN.out.size, Nat.le_trans HBN.out.size hb7.size⟩
                  have K187 := Lib.hid ((K18.out.after HBN.out).after hb7)
                  rw [← zeroState]
                  generalize wn.alloc (.cells (stC St.zero) 33) = w7 at *
                  generalize wn.heap.size = g21 at *
                  clear d1 d2 d3 d4 hg5 hgc HCO HBN hb7 k21 HNEW HO5 K18 HREK HREP
                  go_wp2_with fail
                  go_loopw [22] (fun jv wr => ∃ j : Nat, j ≤ n ∧ jv = I j ∧ Hid (RgAt w5 wr w5.heap.size g21 gc L (foldN L t j) AT cT t) ∧ Hid (Has wr g18 33 (stC sr))) (fun jv _ => n - (intOf jv).toNat)
                  case atStart => exact ⟨0, Nat.zero_le _, rfl, HR7, K187⟩
                  case round =>
                    clear HR7 K187
                    obtain ⟨j, hj, rfl, HR, K18⟩ := hrel
                    by_cases hjn : j < n
                    · obtain ⟨cm, hcm⟩ := some_at t j (by have := HNL.out; omega)
                      obtain ⟨b, hA⟩ := HR.out.addr hcm
                      subst hA
                      have HCM := Lib.hid hcm
                      have HSN := Lib.hid (foldN_succ (L := L) hcm)
                      have htl := HMANY.out
                      have HF : Hid ((foldN L t j).Fits 8000) := Lib.hid ((fold_fits (t := t) hL j).mono (by omega))
                      have HFN : Hid ((step L cm.1 cm.2.1 (foldN L t j)).1.Fits 8008) := Lib.hid (step_fits hL HF.out)
                      have HRD := Lib.hid (HR.out.after (show Below wr.heap.size wr wr.drew from (Below.refl _ _).drew))
                      have hji : (j : Int) < (n : Int) := by omega
                      have hjt : (j : Int) < (t.length : Int) := by have := HNL.out; omega
                      have HJN := Lib.hid hjn
                      have hjb : j ≤ 1000 := by have := HNL.out; omega
                      clear hcm hj hjn
                      generalize foldN L t j = s at *
                      have HSI : Hid ((Try.prog.info? 33).map (·.size) = some (stL s).length) := Lib.hid (by rw [stL_17 HF.out]; exact infoState)
                      have hiN : (Try.prog.info? 33).map (·.size) = some (stC (step L cm.1 cm.2.1 s).1).size := by unfold stC; rw [List.size_toArray, stL_17 HFN.out]; exact infoState
                      have hzN : (stC s).size = (stC (step L cm.1 cm.2.1 s).1).size := by unfold stC; rw [List.size_toArray, List.size_toArray, stL_17 HFN.out, stL_17 HF.out]
                      go_wp2_with fail
                      refine wp_region_held_drew (S := fun wx => wx.cell? ⟨b, j * 3, none⟩ = some (I cm.1) ∧ wx.cell? ⟨b, j * 3 + 1, none⟩ = some (I cm.2.1)) (by kernel_rfl) (HRD.out.S HCM.out rfl).2 (fun hHeld => ?_)
                      refine wpAnyH_take (i := 0) (oi := { dst := some 133, op := Op.move (Operand.tmp 20), type := 56, pos := "keep.go:389", after := #[], guard := none }) (v := .pointer (some ⟨gc, 0, none⟩)) rfl (by kernel_rfl) (by kernel_rfl) (by kernel_rfl) (fun _ _ _ h => h) (Or.inl ⟨by rfl, ?_⟩) hHeld ?_
                      · rintro wx ⟨hs0, hs1⟩
                        go_simp
                      simp only [Act.put, List.setIfInBounds_toArray, List.set_cons_zero, List.set_cons_succ]
                      refine wpAnyH_take (i := 2) (oi := { dst := some 135, op := Op.move (Operand.tmp 15), type := 40, pos := "keep.go:389", after := #[], guard := none }) (v := .slice (some ⟨b, 0, none⟩) t.length cT) rfl (by kernel_rfl) (by kernel_rfl) (by kernel_rfl) (fun _ _ _ h => h) (Or.inl ⟨by rfl, ?_⟩) hHeld ?_
                      · rintro wx ⟨hs0, hs1⟩
                        go_simp
                      simp only [Act.put, List.setIfInBounds_toArray, List.set_cons_zero, List.set_cons_succ]
                      refine wpAnyH_take (i := 3) (oi := { dst := some 136, op := Op.move (Operand.tmp 22), type := 3, pos := "keep.go:389", after := #[], guard := none }) (v := I j) rfl (by kernel_rfl) (by kernel_rfl) (by kernel_rfl) (fun _ _ _ h => h) (Or.inl ⟨by rfl, ?_⟩) hHeld ?_
                      · rintro wx ⟨hs0, hs1⟩
                        go_simp
                      simp only [Act.put, List.setIfInBounds_toArray, List.set_cons_zero, List.set_cons_succ]
                      refine wpAnyH_take (i := 4) (oi := { dst := some 137, op := Op.indexAddr 40 (Operand.tmp 135) (Operand.tmp 136), type := 0, pos := "keep.go:389", after := #[{ on := 2, ground := Ground.data }, { on := 3, ground := Ground.data }], guard := none }) (v := .pointer (some ⟨b, j * 3, none⟩)) rfl (by kernel_rfl) (by kernel_rfl) (by kernel_rfl) (fun _ _ _ h => h) (Or.inl ⟨by rfl, ?_⟩) hHeld ?_
                      · rintro wx ⟨hs0, hs1⟩
                        go_simp
                      simp only [Act.put, List.setIfInBounds_toArray, List.set_cons_zero, List.set_cons_succ]
                      refine wpAnyH_take (i := 5) (oi := { dst := some 138, op := Op.fieldAddr 50 (Operand.tmp 137) 0, type := 0, pos := "keep.go:389", after := #[{ on := 4, ground := Ground.data }], guard := none }) (v := .pointer (some ⟨b, j * 3, none⟩)) rfl (by kernel_rfl) (by kernel_rfl) (by kernel_rfl) (fun _ _ _ h => h) (Or.inl ⟨by rfl, ?_⟩) hHeld ?_
                      · rintro wx ⟨hs0, hs1⟩
                        go_simp
                      simp only [Act.put, List.setIfInBounds_toArray, List.set_cons_zero, List.set_cons_succ]
                      refine wpAnyH_take (i := 6) (oi := { dst := some 139, op := Op.load 30 (Operand.tmp 138), type := 30, pos := "keep.go:389", after := #[{ on := 5, ground := Ground.data }], guard := none }) (v := .agg #[I cm.1, I cm.2.1]) rfl (by kernel_rfl) (by kernel_rfl) (by kernel_rfl) (fun _ _ _ h => h) (Or.inl ⟨by rfl, ?_⟩) hHeld ?_
                      · rintro wx ⟨hs0, hs1⟩
                        go_simp
                      simp only [Act.put, List.setIfInBounds_toArray, List.set_cons_zero, List.set_cons_succ]
                      refine wpAnyH_ready (rs := [1]) (by kernel_rfl) (by simp) (AllReadyH.cons (o := { dst := some 134, op := Op.load 33 (Operand.tmp 21), type := 33, pos := "keep.go:389", after := #[], guard := none }) rfl (fun K hK => ?_) AllReadyH.nil)
                      rw [if_pos (by rfl)]
                      refine wp_load_mid 33 (.tmp 21) rfl g21 0 rfl (stL s) _ (HRD.out.S HCM.out rfl).1 Try.underlying33 rfl HSI.out ?_
                      refine hK.out _ _ hHeld (fun hHeld => ?_)
                      clear hK K
                      try simp only [Act.put, List.setIfInBounds_toArray, List.set_cons_zero, List.set_cons_succ]
                      refine wpAnyH_ready (rs := [7]) (by kernel_rfl) (by simp) (AllReadyH.cons (o := { dst := some 140, op := Op.call { callee := Callee.value (Operand.func 19), args := #[Operand.tmp 133, Operand.tmp 134, Operand.tmp 139], argTypes := #[56, 33, 30] }, type := 59, pos := "keep.go:389", after := #[{ on := 0, ground := Ground.data }, { on := 1, ground := Ground.data }, { on := 6, ground := Ground.data }], guard := none }) rfl (fun K hK => ?_) AllReadyH.nil)
                      go_simp
                      go_at_call 19; refine (step_ok gc L s 8000 cm.1 cm.2.1 _ hL (by decide) HF.out HRD.out.core).mono ?_; rintro e wt ⟨rfl, hbt⟩; have HRT := Lib.hid (HRD.out.after hbt); have K18T := Lib.hid (K18.out.drew.after hbt); clear hbt
                      refine hK.out _ _ (HRT.out.S HCM.out rfl).2 (fun hHeld => ?_)
                      clear hK K
                      try simp only [Act.put, List.setIfInBounds_toArray, List.set_cons_zero, List.set_cons_succ]
                      refine wpAnyH_take (i := 8) (oi := { dst := some 132, op := Op.move (Operand.tmp 140), type := 59, pos := "keep.go:389", after := #[{ on := 7, ground := Ground.data }], guard := none }) (v := .tuple #[.agg (stC (step L cm.1 cm.2.1 s).1), I (step L cm.1 cm.2.1 s).2]) rfl (by kernel_rfl) (by kernel_rfl) (by kernel_rfl) (fun _ _ _ h => h) (Or.inl ⟨by rfl, ?_⟩) hHeld ?_
                      · rintro wx ⟨hs0, hs1⟩
                        go_simp
                      simp only [Act.put, List.setIfInBounds_toArray, List.set_cons_zero, List.set_cons_succ]
                      refine wpAnyH_take (i := 9) (oi := { dst := some 141, op := Op.extract (Operand.tmp 132) 0, type := 33, pos := "keep.go:389", after := #[{ on := 8, ground := Ground.data }], guard := none }) (v := .agg (stC (step L cm.1 cm.2.1 s).1)) rfl (by kernel_rfl) (by kernel_rfl) (by kernel_rfl) (fun _ _ _ h => h) (Or.inl ⟨by rfl, ?_⟩) hHeld ?_
                      · rintro wx ⟨hs0, hs1⟩
                        go_simp
                      simp only [Act.put, List.setIfInBounds_toArray, List.set_cons_zero, List.set_cons_succ]
                      refine wpAnyH_take (i := 10) (oi := { dst := some 142, op := Op.extract (Operand.tmp 132) 1, type := 3, pos := "keep.go:389", after := #[{ on := 8, ground := Ground.data }, { on := 11, ground := Ground.gcOnly Departure.lateStores }], guard := none }) (v := I (step L cm.1 cm.2.1 s).2) rfl (by kernel_rfl) (by kernel_rfl) (by kernel_rfl) (fun _ _ _ h => h) (Or.inl ⟨by rfl, ?_⟩) hHeld ?_
                      · rintro wx ⟨hs0, hs1⟩
                        go_simp
                      simp only [Act.put, List.setIfInBounds_toArray, List.set_cons_zero, List.set_cons_succ]
                      refine wpAnyH_ready (rs := [11]) (by kernel_rfl) (by simp) (AllReadyH.cons (o := { dst := none, op := Op.store 33 (Operand.tmp 21) (Operand.tmp 141), type := 0, pos := "keep.go:389", after := #[{ on := 9, ground := Ground.data }, { on := 7, ground := Ground.chain }, { on := 0, ground := Ground.phase }, { on := 1, ground := Ground.phase }, { on := 2, ground := Ground.phase }, { on := 3, ground := Ground.phase }, { on := 4, ground := Ground.phase }, { on := 5, ground := Ground.phase }, { on := 6, ground := Ground.phase }, { on := 7, ground := Ground.phase }, { on := 8, ground := Ground.phase }, { on := 9, ground := Ground.phase }, { on := 10, ground := Ground.textOnly Departure.lateStores }], guard := none }) rfl (fun K hK => ?_) AllReadyH.nil)
                      rw [if_pos (by rfl)]
                      refine wp_store_row 33 (.tmp 21) (.tmp 141) rfl g21 (stC (step L cm.1 cm.2.1 s).1) rfl rfl 33 (stC s) HRT.out.st hiN hzN (stC_ones _) ?_
                      have HRS := Lib.hid (HRT.out.set (step L cm.1 cm.2.1 s).1)
                      have KS := Lib.hid (K18T.out.farRow (fun e => hn18 e) (stC (step L cm.1 cm.2.1 s).1))
                      refine hK.out _ _ (HRS.out.S HCM.out rfl).2 (fun hHeld => ?_)
                      clear hK K
                      refine wpAnyH_done (by kernel_rfl) ?_ _
                      go_wp2_with fail
                      go_roundw
                      case rel => exact ⟨j + 1, HJN.out, by go_num, by rw [HSN.out]; exact HRS, KS⟩
                      case measure => have := HJN.out; simp [intOf]; omega
                    · have hjn2 : j = n := by omega
                      subst hjn2
                      rw [← HSR.out] at HR
                      have hji : ¬ (j : Int) < (j : Int) := by omega
                      have HT8 := Lib.hid (HT5.out.after HR.out.below)
                      have HB8 := Lib.hid (HB5.out.trans (HR.out.below.mono HB5.out.size))
                      have HK21 := Lib.hid HR.out.st
                      have htl := HMANY.out
                      have hfit : Hid (Fit (List.replicate 17 (some .i64)) (stC sr).toList) := Lib.hid (by
                        rw [HSR.out]
                        exact fit_state (fold_fits (t := t) hL j) (by omega))
                      clear hj hjn
                      go_wp2_with (first
                        | (refine wpList_load_row rfl 33 (.tmp 21) rfl g21 rfl 33 (stC sr) (0, 0) _ HK21.out Try.underlying33 rfl hi18 ?_)
                        | (refine wpList_load_row rfl 33 (.tmp 18) rfl g18 rfl 33 (stC sr) (0, 0) _ K18.out Try.underlying33 rfl hi18 ?_)
                        | (refine wpList_taken rfl (fun K hK => wp_neq_row 33 33 5 (stC sr) (stC sr) (List.replicate 17 (some .i64)) (.tmp 143) (.tmp 144) rfl rfl rfl (by decide) (by kernel_rfl) sigState (by kernel_rfl) (by kernel_rfl) (by kernel_rfl) hfit.out hfit.out true (by simp) (hK _ _ ?_))))
                      go_roundw
                      case rel => exact ⟨k + 1, HK3.out, by go_num, HT8, Lib.hid HR.out.row, HB8⟩
                      case measure => have := HK3.out; simp [intOf]; omega
              · have hki : ¬ (k : Int) < 3 := by omega
                clear hk hk3
                go_wp2
                go_ret
                exact ⟨rfl, HB4.out⟩
end
end Go.Proofs.Ytdhekhlmdefcnab
