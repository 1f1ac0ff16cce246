/- Part 33 of the proof: TaRest, TaRan, TaTo. -/
import Derived.Test.YtdhekhlmdefcnabPart32
import Derived.Test.YtdhekhlmdefcnabPart12
namespace Go.Proofs.Ytdhekhlmdefcnab
open Go.RowKit
def StepsAt (w : World) (B : Nat) (A : Option Addr) (l : List Stp) : Prop := ∀ i x, l[i]? = some x → ∃ b o A' c, A = some ⟨b, o, none⟩ ∧ b < B ∧ w.rangeAt b (o + i * 29) (stpC x (.slice A' x.bytes.length c)).toList ∧ Wf x.frame ∧ I64 x.c ∧ I64 x.w ∧ x.bytes.length ≤ c ∧ Reads w B A' (bytes x.bytes)
theorem StepsAt.below {w w' : World} {B : Nat} {A : Option Addr} {l : List Stp} (h : StepsAt w B A l) (hb : Below B w w') : StepsAt w' B A l := fun i x hx => by
 obtain ⟨b, o, A', c, h1, h2, h3, h4, h5, h6, h7, h8⟩ := h i x hx
 exact ⟨b, o, A', c, h1, h2, fun j v hv => (hb.cell (p := ⟨b, _, none⟩) h2).trans (h3 j v hv), h4, h5, h6, h7, h8.below hb⟩
theorem does_fine {L : Lay} {ℓ N : Nat} {Ta : Tale} {T : Nat} (hL : L.Ok) (hN : N = 1200) (hℓ : ℓ ≤ 3) (h : Fine T Ta.s) (x : Stp) (h1 : I64 x.c) (h2 : I64 x.w) : Fine (T + 160000) (does L ℓ N Ta x).s := by
 have hk := pkN_lt x.k (n := 3) (by decide)
 have hto : toWhom ℓ x.n ≤ 3 := by unfold toWhom; omega
 unfold does
 dsimp only
 by_cases e0 : x.what = 0
 ·rw [if_pos e0]; exact (h.see hk ⟨h1, h2⟩).mono (by omega)
 rw [if_neg e0]
 by_cases e1 : x.what = 1
 ·rw [if_pos e1]; exact (h.tickR hL hk).mono (by omega)
 rw [if_neg e1]
 by_cases e2 : x.what = 2
 ·rw [if_pos e2]; exact (h.asks hk).mono (by omega)
 rw [if_neg e2]
 by_cases e3 : x.what = 3
 ·rw [if_pos e3]; exact (h.deliver hL _).mono (by omega)
 rw [if_neg e3]
 by_cases e4 : x.what = 4
 ·rw [if_pos e4]; exact (h.lose _).mono (by omega)
 rw [if_neg e4]
 by_cases e5 : x.what = 5
 ·rw [if_pos e5]; exact (h.twice _).mono (by omega)
 rw [if_neg e5]
 by_cases e6 : x.what = 6
 ·rw [if_pos e6]; exact (h.spoil _ _ _).mono (by omega)
 rw [if_neg e6]
 by_cases e7 : x.what = 7
 ·rw [if_pos e7]; exact (h.crash hk).mono (by omega)
 rw [if_neg e7]
 by_cases e8 : x.what = 8
 ·rw [if_pos e8]
  split
  ·exact (h.says _ hℓ hto).mono (by omega)
  ·exact h.mono (by omega)
 rw [if_neg e8]
 by_cases e9 : x.what = 9
 ·rw [if_pos e9]
  split
  ·exact (h.says _ hℓ hto).mono (by omega)
  ·exact h.mono (by omega)
 rw [if_neg e9]
 by_cases e10 : x.what = 10
 ·rw [if_pos e10]
  have h4 := pkN_lt x.n (n := 4) (by decide)
  refine (Fine.calm hL N (pkN x.n 4) h).mono ?_
  rw [hN]
  omega
 rw [if_neg e10]
 by_cases e11 : x.what = 11
 ·rw [if_pos e11]; exact h.voTick.mono (by omega)
 rw [if_neg e11]
 by_cases e12 : x.what = 12
 ·rw [if_pos e12]; exact h.latch.mono (by omega)
 rw [if_neg e12]
 exact h.mono (by omega)
theorem new_fine {n : Int} (h1 : 1 ≤ n) (h2 : n ≤ 20) : Fine 0 (Sys.new n) := by
 refine ⟨rfl, fun k hk => ?_, voNew_wf h1 h2, (fun c hc => by cases hc), (fun y hy => ?_), Nat.zero_le _, Nat.le_refl _, (fun g hg => by cases hg)⟩
 ·have : k = 0 ∨ k = 1 ∨ k = 2 := by omega
  rcases this with rfl | rfl | rfl
  ·exact new_fits (by decide)
  ·exact new_fits (by decide)
  ·exact new_fits (by decide)
 ·have e : y = (Cm.zero, false) := List.eq_of_mem_replicate (n := 3) hy
  rw [e]; exact cm64_zero
theorem SyAt.base {w : World} {B B' : Nat} {x : SyX} {L : Lay} {s : Sys} (h : SyAt w B' x L s) (hB : B ≤ B') : SyAt w B x L s :=
 ⟨h.has, h.routes, h.n3, h.rep, h.apart, ⟨h.vo.has, own_base h.vo.own hB, Nat.le_trans hB h.vo.low⟩, own_base h.way hB, h.len, h.bytes, Nat.le_trans hB h.low, fun k hk => Nat.le_trans hB (h.lows k hk)⟩
section
variable {w w' w1 : World} {B : Nat} {y y' : TaX} {L : Lay} {ℓ : Nat} {Ta : Tale} {T : Nat}
def fitsB (l : List Stp) : Bool := decide (l.length ≤ 120) && l.all fun x => decide (x.bytes.length ≤ 200)
set_option maxHeartbeats 2000000 in
set_option maxRecDepth 100000 in
theorem fits_ok (A : Option Addr) (c : Nat) (l : List Stp) (hs : StepsAt w B A l) : Calls Try.prog 7 #[.slice A l.length c] w fun e w' => e = .returned (.bool (fitsB l)) ∧ w = w' := by
 by_cases h120 : 120 < l.length
 ·have HE : Hid (fitsB l = false) := Lib.hid (by unfold fitsB; rw [decide_eq_false (by omega)]; rfl)
  have hi : (120 : Int) < (l.length : Int) := by omega
  go_enter Try.func7, Try.ntmps7
  go_wp2
  go_ret
  exact ⟨by rw [HE.out]; rfl, rfl⟩
 ·have hi : ¬ (120 : Int) < (l.length : Int) := by omega
  have HS := Lib.hid hs
  have H120 := Lib.hid h120
  clear hs h120
  go_enter Try.func7, Try.ntmps7
  go_wp2_with fail
  go_loopw [3] (fun iv wr => ∃ j : Nat, j ≤ l.length ∧ iv = I j ∧ w = wr ∧ Hid (∀ i x, i < j → l[i]? = some x → x.bytes.length ≤ 200)) (fun iv _ => l.length - (intOf iv).toNat)
  case atStart => exact ⟨0, Nat.zero_le _, rfl, rfl, Lib.hid (fun i x hi => by omega)⟩
  case round =>
   obtain ⟨j, hj, rfl, rfl, HJ⟩ := hrel
   by_cases hlt : j < l.length
   ·obtain ⟨x, hx⟩ := some_at l j hlt
    obtain ⟨b, o, A', c', rfl, _, hr, hw, _⟩ := HS.out j x hx
    have c28 : w.cell? ⟨b, o + j * 29 + 28, none⟩ = some (.slice A' x.bytes.length c') := hr 28 _ (by rw [Array.getElem?_toList]; exact stpC_28 hw.1 _)
    have HX := Lib.hid hx
    have HLT := Lib.hid hlt
    have hji : (j : Int) < (l.length : Int) := by omega
    clear hr hx
    by_cases hbig : 200 < x.bytes.length
    ·have HE : Hid (fitsB l = false) := Lib.hid (by
      unfold fitsB
      rw [Bool.and_eq_false_iff]
      refine .inr (List.all_eq_false.2 ⟨x, List.mem_of_getElem? HX.out, by simpa using hbig⟩))
     have hbi : (200 : Int) < (x.bytes.length : Int) := by omega
     clear hbig
     go_wp2
     go_ret
     exact ⟨by rw [HE.out]; rfl, rfl⟩
    ·have hbi : ¬ (200 : Int) < (x.bytes.length : Int) := by omega
     have HN : Hid (∀ i z, i < j + 1 → l[i]? = some z → z.bytes.length ≤ 200) := Lib.hid (fun i z hi hz => by
      by_cases e : i = j
      ·subst e
       rw [HX.out] at hz
       injection hz with hz
       subst hz
       omega
      ·exact HJ.out i z (by omega) hz)
     clear hbig
     go_wp2_with fail
     go_roundw
     case rel => exact ⟨j + 1, HLT.out, by rfl, trivial, HN⟩
     case measure => have := HLT.out; simp [intOf]; omega
   ·have HE : Hid (fitsB l = true) := Lib.hid (by
     unfold fitsB
     rw [Bool.and_eq_true]
     refine ⟨by have := H120.out; simpa using this, List.all_eq_true.2 fun x hx => ?_⟩
     obtain ⟨i, hi, e⟩ := List.getElem_of_mem hx
     simpa using HJ.out i x (by omega) (by rw [List.getElem?_eq_getElem hi, e]))
    have hji : ¬ (j : Int) < (l.length : Int) := by omega
    clear hlt
    go_wp2
    go_ret
    exact ⟨by rw [HE.out]; rfl, rfl⟩
set_option maxHeartbeats 4000000 in
set_option maxRecDepth 100000 in
theorem tells_at (a d : Int) (A : Option Addr) (c : Nat) (xs : List Int) (win liar : Int) (hx : xs.length ≤ 30) (hr : Reads w w.heap.size A (ints xs)) :
  Calls Try.prog 9 #[I a, I d, .slice A xs.length c, I win, I liar] w fun e w' => (∃ (y : TaX) (L : Lay) (wi : Int), L.Ok ∧ 1 ≤ wi ∧ wi ≤ 20 ∧ e = .returned (.pointer (some ⟨y.g, 0, none⟩)) ∧ TaAt w' w.heap.size y L (pkN liar 4) (tale0 wi) ∧ y.g < w'.heap.size ∧ wi = 3 + (pkN win 18 : Nat)) ∧ Below w.heap.size w w' := by
 have HLN := Lib.hid (line_any a d A c xs w hx hr)
 have hp4 := pkN_lt liar (n := 4) (by decide)
 go_enter Try.func9, Try.ntmps9
 go_upto_region 2 with (first
  | (go_at_call 25; refine HLN.out.mono ?_; rintro e w1 ⟨⟨L, hL, A1, c1, rfl, ho1⟩, hb1⟩; have HO1 := Lib.hid ho1; have HB1 := Lib.hid hb1; clear ho1 hb1)
  | (go_at_call 26; refine (pick_nat liar 4 (by decide) (by decide) _).mono ?_; rintro e w' ⟨rfl, he⟩; cases he.symm))
 have kt := Has.new w1 47 #[.pointer none, I L.secs, .slice A1 L.routes.length c1, I L.delay, I (pkN liar 4 : Nat), I 0, I 0, I 0, I 0, I 0, I 0, .slice none 0 0]
 have hb2 : Below w1.heap.size w1 (w1.alloc (.cells #[.pointer none, I L.secs, .slice A1 L.routes.length c1, I L.delay, I (pkN liar 4 : Nat), I 0, I 0, I 0, I 0, I 0, I 0, .slice none 0 0] 47)) := (Below.refl _ _).alloc (Nat.le_refl _) _
 have HO2 := Lib.hid (own_after HO1.out hb2)
 have HB2 := Lib.hid (HB1.out.trans (hb2.mono HB1.out.size))
 have hw1 := HB1.out.size
 have KT := Lib.hid kt
 clear hb2 HO1 HB1 HLN kt
 generalize w1.alloc (.cells #[.pointer none, I L.secs, .slice A1 L.routes.length c1, I L.delay, I (pkN liar 4 : Nat), I 0, I 0, I 0, I 0, I 0, I 0, .slice none 0 0] 47) = w2 at *
 generalize w1.heap.size = gt at *
 have hgt := KT.out.lt
 obtain ⟨_, _, e1, hc1, _, _, hrd⟩ := own_read HO2.out
 injection e1 with e11 e12 e13
 subst e11 e13
 have hp18 := pkN_lt win (n := 18) (by decide)
 have HC := Lib.hid (sy_new A1 L.routes.length c1 L w2.drew hL (Lib.hid rfl) hc1 hrd (3 + (pkN win 18 : Nat)) (by omega) (by omega))
 have hwr1 : IntKind.i64.wrap (3 + ((pkN win 18 : Nat) : Int)) = 3 + ((pkN win 18 : Nat) : Int) := wr64 (by omega) (by omega)
 go_cut [12, 13] (fun s12 s13 wx => ∃ x, s12 = .pointer (some ⟨x.g, 0, none⟩) ∧ s13 = .nilIface ∧ Hid (SyAt wx w2.heap.size x L (Sys.new (3 + (pkN win 18 : Nat))) ∧ Below w2.heap.size w2 wx))
 case first =>
  refine wp_region_held_drew (S := fun wx => (wx.cell? ⟨gt, 1, none⟩ = some (I L.secs)) ∧ (wx.cell? ⟨gt, 2, none⟩ = some (.slice A1 L.routes.length c1)) ∧ (wx.cell? ⟨gt, 3, none⟩ = some (I L.delay))) (by kernel_rfl) ⟨KT.out.drew.cellv 1 _ rfl, KT.out.drew.cellv 2 _ rfl, KT.out.drew.cellv 3 _ rfl⟩ (fun hHeld => ?_)
  refine wpAnyH_take (i := 0) (oi := { dst := some 23, op := Op.move (Operand.tmp 11), type := 26, pos := "keep.go:239", after := #[], guard := none }) (v := .pointer (some ⟨gt, 0, none⟩)) rfl (by kernel_rfl) (by kernel_rfl) (by kernel_rfl) (fun _ _ _ h => h) (Or.inl ⟨by rfl, ?_⟩) hHeld ?_
  ·rintro wx ⟨hs0, hs1, hs2⟩
   go_simp
  simp only [Act.put, List.setIfInBounds_toArray, List.set_cons_zero, List.set_cons_succ]
  refine wpAnyH_take (i := 1) (oi := { dst := some 24, op := Op.nilCheck (Operand.tmp 23), type := 0, pos := "keep.go:239", after := #[{ on := 0, ground := Ground.data }], guard := none }) (v := .pointer (some ⟨gt, 0, none⟩)) rfl (by kernel_rfl) (by kernel_rfl) (by kernel_rfl) (fun _ _ _ h => h) (Or.inl ⟨by rfl, ?_⟩) hHeld ?_
  ·rintro wx ⟨hs0, hs1, hs2⟩
   go_simp
  simp only [Act.put, List.setIfInBounds_toArray, List.set_cons_zero, List.set_cons_succ]
  refine wpAnyH_take (i := 2) (oi := { dst := some 25, op := Op.fieldAddr 47 (Operand.tmp 24) 1, type := 0, pos := "keep.go:239", after := #[{ on := 1, ground := Ground.data }], guard := none }) (v := .pointer (some ⟨gt, 1, none⟩)) rfl (by kernel_rfl) (by kernel_rfl) (by kernel_rfl) (fun _ _ _ h => h) (Or.inl ⟨by rfl, ?_⟩) hHeld ?_
  ·rintro wx ⟨hs0, hs1, hs2⟩
   go_simp
  simp only [Act.put, List.setIfInBounds_toArray, List.set_cons_zero, List.set_cons_succ]
  refine wpAnyH_take (i := 3) (oi := { dst := some 26, op := Op.load 43 (Operand.tmp 25), type := 43, pos := "keep.go:239", after := #[{ on := 2, ground := Ground.data }], guard := none }) (v := .agg #[I L.secs, .slice A1 L.routes.length c1, I L.delay]) rfl (by kernel_rfl) (by kernel_rfl) (by kernel_rfl) (fun _ _ _ h => h) (Or.inl ⟨by rfl, ?_⟩) hHeld ?_
  ·rintro wx ⟨hs0, hs1, hs2⟩
   go_simp
  simp only [Act.put, List.setIfInBounds_toArray, List.set_cons_zero, List.set_cons_succ]
  refine wpAnyH_take (i := 4) (oi := { dst := some 27, op := Op.move (Operand.tmp 3), type := 3, pos := "keep.go:239", after := #[], guard := none }) (v := I win) rfl (by kernel_rfl) (by kernel_rfl) (by kernel_rfl) (fun _ _ _ h => h) (Or.inl ⟨by rfl, ?_⟩) hHeld ?_
  ·rintro wx ⟨hs0, hs1, hs2⟩
   go_simp
  simp only [Act.put, List.setIfInBounds_toArray, List.set_cons_zero, List.set_cons_succ]
  refine wpAnyH_ready (rs := [5]) (by kernel_rfl) (by simp) (AllReadyH.cons (o := { dst := some 28, op := Op.call { callee := Callee.value (Operand.func 26), args := #[Operand.tmp 27, Operand.const (Value.int IntKind.i64 18)], argTypes := #[3, 3] }, type := 3, pos := "keep.go:239", after := #[{ on := 4, ground := Ground.data }], guard := none }) rfl (fun K hK => ?_) AllReadyH.nil)
  go_simp
  go_at_call 26; refine (pick_nat win 18 (by decide) (by decide) _).mono ?_; rintro e w' ⟨rfl, he⟩; cases he.symm
  refine hK.out _ _ hHeld (fun hHeld => ?_)
  clear hK K
  try simp only [Act.put, List.setIfInBounds_toArray, List.set_cons_zero, List.set_cons_succ]
  refine wpAnyH_take (i := 6) (oi := { dst := some 29, op := Op.binOp BinOp.add 3 (Operand.const (Value.int IntKind.i64 3)) (Operand.tmp 28) 3, type := 3, pos := "keep.go:239", after := #[{ on := 5, ground := Ground.data }], guard := none }) (v := I (3 + (pkN win 18 : Nat))) rfl (by kernel_rfl) (by kernel_rfl) (by kernel_rfl) (fun _ _ _ h => h) (Or.inl ⟨by rfl, ?_⟩) hHeld ?_
  ·rintro wx ⟨hs0, hs1, hs2⟩
   go_simp
  simp only [Act.put, List.setIfInBounds_toArray, List.set_cons_zero, List.set_cons_succ]
  refine wpAnyH_ready (rs := [7]) (by kernel_rfl) (by simp) (AllReadyH.cons (o := { dst := some 30, op := Op.call { callee := Callee.value (Operand.func 24), args := #[Operand.tmp 26, Operand.tmp 29], argTypes := #[43, 3] }, type := 68, pos := "keep.go:239", after := #[{ on := 3, ground := Ground.data }, { on := 6, ground := Ground.data }, { on := 5, ground := Ground.chain }], guard := none }) rfl (fun K hK => ?_) AllReadyH.nil)
  go_simp
  go_at_call 24; refine HC.out.mono ?_; rintro e wn ⟨⟨x, rfl, hs⟩, hb⟩; have HN := Lib.hid (And.intro hs hb); have ktn := KT.out.drew.after hb; clear hs hb
  refine hK.out _ _ ⟨ktn.cellv 1 _ rfl, ktn.cellv 2 _ rfl, ktn.cellv 3 _ rfl⟩ (fun hHeld => ?_)
  clear hK K
  try simp only [Act.put, List.setIfInBounds_toArray, List.set_cons_zero, List.set_cons_succ]
  refine wpAnyH_take (i := 8) (oi := { dst := some 22, op := Op.move (Operand.tmp 30), type := 68, pos := "keep.go:239", after := #[{ on := 7, ground := Ground.data }], guard := none }) (v := .tuple #[.pointer (some ⟨x.g, 0, none⟩), .nilIface]) rfl (by kernel_rfl) (by kernel_rfl) (by kernel_rfl) (fun _ _ _ h => h) (Or.inl ⟨by rfl, ?_⟩) hHeld ?_
  ·rintro wx ⟨hs0, hs1, hs2⟩
   go_simp
  simp only [Act.put, List.setIfInBounds_toArray, List.set_cons_zero, List.set_cons_succ]
  refine wpAnyH_take (i := 9) (oi := { dst := some 31, op := Op.extract (Operand.tmp 22) 0, type := 41, pos := "keep.go:239", after := #[{ on := 8, ground := Ground.data }], guard := none }) (v := .pointer (some ⟨x.g, 0, none⟩)) rfl (by kernel_rfl) (by kernel_rfl) (by kernel_rfl) (fun _ _ _ h => h) (Or.inl ⟨by rfl, ?_⟩) hHeld ?_
  ·rintro wx ⟨hs0, hs1, hs2⟩
   go_simp
  simp only [Act.put, List.setIfInBounds_toArray, List.set_cons_zero, List.set_cons_succ]
  refine wpAnyH_take (i := 10) (oi := { dst := some 32, op := Op.extract (Operand.tmp 22) 1, type := 53, pos := "keep.go:239", after := #[{ on := 8, ground := Ground.data }, { on := 11, ground := Ground.gcOnly Departure.lateStores }], guard := none }) (v := .nilIface) rfl (by kernel_rfl) (by kernel_rfl) (by kernel_rfl) (fun _ _ _ h => h) (Or.inl ⟨by rfl, ?_⟩) hHeld ?_
  ·rintro wx ⟨hs0, hs1, hs2⟩
   go_simp
  simp only [Act.put, List.setIfInBounds_toArray, List.set_cons_zero, List.set_cons_succ]
  refine wpAnyH_take (i := 11) (oi := { dst := some 12, op := Op.assign (Operand.tmp 31), type := 41, pos := "keep.go:239", after := #[{ on := 9, ground := Ground.data }, { on := 7, ground := Ground.chain }, { on := 0, ground := Ground.phase }, { on := 1, ground := Ground.phase }, { on := 2, ground := Ground.phase }, { on := 3, ground := Ground.phase }, { on := 4, ground := Ground.phase }, { on := 5, ground := Ground.phase }, { on := 6, ground := Ground.phase }, { on := 7, ground := Ground.phase }, { on := 8, ground := Ground.phase }, { on := 9, ground := Ground.phase }, { on := 10, ground := Ground.textOnly Departure.lateStores }], guard := none }) (v := .pointer (some ⟨x.g, 0, none⟩)) rfl (by kernel_rfl) (by kernel_rfl) (by kernel_rfl) (fun _ _ _ h => h) (Or.inl ⟨by rfl, ?_⟩) hHeld ?_
  ·rintro wx ⟨hs0, hs1, hs2⟩
   go_simp
  simp only [Act.put, List.setIfInBounds_toArray, List.set_cons_zero, List.set_cons_succ]
  refine wpAnyH_take (i := 12) (oi := { dst := some 13, op := Op.assign (Operand.tmp 32), type := 53, pos := "keep.go:239", after := #[{ on := 10, ground := Ground.data }, { on := 11, ground := Ground.chain }, { on := 0, ground := Ground.phase }, { on := 1, ground := Ground.phase }, { on := 2, ground := Ground.phase }, { on := 3, ground := Ground.phase }, { on := 4, ground := Ground.phase }, { on := 5, ground := Ground.phase }, { on := 6, ground := Ground.phase }, { on := 7, ground := Ground.phase }, { on := 8, ground := Ground.phase }, { on := 9, ground := Ground.phase }, { on := 10, ground := Ground.phase }, { on := 11, ground := Ground.phase }], guard := none }) (v := .nilIface) rfl (by kernel_rfl) (by kernel_rfl) (by kernel_rfl) (fun _ _ _ h => h) (Or.inl ⟨by rfl, ?_⟩) hHeld ?_
  ·rintro wx ⟨hs0, hs1, hs2⟩
   go_simp
  simp only [Act.put, List.setIfInBounds_toArray, List.set_cons_zero, List.set_cons_succ]
  refine wpAnyH_done (by kernel_rfl) ?_ _
  go_wp2_with fail
  go_meet
  case rel => exact ⟨x, rfl, rfl, Lib.hid ⟨HN.out.1, (show Below w2.heap.size w2 w2.drew from (Below.refl _ _).drew).trans HN.out.2⟩⟩
 case rest =>
  obtain ⟨x, rfl, rfl, HX⟩ := hcut
  have KW := Lib.hid (KT.out.after HX.out.2)
  have d0 := KW.out.cellv 0 _ rfl
  have f0 := KW.out.free 0
  have hgw := KW.out.lt
  go_wp2
  go_ret
  have hF : ∀ b, b = gt → Own taT wc b := fun b e => ⟨_, _, e ▸ KW.out, rfl⟩
  have ht : Turned (fun b => b = gt) wc (wc.setCell ⟨gt, 0, none⟩ (.pointer (some ⟨x.g, 0, none⟩))) := (Turned.refl _ _).setCell _ _ (.inl rfl)
  have hbx : Below w.heap.size w wc := HB2.out.trans (HX.out.2.mono HB2.out.size)
  refine ⟨⟨⟨x, gt, .slice A1 L.routes.length c1, .slice none 0 0⟩, L, hL, 3 + (pkN win 18 : Nat), by omega, by omega, rfl, ⟨KW.out.set 0 _, (HX.out.1.base HB2.out.size).other ht hF, own_keepG (own_base (own_after HO2.out HX.out.2) (Nat.zero_le _)) ht hF rfl, World.ownsRow_nil _ _ _ _, rfl, by omega, ?_⟩, ?_⟩, hbx.setCell (by omega) _⟩
  ·have := hbx.size
   simp [World.setCell]
   exact this
  ·refine ⟨?_, rfl⟩
   simp [World.setCell]
   exact hgw
theorem tells_ok (a d : Int) (A : Option Addr) (c : Nat) (xs : List Int) (win liar : Int) (hx : xs.length ≤ 30) (hr : Reads w w.heap.size A (ints xs)) :
  Calls Try.prog 9 #[I a, I d, .slice A xs.length c, I win, I liar] w fun e w' => (∃ (y : TaX) (L : Lay) (wi : Int), L.Ok ∧ 1 ≤ wi ∧ wi ≤ 20 ∧ e = .returned (.pointer (some ⟨y.g, 0, none⟩)) ∧ TaAt w' w.heap.size y L (pkN liar 4) (tale0 wi) ∧ y.g < w'.heap.size) ∧ Below w.heap.size w w' :=
 (tells_at a d A c xs win liar hx hr).mono fun _ _ ⟨⟨y, L, wi, h1, h2, h3, h4, h5, h6, _⟩, hb⟩ => ⟨⟨y, L, wi, h1, h2, h3, h4, h5, h6⟩, hb⟩
end
end Go.Proofs.Ytdhekhlmdefcnab
namespace Go.Proofs.Ytdhekhlmdefcnab
open Go.RowKit
theorem ranL_ok : ranL.Ok := ⟨by decide, by decide, by decide, by decide, by decide, by decide, by decide, by decide⟩
def seeTo : Nat → Sys
 | 0 => Sys.new 10
 | j + 1 => sysSee (seeTo j) j (15, 5)
theorem seeTo_fine : ∀ j, j ≤ 3 → Fine 0 (seeTo j)
 | 0, _ => new_fine (by decide) (by decide)
 | j + 1, hj => (seeTo_fine j (by omega)).see (by omega) ⟨⟨by decide, by decide⟩, by decide, by decide⟩
theorem ranOk_of {s : Sys} (h : ranOk s = true) : 1 ≤ s.v.trace.length ∧ s.v.latched = false ∧ voShown s.v = 1 ∧ (∀ c ∈ s.v.trace, c = (15, 5, 1)) ∧ s.v.trace.length ≤ 1000 := by
 unfold ranOk at h
 simp only [Bool.and_eq_true, decide_eq_true_eq, Bool.not_eq_true', List.all_eq_true] at h
 obtain ⟨⟨⟨⟨h1, h2⟩, h3⟩, h4⟩, h5⟩ := h
 exact ⟨h1, h2, h3, h4, h5⟩
theorem cmsC_at : ∀ (l : List Cm) (i : Nat) (c : Cm), l[i]? = some c → (cmsC l)[i * 3]? = some (I c.1) ∧ (cmsC l)[i * 3 + 1]? = some (I c.2.1) ∧ (cmsC l)[i * 3 + 2]? = some (I c.2.2)
 | [], i, c, h => by simp at h
 | a :: l, 0, c, h => by
  have e : a = c := by simpa using h
  subst e
  exact ⟨rfl, rfl, rfl⟩
 | a :: l, i + 1, c, h => by
  have ih := cmsC_at l i c (by simpa using h)
  have e : cmsC (a :: l) = I a.1 :: I a.2.1 :: I a.2.2 :: cmsC l := rfl
  rw [e, show (i + 1) * 3 = i * 3 + 1 + 1 + 1 by omega]
  exact ih
theorem own_cms {w : World} {base : Nat} {v : Value} {l : List Cm} (h : w.ownsRow base 50 3 v l.length (cmsC l)) : ∃ A c, v = .slice A l.length c ∧ l.length ≤ c ∧ ∀ i cm, l[i]? = some cm → ∃ b, A = some ⟨b, 0, none⟩ ∧ b < w.heap.size ∧ w.cell? ⟨b, i * 3, none⟩ = some (I cm.1) ∧ w.cell? ⟨b, i * 3 + 1, none⟩ = some (I cm.2.1) ∧ w.cell? ⟨b, i * 3 + 2, none⟩ = some (I cm.2.2) := by
 rcases h.2 with ⟨rfl, hn⟩ | ⟨g, cap, cur, rfl, _, hh, hc, _, _, ht⟩
 ·refine ⟨none, 0, by rw [hn], by omega, fun i cm hi => ?_⟩
  have := (List.getElem?_eq_some_iff.1 hi).1
  omega
 ·refine ⟨_, _, rfl, hc, fun i cm hi => ⟨g, rfl, (Array.getElem?_eq_some_iff.1 hh).1, ?_⟩⟩
  have kg : Has w g 50 cur := hh
  have hil := (List.getElem?_eq_some_iff.1 hi).1
  obtain ⟨a0, a1, a2⟩ := cmsC_at l i cm hi
  have get : ∀ j u, j < l.length * 3 → (cmsC l)[j]? = some u → w.cell? ⟨g, j, none⟩ = some u := fun j u hj hu => by
   rw [← ht, List.getElem?_take, if_pos hj] at hu
   rw [kg.cell]
   simpa using hu
  exact ⟨get _ _ (by omega) a0, get _ _ (by omega) a1, get _ _ (by omega) a2⟩
theorem SyIn.below {w0 w : World} {B : Nat} {x : SyX} {L : Lay} {s0 s : Sys} (h0 : SyAt w0 B x L s0) (hB : B ≤ w0.heap.size) (h : SyIn w0 B x L s w) : Below B w0 w := by
 obtain ⟨x', _, hm, _⟩ := h
 exact hm.below h0 hB
set_option maxHeartbeats 4000000 in
set_option maxRecDepth 100000 in
theorem ran_ok (w : World) : Calls Try.prog 8 #[] w fun e w' => e = .returned (.bool true) ∧ Below w.heap.size w w' := by
 obtain ⟨N, hN⟩ : ∃ N, N = 1200 := ⟨_, rfl⟩
 have hsp : ranOk (calm ranL N (seeTo 3) 2) = true := by rw [hN]; exact ran_spec
 obtain ⟨q1, q2, q3, q4, q5⟩ := ranOk_of hsp
 have HN := Lib.hid hN
 have Q4 := Lib.hid q4
 have kr := Has.new w 3 #[I 3, I 12, I 6]
 have hb1 : Below w.heap.size w (w.alloc (.cells #[I 3, I 12, I 6] 3)) := (Below.refl _ _).alloc (Nat.le_refl _) _
 have HC := Lib.hid (sy_new (some ⟨w.heap.size, 0, none⟩) 3 3 ranL (w.alloc (.cells #[I 3, I 12, I 6] 3)) ranL_ok (Lib.hid rfl) (by decide) (Reads.of_has kr (by simp)) 10 (by decide) (by decide))
 have HB1 := Lib.hid hb1
 clear hN hsp q4 kr hb1
 generalize hS : calm ranL N (seeTo 3) 2 = S at *
 have HS := Lib.hid hS
 clear hS
 go_enter Try.func8, Try.ntmps8
 go_upto_region 4 with (go_at_call 24; refine HC.out.mono ?_; rintro e w2 ⟨⟨x, rfl, hs⟩, hb2⟩; have HY := Lib.hid (SyIn.start hs hb2.size); have HSY := Lib.hid (And.intro hs hb2.size); have HB2 := Lib.hid (HB1.out.trans (hb2.mono HB1.out.size)); clear hs hb2)
 clear HC HB1
 have hsw : w.heap.size ≤ (w.alloc (.cells #[I 3, I 12, I 6] 3)).heap.size := by simp
 generalize (w.alloc (.cells #[I 3, I 12, I 6] 3)).heap.size = b0 at *
 have HSW := Lib.hid hsw
 clear hsw
 go_wp2_with fail
 go_loopw [3] (fun jv wr => ∃ j : Nat, j ≤ 3 ∧ jv = I j ∧ Hid (SyIn w2 b0 x ranL (seeTo j) wr)) (fun jv _ => 3 - (intOf jv).toNat)
 case atStart => exact ⟨0, by omega, rfl, HY⟩
 case round =>
  clear HY
  obtain ⟨j, hj, rfl, HI⟩ := hrel
  by_cases hj3 : j < 3
  ·have HJ := Lib.hid hj3
   have hji : (j : Int) < 3 := by omega
   clear hj3 hj
   go_wp2_with (go_at_call 21; refine (in_see HI.out j HJ.out 15 5).mono ?_; rintro e wb ⟨⟨v1, rfl, rfl⟩, hin, hst⟩; have HI2 := Lib.hid hin; clear hin hst)
   go_roundw
   case rel => exact ⟨j + 1, HJ.out, by rfl, HI2⟩
   case measure => have := HJ.out; simp [intOf]; omega
  ·have hj4 : j = 3 := by omega
   subst hj4
   have hcl := in_calm N HN.out HI.out (seeTo_fine 3 (by decide)) ranL_ok 2 (by decide) (by decide)
   rw [show ((2 : Nat) : Int) = 2 from rfl, HS.out] at hcl
   have HCL := Lib.hid hcl
   clear hcl hj3 hj
   go_upto_region 13 with (first
    | (go_at_call 20; refine HCL.out.mono ?_; rintro e w3 ⟨⟨v1, rfl, rfl⟩, hin, hst⟩; have HI3 := Lib.hid hin; clear hin hst)
    | (go_at_call 12; refine (in_trace HI3.out q5).mono ?_; rintro e w4 ⟨⟨vr, rfl, ho⟩, hb4⟩; have HO4 := Lib.hid ho; have HI4 := Lib.hid (HI3.out.after hb4); obtain ⟨A, c, rfl, hc, hget⟩ := own_cms ho; have HGT := Lib.hid hget; clear ho hb4 hget)
    | (go_at_call 13; refine (in_latched HI4.out).mono ?_; rintro e w' ⟨rfl, he⟩; cases he; rw [q2])
    | (go_at_call 14; refine (in_shown HI4.out q5).mono ?_; rintro e w' ⟨rfl, nq, rfl⟩; rw [q3]))
   have hbf : Below w.heap.size w (w4.drewN nq) := below_drewN (HB2.out.trans ((SyIn.below HSY.out.1 HSY.out.2 HI4.out).mono HSW.out)) nq
   have HG5 : Hid (∀ i cm, S.v.trace[i]? = some cm → ∃ b, A = some ⟨b, 0, none⟩ ∧ b < (w4.drewN nq).heap.size ∧ (w4.drewN nq).cell? ⟨b, i * 3, none⟩ = some (I cm.1) ∧ (w4.drewN nq).cell? ⟨b, i * 3 + 1, none⟩ = some (I cm.2.1) ∧ (w4.drewN nq).cell? ⟨b, i * 3 + 2, none⟩ = some (I cm.2.2)) := HGT
   have HBF := Lib.hid hbf
   clear hbf HGT HO4 HI4 HI3 HI HCL HSY HB2
   generalize w4.drewN nq = w5 at *
   go_wp2_with fail
   go_loopw [5] (fun jv wr => ∃ j : Nat, j ≤ S.v.trace.length ∧ jv = I j ∧ w5 = wr) (fun jv _ => S.v.trace.length - (intOf jv).toNat)
   case atStart => exact ⟨0, Nat.zero_le _, rfl, rfl⟩
   case round =>
    obtain ⟨j, hj, rfl, rfl⟩ := hrel
    by_cases hlt : j < S.v.trace.length
    ·obtain ⟨cm, hcm⟩ := some_at S.v.trace j hlt
     have he : cm = (15, 5, 1) := Q4.out cm (List.mem_of_getElem? hcm)
     subst he
     obtain ⟨b, rfl, hb, c0, c1, c2⟩ := HG5.out j _ hcm
     have HLT := Lib.hid hlt
     have hji : (j : Int) < (S.v.trace.length : Int) := by omega
     clear hcm hb
     go_wp2_with fail
     go_roundw
     case rel => exact ⟨j + 1, HLT.out, by rfl, trivial⟩
     case measure => have := HLT.out; simp [intOf]; omega
    ·have hji : ¬ (j : Int) < (S.v.trace.length : Int) := by omega
     clear hlt
     go_wp2
     go_ret
     exact ⟨rfl, HBF.out⟩
end Go.Proofs.Ytdhekhlmdefcnab
namespace Go.Proofs.Ytdhekhlmdefcnab
open Go.RowKit
theorem infoStp : (Try.prog.info? 38).map (·.size) = some 29 := by kernel_rfl
theorem stpC_size {x : Stp} (h : x.frame.length = 23) (v : Value) : (stpC x v).toList.length = 29 := by unfold stpC; simp [ints, h]
theorem looks_len (Ta : Tale) (k : Nat) (on : Bool) : (looks Ta k on).seen.length = Ta.seen.length + 1 := by
 show (Ta.seen ++ _).length = _
 rw [List.length_append]
 rfl
theorem does_len (L : Lay) (ℓ N : Nat) (Ta : Tale) (x : Stp) : (does L ℓ N Ta x).seen.length ≤ Ta.seen.length + 3 := by
 unfold does
 dsimp only
 generalize (if 0 < Ta.s.way.length then pkN x.n Ta.s.way.length else 0) = i0
 by_cases e0 : x.what = 0
 ·rw [if_pos e0]; exact Nat.le_add_right _ _
 rw [if_neg e0]
 by_cases e1 : x.what = 1
 ·rw [if_pos e1]; show (looks Ta (pkN x.k 3) false).seen.length ≤ _; rw [looks_len]; omega
 rw [if_neg e1]
 by_cases e2 : x.what = 2
 ·rw [if_pos e2]; exact Nat.le_add_right _ _
 rw [if_neg e2]
 by_cases e3 : x.what = 3
 ·rw [if_pos e3]; exact Nat.le_add_right _ _
 rw [if_neg e3]
 by_cases e4 : x.what = 4
 ·rw [if_pos e4]; exact Nat.le_add_right _ _
 rw [if_neg e4]
 by_cases e5 : x.what = 5
 ·rw [if_pos e5]; exact Nat.le_add_right _ _
 rw [if_neg e5]
 by_cases e6 : x.what = 6
 ·rw [if_pos e6]; exact Nat.le_add_right _ _
 rw [if_neg e6]
 by_cases e7 : x.what = 7
 ·rw [if_pos e7]; exact Nat.le_add_right _ _
 rw [if_neg e7]
 by_cases e8 : x.what = 8
 ·rw [if_pos e8]; split <;> exact Nat.le_add_right _ _
 rw [if_neg e8]
 by_cases e9 : x.what = 9
 ·rw [if_pos e9]; split <;> exact Nat.le_add_right _ _
 rw [if_neg e9]
 by_cases e10 : x.what = 10
 ·rw [if_pos e10]; show (looks (looks (looks Ta 0 true) 1 true) 2 true).seen.length ≤ _; rw [looks_len, looks_len, looks_len]; exact Nat.le_refl _
 rw [if_neg e10]
 by_cases e11 : x.what = 11
 ·rw [if_pos e11]; exact Nat.le_add_right _ _
 rw [if_neg e11]
 by_cases e12 : x.what = 12
 ·rw [if_pos e12]; exact Nat.le_add_right _ _
 rw [if_neg e12]
 exact Nat.le_add_right _ _
def taleTo (L : Lay) (ℓ N : Nat) (wi : Int) (l : List Stp) (i : Nat) : Tale := (l.take i).foldl (does L ℓ N) (tale0 wi)
theorem taleTo_succ {L : Lay} {ℓ N : Nat} {wi : Int} {l : List Stp} {i : Nat} {x : Stp} (h : l[i]? = some x) : taleTo L ℓ N wi l (i + 1) = does L ℓ N (taleTo L ℓ N wi l i) x := by
 unfold taleTo
 rw [List.take_add_one, h, List.foldl_append]
 rfl
theorem taleTo_ok {L : Lay} {ℓ N : Nat} {wi : Int} {l : List Stp} (hL : L.Ok) (i : Nat) : TaleOk L ℓ (taleTo L ℓ N wi l i) := run_ok hL N wi (l.take i)
def StpsIn (l : List Stp) : Prop := ∀ x ∈ l, I64 x.c ∧ I64 x.w
theorem taleTo_fine {L : Lay} {ℓ N : Nat} {wi : Int} {l : List Stp} (hL : L.Ok) (hN : N = 1200) (hℓ : ℓ ≤ 3) (h1 : 1 ≤ wi) (h2 : wi ≤ 20) (hi : StpsIn l) : ∀ i, i ≤ l.length → Fine (160000 * i) (taleTo L ℓ N wi l i).s ∧ (taleTo L ℓ N wi l i).seen.length ≤ 3 * i
 | 0, _ => ⟨new_fine h1 h2, Nat.le_refl _⟩
 | i + 1, hl => by
  obtain ⟨a, b⟩ := taleTo_fine (ℓ := ℓ) hL hN hℓ h1 h2 hi i (by omega)
  obtain ⟨x, hx⟩ := some_at l i (by omega)
  obtain ⟨c1, c2⟩ := hi x (List.mem_of_getElem? hx)
  rw [taleTo_succ hx]
  refine ⟨(does_fine hL hN hℓ a x c1 c2).mono (by omega), ?_⟩
  have := does_len L ℓ N (taleTo L ℓ N wi l i) x
  omega
theorem StepsAt.nums {w : World} {B : Nat} {A : Option Addr} {l : List Stp} (h : StepsAt w B A l) : StpsIn l := fun x hx => by
 obtain ⟨i, hi, e⟩ := List.getElem_of_mem hx
 obtain ⟨_, _, _, _, _, _, _, _, h5, h6, _⟩ := h i x (by rw [List.getElem?_eq_getElem hi, e])
 exact ⟨h5, h6⟩
theorem fitsB_of {l : List Stp} (h : fitsB l = true) : l.length ≤ 120 ∧ ∀ x ∈ l, x.bytes.length ≤ 200 := by
 unfold fitsB at h
 rw [Bool.and_eq_true, List.all_eq_true] at h
 exact ⟨by simpa using h.1, fun x hx => by simpa using h.2 x hx⟩
end Go.Proofs.Ytdhekhlmdefcnab
