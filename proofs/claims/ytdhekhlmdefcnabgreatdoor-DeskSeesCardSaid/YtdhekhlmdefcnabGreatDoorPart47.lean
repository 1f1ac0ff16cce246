/- Part 47 of the proof: DeskSees. -/
import Derived.Test.YtdhekhlmdefcnabGreatDoorPart46
import Derived.Test.YtdhekhlmdefcnabGreatDoorPart43
import Derived.Test.YtdhekhlmdefcnabGreatDoorPart45
import Derived.Test.YtdhekhlmdefcnabGreatDoorPart40
import Derived.Test.YtdhekhlmdefcnabGreatDoorPart41
namespace Go.Proofs.YtdhekhlmdefcnabGreatDoor
open Go.RowKit
section
variable {w w' : World} {F : Nat → Prop} {B : Nat} {L : Lay} {s : Sys}
def inT (t : TypeId) : Bool := t == 26
theorem SyAt.inp {x : SyX} (h : SyAt w B x L s) (ht : Turned F w w') (hF : ∀ b, F b → Own inT w b) : SyAt w' B x L s := by
 refine ⟨h.has.keepG ht hF rfl, own_keepG h.routes ht hF rfl, h.n3, fun k hk => ⟨(h.rep k hk).has.keepG ht hF rfl, (h.rep k hk).core.keepG ht hF rfl rfl⟩, h.apart, ⟨h.vo.has.keepG ht hF rfl, own_keepG h.vo.own ht hF rfl, h.vo.low⟩, own_keepG h.way ht hF rfl, h.len, fun i gm v e1 e2 => ?_, h.low, h.lows⟩
 exact (h.bytes i gm v e1 e2).keep fun g cs hh => hh.keepG ht hF rfl
end
theorem infoIn : (Tryz.prog.info? 26).map (·.size) = some 2 := by kernel_rfl
structure NwAt (w0 : World) (B g2 : Nat) (x : SyX) (cs : Array Value) (w : World) : Prop where
 sys : SyAt w B x deskL (Sys.new 10)
 inp : Has w g2 26 cs
 below : Below w0.heap.size w0 w
 low : B ≤ w.heap.size
 at2 : w0.heap.size ≤ g2
 lowB : w0.heap.size ≤ B
structure SeAt (w0 w2 : World) (B g2 : Nat) (x : SyX) (s : Sys) (c u : Int) (w : World) : Prop where
 sys : SyIn w2 B x deskL s w
 inp : Has w g2 26 #[I c, I u]
 below : Below w0.heap.size w0 w
theorem SeAt.after {w0 w2 w w' : World} {B g2 : Nat} {x : SyX} {s : Sys} {c u : Int} (h : SeAt w0 w2 B g2 x s c u w) (hb : Below w.heap.size w w') : SeAt w0 w2 B g2 x s c u w' := ⟨h.sys.after hb, h.inp.after hb, h.below.trans (hb.mono h.below.size)⟩
theorem SeAt.drew {w0 w2 w : World} {B g2 : Nat} {x : SyX} {s : Sys} {c u : Int} (h : SeAt w0 w2 B g2 x s c u w) : SeAt w0 w2 B g2 x s c u w.drew := h.after ((Below.refl _ _).drew)
theorem SeAt.next {w0 w2 w w' : World} {B g2 : Nat} {x : SyX} {s s' : Sys} {c u : Int} {cs : Array Value} (h0 : NwAt w0 B g2 x cs w2) (h : SeAt w0 w2 B g2 x s c u w) (hi : SyIn w2 B x deskL s' w') (hs : Stay w w') : SeAt w0 w2 B g2 x s' c u w' := by
 refine ⟨hi, hs g2 26 _ h.inp rfl, ?_⟩
 obtain ⟨x', _, hm, _⟩ := hi
 exact h0.below.trans ((hm.below h0.sys h0.low).mono h0.lowB)
theorem NwAt.drew {w0 w : World} {B g2 : Nat} {x : SyX} {cs : Array Value} (h : NwAt w0 B g2 x cs w) : NwAt w0 B g2 x cs w.drew := ⟨h.sys.after ((Below.refl _ _).drew), h.inp, h.below.drew, h.low, h.at2, h.lowB⟩
theorem NwAt.store {w0 w : World} {B g2 : Nat} {x : SyX} {cs : Array Value} (h : NwAt w0 B g2 x cs w) (cs' : Array Value) : NwAt w0 B g2 x cs' (w.setRow g2 cs') := by
 have ht : Turned (fun b => b = g2) w (w.setRow g2 cs') := (Turned.refl _ _).setRow g2 cs' (.inl rfl)
 exact ⟨h.sys.inp ht (fun b hb => by subst hb; exact ⟨26, cs, h.inp, by decide⟩), h.inp.setRow cs', below_setRow h.below h.at2 cs', Nat.le_trans h.low ht.size, h.at2, h.lowB⟩
set_option maxHeartbeats 4000000 in
set_option maxRecDepth 100000 in
theorem sees_any (a b ro : Int) (w : World) (hs : Std w) :
  Calls Tryz.prog 4 #[.agg #[I a, I b], I ro] w fun e w' => e = .returned (.bool true) ∧ Below w.heap.size w w' := by
 have p1 := pk_in a 16 (by decide)
 have p2 := pk_in b 8 (by decide)
 have p3 := pk_in ro 8 (by decide)
 obtain ⟨c, hc⟩ : ∃ c : Nat, pk a 16 = (c : Int) := ⟨(pk a 16).toNat, by omega⟩
 obtain ⟨u, hu⟩ : ∃ u : Nat, pk b 8 = (u : Int) := ⟨(pk b 8).toNat, by omega⟩
 obtain ⟨r, hr⟩ : ∃ r : Nat, pk ro 8 = (r : Int) := ⟨(pk ro 8).toNat, by omega⟩
 have HCU : Hid (c < 16 ∧ u < 8 ∧ r < 8) := Lib.hid (by omega)
 have HP1 := Lib.hid (pick_any a 16 (by decide) (by decide))
 have HP2 := Lib.hid (pick_any b 8 (by decide) (by decide))
 have HP3 := Lib.hid (pick_any ro 8 (by decide) (by decide))
 rw [hc] at HP1
 rw [hu] at HP2
 rw [hr] at HP3
 obtain ⟨N, hN⟩ : ∃ N, N = 1200 := ⟨_, rfl⟩
 have HN := Lib.hid hN
 have HS := Lib.hid hs
 clear p1 p2 p3 hc hu hr hN hs
 go_enter Tryz.func4, Tryz.ntmps4
 go_upto_region 1 with (fail)
 have k2 := Has.new w 26 #[I a, I b]
 have hb0 : Below w.heap.size w (w.alloc (.cells #[I a, I b] 26)) := (Below.refl _ _).alloc (Nat.le_refl _) _
 generalize w.alloc (.cells #[I a, I b] 26) = w0 at *
 have HB0 := Lib.hid hb0
 have HK2 := Lib.hid k2
 have HT := Lib.hid (talks_ok w0 (HS.out.after hb0))
 have hG2 : w.heap.size ≤ w.heap.size := Nat.le_refl _
 clear hb0 k2
 go_upto_region 4 with (go_at_call 5; refine HT.out.mono ?_; rintro e w1 ⟨rfl, hb1⟩; have HB1 := Lib.hid (HB0.out.trans (hb1.mono HB0.out.size)); have HK3 := Lib.hid (HK2.out.after hb1); clear hb1)
 have kA := (Has.new w1 3 #[I 3, I 12, I 6]).alloc (.cells #[I 4, .slice (some ⟨w1.heap.size, 0, none⟩) 3 3, I 2] 29)
 have kB := Has.new' (w1.alloc (.cells #[I 3, I 12, I 6] 3)) 29 #[I 4, .slice (some ⟨w1.heap.size, 0, none⟩) 3 3, I 2] (w1.heap.size + 1) (by simp)
 have q1 := HB1.out.alloc HB1.out.size (.cells #[I 3, I 12, I 6] 3)
 have q2 := q1.alloc q1.size (.cells #[I 4, .slice (some ⟨w1.heap.size, 0, none⟩) 3 3, I 2] 29)
 have q3 := (HK3.out.alloc (.cells #[I 3, I 12, I 6] 3)).alloc (.cells #[I 4, .slice (some ⟨w1.heap.size, 0, none⟩) 3 3, I 2] 29)
 generalize (w1.alloc (.cells #[I 3, I 12, I 6] 3)).alloc (.cells #[I 4, .slice (some ⟨w1.heap.size, 0, none⟩) 3 3, I 2] 29) = wA at *
 generalize w1.heap.size + 1 = gB at *
 generalize w1.heap.size = gA at *
 have HNW := Lib.hid (sy_new (some ⟨gA, 0, none⟩) 3 3 deskL wA deskL_ok (Lib.hid rfl) (Nat.le_refl _) (fun _ => ⟨gA, 0, rfl, kA.lt, fun j v hv => by rw [Nat.zero_add, kA.cell]; simpa [ints, zs, deskL] using hv⟩) 10 (by decide) (by decide))
 have HQ2 := Lib.hid q2
 have HQ3 := Lib.hid q3
 have b0 := kB.cellv 0 _ rfl
 have b1 := kB.cellv 1 _ rfl
 have b2 := kB.cellv 2 _ rfl
 have hgB := kB.lt
 clear kA kB q1 q2 q3 HB1 HK3 HT HK2 HB0
 go_upto_region 7 with (go_at_call 7; refine HNW.out.mono ?_; rintro e w2 ⟨⟨x, rfl, hsy⟩, hb2⟩; have HB2 := Lib.hid (HQ2.out.trans (hb2.mono HQ2.out.size)); have HSY := Lib.hid hsy; have HI2 := Lib.hid (HQ3.out.after hb2); have HLO := Lib.hid hb2.size; clear hsy hb2)
 clear b0 b1 b2 hgB HNW
 have HNA : Hid (NwAt w wA.heap.size w.heap.size x #[I a, I b] w2) := Lib.hid ⟨HSY.out, HI2.out, HB2.out, HLO.out, Nat.le_refl _, HQ2.out.size⟩
 clear HSY HI2 HB2 HLO HQ2 HQ3 hG2
 generalize wA.heap.size = BB at *
 generalize hg2 : w.heap.size = g2 at *
 have HG2 := Lib.hid hg2
 clear hg2
 go_cut [1] (fun s1 wx => s1 = I (r : Int) ∧ (NwAt w BB g2 x #[I (c : Int), I (u : Int)]) wx)
 case first =>
  rename_i J0 K0 hJ0 hK0
  have HK0 := Lib.hid hK0
  clear hK0
  refine region_all (by kernel_rfl) (fun b0 => b0.tmps.getD 1 undef = I ro ∧ b0.tmps.getD 2 undef = .pointer (some ⟨g2, 0, none⟩)) ⟨rfl, rfl⟩ 113 rfl (fun i => ([.pointer (some ⟨g2, 0, none⟩), I a, I (c : Int), .pointer (some ⟨g2, 1, none⟩), I b, I (u : Int), .agg #[I (c : Int), I (u : Int)], I ro, I (r : Int), undef, I (r : Int)] : List Value).getD i undef) [2, 5, 8, 9] (by kernel_rfl) (fun j => ([(NwAt w BB g2 x #[I a, I b]), (NwAt w BB g2 x #[I a, I b]), (NwAt w BB g2 x #[I a, I b]), (NwAt w BB g2 x #[I a, I b]), (NwAt w BB g2 x #[I (c : Int), I (u : Int)])] : List (World → Prop)).getD j (fun _ => True)) [28, 29, 30, 31, 32, 33, 34, 35, 36, 1] (by kernel_rfl) (by kernel_rfl) (HNA.out.drew) ?_ ?_
  ·intro b0 hb0 i o ho
   have hi : i < 11 := (Array.getElem?_eq_some_iff.1 ho).1
   obtain ⟨f1, f2⟩ := hb0
   have hcase : i = 0 ∨ i = 1 ∨ i = 2 ∨ i = 3 ∨ i = 4 ∨ i = 5 ∨ i = 6 ∨ i = 7 ∨ i = 8 ∨ i = 9 ∨ i = 10 := by omega
   clear hi
   rcases hcase with rfl | rfl | rfl | rfl | rfl | rfl | rfl | rfl | rfl | rfl | rfl <;> simp only [List.getElem?_toArray, List.getElem?_cons_zero, List.getElem?_cons_succ] at ho <;> cases ho
   ·refine .inl ⟨by decide, fun M => stepA rfl (fun li ac wx H hn hed hM K hk => ?_)⟩
    have e2 : ac.tmps[2]?.getD undef = .pointer (some ⟨g2, 0, none⟩) := slot_at ((H.frm.slot (by decide)).trans f2)
    clear hed H
    go_simp
    exact hk _ hM
   ·refine .inr (.inr (.inr ⟨by decide, 0, 2, rfl, by kernel_rfl, fun j hj => ?_⟩))
    have hj2 : j = 0 := by omega
    clear hj
    rcases hj2 with rfl
    ·refine stepA rfl (fun li ac wx H hn hed hM K hk => ?_)
     have e28 : ac.tmps[28]?.getD undef = .pointer (some ⟨g2, 0, none⟩) := slot_at (H.known 0 _ rfl (hed ⟨0, .data⟩ (by simp) rfl) 28 rfl)
     have hM1 : (NwAt w BB g2 x #[I a, I b]) wx := hM
     clear hed H
     have hc := hM1.inp.cellv 0 _ rfl
     have hl := hM1.inp.lt
     go_simp
     exact hk _ hM
   ·refine .inr (.inr (.inl ⟨0, rfl, stepA rfl (fun li ac wx H hn hed hM K hk => ?_)⟩))
    have e29 : ac.tmps[29]?.getD undef = I a := slot_at (H.known 1 _ rfl (hed ⟨1, .data⟩ (by simp) rfl) 29 rfl)
    have hM1 : (NwAt w BB g2 x #[I a, I b]) wx := hM
    clear hed H
    go_simp
    refine (HP1.out wx).mono ?_
    rintro e w' ⟨rfl, rfl⟩
    exact hk _ hM
   ·refine .inl ⟨by decide, fun M => stepA rfl (fun li ac wx H hn hed hM K hk => ?_)⟩
    have e2 : ac.tmps[2]?.getD undef = .pointer (some ⟨g2, 0, none⟩) := slot_at ((H.frm.slot (by decide)).trans f2)
    clear hed H
    go_simp
    exact hk _ hM
   ·refine .inr (.inr (.inr ⟨by decide, 1, 5, rfl, by kernel_rfl, fun j hj => ?_⟩))
    have hj2 : j = 0 ∨ j = 1 := by omega
    clear hj
    rcases hj2 with rfl | rfl
    ·refine stepA rfl (fun li ac wx H hn hed hM K hk => ?_)
     have e31 : ac.tmps[31]?.getD undef = .pointer (some ⟨g2, 1, none⟩) := slot_at (H.known 3 _ rfl (hed ⟨3, .data⟩ (by simp) rfl) 31 rfl)
     have hM1 : (NwAt w BB g2 x #[I a, I b]) wx := hM
     clear hed H
     have hc := hM1.inp.cellv 1 _ rfl
     have hl := hM1.inp.lt
     go_simp
     exact hk _ hM
    ·refine stepA rfl (fun li ac wx H hn hed hM K hk => ?_)
     have e31 : ac.tmps[31]?.getD undef = .pointer (some ⟨g2, 1, none⟩) := slot_at (H.known 3 _ rfl (hed ⟨3, .data⟩ (by simp) rfl) 31 rfl)
     have hM1 : (NwAt w BB g2 x #[I a, I b]) wx := hM
     clear hed H
     have hc := hM1.inp.cellv 1 _ rfl
     have hl := hM1.inp.lt
     go_simp
     exact hk _ hM
   ·refine .inr (.inr (.inl ⟨1, rfl, stepA rfl (fun li ac wx H hn hed hM K hk => ?_)⟩))
    have e32 : ac.tmps[32]?.getD undef = I b := slot_at (H.known 4 _ rfl (hed ⟨4, .data⟩ (by simp) rfl) 32 rfl)
    have hM1 : (NwAt w BB g2 x #[I a, I b]) wx := hM
    clear hed H
    go_simp
    refine (HP2.out wx).mono ?_
    rintro e w' ⟨rfl, rfl⟩
    exact hk _ hM
   ·refine .inl ⟨by decide, fun M => stepA rfl (fun li ac wx H hn hed hM K hk => ?_)⟩
    have e30 : ac.tmps[30]?.getD undef = I (c : Int) := slot_at (H.known 2 _ rfl (hed ⟨2, .data⟩ (by simp) rfl) 30 rfl)
    have e33 : ac.tmps[33]?.getD undef = I (u : Int) := slot_at (H.known 5 _ rfl (hed ⟨5, .data⟩ (by simp) rfl) 33 rfl)
    clear hed H
    go_simp
    exact hk _ hM
   ·refine .inl ⟨by decide, fun M => stepA rfl (fun li ac wx H hn hed hM K hk => ?_)⟩
    have e1 : ac.tmps[1]?.getD undef = I ro := H.late hn (by kernel_rfl) f1
    clear hed H
    go_simp
    exact hk _ hM
   ·refine .inr (.inr (.inl ⟨2, rfl, stepA rfl (fun li ac wx H hn hed hM K hk => ?_)⟩))
    have e35 : ac.tmps[35]?.getD undef = I ro := slot_at (H.known 7 _ rfl (hed ⟨7, .data⟩ (by simp) rfl) 35 rfl)
    have hM1 : (NwAt w BB g2 x #[I a, I b]) wx := hM
    clear hed H
    go_simp
    refine (HP3.out wx).mono ?_
    rintro e w' ⟨rfl, rfl⟩
    exact hk _ hM
   ·refine .inr (.inr (.inl ⟨3, rfl, stepA rfl (fun li ac wx H hn hed hM K hk => ?_)⟩))
    have e2 : ac.tmps[2]?.getD undef = .pointer (some ⟨g2, 0, none⟩) := slot_at ((H.frm.slot (by decide)).trans f2)
    have e34 : ac.tmps[34]?.getD undef = .agg #[I (c : Int), I (u : Int)] := slot_at (H.known 6 _ rfl (hed ⟨6, .data⟩ (by simp) rfl) 34 rfl)
    have hM1 : (NwAt w BB g2 x #[I a, I b]) wx := hM
    clear hed H
    refine wp_store_row 26 (.tmp 2) (.tmp 34) rfl g2 #[I (c : Int), I (u : Int)] (eval_at e2) (eval_at e34) 26 #[I a, I b] hM1.inp infoIn rfl (by simp [Value.oneCell']) ?_
    exact hk _ (hM1.store _)
   ·refine .inl ⟨by decide, fun M => stepA rfl (fun li ac wx H hn hed hM K hk => ?_)⟩
    have e36 : ac.tmps[36]?.getD undef = I (r : Int) := slot_at (H.known 8 _ rfl (hed ⟨8, .data⟩ (by simp) rfl) 36 rfl)
    clear hed H
    go_simp
    exact hk _ hM
  ·intro ac wx hF hK hM0
   have hM : (NwAt w BB g2 x #[I (c : Int), I (u : Int)]) wx := hM0
   have E1 := hK 10 _ rfl 1 rfl
   have hMet := hF.meet
   simp only [List.foldl_cons, List.foldl_nil, List.setIfInBounds_toArray, List.set_cons_succ, List.set_cons_zero, E1] at hMet
   refine HK0.out _ _ (Met.intro (hJ0 _ _ ?_))
   (repeat apply Exists.intro)
   exact ⟨⟨rfl, hM⟩, hMet⟩
 case rest =>
  obtain ⟨rfl, hnw⟩ := hcut
  have HNW := Lib.hid hnw
  clear hnw HNA HP1 HP2 HP3
  have HSE0 : Hid (SeAt w wc BB g2 x (seen3 c u 0) c u wc) := Lib.hid ⟨SyIn.start HNW.out.sys HNW.out.low, HNW.out.inp, HNW.out.below⟩
  have HDC := Lib.hid (digits_ok c (by have := HCU.out; omega))
  have HDU := Lib.hid (digits_ok u (by have := HCU.out; omega))
  have HDR := Lib.hid (digits_ok r (by have := HCU.out; omega))
  go_wp2_with fail
  go_loopw [8, 9] (fun tv kv wr => ∃ k : Nat, k ≤ 3 ∧ kv = I k ∧ tv = .string ⟨(seesTo c u k).toArray⟩ ∧ Hid (SeAt w wc BB g2 x (seen3 c u k) c u wr)) (fun _ kv _ => 3 - (intOf kv).toNat)
  case atStart => exact ⟨0, Nat.zero_le _, rfl, rfl, HSE0⟩
  case round =>
   clear HSE0
   obtain ⟨k, hk, rfl, rfl, HSE⟩ := hrel
   by_cases hlt : k < 3
   ·have hkk : (k : Int) < 3 := by omega
    have HLT := Lib.hid hlt
    have HDK := Lib.hid (digits_ok k (by omega))
    have HCL := Lib.hid (in_see HSE.out.sys k hlt c u)
    have c0 := HSE.out.inp.cellv 0 _ rfl
    have c1 := HSE.out.inp.cellv 1 _ rfl
    have hg2 := HSE.out.inp.lt
    have HES : Hid ((⟨(seesTo c u k).toArray⟩ : ByteArray) ++ ((⟨#[115, 101, 101, 32]⟩ : ByteArray) ++ ⟨(Lib.decDigits k).toArray⟩ ++ ⟨#[32]⟩ ++ ⟨(Lib.decDigits c).toArray⟩ ++ ⟨#[32]⟩ ++ ⟨(Lib.decDigits u).toArray⟩ ++ ⟨#[10]⟩) = ⟨(seesTo c u (k + 1)).toArray⟩) := Lib.hid (by
     rw [show (⟨#[115, 101, 101, 32]⟩ : ByteArray) = ⟨[115, 101, 101, 32].toArray⟩ from rfl, show (⟨#[32]⟩ : ByteArray) = ⟨[32].toArray⟩ from rfl, show (⟨#[10]⟩ : ByteArray) = ⟨[10].toArray⟩ from rfl]
     simp only [ba_app]
     rfl)
    have HZ : Hid ((⟨(seesTo c u k).toArray⟩ : ByteArray).size ≤ 10000 ∧ (⟨(Lib.decDigits k).toArray⟩ : ByteArray).size ≤ 1000 ∧ (⟨(Lib.decDigits c).toArray⟩ : ByteArray).size ≤ 1000 ∧ (⟨(Lib.decDigits u).toArray⟩ : ByteArray).size ≤ 1000) := Lib.hid (by
     have e : ∀ l : By, (⟨l.toArray⟩ : ByteArray).size = l.length := fun l => by simp [ByteArray.size]
     rw [e, e, e, e]
     have d0 := dec_len (n := k) (by omega)
     have d1 := dec_len (n := c) (by have := HCU.out; omega)
     have d2 := dec_len (n := u) (by have := HCU.out; omega)
     exact ⟨seesTo_len (by have := HCU.out; omega) (by have := HCU.out; omega) k (by omega), by omega, by omega, by omega⟩)
    clear hlt hk
    generalize (⟨(seesTo c u k).toArray⟩ : ByteArray) = T0 at *
    generalize (⟨(Lib.decDigits k).toArray⟩ : ByteArray) = D0 at *
    generalize (⟨(Lib.decDigits c).toArray⟩ : ByteArray) = D1 at *
    generalize (⟨(Lib.decDigits u).toArray⟩ : ByteArray) = D2 at *
    go_upto_region 13 with (go_at_call 9; refine HCL.out.mono ?_; rintro e w3 ⟨⟨v, rfl, _⟩, hsi, hst⟩; have HS3 : Hid (SeAt w wc BB g2 x (seen3 c u (k + 1)) c u w3) := Lib.hid (SeAt.next HNW.out HSE.out hsi hst); clear hsi hst)
    clear c0 c1 hg2 HCL HSE
    refine region_all (by kernel_rfl) (fun b0 => b0.tmps.getD 2 undef = .pointer (some ⟨g2, 0, none⟩) ∧ b0.tmps.getD 8 undef = .string T0 ∧ b0.tmps.getD 9 undef = I (k : Int)) ⟨rfl, rfl, rfl⟩ 113 rfl (fun i => ([.string T0, I (k : Int), .string D0, .string (⟨#[115, 101, 101, 32]⟩ ++ D0), .string (⟨#[115, 101, 101, 32]⟩ ++ D0 ++ ⟨#[32]⟩), .pointer (some ⟨g2, 0, none⟩), I (c : Int), .string D1, .string (⟨#[115, 101, 101, 32]⟩ ++ D0 ++ ⟨#[32]⟩ ++ D1), .string (⟨#[115, 101, 101, 32]⟩ ++ D0 ++ ⟨#[32]⟩ ++ D1 ++ ⟨#[32]⟩), .pointer (some ⟨g2, 1, none⟩), I (u : Int), .string D2, .string (⟨#[115, 101, 101, 32]⟩ ++ D0 ++ ⟨#[32]⟩ ++ D1 ++ ⟨#[32]⟩ ++ D2), .string (⟨#[115, 101, 101, 32]⟩ ++ D0 ++ ⟨#[32]⟩ ++ D1 ++ ⟨#[32]⟩ ++ D2 ++ ⟨#[10]⟩), .string (T0 ++ (⟨#[115, 101, 101, 32]⟩ ++ D0 ++ ⟨#[32]⟩ ++ D1 ++ ⟨#[32]⟩ ++ D2 ++ ⟨#[10]⟩)), .string (T0 ++ (⟨#[115, 101, 101, 32]⟩ ++ D0 ++ ⟨#[32]⟩ ++ D1 ++ ⟨#[32]⟩ ++ D2 ++ ⟨#[10]⟩))] : List Value).getD i undef) [2, 7, 12] (by kernel_rfl) (fun j => ([(SeAt w wc BB g2 x (seen3 c u (k + 1)) c u), (SeAt w wc BB g2 x (seen3 c u (k + 1)) c u), (SeAt w wc BB g2 x (seen3 c u (k + 1)) c u), (SeAt w wc BB g2 x (seen3 c u (k + 1)) c u)] : List (World → Prop)).getD j (fun _ => True)) [45, 46, 47, 48, 49, 50, 51, 52, 53, 54, 55, 56, 57, 58, 59, 60, 8] (by kernel_rfl) (by kernel_rfl) (HS3.out.drew) ?_ ?_
    ·intro b0 hb0 i o ho
     have hi : i < 17 := (Array.getElem?_eq_some_iff.1 ho).1
     obtain ⟨f2, f8, f9⟩ := hb0
     have hcase : i = 0 ∨ i = 1 ∨ i = 2 ∨ i = 3 ∨ i = 4 ∨ i = 5 ∨ i = 6 ∨ i = 7 ∨ i = 8 ∨ i = 9 ∨ i = 10 ∨ i = 11 ∨ i = 12 ∨ i = 13 ∨ i = 14 ∨ i = 15 ∨ i = 16 := by omega
     clear hi
     rcases hcase with rfl | rfl | rfl | rfl | rfl | rfl | rfl | rfl | rfl | rfl | rfl | rfl | rfl | rfl | rfl | rfl | rfl <;> simp only [List.getElem?_toArray, List.getElem?_cons_zero, List.getElem?_cons_succ] at ho <;> cases ho
     ·refine .inl ⟨by decide, fun M => stepA rfl (fun li ac wx H hn hed hM K hk => ?_)⟩
      have e8 : ac.tmps[8]?.getD undef = .string T0 := H.late hn (by kernel_rfl) f8
      clear hed H
      go_simp
      exact hk _ hM
     ·refine .inl ⟨by decide, fun M => stepA rfl (fun li ac wx H hn hed hM K hk => ?_)⟩
      have e9 : ac.tmps[9]?.getD undef = I (k : Int) := slot_at ((H.frm.slot (by decide)).trans f9)
      clear hed H
      go_simp
      exact hk _ hM
     ·refine .inr (.inr (.inl ⟨0, rfl, stepA rfl (fun li ac wx H hn hed hM K hk => ?_)⟩))
      have e46 : ac.tmps[46]?.getD undef = I (k : Int) := slot_at (H.known 1 _ rfl (hed ⟨1, .data⟩ (by simp) rfl) 46 rfl)
      have hM1 : (SeAt w wc BB g2 x (seen3 c u (k + 1)) c u) wx := hM
      clear hed H
      go_simp
      refine (HDK.out wx).mono ?_
      rintro e w' ⟨rfl, hb⟩
      exact hk _ (hM1.after hb)
     ·refine .inl ⟨by decide, fun M => stepA rfl (fun li ac wx H hn hed hM K hk => ?_)⟩
      have e47 : ac.tmps[47]?.getD undef = .string D0 := slot_at (H.known 2 _ rfl (hed ⟨2, .data⟩ (by simp) rfl) 47 rfl)
      have hz := HZ.out
      have z1 : ¬ 9223372036854775807 < 4 + D0.size := by omega
      clear hz
      clear hed H
      go_simp
      exact hk _ hM
     ·refine .inl ⟨by decide, fun M => stepA rfl (fun li ac wx H hn hed hM K hk => ?_)⟩
      have e48 : ac.tmps[48]?.getD undef = .string (⟨#[115, 101, 101, 32]⟩ ++ D0) := slot_at (H.known 3 _ rfl (hed ⟨3, .data⟩ (by simp) rfl) 48 rfl)
      have hz := HZ.out
      have z1 : ¬ 9223372036854775807 < 4 + D0.size + 1 := by omega
      clear hz
      clear hed H
      go_simp
      exact hk _ hM
     ·refine .inl ⟨by decide, fun M => stepA rfl (fun li ac wx H hn hed hM K hk => ?_)⟩
      have e2 : ac.tmps[2]?.getD undef = .pointer (some ⟨g2, 0, none⟩) := slot_at ((H.frm.slot (by decide)).trans f2)
      clear hed H
      go_simp
      exact hk _ hM
     ·refine .inr (.inr (.inr ⟨by decide, 1, 7, rfl, by kernel_rfl, fun j hj => ?_⟩))
      have hj2 : j = 0 ∨ j = 1 := by omega
      clear hj
      rcases hj2 with rfl | rfl
      ·refine stepA rfl (fun li ac wx H hn hed hM K hk => ?_)
       have e50 : ac.tmps[50]?.getD undef = .pointer (some ⟨g2, 0, none⟩) := slot_at (H.known 5 _ rfl (hed ⟨5, .data⟩ (by simp) rfl) 50 rfl)
       have hM1 : (SeAt w wc BB g2 x (seen3 c u (k + 1)) c u) wx := hM
       clear hed H
       have hc := hM1.inp.cellv 0 _ rfl
       have hl := hM1.inp.lt
       go_simp
       exact hk _ hM
      ·refine stepA rfl (fun li ac wx H hn hed hM K hk => ?_)
       have e50 : ac.tmps[50]?.getD undef = .pointer (some ⟨g2, 0, none⟩) := slot_at (H.known 5 _ rfl (hed ⟨5, .data⟩ (by simp) rfl) 50 rfl)
       have hM1 : (SeAt w wc BB g2 x (seen3 c u (k + 1)) c u) wx := hM
       clear hed H
       have hc := hM1.inp.cellv 0 _ rfl
       have hl := hM1.inp.lt
       go_simp
       exact hk _ hM
     ·refine .inr (.inr (.inl ⟨1, rfl, stepA rfl (fun li ac wx H hn hed hM K hk => ?_)⟩))
      have e51 : ac.tmps[51]?.getD undef = I (c : Int) := slot_at (H.known 6 _ rfl (hed ⟨6, .data⟩ (by simp) rfl) 51 rfl)
      have hM1 : (SeAt w wc BB g2 x (seen3 c u (k + 1)) c u) wx := hM
      clear hed H
      go_simp
      refine (HDC.out wx).mono ?_
      rintro e w' ⟨rfl, hb⟩
      exact hk _ (hM1.after hb)
     ·refine .inl ⟨by decide, fun M => stepA rfl (fun li ac wx H hn hed hM K hk => ?_)⟩
      have e49 : ac.tmps[49]?.getD undef = .string (⟨#[115, 101, 101, 32]⟩ ++ D0 ++ ⟨#[32]⟩) := slot_at (H.known 4 _ rfl (hed ⟨4, .data⟩ (by simp) rfl) 49 rfl)
      have e52 : ac.tmps[52]?.getD undef = .string D1 := slot_at (H.known 7 _ rfl (hed ⟨7, .data⟩ (by simp) rfl) 52 rfl)
      have hz := HZ.out
      have z1 : ¬ 9223372036854775807 < 4 + D0.size + 1 + D1.size := by omega
      clear hz
      clear hed H
      go_simp
      exact hk _ hM
     ·refine .inl ⟨by decide, fun M => stepA rfl (fun li ac wx H hn hed hM K hk => ?_)⟩
      have e53 : ac.tmps[53]?.getD undef = .string (⟨#[115, 101, 101, 32]⟩ ++ D0 ++ ⟨#[32]⟩ ++ D1) := slot_at (H.known 8 _ rfl (hed ⟨8, .data⟩ (by simp) rfl) 53 rfl)
      have hz := HZ.out
      have z1 : ¬ 9223372036854775807 < 4 + D0.size + 1 + D1.size + 1 := by omega
      clear hz
      clear hed H
      go_simp
      exact hk _ hM
     ·refine .inl ⟨by decide, fun M => stepA rfl (fun li ac wx H hn hed hM K hk => ?_)⟩
      have e2 : ac.tmps[2]?.getD undef = .pointer (some ⟨g2, 0, none⟩) := slot_at ((H.frm.slot (by decide)).trans f2)
      clear hed H
      go_simp
      exact hk _ hM
     ·refine .inr (.inr (.inr ⟨by decide, 2, 12, rfl, by kernel_rfl, fun j hj => ?_⟩))
      have hj2 : j = 0 ∨ j = 1 ∨ j = 2 := by omega
      clear hj
      rcases hj2 with rfl | rfl | rfl
      ·refine stepA rfl (fun li ac wx H hn hed hM K hk => ?_)
       have e55 : ac.tmps[55]?.getD undef = .pointer (some ⟨g2, 1, none⟩) := slot_at (H.known 10 _ rfl (hed ⟨10, .data⟩ (by simp) rfl) 55 rfl)
       have hM1 : (SeAt w wc BB g2 x (seen3 c u (k + 1)) c u) wx := hM
       clear hed H
       have hc := hM1.inp.cellv 1 _ rfl
       have hl := hM1.inp.lt
       go_simp
       exact hk _ hM
      ·refine stepA rfl (fun li ac wx H hn hed hM K hk => ?_)
       have e55 : ac.tmps[55]?.getD undef = .pointer (some ⟨g2, 1, none⟩) := slot_at (H.known 10 _ rfl (hed ⟨10, .data⟩ (by simp) rfl) 55 rfl)
       have hM1 : (SeAt w wc BB g2 x (seen3 c u (k + 1)) c u) wx := hM
       clear hed H
       have hc := hM1.inp.cellv 1 _ rfl
       have hl := hM1.inp.lt
       go_simp
       exact hk _ hM
      ·refine stepA rfl (fun li ac wx H hn hed hM K hk => ?_)
       have e55 : ac.tmps[55]?.getD undef = .pointer (some ⟨g2, 1, none⟩) := slot_at (H.known 10 _ rfl (hed ⟨10, .data⟩ (by simp) rfl) 55 rfl)
       have hM1 : (SeAt w wc BB g2 x (seen3 c u (k + 1)) c u) wx := hM
       clear hed H
       have hc := hM1.inp.cellv 1 _ rfl
       have hl := hM1.inp.lt
       go_simp
       exact hk _ hM
     ·refine .inr (.inr (.inl ⟨2, rfl, stepA rfl (fun li ac wx H hn hed hM K hk => ?_)⟩))
      have e56 : ac.tmps[56]?.getD undef = I (u : Int) := slot_at (H.known 11 _ rfl (hed ⟨11, .data⟩ (by simp) rfl) 56 rfl)
      have hM1 : (SeAt w wc BB g2 x (seen3 c u (k + 1)) c u) wx := hM
      clear hed H
      go_simp
      refine (HDU.out wx).mono ?_
      rintro e w' ⟨rfl, hb⟩
      exact hk _ (hM1.after hb)
     ·refine .inl ⟨by decide, fun M => stepA rfl (fun li ac wx H hn hed hM K hk => ?_)⟩
      have e54 : ac.tmps[54]?.getD undef = .string (⟨#[115, 101, 101, 32]⟩ ++ D0 ++ ⟨#[32]⟩ ++ D1 ++ ⟨#[32]⟩) := slot_at (H.known 9 _ rfl (hed ⟨9, .data⟩ (by simp) rfl) 54 rfl)
      have e57 : ac.tmps[57]?.getD undef = .string D2 := slot_at (H.known 12 _ rfl (hed ⟨12, .data⟩ (by simp) rfl) 57 rfl)
      have hz := HZ.out
      have z1 : ¬ 9223372036854775807 < 4 + D0.size + 1 + D1.size + 1 + D2.size := by omega
      clear hz
      clear hed H
      go_simp
      exact hk _ hM
     ·refine .inl ⟨by decide, fun M => stepA rfl (fun li ac wx H hn hed hM K hk => ?_)⟩
      have e58 : ac.tmps[58]?.getD undef = .string (⟨#[115, 101, 101, 32]⟩ ++ D0 ++ ⟨#[32]⟩ ++ D1 ++ ⟨#[32]⟩ ++ D2) := slot_at (H.known 13 _ rfl (hed ⟨13, .data⟩ (by simp) rfl) 58 rfl)
      have hz := HZ.out
      have z1 : ¬ 9223372036854775807 < 4 + D0.size + 1 + D1.size + 1 + D2.size + 1 := by omega
      clear hz
      clear hed H
      go_simp
      exact hk _ hM
     ·refine .inl ⟨by decide, fun M => stepA rfl (fun li ac wx H hn hed hM K hk => ?_)⟩
      have e45 : ac.tmps[45]?.getD undef = .string T0 := slot_at (H.known 0 _ rfl (hed ⟨0, .data⟩ (by simp) rfl) 45 rfl)
      have e59 : ac.tmps[59]?.getD undef = .string (⟨#[115, 101, 101, 32]⟩ ++ D0 ++ ⟨#[32]⟩ ++ D1 ++ ⟨#[32]⟩ ++ D2 ++ ⟨#[10]⟩) := slot_at (H.known 14 _ rfl (hed ⟨14, .data⟩ (by simp) rfl) 59 rfl)
      have hz := HZ.out
      have z1 : ¬ 9223372036854775807 < T0.size + (4 + D0.size + 1 + D1.size + 1 + D2.size + 1) := by omega
      clear hz
      clear hed H
      go_simp
      exact hk _ hM
     ·refine .inl ⟨by decide, fun M => stepA rfl (fun li ac wx H hn hed hM K hk => ?_)⟩
      have e60 : ac.tmps[60]?.getD undef = .string (T0 ++ (⟨#[115, 101, 101, 32]⟩ ++ D0 ++ ⟨#[32]⟩ ++ D1 ++ ⟨#[32]⟩ ++ D2 ++ ⟨#[10]⟩)) := slot_at (H.known 15 _ rfl (hed ⟨15, .data⟩ (by simp) rfl) 60 rfl)
      clear hed H
      go_simp
      exact hk _ hM
    ·intro ac wx hF hK hM0
     have hM : (SeAt w wc BB g2 x (seen3 c u (k + 1)) c u) wx := hM0
     have E8 : ac.tmps.getD 8 undef = .string (T0 ++ (⟨#[115, 101, 101, 32]⟩ ++ D0 ++ ⟨#[32]⟩ ++ D1 ++ ⟨#[32]⟩ ++ D2 ++ ⟨#[10]⟩)) := hK 16 _ rfl 8 rfl
     have hMet := hF.meet
     simp only [List.foldl_cons, List.foldl_nil, List.setIfInBounds_toArray, List.set_cons_succ, List.set_cons_zero, E8] at hMet
     generalize ac.tmps.getD 45 undef = v45 at hMet
     generalize ac.tmps.getD 46 undef = v46 at hMet
     generalize ac.tmps.getD 47 undef = v47 at hMet
     generalize ac.tmps.getD 48 undef = v48 at hMet
     generalize ac.tmps.getD 49 undef = v49 at hMet
     generalize ac.tmps.getD 50 undef = v50 at hMet
     generalize ac.tmps.getD 51 undef = v51 at hMet
     generalize ac.tmps.getD 52 undef = v52 at hMet
     generalize ac.tmps.getD 53 undef = v53 at hMet
     generalize ac.tmps.getD 54 undef = v54 at hMet
     generalize ac.tmps.getD 55 undef = v55 at hMet
     generalize ac.tmps.getD 56 undef = v56 at hMet
     generalize ac.tmps.getD 57 undef = v57 at hMet
     generalize ac.tmps.getD 58 undef = v58 at hMet
     generalize ac.tmps.getD 59 undef = v59 at hMet
     generalize ac.tmps.getD 60 undef = v60 at hMet
     clear hF hK hM0 E8
     subst hMet
     have HSN : Hid (SeAt w wc BB g2 x (seen3 c u (k + 1)) c u wx) := Lib.hid hM
     clear hM HS3 HZ HDK
     rw [HES.out]
     go_wp2_with fail
     go_roundw
     case rel => exact ⟨k + 1, HLT.out, rfl, rfl, HSN⟩
     case measure => have := HLT.out; simp [intOf]; omega
   ·have hk3 : k = 3 := by omega
    subst hk3
    have hkk : ¬ (3 : Int) < 3 := by decide
    have HF3 := seen3_fine c u HCU.out.1 HCU.out.2.1 3 (Nat.le_refl _)
    have HCL := Lib.hid (in_calm N HN.out HSE.out.sys HF3 deskL_ok r (by have := HCU.out; omega) (by omega))
    have hfc := Fine.calm deskL_ok N r HF3
    have hmany := hfc.vo.many
    have HNN : Hid (∀ x ∈ (calm deskL N (seen3 c u 3) r).v.trace, (0 ≤ x.1 ∧ x.1 ≤ 1048576) ∧ (0 ≤ x.2.1 ∧ x.2.1 ≤ 1048576) ∧ (0 ≤ x.2.2 ∧ x.2.2 ≤ 1048576)) := Lib.hid (sees_nn c u r N)
    have HANS := sees_answers HCU.out.1 HCU.out.2.1 HCU.out.2.2 N HN.out
    have HTR := Lib.hid (fun w3 (h : SyIn wc BB x deskL (calm deskL N (seen3 c u 3) r) w3) => in_trace h hmany)
    have hlines : linesOf ⟨(allT c u r).toArray⟩ = _ := allT_lines HCU.out.1 HCU.out.2.1 HCU.out.2.2
    generalize hsF : calm deskL N (seen3 c u 3) r = sF at *
    clear hfc hsF HF3
    rw [← ansTo_all HNN.out] at HANS
    have HAL := ansTo_len HNN.out
    generalize htr : sF.v.trace = tr at *
    clear htr
    go_upto_region 16 with (go_at_call 11; refine HCL.out.mono ?_; rintro e w3 ⟨⟨v, rfl, _⟩, hsi, hst⟩; have HS3 : Hid (SeAt w wc BB g2 x sF c u w3) := Lib.hid (SeAt.next HNW.out HSE.out hsi hst); clear hsi hst)
    clear HCL
    have HTC := Lib.hid (HTR.out w3 HS3.out.sys)
    clear HTR
    have HMN := Lib.hid hmany
    have HAN := Lib.hid HANS
    have HLE := Lib.hid HAL
    clear hmany HANS HAL hlines HNW HSE
    go_upto_region 17 with (go_at_call 12; refine HTC.out.mono ?_; rintro e w4 ⟨⟨vr, rfl, ho⟩, hb4⟩; obtain ⟨A2, c2, rfl, hcc, hget⟩ := own_cms ho; have HG := Lib.hid hget; have HB4 := Lib.hid (HS3.out.below.trans (hb4.mono HS3.out.below.size)); clear ho hget hb4)
    clear HTC HS3
    have hlen : (tr.length : Int) ≤ 1000 := by have := HMN.out; omega
    go_wp2_with fail
    go_loopw [10, 12] (fun ov iv wr => ∃ ix : Nat, ix ≤ tr.length ∧ iv = I ix ∧ ov = .string ⟨(ansTo tr ix).toArray⟩ ∧ Hid (Below w4.heap.size w4 wr)) (fun _ iv _ => tr.length - (intOf iv).toNat)
    case atStart => exact ⟨0, Nat.zero_le _, rfl, rfl, Lib.hid (Below.refl _ _)⟩
    case round =>
     obtain ⟨ix, hi, rfl, rfl, HW⟩ := hrel
     by_cases hlt : ix < tr.length
     ·obtain ⟨cm, hcm⟩ := some_at tr ix hlt
      obtain ⟨bb, rfl, hbb, c0, c1, c2'⟩ := HG.out ix _ hcm
      have hbr := Nat.lt_of_lt_of_le hbb HW.out.size
      have hii : (ix : Int) < (tr.length : Int) := by omega
      have hi0 : (0 : Int) ≤ (ix : Int) := by omega
      have HLT := Lib.hid hlt
      have hcn := HNN.out cm (List.mem_of_getElem? hcm)
      have hgd : tr.getD ix Cm.zero = cm := by rw [List.getD_eq_getElem?_getD, hcm]; rfl
      obtain ⟨x0, x1, x2⟩ := cm
      obtain ⟨y0, hy0⟩ : ∃ y : Nat, x0 = (y : Int) := ⟨x0.toNat, by have := hcn.1.1; dsimp only at this; omega⟩
      obtain ⟨y1, hy1⟩ : ∃ y : Nat, x1 = (y : Int) := ⟨x1.toNat, by have := hcn.2.1.1; dsimp only at this; omega⟩
      obtain ⟨y2, hy2⟩ : ∃ y : Nat, x2 = (y : Int) := ⟨x2.toNat, by have := hcn.2.2.1; dsimp only at this; omega⟩
      subst hy0; subst hy1; subst hy2
      have HY : Hid (y0 ≤ 1048576 ∧ y1 ≤ 1048576 ∧ y2 ≤ 1048576) := Lib.hid (by have := hcn.1.2; have := hcn.2.1.2; have := hcn.2.2.2; dsimp only at *; omega)
      have HD0 := Lib.hid (digits_ok y0 (by have := HY.out; omega))
      have HD1 := Lib.hid (digits_ok y1 (by have := HY.out; omega))
      have HD2 := Lib.hid (digits_ok y2 (by have := HY.out; omega))
      have HCC : Hid (w4.cell? ⟨bb, ix * 3, none⟩ = some (I y0) ∧ w4.cell? ⟨bb, ix * 3 + 1, none⟩ = some (I y1) ∧ w4.cell? ⟨bb, ix * 3 + 2, none⟩ = some (I y2) ∧ bb < w4.heap.size) := Lib.hid ⟨c0, c1, c2', hbb⟩
      have HZ : Hid ((⟨(ansTo tr ix).toArray⟩ : ByteArray).size ≤ 100000 ∧ (⟨(Lib.decDigits y0).toArray⟩ : ByteArray).size ≤ 1000 ∧ (⟨(Lib.decDigits y1).toArray⟩ : ByteArray).size ≤ 1000 ∧ (⟨(Lib.decDigits y2).toArray⟩ : ByteArray).size ≤ 1000) := Lib.hid (by
       have e : ∀ l : By, (⟨l.toArray⟩ : ByteArray).size = l.length := fun l => by simp [ByteArray.size]
       rw [e, e, e, e]
       have d0 := dec_len HY.out.1
       have d1 := dec_len HY.out.2.1
       have d2 := dec_len HY.out.2.2
       have d3 := HLE.out ix hi
       have := HMN.out
       exact ⟨by omega, by omega, by omega, by omega⟩)
      have HES : Hid (∀ TA : ByteArray, (if 0 < ix then (⟨(ansTo tr ix).toArray⟩ : ByteArray) ++ ⟨#[44, 32]⟩ else (⟨(ansTo tr ix).toArray⟩ : ByteArray)) = TA → TA ++ ((⟨(Lib.decDigits y0).toArray⟩ : ByteArray) ++ ⟨#[32]⟩ ++ ⟨(Lib.decDigits y1).toArray⟩ ++ ⟨#[32]⟩ ++ ⟨(Lib.decDigits y2).toArray⟩) = ⟨(ansTo tr (ix + 1)).toArray⟩) := Lib.hid (by
       rintro TA rfl
       have e : ansTo tr (ix + 1) = (if 0 < ix then ansTo tr ix ++ [44, 32] else ansTo tr ix) ++ cmS ((y0 : Int), (y1 : Int), (y2 : Int)) := by
        conv => lhs; unfold ansTo
        rw [hgd]
       rw [e, show (⟨#[44, 32]⟩ : ByteArray) = ⟨[44, 32].toArray⟩ from rfl, show (⟨#[32]⟩ : ByteArray) = ⟨[32].toArray⟩ from rfl]
       unfold cmS
       simp only [Int.toNat_natCast]
       split <;> simp only [ba_app])
      clear c0 c1 c2' hcn hgd hcm hlt hi hbb HNN
      generalize (⟨(ansTo tr ix).toArray⟩ : ByteArray) = T0 at *
      generalize (⟨(Lib.decDigits y0).toArray⟩ : ByteArray) = D0 at *
      generalize (⟨(Lib.decDigits y1).toArray⟩ : ByteArray) = D1 at *
      generalize (⟨(Lib.decDigits y2).toArray⟩ : ByteArray) = D2 at *
      obtain ⟨TA, hTA⟩ : ∃ TA : ByteArray, (if 0 < ix then T0 ++ ⟨#[44, 32]⟩ else T0) = TA := ⟨_, rfl⟩
      have HE2 := Lib.hid (HES.out TA hTA)
      have HTA := Lib.hid hTA
      have hz2 : T0.size ≤ 100000 := HZ.out.1
      have hz1 : TA.size ≤ 100002 := by
       rw [← hTA]
       split
       ·rw [app_size]
        show T0.size + 2 ≤ _
        omega
       ·omega
      clear HES hTA
      go_upto_if 73 with fail
      go_cut [10] (fun s10 wx => s10 = .string TA ∧ Hid (wx = wr))
      case first =>
       by_cases hp : 0 < ix
       ·have hpp : (0 : Int) < (ix : Int) := by omega
        have h2 := HTA.out
        rw [if_pos hp] at h2
        subst h2
        clear hp HTA
        go_wp2_with fail
        go_meet
        exact ⟨rfl, Lib.hid rfl⟩
       ·have hpp : ¬ (0 : Int) < (ix : Int) := by omega
        have h2 := HTA.out
        rw [if_neg hp] at h2
        subst h2
        clear hp HTA
        go_wp2_with fail
        go_meet
        exact ⟨rfl, Lib.hid rfl⟩
      case rest =>
       obtain ⟨rfl, hwr⟩ := hcut
       have hwe := hwr.out
       subst hwe
       clear hwr HTA hz2
       go_upto_region 22 with fail
       refine region_all (by kernel_rfl) (fun b0 => b0.tmps.getD 10 undef = .string TA ∧ b0.tmps.getD 11 undef = .slice (some ⟨bb, 0, none⟩) tr.length c2 ∧ b0.tmps.getD 12 undef = I (ix : Int)) ⟨rfl, rfl, rfl⟩ 113 rfl (fun i => ([.string TA, .slice (some ⟨bb, 0, none⟩) tr.length c2, I (ix : Int), .pointer (some ⟨bb, ix * 3, none⟩), .pointer (some ⟨bb, ix * 3, none⟩), .pointer (some ⟨bb, ix * 3, none⟩), I (y0 : Int), .string D0, .string (D0 ++ ⟨#[32]⟩), .slice (some ⟨bb, 0, none⟩) tr.length c2, I (ix : Int), .pointer (some ⟨bb, ix * 3, none⟩), .pointer (some ⟨bb, ix * 3, none⟩), .pointer (some ⟨bb, ix * 3 + 1, none⟩), I (y1 : Int), .string D1, .string (D0 ++ ⟨#[32]⟩ ++ D1), .string (D0 ++ ⟨#[32]⟩ ++ D1 ++ ⟨#[32]⟩), .slice (some ⟨bb, 0, none⟩) tr.length c2, I (ix : Int), .pointer (some ⟨bb, ix * 3, none⟩), .pointer (some ⟨bb, ix * 3 + 2, none⟩), I (y2 : Int), .string D2, .string (D0 ++ ⟨#[32]⟩ ++ D1 ++ ⟨#[32]⟩ ++ D2), .string (TA ++ (D0 ++ ⟨#[32]⟩ ++ D1 ++ ⟨#[32]⟩ ++ D2)), .string (TA ++ (D0 ++ ⟨#[32]⟩ ++ D1 ++ ⟨#[32]⟩ ++ D2))] : List Value).getD i undef) [7, 15, 23] (by kernel_rfl) (fun j => ([(Below w4.heap.size w4), (Below w4.heap.size w4), (Below w4.heap.size w4), (Below w4.heap.size w4)] : List (World → Prop)).getD j (fun _ => True)) [76, 77, 78, 79, 80, 81, 82, 83, 84, 85, 86, 87, 88, 89, 90, 91, 92, 93, 94, 95, 96, 97, 98, 99, 100, 101, 10] (by kernel_rfl) (by kernel_rfl) (HW.out.drew) ?_ ?_
       ·intro b0 hb0 i o ho
        have hi : i < 27 := (Array.getElem?_eq_some_iff.1 ho).1
        obtain ⟨f10, f11, f12⟩ := hb0
        have hcase : i = 0 ∨ i = 1 ∨ i = 2 ∨ i = 3 ∨ i = 4 ∨ i = 5 ∨ i = 6 ∨ i = 7 ∨ i = 8 ∨ i = 9 ∨ i = 10 ∨ i = 11 ∨ i = 12 ∨ i = 13 ∨ i = 14 ∨ i = 15 ∨ i = 16 ∨ i = 17 ∨ i = 18 ∨ i = 19 ∨ i = 20 ∨ i = 21 ∨ i = 22 ∨ i = 23 ∨ i = 24 ∨ i = 25 ∨ i = 26 := by omega
        clear hi
        rcases hcase with rfl | rfl | rfl | rfl | rfl | rfl | rfl | rfl | rfl | rfl | rfl | rfl | rfl | rfl | rfl | rfl | rfl | rfl | rfl | rfl | rfl | rfl | rfl | rfl | rfl | rfl | rfl <;> simp only [List.getElem?_toArray, List.getElem?_cons_zero, List.getElem?_cons_succ] at ho <;> cases ho
        ·refine .inl ⟨by decide, fun M => stepA rfl (fun li ac wx H hn hed hM K hk => ?_)⟩
         have e10 : ac.tmps[10]?.getD undef = .string TA := H.late hn (by kernel_rfl) f10
         clear hed H
         go_simp
         exact hk _ hM
        ·refine .inl ⟨by decide, fun M => stepA rfl (fun li ac wx H hn hed hM K hk => ?_)⟩
         have e11 : ac.tmps[11]?.getD undef = .slice (some ⟨bb, 0, none⟩) tr.length c2 := slot_at ((H.frm.slot (by decide)).trans f11)
         clear hed H
         go_simp
         exact hk _ hM
        ·refine .inl ⟨by decide, fun M => stepA rfl (fun li ac wx H hn hed hM K hk => ?_)⟩
         have e12 : ac.tmps[12]?.getD undef = I (ix : Int) := slot_at ((H.frm.slot (by decide)).trans f12)
         clear hed H
         go_simp
         exact hk _ hM
        ·refine .inl ⟨by decide, fun M => stepA rfl (fun li ac wx H hn hed hM K hk => ?_)⟩
         have e77 : ac.tmps[77]?.getD undef = .slice (some ⟨bb, 0, none⟩) tr.length c2 := slot_at (H.known 1 _ rfl (hed ⟨1, .data⟩ (by simp) rfl) 77 rfl)
         have e78 : ac.tmps[78]?.getD undef = I (ix : Int) := slot_at (H.known 2 _ rfl (hed ⟨2, .data⟩ (by simp) rfl) 78 rfl)
         clear hed H
         go_simp
         exact hk _ hM
        ·refine .inl ⟨by decide, fun M => stepA rfl (fun li ac wx H hn hed hM K hk => ?_)⟩
         have e79 : ac.tmps[79]?.getD undef = .pointer (some ⟨bb, ix * 3, none⟩) := slot_at (H.known 3 _ rfl (hed ⟨3, .data⟩ (by simp) rfl) 79 rfl)
         clear hed H
         go_simp
         exact hk _ hM
        ·refine .inl ⟨by decide, fun M => stepA rfl (fun li ac wx H hn hed hM K hk => ?_)⟩
         have e80 : ac.tmps[80]?.getD undef = .pointer (some ⟨bb, ix * 3, none⟩) := slot_at (H.known 4 _ rfl (hed ⟨4, .data⟩ (by simp) rfl) 80 rfl)
         clear hed H
         go_simp
         exact hk _ hM
        ·refine .inr (.inr (.inr ⟨by decide, 0, 7, rfl, by kernel_rfl, fun j hj => ?_⟩))
         have hj2 : j = 0 := by omega
         clear hj
         rcases hj2 with rfl
         ·refine stepA rfl (fun li ac wx H hn hed hM K hk => ?_)
          have e81 : ac.tmps[81]?.getD undef = .pointer (some ⟨bb, ix * 3, none⟩) := slot_at (H.known 5 _ rfl (hed ⟨5, .data⟩ (by simp) rfl) 81 rfl)
          have hM1 : (Below w4.heap.size w4) wx := hM
          clear hed H
          have hc := (Below.cell hM1 (p := ⟨bb, ix * 3, none⟩) HCC.out.2.2.2).trans HCC.out.1
          have hl := Nat.lt_of_lt_of_le HCC.out.2.2.2 hM1.size
          go_simp
          exact hk _ hM
        ·refine .inr (.inr (.inl ⟨0, rfl, stepA rfl (fun li ac wx H hn hed hM K hk => ?_)⟩))
         have e82 : ac.tmps[82]?.getD undef = I (y0 : Int) := slot_at (H.known 6 _ rfl (hed ⟨6, .data⟩ (by simp) rfl) 82 rfl)
         have hM1 : (Below w4.heap.size w4) wx := hM
         clear hed H
         go_simp
         refine (HD0.out wx).mono ?_
         rintro e w' ⟨rfl, hb⟩
         exact hk _ (hM1.trans (hb.mono hM1.size))
        ·refine .inl ⟨by decide, fun M => stepA rfl (fun li ac wx H hn hed hM K hk => ?_)⟩
         have e83 : ac.tmps[83]?.getD undef = .string D0 := slot_at (H.known 7 _ rfl (hed ⟨7, .data⟩ (by simp) rfl) 83 rfl)
         have hz := HZ.out
         have z1 : ¬ 9223372036854775807 < D0.size + 1 := by omega
         clear hz
         clear hed H
         go_simp
         exact hk _ hM
        ·refine .inl ⟨by decide, fun M => stepA rfl (fun li ac wx H hn hed hM K hk => ?_)⟩
         have e11 : ac.tmps[11]?.getD undef = .slice (some ⟨bb, 0, none⟩) tr.length c2 := slot_at ((H.frm.slot (by decide)).trans f11)
         clear hed H
         go_simp
         exact hk _ hM
        ·refine .inl ⟨by decide, fun M => stepA rfl (fun li ac wx H hn hed hM K hk => ?_)⟩
         have e12 : ac.tmps[12]?.getD undef = I (ix : Int) := slot_at ((H.frm.slot (by decide)).trans f12)
         clear hed H
         go_simp
         exact hk _ hM
        ·refine .inl ⟨by decide, fun M => stepA rfl (fun li ac wx H hn hed hM K hk => ?_)⟩
         have e85 : ac.tmps[85]?.getD undef = .slice (some ⟨bb, 0, none⟩) tr.length c2 := slot_at (H.known 9 _ rfl (hed ⟨9, .data⟩ (by simp) rfl) 85 rfl)
         have e86 : ac.tmps[86]?.getD undef = I (ix : Int) := slot_at (H.known 10 _ rfl (hed ⟨10, .data⟩ (by simp) rfl) 86 rfl)
         clear hed H
         go_simp
         exact hk _ hM
        ·refine .inl ⟨by decide, fun M => stepA rfl (fun li ac wx H hn hed hM K hk => ?_)⟩
         have e87 : ac.tmps[87]?.getD undef = .pointer (some ⟨bb, ix * 3, none⟩) := slot_at (H.known 11 _ rfl (hed ⟨11, .data⟩ (by simp) rfl) 87 rfl)
         clear hed H
         go_simp
         exact hk _ hM
        ·refine .inl ⟨by decide, fun M => stepA rfl (fun li ac wx H hn hed hM K hk => ?_)⟩
         have e88 : ac.tmps[88]?.getD undef = .pointer (some ⟨bb, ix * 3, none⟩) := slot_at (H.known 12 _ rfl (hed ⟨12, .data⟩ (by simp) rfl) 88 rfl)
         clear hed H
         go_simp
         exact hk _ hM
        ·refine .inr (.inr (.inr ⟨by decide, 1, 15, rfl, by kernel_rfl, fun j hj => ?_⟩))
         have hj2 : j = 0 ∨ j = 1 := by omega
         clear hj
         rcases hj2 with rfl | rfl
         ·refine stepA rfl (fun li ac wx H hn hed hM K hk => ?_)
          have e89 : ac.tmps[89]?.getD undef = .pointer (some ⟨bb, ix * 3 + 1, none⟩) := slot_at (H.known 13 _ rfl (hed ⟨13, .data⟩ (by simp) rfl) 89 rfl)
          have hM1 : (Below w4.heap.size w4) wx := hM
          clear hed H
          have hc := (Below.cell hM1 (p := ⟨bb, ix * 3 + 1, none⟩) HCC.out.2.2.2).trans HCC.out.2.1
          have hl := Nat.lt_of_lt_of_le HCC.out.2.2.2 hM1.size
          go_simp
          exact hk _ hM
         ·refine stepA rfl (fun li ac wx H hn hed hM K hk => ?_)
          have e89 : ac.tmps[89]?.getD undef = .pointer (some ⟨bb, ix * 3 + 1, none⟩) := slot_at (H.known 13 _ rfl (hed ⟨13, .data⟩ (by simp) rfl) 89 rfl)
          have hM1 : (Below w4.heap.size w4) wx := hM
          clear hed H
          have hc := (Below.cell hM1 (p := ⟨bb, ix * 3 + 1, none⟩) HCC.out.2.2.2).trans HCC.out.2.1
          have hl := Nat.lt_of_lt_of_le HCC.out.2.2.2 hM1.size
          go_simp
          exact hk _ hM
        ·refine .inr (.inr (.inl ⟨1, rfl, stepA rfl (fun li ac wx H hn hed hM K hk => ?_)⟩))
         have e90 : ac.tmps[90]?.getD undef = I (y1 : Int) := slot_at (H.known 14 _ rfl (hed ⟨14, .data⟩ (by simp) rfl) 90 rfl)
         have hM1 : (Below w4.heap.size w4) wx := hM
         clear hed H
         go_simp
         refine (HD1.out wx).mono ?_
         rintro e w' ⟨rfl, hb⟩
         exact hk _ (hM1.trans (hb.mono hM1.size))
        ·refine .inl ⟨by decide, fun M => stepA rfl (fun li ac wx H hn hed hM K hk => ?_)⟩
         have e84 : ac.tmps[84]?.getD undef = .string (D0 ++ ⟨#[32]⟩) := slot_at (H.known 8 _ rfl (hed ⟨8, .data⟩ (by simp) rfl) 84 rfl)
         have e91 : ac.tmps[91]?.getD undef = .string D1 := slot_at (H.known 15 _ rfl (hed ⟨15, .data⟩ (by simp) rfl) 91 rfl)
         have hz := HZ.out
         have z1 : ¬ 9223372036854775807 < D0.size + 1 + D1.size := by omega
         clear hz
         clear hed H
         go_simp
         exact hk _ hM
        ·refine .inl ⟨by decide, fun M => stepA rfl (fun li ac wx H hn hed hM K hk => ?_)⟩
         have e92 : ac.tmps[92]?.getD undef = .string (D0 ++ ⟨#[32]⟩ ++ D1) := slot_at (H.known 16 _ rfl (hed ⟨16, .data⟩ (by simp) rfl) 92 rfl)
         have hz := HZ.out
         have z1 : ¬ 9223372036854775807 < D0.size + 1 + D1.size + 1 := by omega
         clear hz
         clear hed H
         go_simp
         exact hk _ hM
        ·refine .inl ⟨by decide, fun M => stepA rfl (fun li ac wx H hn hed hM K hk => ?_)⟩
         have e11 : ac.tmps[11]?.getD undef = .slice (some ⟨bb, 0, none⟩) tr.length c2 := slot_at ((H.frm.slot (by decide)).trans f11)
         clear hed H
         go_simp
         exact hk _ hM
        ·refine .inl ⟨by decide, fun M => stepA rfl (fun li ac wx H hn hed hM K hk => ?_)⟩
         have e12 : ac.tmps[12]?.getD undef = I (ix : Int) := slot_at ((H.frm.slot (by decide)).trans f12)
         clear hed H
         go_simp
         exact hk _ hM
        ·refine .inl ⟨by decide, fun M => stepA rfl (fun li ac wx H hn hed hM K hk => ?_)⟩
         have e94 : ac.tmps[94]?.getD undef = .slice (some ⟨bb, 0, none⟩) tr.length c2 := slot_at (H.known 18 _ rfl (hed ⟨18, .data⟩ (by simp) rfl) 94 rfl)
         have e95 : ac.tmps[95]?.getD undef = I (ix : Int) := slot_at (H.known 19 _ rfl (hed ⟨19, .data⟩ (by simp) rfl) 95 rfl)
         clear hed H
         go_simp
         exact hk _ hM
        ·refine .inl ⟨by decide, fun M => stepA rfl (fun li ac wx H hn hed hM K hk => ?_)⟩
         have e96 : ac.tmps[96]?.getD undef = .pointer (some ⟨bb, ix * 3, none⟩) := slot_at (H.known 20 _ rfl (hed ⟨20, .data⟩ (by simp) rfl) 96 rfl)
         clear hed H
         go_simp
         exact hk _ hM
        ·refine .inr (.inr (.inr ⟨by decide, 2, 23, rfl, by kernel_rfl, fun j hj => ?_⟩))
         have hj2 : j = 0 ∨ j = 1 ∨ j = 2 := by omega
         clear hj
         rcases hj2 with rfl | rfl | rfl
         ·refine stepA rfl (fun li ac wx H hn hed hM K hk => ?_)
          have e97 : ac.tmps[97]?.getD undef = .pointer (some ⟨bb, ix * 3 + 2, none⟩) := slot_at (H.known 21 _ rfl (hed ⟨21, .data⟩ (by simp) rfl) 97 rfl)
          have hM1 : (Below w4.heap.size w4) wx := hM
          clear hed H
          have hc := (Below.cell hM1 (p := ⟨bb, ix * 3 + 2, none⟩) HCC.out.2.2.2).trans HCC.out.2.2.1
          have hl := Nat.lt_of_lt_of_le HCC.out.2.2.2 hM1.size
          go_simp
          exact hk _ hM
         ·refine stepA rfl (fun li ac wx H hn hed hM K hk => ?_)
          have e97 : ac.tmps[97]?.getD undef = .pointer (some ⟨bb, ix * 3 + 2, none⟩) := slot_at (H.known 21 _ rfl (hed ⟨21, .data⟩ (by simp) rfl) 97 rfl)
          have hM1 : (Below w4.heap.size w4) wx := hM
          clear hed H
          have hc := (Below.cell hM1 (p := ⟨bb, ix * 3 + 2, none⟩) HCC.out.2.2.2).trans HCC.out.2.2.1
          have hl := Nat.lt_of_lt_of_le HCC.out.2.2.2 hM1.size
          go_simp
          exact hk _ hM
         ·refine stepA rfl (fun li ac wx H hn hed hM K hk => ?_)
          have e97 : ac.tmps[97]?.getD undef = .pointer (some ⟨bb, ix * 3 + 2, none⟩) := slot_at (H.known 21 _ rfl (hed ⟨21, .data⟩ (by simp) rfl) 97 rfl)
          have hM1 : (Below w4.heap.size w4) wx := hM
          clear hed H
          have hc := (Below.cell hM1 (p := ⟨bb, ix * 3 + 2, none⟩) HCC.out.2.2.2).trans HCC.out.2.2.1
          have hl := Nat.lt_of_lt_of_le HCC.out.2.2.2 hM1.size
          go_simp
          exact hk _ hM
        ·refine .inr (.inr (.inl ⟨2, rfl, stepA rfl (fun li ac wx H hn hed hM K hk => ?_)⟩))
         have e98 : ac.tmps[98]?.getD undef = I (y2 : Int) := slot_at (H.known 22 _ rfl (hed ⟨22, .data⟩ (by simp) rfl) 98 rfl)
         have hM1 : (Below w4.heap.size w4) wx := hM
         clear hed H
         go_simp
         refine (HD2.out wx).mono ?_
         rintro e w' ⟨rfl, hb⟩
         exact hk _ (hM1.trans (hb.mono hM1.size))
        ·refine .inl ⟨by decide, fun M => stepA rfl (fun li ac wx H hn hed hM K hk => ?_)⟩
         have e93 : ac.tmps[93]?.getD undef = .string (D0 ++ ⟨#[32]⟩ ++ D1 ++ ⟨#[32]⟩) := slot_at (H.known 17 _ rfl (hed ⟨17, .data⟩ (by simp) rfl) 93 rfl)
         have e99 : ac.tmps[99]?.getD undef = .string D2 := slot_at (H.known 23 _ rfl (hed ⟨23, .data⟩ (by simp) rfl) 99 rfl)
         have hz := HZ.out
         have z1 : ¬ 9223372036854775807 < D0.size + 1 + D1.size + 1 + D2.size := by omega
         clear hz
         clear hed H
         go_simp
         exact hk _ hM
        ·refine .inl ⟨by decide, fun M => stepA rfl (fun li ac wx H hn hed hM K hk => ?_)⟩
         have e76 : ac.tmps[76]?.getD undef = .string TA := slot_at (H.known 0 _ rfl (hed ⟨0, .data⟩ (by simp) rfl) 76 rfl)
         have e100 : ac.tmps[100]?.getD undef = .string (D0 ++ ⟨#[32]⟩ ++ D1 ++ ⟨#[32]⟩ ++ D2) := slot_at (H.known 24 _ rfl (hed ⟨24, .data⟩ (by simp) rfl) 100 rfl)
         have hz := HZ.out
         have z1 : ¬ 9223372036854775807 < TA.size + (D0.size + 1 + D1.size + 1 + D2.size) := by omega
         clear hz
         clear hed H
         go_simp
         exact hk _ hM
        ·refine .inl ⟨by decide, fun M => stepA rfl (fun li ac wx H hn hed hM K hk => ?_)⟩
         have e101 : ac.tmps[101]?.getD undef = .string (TA ++ (D0 ++ ⟨#[32]⟩ ++ D1 ++ ⟨#[32]⟩ ++ D2)) := slot_at (H.known 25 _ rfl (hed ⟨25, .data⟩ (by simp) rfl) 101 rfl)
         clear hed H
         go_simp
         exact hk _ hM
       ·intro ac wx hF hK hM0
        have hM : (Below w4.heap.size w4) wx := hM0
        have E10 : ac.tmps.getD 10 undef = .string (TA ++ (D0 ++ ⟨#[32]⟩ ++ D1 ++ ⟨#[32]⟩ ++ D2)) := hK 26 _ rfl 10 rfl
        have hMet := hF.meet
        simp only [List.foldl_cons, List.foldl_nil, List.setIfInBounds_toArray, List.set_cons_succ, List.set_cons_zero, E10] at hMet
        generalize ac.tmps.getD 76 undef = v76 at hMet
        generalize ac.tmps.getD 77 undef = v77 at hMet
        generalize ac.tmps.getD 78 undef = v78 at hMet
        generalize ac.tmps.getD 79 undef = v79 at hMet
        generalize ac.tmps.getD 80 undef = v80 at hMet
        generalize ac.tmps.getD 81 undef = v81 at hMet
        generalize ac.tmps.getD 82 undef = v82 at hMet
        generalize ac.tmps.getD 83 undef = v83 at hMet
        generalize ac.tmps.getD 84 undef = v84 at hMet
        generalize ac.tmps.getD 85 undef = v85 at hMet
        generalize ac.tmps.getD 86 undef = v86 at hMet
        generalize ac.tmps.getD 87 undef = v87 at hMet
        generalize ac.tmps.getD 88 undef = v88 at hMet
        generalize ac.tmps.getD 89 undef = v89 at hMet
        generalize ac.tmps.getD 90 undef = v90 at hMet
        generalize ac.tmps.getD 91 undef = v91 at hMet
        generalize ac.tmps.getD 92 undef = v92 at hMet
        generalize ac.tmps.getD 93 undef = v93 at hMet
        generalize ac.tmps.getD 94 undef = v94 at hMet
        generalize ac.tmps.getD 95 undef = v95 at hMet
        generalize ac.tmps.getD 96 undef = v96 at hMet
        generalize ac.tmps.getD 97 undef = v97 at hMet
        generalize ac.tmps.getD 98 undef = v98 at hMet
        generalize ac.tmps.getD 99 undef = v99 at hMet
        generalize ac.tmps.getD 100 undef = v100 at hMet
        generalize ac.tmps.getD 101 undef = v101 at hMet
        clear hF hK hM0 E10
        subst hMet
        have HWN : Hid (Below w4.heap.size w4 wx) := Lib.hid hM
        clear hM HZ HD0 HD1 HD2 HCC
        rw [HE2.out]
        go_wp2_with fail
        go_roundw
        case rel => exact ⟨ix + 1, HLT.out, rfl, rfl, HWN⟩
        case measure => have := HLT.out; simp [intOf]; omega
     ·have hil : ix = tr.length := by omega
      subst hil
      have hii : ¬ (tr.length : Int) < (tr.length : Int) := by omega
      have hq : (67 : Nat) * tr.length ≤ 67000 := by have := HMN.out; omega
      have hol := HLE.out tr.length (Nat.le_refl _)
      have HTX : Hid ((⟨(seesTo c u 3).toArray⟩ : ByteArray) ++ ⟨#[99, 97, 108, 109, 32]⟩ ++ ⟨(Lib.decDigits r).toArray⟩ ++ ⟨#[10, 116, 114, 97, 99, 101]⟩ = ⟨(allT c u r).toArray⟩) := Lib.hid (by
       rw [show (⟨#[99, 97, 108, 109, 32]⟩ : ByteArray) = ⟨[99, 97, 108, 109, 32].toArray⟩ from rfl, show (⟨#[10, 116, 114, 97, 99, 101]⟩ : ByteArray) = ⟨[10, 116, 114, 97, 99, 101].toArray⟩ from rfl]
       simp only [ba_app]
       congr 1
       unfold allT calmS traceS
       simp)
      have HAX : Hid ((⟨#[115, 101, 101, 10, 115, 101, 101, 10, 115, 101, 101, 10, 99, 97, 108, 109, 10]⟩ : ByteArray) ++ ⟨(ansTo tr tr.length).toArray⟩ ++ ⟨#[10]⟩ = ⟨(runD desk0 (linesOf ⟨(allT c u r).toArray⟩)).2.toArray⟩) := Lib.hid (by
       rw [HAN.out, show (⟨#[115, 101, 101, 10, 115, 101, 101, 10, 115, 101, 101, 10, 99, 97, 108, 109, 10]⟩ : ByteArray) = ⟨[115, 101, 101, 10, 115, 101, 101, 10, 115, 101, 101, 10, 99, 97, 108, 109, 10].toArray⟩ from rfl, show (⟨#[10]⟩ : ByteArray) = ⟨[10].toArray⟩ from rfl]
       simp only [ba_app])
      have e : ∀ l : By, (⟨l.toArray⟩ : ByteArray).size = l.length := fun l => by simp [ByteArray.size]
      have HZ : Hid ((⟨(seesTo c u 3).toArray⟩ : ByteArray).size ≤ 10000 ∧ (⟨(Lib.decDigits r).toArray⟩ : ByteArray).size ≤ 1000 ∧ (⟨(ansTo tr tr.length).toArray⟩ : ByteArray).size ≤ 100000) := Lib.hid (by
       rw [e, e, e]
       have d0 := dec_len (n := r) (by have := HCU.out; omega)
       exact ⟨seesTo_len (by have := HCU.out; omega) (by have := HCU.out; omega) 3 (Nat.le_refl _), by omega, by omega⟩)
      have HSS := session_answers ⟨(allT c u r).toArray⟩ (by
       rw [← HTX.out, app_size, app_size, app_size]
       have := HZ.out
       show _ + 5 + _ + 6 ≤ 20000
       omega) (by rw [allT_lines HCU.out.1 HCU.out.2.1 HCU.out.2.2]; exact (by decide : 5 ≤ 1950))
      rw [← HAX.out, ← HTX.out] at HSS
      have HS5 := Lib.hid HSS
      have HSW := Lib.hid (HS.out.after (HB4.out.trans (HW.out.mono HB4.out.size)))
      have HB5 := Lib.hid (HB4.out.trans (HW.out.mono HB4.out.size))
      clear HSS hq hol HTX HAX e hlt hi HNN HG HAN HLE
      generalize (⟨(seesTo c u 3).toArray⟩ : ByteArray) = T0 at *
      generalize (⟨(Lib.decDigits r).toArray⟩ : ByteArray) = D0 at *
      generalize (⟨(ansTo tr tr.length).toArray⟩ : ByteArray) = OT at *
      have hz := HZ.out
      have z1 : ¬ 9223372036854775807 < T0.size + 5 := by omega
      have z2 : ¬ 9223372036854775807 < T0.size + 5 + D0.size := by omega
      have z3 : ¬ 9223372036854775807 < T0.size + 5 + D0.size + 6 := by omega
      have z4 : ¬ 9223372036854775807 < 17 + OT.size := by omega
      have z5 : ¬ 9223372036854775807 < 17 + OT.size + 1 := by omega
      clear hz HZ
      go_wp2_with (first
       | (go_at_call 10; refine (HDR.out _).mono ?_; rintro e w5 ⟨rfl, hb5⟩; have HSV := Lib.hid (HSW.out.after hb5); have HB6 := Lib.hid (HB5.out.trans (hb5.mono HB5.out.size)); clear hb5)
       | (go_at_call 6; refine (HS5.out _ HSV.out).mono ?_; rintro e w6 ⟨rfl, hb6⟩; have HB7 := Lib.hid (HB6.out.trans (hb6.mono HB6.out.size)); clear hb6))
      go_ret
      exact ⟨rfl, HB7.out⟩
end Go.Proofs.YtdhekhlmdefcnabGreatDoor
