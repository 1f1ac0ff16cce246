/- Part 38 of the proof: DkJoin, DkMore. -/
import Derived.Test.YtdhekhlmdefcnabGreatDoorPart35
import Derived.Test.YtdhekhlmdefcnabGreatDoorPart36
import Derived.Lib.ItoaLen
namespace Go.Proofs.YtdhekhlmdefcnabGreatDoor
open Go.RowKit
theorem join_le (M : Nat) (sep : List UInt8) : ∀ (l : List (List UInt8)), (∀ x ∈ l, x.length ≤ M) → (Lib.join l sep).length ≤ (M + sep.length) * l.length
 | [], _ => by simp [Lib.join]
 | [a], h => by
  have := h a (by simp)
  simp [Lib.join]
  omega
 | a :: b :: l, h => by
  have h1 := h a (by simp)
  have ih := join_le M sep (b :: l) (fun x hx => h x (List.mem_cons_of_mem _ hx))
  have e : Lib.join (a :: b :: l) sep = a ++ sep ++ Lib.join (b :: l) sep := by simp [Lib.join, List.intercalate, List.intersperse]
  rw [e, List.length_append, List.length_append, List.length_cons, Nat.mul_add, Nat.mul_one]
  omega
theorem infoStr : (Tryz.prog.info? 9).map (fun i => (i.zero, i.size, i.bytes)) = some (some (.string ⟨#[]⟩), 1, 16) := by kernel_rfl
def itoas (l : List Int) : List ByteArray := l.map fun x => ⟨(Lib.itoa x).toArray⟩
theorem itoas_data (l : List Int) : (itoas l).map (·.data.toList) = l.map Lib.itoa := by simp [itoas]
theorem joined {w : World} {base : Nat} {v : Value} {xs : List ByteArray} (sep : ByteArray) (M : Nat) (ho : w.ownsRow base 9 1 v xs.length (strs xs)) (hx : ∀ x ∈ xs, x.data.toList.length ≤ M) (hM : M ≤ 100000) (hn : xs.length ≤ 100000) (hs : sep.data.toList.length ≤ 10) :
  Calls Tryz.prog 101 #[v, .string sep] w fun e w' => e = .returned (.string ⟨(Lib.join (xs.map (·.data.toList)) sep.data.toList).toArray⟩) ∧ Below w.heap.size w w' := by
 rcases Nat.eq_zero_or_pos xs.length with h0 | h0
 ·have hv : ∃ a c, v = .slice a 0 c := by
   obtain ⟨A, c, rfl, _⟩ := own_reads ho
   exact ⟨A, c, by rw [h0]⟩
  obtain ⟨a, c, rfl⟩ := hv
  obtain rfl : xs = [] := List.eq_nil_of_length_eq_zero h0
  refine (Tryz.strings_Join_none a c sep w).mono ?_
  rintro e w' ⟨he, rfl⟩
  exact ⟨he, Below.refl _ _⟩
 ·obtain ⟨b, c, cs, rfl, hc, hh, hcs⟩ := own_cells ho h0
  refine Tryz.strings_Join b 0 c xs sep w (fun j x hj => ?_) hh.lt (by omega) hc ?_
  ·rw [Nat.zero_add, hh.cell]
   exact hcs j _ (by simp [hj])
  ·refine Nat.le_trans (join_le M sep.data.toList _ (fun x hx' => ?_)) ?_
   ·obtain ⟨y, hy, rfl⟩ := List.mem_map.1 hx'
    exact hx y hy
   ·rw [List.length_map]
    exact Nat.le_trans (Nat.mul_le_mul (show M + sep.data.toList.length ≤ 100010 by omega) hn) (by decide)
set_option maxHeartbeats 4000000 in
set_option maxRecDepth 100000 in
theorem dk_join (A : Option Addr) (c : Nat) (xs : List Int) (hn : xs.length ≤ 1000) (hx : ∀ x ∈ xs, I64 x) (w : World) (hr : Reads w w.heap.size A (ints xs)) (hs : Hid (Std w)) :
  Calls Tryz.prog 89 #[.slice A xs.length c] w fun e w' => e = .returned (.string ⟨(joinI xs).toArray⟩) ∧ Below w.heap.size w w' := by
 obtain ⟨i0, hi0, hz0, hz1, hz2⟩ := info_parts infoStr
 have HR := Lib.hid hr
 have HX := Lib.hid hx
 clear hr hx
 go_enter Tryz.func89, Tryz.ntmps89
 go_wp2_with fail
 go_loopw [3, 8] (fun v iv wr => ∃ i : Nat, i ≤ xs.length ∧ iv = I i ∧ Hid (wr.ownsRow w.heap.size 9 1 v i (strs (itoas (xs.take i)))) ∧ Hid (Below w.heap.size w wr)) (fun _ iv _ => xs.length - (intOf iv).toNat)
 case atStart => exact ⟨0, Nat.zero_le _, rfl, Lib.hid (by simpa [itoas] using World.ownsRow_nil _ _ _ _), Lib.hid (Below.refl _ _)⟩
 case round =>
  obtain ⟨i, hi, rfl, HO, HW⟩ := hrel
  by_cases hlt : i < xs.length
  ·obtain ⟨x, hx⟩ := some_at xs i hlt
   obtain ⟨b, o, rfl, hbb, hcell⟩ := (HR.out.below HW.out).at_ hx
   have hii : (i : Int) < (xs.length : Int) := by omega
   have h64 := HX.out x (List.mem_of_getElem? hx)
   have HLT := Lib.hid hlt
   have HS := Lib.hid (hs.out.below hs.out.size HW.out)
   have HI := Lib.hid (itoa_ok x h64 wr HS)
   have HE : Hid (strs (itoas (xs.take (i + 1))) = strs (itoas (xs.take i)) ++ [.string ⟨(Lib.itoa x).toArray⟩]) := Lib.hid (by
    rw [List.take_add_one, hx]
    simp [itoas])
   clear hx h64
   generalize (⟨(Lib.itoa x).toArray⟩ : ByteArray) = sv at *
   go_upto_region 5 with fail
   go_wp2_with (first
    | (go_at_call 33; refine HI.out.mono ?_; rintro e w2 ⟨rfl, hb2⟩; have HB2 := Lib.hid hb2; have HO2 := Lib.hid (own_after HO.out hb2); have HW2 : Hid (Below w.heap.size w w2) := Lib.hid (HW.out.trans (hb2.mono HW.out.size)); clear hb2)
    | (at_builtin; refine wpList_append_own _ rfl _ _ 48 rfl w.heap.size 9 i0 (.string ⟨#[]⟩) 1 16 Tryz.underlying48 hi0 hz0 hz1 hz2 rfl (by decide) _ _ _ rfl (World.ownsRow.alloc HO2.out _) ⟨w2.heap.size, 0, none⟩ 1 1 [.string sv] rfl rfl (cell_one_new _ _ _) (fun u hu => by rw [List.mem_singleton.1 hu]; rfl) ?c3 ?c4 ?c5 ?_))
   case c3 => unfold maxLen; omega
   case c4 => omega
   case c5 => have := HW2.out.size; simp; omega
   intro v' w' hown' hgrow _
   have HW3 : Hid (Below w.heap.size w w') := Lib.hid ((HW2.out.alloc HW2.out.size _).grown hgrow (by have := HW2.out.size; simp; omega) (fun q hq => (HO2.out.lt q hq).1))
   have HO3 : Hid (w'.ownsRow w.heap.size 9 1 v' (i + 1) (strs (itoas (xs.take (i + 1))))) := Lib.hid (by
    rw [HE.out]
    exact hown')
   clear hown' hgrow HO HO2 HE
   go_wp2_with fail
   go_roundw
   case rel => exact ⟨i + 1, HLT.out, by go_num, HO3, HW3⟩
   case measure => have := HLT.out; simp [intOf]; omega
  ·have hil : i = xs.length := by omega
   subst hil
   have hlen : (itoas xs).length = xs.length := by simp [itoas]
   have HO2 : Hid (wr.ownsRow w.heap.size 9 1 _ (itoas xs).length (strs (itoas xs))) := Lib.hid (by
    have := HO.out
    rw [List.take_of_length_le (Nat.le_refl _)] at this
    rw [hlen]
    exact this)
   have HJ := Lib.hid (joined ⟨#[32]⟩ 21 HO2.out (fun y hy => by
    obtain ⟨z, hz, rfl⟩ := List.mem_map.1 hy
    exact Lib.itoa_length_le z (HX.out z hz).1 (HX.out z hz).2) (by decide) (by rw [hlen]; omega) (by decide))
   have e2 : Lib.join ((itoas xs).map (·.data.toList)) (⟨#[32]⟩ : ByteArray).data.toList = joinI xs := by rw [itoas_data]; rfl
   rw [e2] at HJ
   clear e2 HO
   go_wp2_with (go_at_call 101; refine HJ.out.mono ?_; rintro e w2 ⟨rfl, hb2⟩)
   go_ret
   exact ⟨rfl, HW.out.trans (hb2.mono HW.out.size)⟩
end Go.Proofs.YtdhekhlmdefcnabGreatDoor
namespace Go.Proofs.YtdhekhlmdefcnabGreatDoor
open Go.RowKit
section
variable {w : World} {B g : Nat} {x : SyX} {vr : Value} {d : Dk} {T : Nat} {A : Option Addr} {l : List ByteArray}
theorem dk_zero {w : World} (hw : Hid (Words w A l)) (c : Nat) (hs : Hid (Std w)) {n : List Int} (hr : numsOf l 0 = some n) :
  Calls Tryz.prog 27 #[.slice A l.length c, I 0] w fun e w' => (∃ v, e = .returned v) ∧ Below w.heap.size w w' := by
 refine (dk_numbers A c l 0 (by decide) (by decide) hw.out.many hw.out.size w hw.out.reads hs _ (Lib.hid hr)).mono ?_
 rintro e w' ⟨⟨v, rfl, ho⟩, hb⟩
 exact ⟨⟨v, rfl⟩, hb⟩
set_option maxHeartbeats 1000000 in
theorem m_help (h : DkAt w B g x vr d) (hw : Words w A l) (c : Nat) (hs : Std w) : Calls Tryz.prog 57 #[.pointer (some ⟨g, 0, none⟩), .slice A l.length c] w (MPost w B g x (does' .help d l)) := by
 have HH := Lib.hid h
 have HW := Lib.hid hw
 have HS := Lib.hid hs
 clear h hw hs
 cases hr : numsOf l 0 with
 | none =>
  have HE : Hid (does' .help d l = (d, .err 3)) := Lib.hid (by simp only [does', hr])
  rw [HE.out]
  have HN := Lib.hid (dk_none HW c 0 (by decide) (by decide) HS hr)
  clear hr HE
  go_enter Tryz.func57, Tryz.ntmps57
  go_wp2_with (go_at_call 27; refine HN.out.mono ?_; rintro e w1 ⟨rfl, hb⟩)
  exact ⟨rfl, MPost.same HH.out hb rfl⟩
 | some n =>
  have HE : Hid (does' .help d l = (d, .txt does'.helpT)) := Lib.hid (by simp only [does', hr])
  rw [HE.out]
  have HN := Lib.hid (dk_zero HW c HS hr)
  clear hr HE
  go_enter Tryz.func57, Tryz.ntmps57
  go_wp2_with (go_at_call 27; refine HN.out.mono ?_; rintro e w1 ⟨⟨v, rfl⟩, hb⟩)
  go_ret
  exact MPost.same HH.out hb rfl
set_option maxHeartbeats 1000000 in
theorem m_latch (h : DkAt w B g x vr d) (hw : Words w A l) (c : Nat) (hs : Std w) : Calls Tryz.prog 58 #[.pointer (some ⟨g, 0, none⟩), .slice A l.length c] w (MPost w B g x (does' .latch d l)) := by
 have HH := Lib.hid h
 have HW := Lib.hid hw
 have HS := Lib.hid hs
 clear h hw hs
 cases hr : numsOf l 0 with
 | none =>
  have HE : Hid (does' .latch d l = (d, .err 3)) := Lib.hid (by simp only [does', hr])
  rw [HE.out]
  have HN := Lib.hid (dk_none HW c 0 (by decide) (by decide) HS hr)
  clear hr HE
  go_enter Tryz.func58, Tryz.ntmps58
  go_wp2_with (go_at_call 27; refine HN.out.mono ?_; rintro e w1 ⟨rfl, hb⟩)
  exact ⟨rfl, MPost.same HH.out hb rfl⟩
 | some n =>
  have HE : Hid (does' .latch d l = ({ d with s := sysLatch d.s }, .txt [108, 97, 116, 99, 104])) := Lib.hid (by simp only [does', hr])
  rw [HE.out]
  have HN := Lib.hid (dk_zero HW c HS hr)
  clear hr HE
  go_enter Tryz.func58, Tryz.ntmps58
  go_upto_region 2 with (go_at_call 27; refine HN.out.mono ?_; rintro e w1 ⟨⟨v, rfl⟩, hb⟩; have HB := Lib.hid hb; clear hb)
  have H1 := Lib.hid (HH.out.after HB.out)
  have c3 := H1.out.c3
  have hg := H1.out.has.lt
  go_wp2_with (go_at_call 91; refine (in_latch (SyIn.start H1.out.sys H1.out.hB)).mono ?_; rintro e w2 ⟨⟨v, rfl, _⟩, h2, h3⟩; have H2 := Lib.hid (And.intro h2 h3); clear h2 h3)
  go_ret
  exact MPost.next HH.out HB.out H2.out.1 H2.out.2 rfl
set_option maxHeartbeats 1000000 in
theorem m_conflicts (h : DkAt w B g x vr d) (hw : Words w A l) (c : Nat) (hs : Std w) : Calls Tryz.prog 54 #[.pointer (some ⟨g, 0, none⟩), .slice A l.length c] w (MPost w B g x (does' .conflicts d l)) := by
 have HH := Lib.hid h
 have HW := Lib.hid hw
 have HS := Lib.hid hs
 clear h hw hs
 cases hr : numsOf l 0 with
 | none =>
  have HE : Hid (does' .conflicts d l = (d, .err 3)) := Lib.hid (by simp only [does', hr])
  rw [HE.out]
  have HN := Lib.hid (dk_none HW c 0 (by decide) (by decide) HS hr)
  clear hr HE
  go_enter Tryz.func54, Tryz.ntmps54
  go_wp2_with (go_at_call 27; refine HN.out.mono ?_; rintro e w1 ⟨rfl, hb⟩)
  exact ⟨rfl, MPost.same HH.out hb rfl⟩
 | some n =>
  have HE : Hid (does' .conflicts d l = (d, .txt (joinI (zs (confs d.L.routes))))) := Lib.hid (by simp only [does', hr])
  rw [HE.out]
  have HN := Lib.hid (dk_zero HW c HS hr)
  clear hr HE
  go_enter Tryz.func54, Tryz.ntmps54
  go_upto_region 2 with (go_at_call 27; refine HN.out.mono ?_; rintro e w1 ⟨⟨v, rfl⟩, hb⟩; have HB := Lib.hid hb; clear hb)
  have H1 := Lib.hid (HH.out.after HB.out)
  have hL := H1.out.ok
  obtain ⟨Ar, cr, hvr, hcr, hrd⟩ := H1.out.routes.reads
  have c0 := H1.out.has.cellv 0 _ rfl
  have c1 : w1.cell? ⟨g, 1, none⟩ = some (.slice Ar d.L.routes.length cr) := by rw [← hvr]; exact H1.out.has.cellv 1 vr rfl
  have c2 := H1.out.has.cellv 2 _ rfl
  have hg := H1.out.has.lt
  have HC := Lib.hid (conflicts_ok d.L.secs d.L.delay Ar d.L.routes.length cr d.L.routes w1 (Lib.hid rfl) hL.many1 hL.many2 hcr hrd (Lib.hid hL.small) (Lib.hid (chk_lay hL)))
  have H64 : Hid (∀ y ∈ zs (confs d.L.routes), I64 y) := Lib.hid (fun y hy => by
   obtain ⟨z, hz, rfl⟩ := List.mem_map.1 hy
   unfold confs at hz
   obtain ⟨q, hq, rfl⟩ := List.mem_map.1 hz
   have : conf d.L.routes q < 256 := confTo_small _ _ _ hL.many2
   exact I64.nat (by omega))
  have HLN : Hid ((zs (confs d.L.routes)).length = d.L.routes.length) := Lib.hid (by rw [zs_length, confs_length])
  have HM2 := Lib.hid hL.many2
  clear hvr hrd hL
  go_upto_region 3 with (go_at_call 69; refine HC.out.mono ?_; rintro e w2 ⟨⟨A2, n2, rfl, ho⟩, hb2⟩; have HO := Lib.hid ho; have HB2 := Lib.hid hb2; clear ho hb2)
  have HS2 := Lib.hid ((HS.out.after HB.out).after HB2.out)
  obtain ⟨A3, c3, he3, hc3, -, hrd3⟩ := own_reads HO.out
  injection he3 with e1 e2 e3
  subst e1 e3
  have HJ := Lib.hid (dk_join A2 n2 (zs (confs d.L.routes)) (by rw [HLN.out]; have := HM2.out; omega) H64.out w2 hrd3 HS2)
  rw [HLN.out] at HJ
  clear hrd3 c0 c1 c2 HC HO
  go_wp2_with (first
   | (go_at_call 28; refine (must_nil w2).mono ?_; rintro e w3 ⟨rfl, rfl⟩)
   | (go_at_call 89; refine HJ.out.mono ?_; rintro e w4 ⟨rfl, hb4⟩))
  go_ret
  exact MPost.same HH.out ((HB.out.trans (HB2.out.mono HB.out.size)).trans (hb4.mono (Nat.le_trans HB.out.size HB2.out.size))) rfl
set_option maxHeartbeats 1000000 in
theorem m_most (h : DkAt w B g x vr d) (hw : Words w A l) (c : Nat) (hs : Std w) : Calls Tryz.prog 61 #[.pointer (some ⟨g, 0, none⟩), .slice A l.length c] w (MPost w B g x (does' .most d l)) := by
 have HH := Lib.hid h
 have HW := Lib.hid hw
 have HS := Lib.hid hs
 clear h hw hs
 cases hr : numsOf l 0 with
 | none =>
  have HE : Hid (does' .most d l = (d, .err 3)) := Lib.hid (by simp only [does', hr])
  rw [HE.out]
  have HN := Lib.hid (dk_none HW c 0 (by decide) (by decide) HS hr)
  clear hr HE
  go_enter Tryz.func61, Tryz.ntmps61
  go_wp2_with (go_at_call 27; refine HN.out.mono ?_; rintro e w1 ⟨rfl, hb⟩)
  exact ⟨rfl, MPost.same HH.out hb rfl⟩
 | some n =>
  have HE : Hid (does' .most d l = (d, .txt (Lib.itoa (bestTo (confs d.L.routes) (2 ^ d.L.routes.length) : Nat)))) := Lib.hid (by simp only [does', hr])
  rw [HE.out]
  have HN := Lib.hid (dk_zero HW c HS hr)
  clear hr HE
  go_enter Tryz.func61, Tryz.ntmps61
  go_upto_region 2 with (go_at_call 27; refine HN.out.mono ?_; rintro e w1 ⟨⟨v, rfl⟩, hb⟩; have HB := Lib.hid hb; clear hb)
  have H1 := Lib.hid (HH.out.after HB.out)
  have HS1 := Lib.hid (HS.out.after HB.out)
  have hL := H1.out.ok
  obtain ⟨Ar, cr, hvr, hcr, hrd⟩ := H1.out.routes.reads
  have c0 := H1.out.has.cellv 0 _ rfl
  have c1 : w1.cell? ⟨g, 1, none⟩ = some (.slice Ar d.L.routes.length cr) := by rw [← hvr]; exact H1.out.has.cellv 1 vr rfl
  have c2 := H1.out.has.cellv 2 _ rfl
  have hg := H1.out.has.lt
  have HC := Lib.hid (most_ok d.L.secs d.L.delay Ar d.L.routes.length cr d.L.routes w1 (Lib.hid rfl) hL.many1 hL.many2 hcr hrd (Lib.hid hL.small) (Lib.hid (chk_lay hL)) (Lib.hid HS1.out.tab) (Nat.lt_of_lt_of_le (by decide) HS1.out.size))
  have hbt := bestTo_le (confs d.L.routes) (2 ^ d.L.routes.length)
  clear hvr hrd hL
  generalize bestTo (confs d.L.routes) (2 ^ d.L.routes.length) = bt at *
  go_upto_region 3 with (go_at_call 95; refine HC.out.mono ?_; rintro e w2 ⟨rfl, hb2⟩; have HB2 := Lib.hid hb2; clear hb2)
  have HS2 := Lib.hid (HS1.out.after HB2.out)
  have HJ := Lib.hid (itoa_ok (bt : Int) (I64.nat (by omega)) w2 HS2)
  clear c0 c1 c2 HC
  go_wp2_with (first
   | (go_at_call 28; refine (must_nil w2).mono ?_; rintro e w3 ⟨rfl, rfl⟩)
   | (go_at_call 33; refine HJ.out.mono ?_; rintro e w4 ⟨rfl, hb4⟩))
  go_ret
  exact MPost.same HH.out ((HB.out.trans (HB2.out.mono HB.out.size)).trans (hb4.mono (Nat.le_trans HB.out.size HB2.out.size))) rfl
end
end Go.Proofs.YtdhekhlmdefcnabGreatDoor
