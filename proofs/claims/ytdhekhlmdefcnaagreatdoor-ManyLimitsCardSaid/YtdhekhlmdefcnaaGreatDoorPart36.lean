/- Part 36 of the proof: DkJoin, DkMore, DkFree, DkBegin, DkBegOk, DkAll, DkCatch. -/
import Derived.Test.YtdhekhlmdefcnaaGreatDoorPart35
import Derived.Test.YtdhekhlmdefcnaaGreatDoorPart14
import Derived.Lib.ItoaLen
import Derived.Recover
import Derived.Laws.Pointers
namespace Go.Proofs.YtdhekhlmdefcnaaGreatDoor
open Go.RowKit
theorem join_le (M : Nat) (sep : List UInt8) : ∀ (l : List (List UInt8)), (∀ x ∈ l, x.length ≤ M) → (Lib.join l sep).length ≤ (M + sep.length) * l.length
 | [], _ => by simp [Lib.join]
 | [a], h => by
  have := h a (by simp)
  simp [Lib.join]
  omega
 | a :: b :: l, h => by
  have h1 := h a (by simp)
  have ih := join_le M sep (b :: l) (fun x hx => h x (List.mem_cons_of_mem _ hx))
  have e : Lib.join (a :: b :: l) sep = a ++ sep ++ Lib.join (b :: l) sep := by simp [Lib.join, List.intercalate, List.intersperse]
  rw [e, List.length_append, List.length_append, List.length_cons, Nat.mul_add, Nat.mul_one]
  omega
theorem infoStr : (Tryz.prog.info? 9).map (fun i => (i.zero, i.size, i.bytes)) = some (some (.string ⟨#[]⟩), 1, 16) := by kernel_rfl
def itoas (l : List Int) : List ByteArray := l.map fun x => ⟨(Lib.itoa x).toArray⟩
theorem itoas_data (l : List Int) : (itoas l).map (·.data.toList) = l.map Lib.itoa := by simp [itoas]
theorem joined {w : World} {base : Nat} {v : Value} {xs : List ByteArray} (sep : ByteArray) (M : Nat) (ho : w.ownsRow base 9 1 v xs.length (strs xs)) (hx : ∀ x ∈ xs, x.data.toList.length ≤ M) (hM : M ≤ 100000) (hn : xs.length ≤ 100000) (hs : sep.data.toList.length ≤ 10) :
  Calls Tryz.prog 114 #[v, .string sep] w fun e w' => e = .returned (.string ⟨(Lib.join (xs.map (·.data.toList)) sep.data.toList).toArray⟩) ∧ Below w.heap.size w w' := by
 rcases Nat.eq_zero_or_pos xs.length with h0 | h0
 ·have hv : ∃ a c, v = .slice a 0 c := by
   obtain ⟨A, c, rfl, _⟩ := own_reads ho
   exact ⟨A, c, by rw [h0]⟩
  obtain ⟨a, c, rfl⟩ := hv
  obtain rfl : xs = [] := List.eq_nil_of_length_eq_zero h0
  refine (Tryz.strings_Join_none a c sep w).mono ?_
  rintro e w' ⟨he, rfl⟩
  exact ⟨he, Below.refl _ _⟩
 ·obtain ⟨b, c, cs, rfl, hc, hh, hcs⟩ := own_cells ho h0
  refine Tryz.strings_Join b 0 c xs sep w (fun j x hj => ?_) hh.lt (by omega) hc ?_
  ·rw [Nat.zero_add, hh.cell]
   exact hcs j _ (by simp [hj])
  ·refine Nat.le_trans (join_le M sep.data.toList _ (fun x hx' => ?_)) ?_
   ·obtain ⟨y, hy, rfl⟩ := List.mem_map.1 hx'
    exact hx y hy
   ·rw [List.length_map]
    exact Nat.le_trans (Nat.mul_le_mul (show M + sep.data.toList.length ≤ 100010 by omega) hn) (by decide)
set_option maxHeartbeats 4000000 in
set_option maxRecDepth 100000 in
theorem dk_join (A : Option Addr) (c : Nat) (xs : List Int) (hn : xs.length ≤ 1000) (hx : ∀ x ∈ xs, I64 x) (w : World) (hr : Reads w w.heap.size A (ints xs)) (hs : Hid (Std w)) :
  Calls Tryz.prog 98 #[.slice A xs.length c] w fun e w' => e = .returned (.string ⟨(joinI xs).toArray⟩) ∧ Below w.heap.size w w' := by
 obtain ⟨i0, hi0, hz0, hz1, hz2⟩ := info_parts infoStr
 have HR := Lib.hid hr
 have HX := Lib.hid hx
 clear hr hx
 go_enter Tryz.func98, Tryz.ntmps98
 go_wp2_with fail
 go_loopw [3, 8] (fun v iv wr => ∃ i : Nat, i ≤ xs.length ∧ iv = I i ∧ Hid (wr.ownsRow w.heap.size 9 1 v i (strs (itoas (xs.take i)))) ∧ Hid (Below w.heap.size w wr)) (fun _ iv _ => xs.length - (intOf iv).toNat)
 case atStart => exact ⟨0, Nat.zero_le _, rfl, Lib.hid (by simpa [itoas] using World.ownsRow_nil _ _ _ _), Lib.hid (Below.refl _ _)⟩
 case round =>
  obtain ⟨i, hi, rfl, HO, HW⟩ := hrel
  by_cases hlt : i < xs.length
  ·obtain ⟨x, hx⟩ := some_at xs i hlt
   obtain ⟨b, o, rfl, hbb, hcell⟩ := (HR.out.below HW.out).at_ hx
   have hii : (i : Int) < (xs.length : Int) := by omega
   have h64 := HX.out x (List.mem_of_getElem? hx)
   have HLT := Lib.hid hlt
   have HS := Lib.hid (hs.out.below hs.out.size HW.out)
   have HI := Lib.hid (itoa_ok x h64 wr HS)
   have HE : Hid (strs (itoas (xs.take (i + 1))) = strs (itoas (xs.take i)) ++ [.string ⟨(Lib.itoa x).toArray⟩]) := Lib.hid (by
    rw [List.take_add_one, hx]
    simp [itoas])
   clear hx h64
   generalize (⟨(Lib.itoa x).toArray⟩ : ByteArray) = sv at *
   go_upto_region 5 with fail
   go_wp2_with (first
    |(go_at_call 46; refine HI.out.mono ?_; rintro e w2 ⟨rfl, hb2⟩; have HB2 := Lib.hid hb2; have HO2 := Lib.hid (own_after HO.out hb2); have HW2 : Hid (Below w.heap.size w w2) := Lib.hid (HW.out.trans (hb2.mono HW.out.size)); clear hb2)
    |(at_builtin; refine wpList_append_own _ rfl _ _ 22 rfl w.heap.size 9 i0 (.string ⟨#[]⟩) 1 16 Tryz.underlying22 hi0 hz0 hz1 hz2 rfl (by decide) _ _ _ rfl (World.ownsRow.alloc HO2.out _) ⟨w2.heap.size, 0, none⟩ 1 1 [.string sv] rfl rfl (cell_one_new _ _ _) (fun u hu => by rw [List.mem_singleton.1 hu]; rfl) ?c3 ?c4 ?c5 ?_))
   case c3 => unfold maxLen; omega
   case c4 => omega
   case c5 => have := HW2.out.size; simp; omega
   intro v' w' hown' hgrow _
   have HW3 : Hid (Below w.heap.size w w') := Lib.hid ((HW2.out.alloc HW2.out.size _).grown hgrow (by have := HW2.out.size; simp; omega) (fun q hq => (HO2.out.lt q hq).1))
   have HO3 : Hid (w'.ownsRow w.heap.size 9 1 v' (i + 1) (strs (itoas (xs.take (i + 1))))) := Lib.hid (by
    rw [HE.out]
    exact hown')
   clear hown' hgrow HO HO2 HE
   go_wp2_with fail
   go_roundw
   case rel => exact ⟨i + 1, HLT.out, by go_num, HO3, HW3⟩
   case measure => have := HLT.out; simp [intOf]; omega
  ·have hil : i = xs.length := by omega
   subst hil
   have hlen : (itoas xs).length = xs.length := by simp [itoas]
   have HO2 : Hid (wr.ownsRow w.heap.size 9 1 _ (itoas xs).length (strs (itoas xs))) := Lib.hid (by
    have := HO.out
    rw [List.take_of_length_le (Nat.le_refl _)] at this
    rw [hlen]
    exact this)
   have HJ := Lib.hid (joined ⟨#[32]⟩ 21 HO2.out (fun y hy => by
    obtain ⟨z, hz, rfl⟩ := List.mem_map.1 hy
    exact Lib.itoa_length_le z (HX.out z hz).1 (HX.out z hz).2) (by decide) (by rw [hlen]; omega) (by decide))
   have e2 : Lib.join ((itoas xs).map (·.data.toList)) (⟨#[32]⟩ : ByteArray).data.toList = joinI xs := by rw [itoas_data]; rfl
   rw [e2] at HJ
   clear e2 HO
   go_wp2_with (go_at_call 114; refine HJ.out.mono ?_; rintro e w2 ⟨rfl, hb2⟩)
   go_ret
   exact ⟨rfl, HW.out.trans (hb2.mono HW.out.size)⟩
end Go.Proofs.YtdhekhlmdefcnaaGreatDoor
namespace Go.Proofs.YtdhekhlmdefcnaaGreatDoor
open Go.RowKit
section
variable {w : World} {B g : Nat} {x : SyX} {vr : Value} {d : Dk} {T : Nat} {A : Option Addr} {l : List ByteArray}
theorem dk_zero {w : World} (hw : Hid (Words w A l)) (c : Nat) (hs : Hid (Std w)) {n : List Int} (hr : numsOf l 0 = some n) :
  Calls Tryz.prog 39 #[.slice A l.length c, I 0] w fun e w' => (∃ v, e = .returned v) ∧ Below w.heap.size w w' := by
 refine (dk_numbers A c l 0 (by decide) (by decide) hw.out.many hw.out.size w hw.out.reads hs _ (Lib.hid hr) fun _ => nums_of hr).mono ?_
 rintro e w' ⟨⟨v, rfl, ho⟩, hb⟩
 exact ⟨⟨v, rfl⟩, hb⟩
set_option maxHeartbeats 1000000 in
theorem m_conflicts (h : DkAt w B g x vr d) (hw : Words w A l) (c : Nat) (hs : Std w) : Calls Tryz.prog 71 #[.pointer (some ⟨g, 0, none⟩), .slice A l.length c] w (MPost w B g x (does' .conflicts d l)) := by
 have HH := Lib.hid h
 have HW := Lib.hid hw
 have HS := Lib.hid hs
 clear h hw hs
 cases hr : numsOf l 0 with
 | none =>
  have HE : Hid (does' .conflicts d l = (d, .err 3)) := Lib.hid (by simp only [does', hr])
  rw [HE.out]
  have HN := Lib.hid (dk_none HW c 0 (by decide) (by decide) HS hr nums_zero)
  clear hr HE
  go_enter Tryz.func71, Tryz.ntmps71
  go_wp2_with (go_at_call 39; refine HN.out.mono ?_; rintro e w1 ⟨rfl, hb⟩)
  exact ⟨rfl, MPost.same HH.out hb rfl⟩
 | some n =>
  have HE : Hid (does' .conflicts d l = (d, .txt (joinI (zs (confs d.L.routes))))) := Lib.hid (by simp only [does', hr])
  rw [HE.out]
  have HN := Lib.hid (dk_zero HW c HS hr)
  clear hr HE
  go_enter Tryz.func71, Tryz.ntmps71
  go_upto_region 2 with (go_at_call 39; refine HN.out.mono ?_; rintro e w1 ⟨⟨v, rfl⟩, hb⟩; have HB := Lib.hid hb; clear hb)
  have H1 := Lib.hid (HH.out.after HB.out)
  have hL := H1.out.ok
  obtain ⟨Ar, cr, hvr, hcr, hrd⟩ := H1.out.routes.reads
  have c0 := H1.out.has.cellv 0 _ rfl
  have c1 : w1.cell? ⟨g, 1, none⟩ = some (.slice Ar d.L.routes.length cr) := by rw [← hvr]; exact H1.out.has.cellv 1 vr rfl
  have c2 := H1.out.has.cellv 2 _ rfl
  have hg := H1.out.has.lt
  have HC := Lib.hid (conflicts_ok d.L.secs d.L.delay Ar d.L.routes.length cr d.L.routes w1 (Lib.hid rfl) hL.many1 hL.many2 hcr hrd (Lib.hid hL.small) (Lib.hid (chk_lay hL)))
  have H64 : Hid (∀ y ∈ zs (confs d.L.routes), I64 y) := Lib.hid (fun y hy => by
   obtain ⟨z, hz, rfl⟩ := List.mem_map.1 hy
   unfold confs at hz
   obtain ⟨q, hq, rfl⟩ := List.mem_map.1 hz
   have : conf d.L.routes q < 256 := confTo_small _ _ _ hL.many2
   exact I64.nat (by omega))
  have HLN : Hid ((zs (confs d.L.routes)).length = d.L.routes.length) := Lib.hid (by rw [zs_length, confs_length])
  have HM2 := Lib.hid hL.many2
  clear hvr hrd hL
  go_upto_region 3 with (go_at_call 97; refine HC.out.mono ?_; rintro e w2 ⟨⟨A2, n2, rfl, ho⟩, hb2⟩; have HO := Lib.hid ho; have HB2 := Lib.hid hb2; clear ho hb2)
  have HS2 := Lib.hid ((HS.out.after HB.out).after HB2.out)
  obtain ⟨A3, c3, he3, hc3, -, hrd3⟩ := own_reads HO.out
  injection he3 with e1 e2 e3
  subst e1 e3
  have HJ := Lib.hid (dk_join A2 n2 (zs (confs d.L.routes)) (by rw [HLN.out]; have := HM2.out; omega) H64.out w2 hrd3 HS2)
  rw [HLN.out] at HJ
  clear hrd3 c0 c1 c2 HC HO
  go_wp2_with (first
   |(go_at_call 41; refine (must_nil w2).mono ?_; rintro e w3 ⟨rfl, rfl⟩)
   |(go_at_call 98; refine HJ.out.mono ?_; rintro e w4 ⟨rfl, hb4⟩))
  go_ret
  exact MPost.same HH.out ((HB.out.trans (HB2.out.mono HB.out.size)).trans (hb4.mono (Nat.le_trans HB.out.size HB2.out.size))) rfl
set_option maxHeartbeats 1000000 in
theorem m_most (h : DkAt w B g x vr d) (hw : Words w A l) (c : Nat) (hs : Std w) : Calls Tryz.prog 78 #[.pointer (some ⟨g, 0, none⟩), .slice A l.length c] w (MPost w B g x (does' .most d l)) := by
 have HH := Lib.hid h
 have HW := Lib.hid hw
 have HS := Lib.hid hs
 clear h hw hs
 cases hr : numsOf l 0 with
 | none =>
  have HE : Hid (does' .most d l = (d, .err 3)) := Lib.hid (by simp only [does', hr])
  rw [HE.out]
  have HN := Lib.hid (dk_none HW c 0 (by decide) (by decide) HS hr nums_zero)
  clear hr HE
  go_enter Tryz.func78, Tryz.ntmps78
  go_wp2_with (go_at_call 39; refine HN.out.mono ?_; rintro e w1 ⟨rfl, hb⟩)
  exact ⟨rfl, MPost.same HH.out hb rfl⟩
 | some n =>
  have HE : Hid (does' .most d l = (d, .txt (Lib.itoa (bestTo (confs d.L.routes) (2 ^ d.L.routes.length) : Nat)))) := Lib.hid (by simp only [does', hr])
  rw [HE.out]
  have HN := Lib.hid (dk_zero HW c HS hr)
  clear hr HE
  go_enter Tryz.func78, Tryz.ntmps78
  go_upto_region 2 with (go_at_call 39; refine HN.out.mono ?_; rintro e w1 ⟨⟨v, rfl⟩, hb⟩; have HB := Lib.hid hb; clear hb)
  have H1 := Lib.hid (HH.out.after HB.out)
  have HS1 := Lib.hid (HS.out.after HB.out)
  have hL := H1.out.ok
  obtain ⟨Ar, cr, hvr, hcr, hrd⟩ := H1.out.routes.reads
  have c0 := H1.out.has.cellv 0 _ rfl
  have c1 : w1.cell? ⟨g, 1, none⟩ = some (.slice Ar d.L.routes.length cr) := by rw [← hvr]; exact H1.out.has.cellv 1 vr rfl
  have c2 := H1.out.has.cellv 2 _ rfl
  have hg := H1.out.has.lt
  have HC := Lib.hid (most_ok d.L.secs d.L.delay Ar d.L.routes.length cr d.L.routes w1 (Lib.hid rfl) hL.many1 hL.many2 hcr hrd (Lib.hid hL.small) (Lib.hid (chk_lay hL)) (Lib.hid HS1.out.tab) (Nat.lt_of_lt_of_le (by decide) HS1.out.size))
  have hbt := bestTo_le (confs d.L.routes) (2 ^ d.L.routes.length)
  clear hvr hrd hL
  generalize bestTo (confs d.L.routes) (2 ^ d.L.routes.length) = bt at *
  go_upto_region 3 with (go_at_call 105; refine HC.out.mono ?_; rintro e w2 ⟨rfl, hb2⟩; have HB2 := Lib.hid hb2; clear hb2)
  have HS2 := Lib.hid (HS1.out.after HB2.out)
  have HJ := Lib.hid (itoa_ok (bt : Int) (I64.nat (by omega)) w2 HS2)
  clear c0 c1 c2 HC
  go_wp2_with (first
   |(go_at_call 41; refine (must_nil w2).mono ?_; rintro e w3 ⟨rfl, rfl⟩)
   |(go_at_call 46; refine HJ.out.mono ?_; rintro e w4 ⟨rfl, hb4⟩))
  go_ret
  exact MPost.same HH.out ((HB.out.trans (HB2.out.mono HB.out.size)).trans (hb4.mono (Nat.le_trans HB.out.size HB2.out.size))) rfl
end
end Go.Proofs.YtdhekhlmdefcnaaGreatDoor
namespace Go.Proofs.YtdhekhlmdefcnaaGreatDoor
open Go.RowKit
section
variable {w : World} {B g : Nat} {x : SyX} {vr : Value} {d : Dk} {T : Nat} {A : Option Addr} {l : List ByteArray}
theorem two_reads {w : World} {g : Nat} {a b : Int} (h : Has w g 3 #[I a, I b]) : Reads w w.heap.size (some ⟨g, 0, none⟩) (ints [a, b]) := fun _ => ⟨g, 0, rfl, h.lt, fun j u hu => by rw [Nat.zero_add, h.cell]; simpa [ints] using hu⟩
theorem ba_app (a b : List UInt8) : (⟨a.toArray⟩ : ByteArray) ++ (⟨b.toArray⟩ : ByteArray) = ⟨(a ++ b).toArray⟩ := by
 apply Go.WideShapes.bytes_inj
 simp [ByteArray.data_append]
theorem two_len {a b : Int} (ha : I64 a) (hb : I64 b) : (⟨(joinI [a, b]).toArray⟩ : ByteArray).size ≤ 1000 := by
 have h := join_le 21 [32] [Lib.itoa a, Lib.itoa b] (by intro y hy; simp at hy; rcases hy with rfl | rfl; exact Lib.itoa_length_le _ ha.1 ha.2; exact Lib.itoa_length_le _ hb.1 hb.2)
 have e : (⟨(joinI [a, b]).toArray⟩ : ByteArray).size = (Lib.join [Lib.itoa a, Lib.itoa b] [32]).length := by simp [ByteArray.size, joinI]
 rw [e]
 exact Nat.le_trans h (show (21 + 1) * 2 ≤ 1000 by decide)
theorem shown64 {s : Sys} {T : Nat} (h : Fine T s) : I64 (voShown s.v) := by
 unfold voShown
 split
 ·exact ⟨by decide, by decide⟩
 ·split
  ·rename_i c hc
   exact (h.trace c (List.mem_of_getLast? hc)).2.2
  ·exact ⟨by decide, by decide⟩
theorem dk_some {w : World} (hw : Hid (Words w A l)) (c : Nat) (k : Int) (hk1 : -100 ≤ k) (hk2 : k ≤ 100) (hs : Hid (Std w)) {n : List Int} (hr : numsOf l k = some n) :
  Calls Tryz.prog 39 #[.slice A l.length c, I k] w fun e w' => (∃ v, e = .returned v ∧ w'.ownsRow w.heap.size 3 1 v n.length (ints n)) ∧ Below w.heap.size w w' :=
 dk_numbers A c l k hk1 hk2 hw.out.many hw.out.size w hw.out.reads hs _ (Lib.hid hr) fun _ => nums_of hr
set_option maxHeartbeats 4000000 in
set_option maxRecDepth 100000 in
theorem m_show (h : DkAt w B g x vr d) (hf : Fine T d.s) (_hT : T ≤ 9900000000) (hw : Words w A l) (c : Nat) (hs : Std w) : Calls Tryz.prog 81 #[.pointer (some ⟨g, 0, none⟩), .slice A l.length c] w (MPost w B g x (does' .show d l)) := by
 have HH := Lib.hid h
 have HW := Lib.hid hw
 have HS := Lib.hid hs
 have HF := Lib.hid hf
 clear h hw hs hf
 cases hr : numsOf l 0 with
 | none =>
  have HE : Hid (does' .show d l = (d, .err 3)) := Lib.hid (by simp only [does', hr])
  rw [HE.out]
  have HN := Lib.hid (dk_none HW c 0 (by decide) (by decide) HS hr nums_zero)
  clear hr HE
  go_enter Tryz.func81, Tryz.ntmps81
  go_wp2_with (go_at_call 39; refine HN.out.mono ?_; rintro e w1 ⟨rfl, hb⟩)
  exact ⟨rfl, MPost.same HH.out hb rfl⟩
 | some n =>
  have HE : Hid (does' .show d l = (d, .txt (joinI [voShown d.s.v, (d.s.v.out : Int)] ++ [32] ++ Lib.formatBool d.s.v.latched))) := Lib.hid (by simp only [does', hr])
  rw [HE.out]
  have HN := Lib.hid (dk_zero HW c HS hr)
  clear hr HE
  go_enter Tryz.func81, Tryz.ntmps81
  go_upto_region 2 with (go_at_call 39; refine HN.out.mono ?_; rintro e w1 ⟨⟨v, rfl⟩, hb⟩; have HB := Lib.hid hb; clear hb)
  have H1 := Lib.hid (HH.out.after HB.out)
  have HS1 := Lib.hid (HS.out.after HB.out)
  have hc3 := H1.out.c3
  have hg := H1.out.has.lt
  have hn1 : I64 (voShown d.s.v) := shown64 HF.out
  have hn2 : I64 (d.s.v.out : Int) := I64.nat (by have := HF.out.vo.out; omega)
  have HI := Lib.hid (And.intro hn1 hn2)
  have HMC : Hid (∀ wx, Below w1.heap.size w1 wx → Calls Tryz.prog 108 #[.pointer (some ⟨x.g, 0, none⟩)] wx fun e w' => e = .returned (I (voShown d.s.v)) ∧ ∃ q, wx.drewN q = w') := Lib.hid (fun wx hb => sy_shown (H1.out.after hb).sys HF.out.vo.many)
  have HLC : Hid (∀ wx, Below w1.heap.size w1 wx → Calls Tryz.prog 109 #[.pointer (some ⟨x.g, 0, none⟩)] wx fun e w' => e = .returned (I (d.s.v.out : Int)) ∧ wx = w') := Lib.hid (fun wx hb => sy_out (H1.out.after hb).sys)
  have HTC : Hid (∀ wx, Below w1.heap.size w1 wx → Calls Tryz.prog 111 #[.pointer (some ⟨x.g, 0, none⟩)] wx fun e w' => e = .returned (.bool d.s.v.latched) ∧ wx = w') := Lib.hid (fun wx hb => sy_latched (H1.out.after hb).sys)
  clear hn1 hn2
  generalize voShown d.s.v = p1 at *
  generalize (d.s.v.out : Int) = p2 at *
  generalize d.s.v.latched = bl at *
  have HJ : Hid (∀ wx b, Below w1.heap.size w1 wx → Has wx b 3 #[I p1, I p2] → Calls Tryz.prog 98 #[.slice (some ⟨b, 0, none⟩) 2 2] wx fun e w' => e = .returned (.string ⟨(joinI [p1, p2]).toArray⟩) ∧ Below wx.heap.size wx w') := Lib.hid (fun wx b hb hh => dk_join _ _ [p1, p2] (by show 2 ≤ 1000; decide) (by intro y hy; simp at hy; rcases hy with rfl | rfl; exact HI.out.1; exact HI.out.2) wx (two_reads hh) (Lib.hid (HS1.out.after hb)))
  have HFB : Hid (∀ wx : World, Calls Tryz.prog 110 #[.bool bl] wx fun e w' => e = .returned (.string ⟨(Lib.formatBool bl).toArray⟩) ∧ w' = wx) := Lib.hid (fun wx => Tryz.strconv_FormatBool bl wx)
  have HT : Hid ((⟨(joinI [p1, p2]).toArray⟩ : ByteArray) ++ ⟨#[32]⟩ ++ ⟨(Lib.formatBool bl).toArray⟩ = ⟨(joinI [p1, p2] ++ [32] ++ Lib.formatBool bl).toArray⟩) := Lib.hid (by
   rw [show (⟨#[32]⟩ : ByteArray) = ⟨[32].toArray⟩ from rfl, ba_app, ba_app])
  have HZ : Hid ((⟨(joinI [p1, p2]).toArray⟩ : ByteArray).size ≤ 1000 ∧ (⟨(Lib.formatBool bl).toArray⟩ : ByteArray).size ≤ 1000) := Lib.hid ⟨two_len HI.out.1 HI.out.2, by cases bl <;> decide⟩
  generalize (⟨(joinI [p1, p2]).toArray⟩ : ByteArray) = T1 at *
  generalize (⟨(Lib.formatBool bl).toArray⟩ : ByteArray) = T2 at *
  refine region_gen (by kernel_rfl) (fun b0 => b0.tmps.getD 0 undef = .pointer (some ⟨g, 0, none⟩) ∧ b0.defers = []) ⟨rfl, rfl⟩ 27 rfl (fun _ => 0) (fun (Γ : Unk) i => ([.pointer (some ⟨g, 0, none⟩), .pointer (some ⟨g, 0, none⟩), .pointer (some ⟨g, 3, none⟩), .pointer (some ⟨x.g, 0, none⟩), I p1, .pointer (some ⟨g, 0, none⟩), .pointer (some ⟨g, 0, none⟩), .pointer (some ⟨g, 3, none⟩), .pointer (some ⟨x.g, 0, none⟩), I p2, .slice (some ⟨Γ 0, 0, none⟩) 2 2, .string T1, .string (T1 ++ ⟨#[32]⟩), .pointer (some ⟨g, 0, none⟩), .pointer (some ⟨g, 0, none⟩), .pointer (some ⟨g, 3, none⟩), .pointer (some ⟨x.g, 0, none⟩), .bool bl, .string T2, .string (T1 ++ ⟨#[32]⟩ ++ T2), .string (T1 ++ ⟨#[32]⟩ ++ T2)] : List Value).getD i undef) [4, 9, 10, 11, 17, 18] (by kernel_rfl) (fun i => ([[], [], [], [], [], [], [], [], [], [], [0], [], [], [], [], [], [], [], [], [], []] : List (List Nat)).getD i []) (fun i => ([[], [], [], [], [], [], [], [], [], [], [0], [], [], [], [], [], [], [], [], [], []] : List (List Nat)).getD i []) 21 (by kernel_rfl) ?_ (fun j Γ b => ([(fun _ _ => fun wx => Below w1.heap.size w1 wx) Γ b, (fun _ _ => fun wx => Below w1.heap.size w1 wx) Γ b, (fun _ _ => fun wx => Below w1.heap.size w1 wx) Γ b, (fun Γ _ => fun wx => Below w1.heap.size w1 wx ∧ Has wx (Γ 0) 3 #[I p1, I p2]) Γ b, (fun _ _ => fun wx => Below w1.heap.size w1 wx) Γ b, (fun _ _ => fun wx => Below w1.heap.size w1 wx) Γ b, (fun _ _ => fun wx => Below w1.heap.size w1 wx) Γ b] : List (World → Prop)).getD j (fun _ => True)) [7, 8, 9, 10, 11, 12, 13, 14, 15, 16, 17, 18, 19, 20, 21, 22, 23, 24, 25, 26, 4] (by kernel_rfl) (by kernel_rfl) ((Below.refl _ _).drew) ?_ ?_
  ·intro Γ Γ' j hj hu
   have hj2 : j < 21 := hj
   have hcase : j = 0 ∨ j = 1 ∨ j = 2 ∨ j = 3 ∨ j = 4 ∨ j = 5 ∨ j = 6 ∨ j = 7 ∨ j = 8 ∨ j = 9 ∨ j = 10 ∨ j = 11 ∨ j = 12 ∨ j = 13 ∨ j = 14 ∨ j = 15 ∨ j = 16 ∨ j = 17 ∨ j = 18 ∨ j = 19 ∨ j = 20 := by omega
   clear hj hj2
   rcases hcase with rfl | rfl | rfl | rfl | rfl | rfl | rfl | rfl | rfl | rfl | rfl | rfl | rfl | rfl | rfl | rfl | rfl | rfl | rfl | rfl | rfl
   ·rfl
   ·rfl
   ·rfl
   ·rfl
   ·rfl
   ·rfl
   ·rfl
   ·rfl
   ·rfl
   ·rfl
   ·show (.slice (some ⟨Γ 0, 0, none⟩) 2 2 : Value) = .slice (some ⟨Γ' 0, 0, none⟩) 2 2; rw [hu 0 (by decide)]
   ·rfl
   ·rfl
   ·rfl
   ·rfl
   ·rfl
   ·rfl
   ·rfl
   ·rfl
   ·rfl
   ·rfl
  ·intro b0 hb0 i o ho
   have hi : i < 21 := (Array.getElem?_eq_some_iff.1 ho).1
   obtain ⟨f0, fdf⟩ := hb0
   have hcase : i = 0 ∨ i = 1 ∨ i = 2 ∨ i = 3 ∨ i = 4 ∨ i = 5 ∨ i = 6 ∨ i = 7 ∨ i = 8 ∨ i = 9 ∨ i = 10 ∨ i = 11 ∨ i = 12 ∨ i = 13 ∨ i = 14 ∨ i = 15 ∨ i = 16 ∨ i = 17 ∨ i = 18 ∨ i = 19 ∨ i = 20 := by omega
   clear hi
   rcases hcase with rfl | rfl | rfl | rfl | rfl | rfl | rfl | rfl | rfl | rfl | rfl | rfl | rfl | rfl | rfl | rfl | rfl | rfl | rfl | rfl | rfl
   ·simp only [List.getElem?_toArray, List.getElem?_cons_zero] at ho
    cases ho
    refine .inl ⟨by decide, by decide, fun Γ M => stepA rfl (fun li ac wx H hn hed hM K hk => ?_)⟩
    have e0 : ac.tmps[0]?.getD undef = .pointer (some ⟨g, 0, none⟩) := slot_at ((H.frm.slot (by decide)).trans f0)
    clear hed H
    go_simp
    exact hk _ hM
   ·simp only [List.getElem?_toArray, List.getElem?_cons_zero, List.getElem?_cons_succ] at ho
    cases ho
    refine .inl ⟨by decide, by decide, fun Γ M => stepA rfl (fun li ac wx H hn hed hM K hk => ?_)⟩
    have e7 : ac.tmps[7]?.getD undef = .pointer (some ⟨g, 0, none⟩) := slot_at (H.known 0 _ rfl (hed ⟨0, .data⟩ (by simp) rfl) 7 rfl)
    clear hed H
    go_simp
    exact hk _ hM
   ·simp only [List.getElem?_toArray, List.getElem?_cons_zero, List.getElem?_cons_succ] at ho
    cases ho
    refine .inl ⟨by decide, by decide, fun Γ M => stepA rfl (fun li ac wx H hn hed hM K hk => ?_)⟩
    have e8 : ac.tmps[8]?.getD undef = .pointer (some ⟨g, 0, none⟩) := slot_at (H.known 1 _ rfl (hed ⟨1, .data⟩ (by simp) rfl) 8 rfl)
    clear hed H
    go_simp
    exact hk _ hM
   ·simp only [List.getElem?_toArray, List.getElem?_cons_zero, List.getElem?_cons_succ] at ho
    cases ho
    refine .inr (.inr (.inr ⟨by decide, by decide, 0, 4, rfl, by kernel_rfl, fun Γ b j hj => ?_⟩))
    have hj2 : j = 0 := by omega
    clear hj
    subst hj2
    ·refine stepA rfl (fun li ac wx H hn hed hM K hk => ?_)
     have e9 : ac.tmps[9]?.getD undef = .pointer (some ⟨g, 3, none⟩) := slot_at (H.known 2 _ rfl (hed ⟨2, .data⟩ (by simp) rfl) 9 rfl)
     have hM1 : (fun _ _ => fun wx => Below w1.heap.size w1 wx) Γ b wx := hM
     clear hed H
     have c3 := (Below.cell hM1 (p := ⟨g, 3, none⟩) hg).trans hc3
     go_simp
     exact hk _ hM
   ·simp only [List.getElem?_toArray, List.getElem?_cons_zero, List.getElem?_cons_succ] at ho
    cases ho
    refine .inr (.inr (.inl ⟨by decide, 0, rfl, fun Γ b hba => stepC rfl (fun li ac wx H hn hed hM K hk => ?_)⟩))
    have e10 : ac.tmps[10]?.getD undef = .pointer (some ⟨x.g, 0, none⟩) := slot_at (H.known 3 _ rfl (hed ⟨3, .data⟩ (by simp) rfl) 10 rfl)
    have hM1 : (fun _ _ => fun wx => Below w1.heap.size w1 wx) Γ b wx := hM
    have hdf := Lib.hid (H.frm.defers.trans fdf)
    clear hed H
    go_simp
    refine (HMC.out wx hM1).mono ?_
    rintro e w' ⟨rfl, q, rfl⟩
    exact hk Γ _ (chg0 Γ) (below_drewN hM1 q)
   ·simp only [List.getElem?_toArray, List.getElem?_cons_zero, List.getElem?_cons_succ] at ho
    cases ho
    refine .inl ⟨by decide, by decide, fun Γ M => stepA rfl (fun li ac wx H hn hed hM K hk => ?_)⟩
    have e0 : ac.tmps[0]?.getD undef = .pointer (some ⟨g, 0, none⟩) := slot_at ((H.frm.slot (by decide)).trans f0)
    clear hed H
    go_simp
    exact hk _ hM
   ·simp only [List.getElem?_toArray, List.getElem?_cons_zero, List.getElem?_cons_succ] at ho
    cases ho
    refine .inl ⟨by decide, by decide, fun Γ M => stepA rfl (fun li ac wx H hn hed hM K hk => ?_)⟩
    have e12 : ac.tmps[12]?.getD undef = .pointer (some ⟨g, 0, none⟩) := slot_at (H.known 5 _ rfl (hed ⟨5, .data⟩ (by simp) rfl) 12 rfl)
    clear hed H
    go_simp
    exact hk _ hM
   ·simp only [List.getElem?_toArray, List.getElem?_cons_zero, List.getElem?_cons_succ] at ho
    cases ho
    refine .inl ⟨by decide, by decide, fun Γ M => stepA rfl (fun li ac wx H hn hed hM K hk => ?_)⟩
    have e13 : ac.tmps[13]?.getD undef = .pointer (some ⟨g, 0, none⟩) := slot_at (H.known 6 _ rfl (hed ⟨6, .data⟩ (by simp) rfl) 13 rfl)
    clear hed H
    go_simp
    exact hk _ hM
   ·simp only [List.getElem?_toArray, List.getElem?_cons_zero, List.getElem?_cons_succ] at ho
    cases ho
    refine .inr (.inr (.inr ⟨by decide, by decide, 1, 9, rfl, by kernel_rfl, fun Γ b j hj => ?_⟩))
    have hj2 : j = 0 ∨ j = 1 := by omega
    clear hj
    rcases hj2 with rfl | rfl
    ·refine stepA rfl (fun li ac wx H hn hed hM K hk => ?_)
     have e14 : ac.tmps[14]?.getD undef = .pointer (some ⟨g, 3, none⟩) := slot_at (H.known 7 _ rfl (hed ⟨7, .data⟩ (by simp) rfl) 14 rfl)
     have hM1 : (fun _ _ => fun wx => Below w1.heap.size w1 wx) Γ b wx := hM
     clear hed H
     have c3 := (Below.cell hM1 (p := ⟨g, 3, none⟩) hg).trans hc3
     go_simp
     exact hk _ hM
    ·refine stepA rfl (fun li ac wx H hn hed hM K hk => ?_)
     have e14 : ac.tmps[14]?.getD undef = .pointer (some ⟨g, 3, none⟩) := slot_at (H.known 7 _ rfl (hed ⟨7, .data⟩ (by simp) rfl) 14 rfl)
     have hM1 : (fun _ _ => fun wx => Below w1.heap.size w1 wx) Γ b wx := hM
     clear hed H
     have c3 := (Below.cell hM1 (p := ⟨g, 3, none⟩) hg).trans hc3
     go_simp
     exact hk _ hM
   ·simp only [List.getElem?_toArray, List.getElem?_cons_zero, List.getElem?_cons_succ] at ho
    cases ho
    refine .inr (.inr (.inl ⟨by decide, 1, rfl, fun Γ b hba => stepC rfl (fun li ac wx H hn hed hM K hk => ?_)⟩))
    have e15 : ac.tmps[15]?.getD undef = .pointer (some ⟨x.g, 0, none⟩) := slot_at (H.known 8 _ rfl (hed ⟨8, .data⟩ (by simp) rfl) 15 rfl)
    have hM1 : (fun _ _ => fun wx => Below w1.heap.size w1 wx) Γ b wx := hM
    have hdf := Lib.hid (H.frm.defers.trans fdf)
    clear hed H
    go_simp
    refine (HLC.out wx hM1).mono ?_
    rintro e w' ⟨rfl, rfl⟩
    exact hk Γ _ (chg0 Γ) hM1
   ·simp only [List.getElem?_toArray, List.getElem?_cons_zero, List.getElem?_cons_succ] at ho
    cases ho
    refine .inr (.inr (.inl ⟨by decide, 2, rfl, fun Γ b hba => stepC rfl (fun li ac wx H hn hed hM K hk => ?_)⟩))
    have e11 : ac.tmps[11]?.getD undef = I p1 := slot_at (H.known 4 _ rfl (hed ⟨4, .data⟩ (by simp) rfl) 11 rfl)
    have e16 : ac.tmps[16]?.getD undef = I p2 := slot_at (H.known 9 _ rfl (hed ⟨9, .data⟩ (by simp) rfl) 16 rfl)
    have hM1 : (fun _ _ => fun wx => Below w1.heap.size w1 wx) Γ b wx := hM
    have hdf := Lib.hid (H.frm.defers.trans fdf)
    clear hed H
    go_simp
    exact hk (Γ.set 0 wx.heap.size) _ (chg1 _ _ _) ⟨Below.alloc hM1 hM1.size _, Has.new _ _ _⟩
   ·simp only [List.getElem?_toArray, List.getElem?_cons_zero, List.getElem?_cons_succ] at ho
    cases ho
    refine .inr (.inr (.inl ⟨by decide, 3, rfl, fun Γ b hba => stepC rfl (fun li ac wx H hn hed hM K hk => ?_)⟩))
    have e17 : ac.tmps[17]?.getD undef = .slice (some ⟨Γ 0, 0, none⟩) 2 2 := slot_at (H.known 10 _ rfl (hed ⟨10, .data⟩ (by simp) rfl) 17 rfl)
    have hM1 : (fun Γ _ => fun wx => Below w1.heap.size w1 wx ∧ Has wx (Γ 0) 3 #[I p1, I p2]) Γ b wx := hM
    have hdf := Lib.hid (H.frm.defers.trans fdf)
    clear hed H
    go_simp
    refine (HJ.out wx _ hM1.1 hM1.2).mono ?_
    rintro e w' ⟨rfl, hb⟩
    exact hk Γ _ (chg0 Γ) (hM1.1.trans (hb.mono hM1.1.size))
   ·simp only [List.getElem?_toArray, List.getElem?_cons_zero, List.getElem?_cons_succ] at ho
    cases ho
    refine .inl ⟨by decide, by decide, fun Γ M => stepA rfl (fun li ac wx H hn hed hM K hk => ?_)⟩
    have e18 : ac.tmps[18]?.getD undef = .string T1 := slot_at (H.known 11 _ rfl (hed ⟨11, .data⟩ (by simp) rfl) 18 rfl)
    have hz := HZ.out
    have z1 : ¬ 9223372036854775807 < T1.size + 1 := by omega
    clear hz
    clear hed H
    go_simp
    exact hk _ hM
   ·simp only [List.getElem?_toArray, List.getElem?_cons_zero, List.getElem?_cons_succ] at ho
    cases ho
    refine .inl ⟨by decide, by decide, fun Γ M => stepA rfl (fun li ac wx H hn hed hM K hk => ?_)⟩
    have e0 : ac.tmps[0]?.getD undef = .pointer (some ⟨g, 0, none⟩) := slot_at ((H.frm.slot (by decide)).trans f0)
    clear hed H
    go_simp
    exact hk _ hM
   ·simp only [List.getElem?_toArray, List.getElem?_cons_zero, List.getElem?_cons_succ] at ho
    cases ho
    refine .inl ⟨by decide, by decide, fun Γ M => stepA rfl (fun li ac wx H hn hed hM K hk => ?_)⟩
    have e20 : ac.tmps[20]?.getD undef = .pointer (some ⟨g, 0, none⟩) := slot_at (H.known 13 _ rfl (hed ⟨13, .data⟩ (by simp) rfl) 20 rfl)
    clear hed H
    go_simp
    exact hk _ hM
   ·simp only [List.getElem?_toArray, List.getElem?_cons_zero, List.getElem?_cons_succ] at ho
    cases ho
    refine .inl ⟨by decide, by decide, fun Γ M => stepA rfl (fun li ac wx H hn hed hM K hk => ?_)⟩
    have e21 : ac.tmps[21]?.getD undef = .pointer (some ⟨g, 0, none⟩) := slot_at (H.known 14 _ rfl (hed ⟨14, .data⟩ (by simp) rfl) 21 rfl)
    clear hed H
    go_simp
    exact hk _ hM
   ·simp only [List.getElem?_toArray, List.getElem?_cons_zero, List.getElem?_cons_succ] at ho
    cases ho
    refine .inr (.inr (.inr ⟨by decide, by decide, 4, 17, rfl, by kernel_rfl, fun Γ b j hj => ?_⟩))
    have hj2 : j = 0 ∨ j = 1 ∨ j = 2 ∨ j = 3 ∨ j = 4 := by omega
    clear hj
    rcases hj2 with rfl | rfl | rfl | rfl | rfl
    ·refine stepA rfl (fun li ac wx H hn hed hM K hk => ?_)
     have e22 : ac.tmps[22]?.getD undef = .pointer (some ⟨g, 3, none⟩) := slot_at (H.known 15 _ rfl (hed ⟨15, .data⟩ (by simp) rfl) 22 rfl)
     have hM1 : (fun _ _ => fun wx => Below w1.heap.size w1 wx) Γ b wx := hM
     clear hed H
     have hMb : Below w1.heap.size w1 wx := by first | exact hM1 | exact hM1.1
     have c3 := (Below.cell hMb (p := ⟨g, 3, none⟩) hg).trans hc3
     go_simp
     exact hk _ hM
    ·refine stepA rfl (fun li ac wx H hn hed hM K hk => ?_)
     have e22 : ac.tmps[22]?.getD undef = .pointer (some ⟨g, 3, none⟩) := slot_at (H.known 15 _ rfl (hed ⟨15, .data⟩ (by simp) rfl) 22 rfl)
     have hM1 : (fun _ _ => fun wx => Below w1.heap.size w1 wx) Γ b wx := hM
     clear hed H
     have hMb : Below w1.heap.size w1 wx := by first | exact hM1 | exact hM1.1
     have c3 := (Below.cell hMb (p := ⟨g, 3, none⟩) hg).trans hc3
     go_simp
     exact hk _ hM
    ·refine stepA rfl (fun li ac wx H hn hed hM K hk => ?_)
     have e22 : ac.tmps[22]?.getD undef = .pointer (some ⟨g, 3, none⟩) := slot_at (H.known 15 _ rfl (hed ⟨15, .data⟩ (by simp) rfl) 22 rfl)
     have hM1 : (fun _ _ => fun wx => Below w1.heap.size w1 wx) Γ b wx := hM
     clear hed H
     have hMb : Below w1.heap.size w1 wx := by first | exact hM1 | exact hM1.1
     have c3 := (Below.cell hMb (p := ⟨g, 3, none⟩) hg).trans hc3
     go_simp
     exact hk _ hM
    ·refine stepA rfl (fun li ac wx H hn hed hM K hk => ?_)
     have e22 : ac.tmps[22]?.getD undef = .pointer (some ⟨g, 3, none⟩) := slot_at (H.known 15 _ rfl (hed ⟨15, .data⟩ (by simp) rfl) 22 rfl)
     have hM1 : (fun Γ _ => fun wx => Below w1.heap.size w1 wx ∧ Has wx (Γ 0) 3 #[I p1, I p2]) Γ b wx := hM
     clear hed H
     have hMb : Below w1.heap.size w1 wx := by first | exact hM1 | exact hM1.1
     have c3 := (Below.cell hMb (p := ⟨g, 3, none⟩) hg).trans hc3
     go_simp
     exact hk _ hM
    ·refine stepA rfl (fun li ac wx H hn hed hM K hk => ?_)
     have e22 : ac.tmps[22]?.getD undef = .pointer (some ⟨g, 3, none⟩) := slot_at (H.known 15 _ rfl (hed ⟨15, .data⟩ (by simp) rfl) 22 rfl)
     have hM1 : (fun _ _ => fun wx => Below w1.heap.size w1 wx) Γ b wx := hM
     clear hed H
     have hMb : Below w1.heap.size w1 wx := by first | exact hM1 | exact hM1.1
     have c3 := (Below.cell hMb (p := ⟨g, 3, none⟩) hg).trans hc3
     go_simp
     exact hk _ hM
   ·simp only [List.getElem?_toArray, List.getElem?_cons_zero, List.getElem?_cons_succ] at ho
    cases ho
    refine .inr (.inr (.inl ⟨by decide, 4, rfl, fun Γ b hba => stepC rfl (fun li ac wx H hn hed hM K hk => ?_)⟩))
    have e23 : ac.tmps[23]?.getD undef = .pointer (some ⟨x.g, 0, none⟩) := slot_at (H.known 16 _ rfl (hed ⟨16, .data⟩ (by simp) rfl) 23 rfl)
    have hM1 : (fun _ _ => fun wx => Below w1.heap.size w1 wx) Γ b wx := hM
    have hdf := Lib.hid (H.frm.defers.trans fdf)
    clear hed H
    go_simp
    refine (HTC.out wx hM1).mono ?_
    rintro e w' ⟨rfl, rfl⟩
    exact hk Γ _ (chg0 Γ) hM1
   ·simp only [List.getElem?_toArray, List.getElem?_cons_zero, List.getElem?_cons_succ] at ho
    cases ho
    refine .inr (.inr (.inl ⟨by decide, 5, rfl, fun Γ b hba => stepC rfl (fun li ac wx H hn hed hM K hk => ?_)⟩))
    have e24 : ac.tmps[24]?.getD undef = .bool bl := slot_at (H.known 17 _ rfl (hed ⟨17, .data⟩ (by simp) rfl) 24 rfl)
    have hM1 : (fun _ _ => fun wx => Below w1.heap.size w1 wx) Γ b wx := hM
    have hdf := Lib.hid (H.frm.defers.trans fdf)
    clear hed H
    go_simp
    refine (HFB.out wx).mono ?_
    rintro e w' ⟨rfl, rfl⟩
    exact hk Γ _ (chg0 Γ) hM1
   ·simp only [List.getElem?_toArray, List.getElem?_cons_zero, List.getElem?_cons_succ] at ho
    cases ho
    refine .inl ⟨by decide, by decide, fun Γ M => stepA rfl (fun li ac wx H hn hed hM K hk => ?_)⟩
    have e19 : ac.tmps[19]?.getD undef = .string (T1 ++ ⟨#[32]⟩) := slot_at (H.known 12 _ rfl (hed ⟨12, .data⟩ (by simp) rfl) 19 rfl)
    have e25 : ac.tmps[25]?.getD undef = .string T2 := slot_at (H.known 18 _ rfl (hed ⟨18, .data⟩ (by simp) rfl) 25 rfl)
    have hz := HZ.out
    have z1 : ¬ 9223372036854775807 < T1.size + 1 + T2.size := by omega
    clear hz
    clear hed H
    go_simp
    exact hk _ hM
   ·simp only [List.getElem?_toArray, List.getElem?_cons_zero, List.getElem?_cons_succ] at ho
    cases ho
    refine .inl ⟨by decide, by decide, fun Γ M => stepA rfl (fun li ac wx H hn hed hM K hk => ?_)⟩
    have e26 : ac.tmps[26]?.getD undef = .string (T1 ++ ⟨#[32]⟩ ++ T2) := slot_at (H.known 19 _ rfl (hed ⟨19, .data⟩ (by simp) rfl) 26 rfl)
    clear hed H
    go_simp
    exact hk _ hM
  ·intro Γ b ac wx hF hK hM0
   have hM : (fun _ _ => fun wx => Below w1.heap.size w1 wx) Γ b wx := hM0
   have E4 : ac.tmps.getD 4 undef = .string (T1 ++ ⟨#[32]⟩ ++ T2) := hK 20 _ rfl 4 rfl
   have hMet := hF.meet
   simp only [List.foldl_cons, List.foldl_nil, List.setIfInBounds_toArray, List.set_cons_succ, List.set_cons_zero, E4] at hMet
   generalize ac.tmps.getD 7 undef = v7 at hMet
   generalize ac.tmps.getD 8 undef = v8 at hMet
   generalize ac.tmps.getD 9 undef = v9 at hMet
   generalize ac.tmps.getD 10 undef = v10 at hMet
   generalize ac.tmps.getD 11 undef = v11 at hMet
   generalize ac.tmps.getD 12 undef = v12 at hMet
   generalize ac.tmps.getD 13 undef = v13 at hMet
   generalize ac.tmps.getD 14 undef = v14 at hMet
   generalize ac.tmps.getD 15 undef = v15 at hMet
   generalize ac.tmps.getD 16 undef = v16 at hMet
   generalize ac.tmps.getD 17 undef = v17 at hMet
   generalize ac.tmps.getD 18 undef = v18 at hMet
   generalize ac.tmps.getD 19 undef = v19 at hMet
   generalize ac.tmps.getD 20 undef = v20 at hMet
   generalize ac.tmps.getD 21 undef = v21 at hMet
   generalize ac.tmps.getD 22 undef = v22 at hMet
   generalize ac.tmps.getD 23 undef = v23 at hMet
   generalize ac.tmps.getD 24 undef = v24 at hMet
   generalize ac.tmps.getD 25 undef = v25 at hMet
   generalize ac.tmps.getD 26 undef = v26 at hMet
   clear hF hK hM0 E4
   subst hMet
   go_wp2
   go_ret
   exact ⟨by show Ending.returned (.string _) = .returned (.string _); rw [HT.out]; simp, (MPost.same (a := .txt []) HH.out (HB.out.trans (hM.mono HB.out.size)) rfl).2⟩
end
end Go.Proofs.YtdhekhlmdefcnaaGreatDoor
namespace Go.Proofs.YtdhekhlmdefcnaaGreatDoor
open Go.RowKit
def dkT (t : TypeId) : Bool := t == 54 || t == 9
def Own (p : TypeId → Bool) (w : World) (b : Nat) : Prop := ∃ t cs, Has w b t cs ∧ p t = true
section
variable {p : TypeId → Bool} {w w' : World} {F : Nat → Prop} {B : Nat} {L : Lay} {s : Sys}
theorem Has.apart {g : Nat} {t : TypeId} {cs : Array Value} (h : Has w g t cs) (hF : ∀ b, F b → Own p w b) (hn : p t = false) : ¬ F g := fun hf => by
 obtain ⟨t', cs', h', hm⟩ := hF g hf
 have e : t = t' := by
  unfold Has at h h'
  rw [h] at h'
  injection h' with h'
  injection h' with _ ht
 rw [e, hm] at hn
 cases hn
theorem Has.keepG {g : Nat} {t : TypeId} {cs : Array Value} (h : Has w g t cs) (ht : Turned F w w') (hF : ∀ b, F b → Own p w b) (hn : p t = false) : Has w' g t cs := h.turned ht (h.apart hF hn)
theorem own_keepG {base : Nat} {e : TypeId} {size n : Nat} {v : Value} {xs : List Value} (h : w.ownsRow base e size v n xs) (ht : Turned F w w') (hF : ∀ b, F b → Own p w b) (hn : p e = false) : w'.ownsRow base e size v n xs :=
 own_keep h fun g _ _ hh => (show w'.heap[g]? = w.heap[g]? from (hh.keepG ht hF hn).trans hh.symm)
theorem CoreAt.keepG {gc : Nat} (h : CoreAt w gc L) (ht : Turned F w w') (hF : ∀ b, F b → Own p w b) (h1 : p 198 = false) (h2 : p 3 = false) : CoreAt w' gc L := by
 obtain ⟨vr, vc, a1, a2, a3⟩ := h
 exact ⟨vr, vc, a1.keepG ht hF h1, own_keepG a2 ht hF h2, own_keepG a3 ht hF h2⟩
theorem SyAt.desk {x : SyX} (h : SyAt w B x L s) (ht : Turned F w w') (hF : ∀ b, F b → Own dkT w b) : SyAt w' B x L s := by
 refine ⟨h.has.keepG ht hF rfl, own_keepG h.routes ht hF rfl, h.n3, fun k hk => ⟨(h.rep k hk).has.keepG ht hF rfl, (h.rep k hk).core.keepG ht hF rfl rfl⟩, h.apart, ⟨h.vo.has.keepG ht hF rfl, own_keepG h.vo.own ht hF rfl, h.vo.low⟩, own_keepG h.way ht hF rfl, h.len, fun i gm v e1 e2 => ?_, h.low, h.lows⟩
 exact (h.bytes i gm v e1 e2).keep fun g cs hh => hh.keepG ht hF rfl
end
section
variable {w : World} {g : Nat} {A : Option Addr} {l : List ByteArray}
theorem infoLay : (Tryz.prog.info? 51).map (·.size) = some 3 := by kernel_rfl
theorem syAt_base {w : World} {B B' : Nat} {x : SyX} {L : Lay} {s : Sys} (h : SyAt w B' x L s) (hB : B ≤ B') : SyAt w B x L s :=
 ⟨h.has, h.routes, h.n3, h.rep, h.apart, ⟨h.vo.has, own_base h.vo.own hB, Nat.le_trans hB h.vo.low⟩, own_base h.way hB, h.len, h.bytes, Nat.le_trans hB h.low, fun k hk => Nat.le_trans hB (h.lows k hk)⟩
theorem numsOf_many {l : List ByteArray} {k : Int} {n : List Int} (h : numsOf l k = some n) : n.length = l.length := by
 unfold numsOf at h
 split at h
 ·cases h
 ·exact numsTo_length h
theorem numsOf_four {l : List ByteArray} {n : List Int} (h : numsOf l (-4) = some n) : 4 ≤ n.length := by
 have hl := numsOf_many h
 unfold numsOf at h
 split at h
 ·cases h
 ·rename_i hb
  unfold lenBad at hb
  rw [if_neg (by decide)] at hb
  simp at hb
  omega
end
end Go.Proofs.YtdhekhlmdefcnaaGreatDoor
namespace Go.Proofs.YtdhekhlmdefcnaaGreatDoor
open Go.RowKit
section
variable {w : World} {g : Nat} {A : Option Addr} {l : List ByteArray}
set_option maxHeartbeats 4000000 in
set_option maxRecDepth 100000 in
theorem begin_ok {n0 n1 n2 : Int} {rs : List Int} (L : Lay) {B : Nat} {a0 a1 a2 a3 : Value} (h : Has w g 54 #[a0, a1, a2, a3]) (hBg : B ≤ g) (hBw : B ≤ w.heap.size) (hL : Hid (L.Ok ∧ n2 = (L.secs : Int) ∧ rs = zs L.routes ∧ n1 = (L.delay : Int))) (hwin : Hid (1 ≤ n0 ∧ n0 ≤ 20)) (hr : Hid (numsOf l (-4) = some (n0 :: n1 :: n2 :: rs))) (hw : Hid (Words w A l)) (c : Nat) (hs : Hid (Std w)) :
  Calls Tryz.prog 14 #[.pointer (some ⟨g, 0, none⟩), .slice A l.length c] w (fun e w' => e = .returned (.string ⟨#[98, 101, 103, 105, 110]⟩) ∧ ∃ x vr, DkAt w' B g x vr ⟨L, Sys.new n0⟩ ∧ Turned (fun b => b = g) w w' ∧ ∀ b, FS x b → w.heap.size ≤ b) := by
 have HN := Lib.hid (dk_some hw c (-4) (by decide) (by decide) hs hr.out)
 have HRL : Hid (rs.length ≤ 100000) := Lib.hid (by have := numsOf_many hr.out; have h2 := hw.out.many; simp at this; omega)
 have HN4 : Hid (1 ≤ rs.length) := Lib.hid (by have := numsOf_four hr.out; simp at this; omega)
 clear hr hw
 go_enter Tryz.func14, Tryz.ntmps14
 go_upto_region 2 with (go_at_call 39; refine HN.out.mono ?_; rintro e w1 ⟨⟨v, rfl, ho⟩, hb⟩; have HB := Lib.hid hb; have HO := Lib.hid ho; clear hb ho)
 obtain ⟨bn, cb, cs, rfl, hcb, hh, hcs⟩ := own_cells HO.out (by simp)
 have hq0 : w1.cell? ⟨bn, 0, none⟩ = some (I n0) := by rw [hh.cell]; exact hcs 0 _ rfl
 have hq1 : w1.cell? ⟨bn, 1, none⟩ = some (I n1) := by rw [hh.cell]; exact hcs 1 _ rfl
 have hq2 : w1.cell? ⟨bn, 2, none⟩ = some (I n2) := by rw [hh.cell]; exact hcs 2 _ rfl
 have hbl := hh.lt
 have HRS : Hid (∀ (j : Nat) (u : Value), (ints rs)[j]? = some u → cs[3 + j]? = some u) := Lib.hid fun j u hu => hcs (3 + j) u (by rw [show 3 + j = j + 1 + 1 + 1 by omega]; exact hu)
 have HCS := Lib.hid hh
 have HS1 := Lib.hid (hs.out.after HB.out)
 obtain ⟨nl, hnl⟩ : ∃ nl, nl = (n0 :: n1 :: n2 :: rs).length := ⟨_, rfl⟩
 rw [← hnl] at hcb ⊢
 have hn3 : 4 ≤ nl := by rw [hnl]; have := HN4.out; simp; omega
 have hcb3 : ¬ cb = 3 := by omega
 have hi0 : 0 < nl := by omega
 have hi1 : (1 : Int) < (nl : Int) := by omega
 have hi2 : (2 : Int) < (nl : Int) := by rw [hnl]; simp; omega
 have hi3 : (3 : Int) ≤ (nl : Int) := by omega
 have HNL : Hid (nl - 3 = rs.length) := Lib.hid (by rw [hnl]; simp)
 have HCB : Hid (nl ≤ cb) := Lib.hid hcb
 clear hh hcs HO HN hnl hs
 refine region_gen (by kernel_rfl) (fun b0 => b0.tmps.getD 5 undef = .slice (some ⟨bn, 0, none⟩) nl cb ∧ b0.defers = []) ⟨rfl, rfl⟩ 38 rfl (fun _ => 0) (fun (Γ : Unk) i => ([.slice (some ⟨bn, 0, none⟩) nl cb, .pointer (some ⟨bn, 1, none⟩), I n1, .slice (some ⟨bn, 0, none⟩) nl cb, .pointer (some ⟨bn, 2, none⟩), I n2, .slice (some ⟨bn, 0, none⟩) nl cb, .slice (some ⟨bn, 3, none⟩) (nl - 3) (cb - 3), .agg #[I n2, .slice (some ⟨bn, 3, none⟩) (nl - 3) (cb - 3), I n1], .pointer (some ⟨Γ 0, 0, none⟩), undef] : List Value).getD i undef) [10] (by kernel_rfl) (fun i => ([[], [], [], [], [], [], [], [], [], [0], []] : List (List Nat)).getD i []) (fun i => ([[], [], [], [], [], [], [], [], [], [0], []] : List (List Nat)).getD i []) 9 (by kernel_rfl) ?_ (fun j Γ b => ([(fun Γ b => fun wx => Below w1.heap.size w1 wx ∧ (b = true → Has wx (Γ 0) 51 #[I 0, .slice none 0 0, I 0] ∧ w1.heap.size ≤ Γ 0)) Γ b, (fun Γ _ => fun wx => Below w1.heap.size w1 wx ∧ Has wx (Γ 0) 51 #[I n2, .slice (some ⟨bn, 3, none⟩) (nl - 3) (cb - 3), I n1] ∧ w1.heap.size ≤ Γ 0) Γ b] : List (World → Prop)).getD j (fun _ => True)) [11, 12, 13, 14, 15, 16, 17, 18, 19, 6] (by kernel_rfl) (by kernel_rfl) ⟨(Below.refl _ _).drew, fun h => by cases h⟩ ?_ ?_
 ·intro Γ Γ' j hj hu
  have hj2 : j < 11 := hj
  have hcase : j = 0 ∨ j = 1 ∨ j = 2 ∨ j = 3 ∨ j = 4 ∨ j = 5 ∨ j = 6 ∨ j = 7 ∨ j = 8 ∨ j = 9 ∨ j = 10 := by omega
  clear hj hj2
  rcases hcase with rfl | rfl | rfl | rfl | rfl | rfl | rfl | rfl | rfl | rfl | rfl
  ·rfl
  ·rfl
  ·rfl
  ·rfl
  ·rfl
  ·rfl
  ·rfl
  ·rfl
  ·rfl
  ·show (.pointer (some ⟨Γ 0, 0, none⟩) : Value) = .pointer (some ⟨Γ' 0, 0, none⟩); rw [hu 0 (by decide)]
  ·rfl
 ·intro b0 hb0 i o ho
  have hi : i < 11 := (Array.getElem?_eq_some_iff.1 ho).1
  obtain ⟨f5, fdf⟩ := hb0
  have hcase : i = 0 ∨ i = 1 ∨ i = 2 ∨ i = 3 ∨ i = 4 ∨ i = 5 ∨ i = 6 ∨ i = 7 ∨ i = 8 ∨ i = 9 ∨ i = 10 := by omega
  clear hi
  rcases hcase with rfl | rfl | rfl | rfl | rfl | rfl | rfl | rfl | rfl | rfl | rfl
  ·simp only [List.getElem?_toArray, List.getElem?_cons_zero] at ho
   cases ho
   refine .inl ⟨by decide, by decide, fun Γ M => stepA rfl (fun li ac wx H hn hed hM K hk => ?_)⟩
   have e5 : ac.tmps[5]?.getD undef = .slice (some ⟨bn, 0, none⟩) nl cb := slot_at ((H.frm.slot (by decide)).trans f5)
   clear hed H
   go_simp
   exact hk _ hM
  ·simp only [List.getElem?_toArray, List.getElem?_cons_zero, List.getElem?_cons_succ] at ho
   cases ho
   refine .inl ⟨by decide, by decide, fun Γ M => stepA rfl (fun li ac wx H hn hed hM K hk => ?_)⟩
   have e11 : ac.tmps[11]?.getD undef = .slice (some ⟨bn, 0, none⟩) nl cb := slot_at (H.known 0 _ rfl (hed ⟨0, .data⟩ (by simp) rfl) 11 rfl)
   clear hed H
   go_simp
   exact hk _ hM
  ·simp only [List.getElem?_toArray, List.getElem?_cons_zero, List.getElem?_cons_succ] at ho
   cases ho
   refine .inr (.inr (.inr ⟨by decide, by decide, 0, 10, rfl, by kernel_rfl, fun Γ b j hj => ?_⟩))
   have hj2 : j = 0 := by omega
   clear hj
   subst hj2
   ·refine stepA rfl (fun li ac wx H hn hed hM K hk => ?_)
    have e12 : ac.tmps[12]?.getD undef = .pointer (some ⟨bn, 1, none⟩) := slot_at (H.known 1 _ rfl (hed ⟨1, .data⟩ (by simp) rfl) 12 rfl)
    have hM1 : (fun Γ b => fun wx => Below w1.heap.size w1 wx ∧ (b = true → Has wx (Γ 0) 51 #[I 0, .slice none 0 0, I 0] ∧ w1.heap.size ≤ Γ 0)) Γ b wx := hM
    clear hed H
    have c1 := (Below.cell hM1.1 (p := ⟨bn, 1, none⟩) hbl).trans hq1
    go_simp
    exact hk _ hM
  ·simp only [List.getElem?_toArray, List.getElem?_cons_zero, List.getElem?_cons_succ] at ho
   cases ho
   refine .inl ⟨by decide, by decide, fun Γ M => stepA rfl (fun li ac wx H hn hed hM K hk => ?_)⟩
   have e5 : ac.tmps[5]?.getD undef = .slice (some ⟨bn, 0, none⟩) nl cb := slot_at ((H.frm.slot (by decide)).trans f5)
   clear hed H
   go_simp
   exact hk _ hM
  ·simp only [List.getElem?_toArray, List.getElem?_cons_zero, List.getElem?_cons_succ] at ho
   cases ho
   refine .inl ⟨by decide, by decide, fun Γ M => stepA rfl (fun li ac wx H hn hed hM K hk => ?_)⟩
   have e14 : ac.tmps[14]?.getD undef = .slice (some ⟨bn, 0, none⟩) nl cb := slot_at (H.known 3 _ rfl (hed ⟨3, .data⟩ (by simp) rfl) 14 rfl)
   clear hed H
   go_simp
   exact hk _ hM
  ·simp only [List.getElem?_toArray, List.getElem?_cons_zero, List.getElem?_cons_succ] at ho
   cases ho
   refine .inr (.inr (.inr ⟨by decide, by decide, 0, 10, rfl, by kernel_rfl, fun Γ b j hj => ?_⟩))
   have hj2 : j = 0 := by omega
   clear hj
   subst hj2
   ·refine stepA rfl (fun li ac wx H hn hed hM K hk => ?_)
    have e15 : ac.tmps[15]?.getD undef = .pointer (some ⟨bn, 2, none⟩) := slot_at (H.known 4 _ rfl (hed ⟨4, .data⟩ (by simp) rfl) 15 rfl)
    have hM1 : (fun Γ b => fun wx => Below w1.heap.size w1 wx ∧ (b = true → Has wx (Γ 0) 51 #[I 0, .slice none 0 0, I 0] ∧ w1.heap.size ≤ Γ 0)) Γ b wx := hM
    clear hed H
    have c2 := (Below.cell hM1.1 (p := ⟨bn, 2, none⟩) hbl).trans hq2
    go_simp
    exact hk _ hM
  ·simp only [List.getElem?_toArray, List.getElem?_cons_zero, List.getElem?_cons_succ] at ho
   cases ho
   refine .inl ⟨by decide, by decide, fun Γ M => stepA rfl (fun li ac wx H hn hed hM K hk => ?_)⟩
   have e5 : ac.tmps[5]?.getD undef = .slice (some ⟨bn, 0, none⟩) nl cb := slot_at ((H.frm.slot (by decide)).trans f5)
   clear hed H
   go_simp
   exact hk _ hM
  ·simp only [List.getElem?_toArray, List.getElem?_cons_zero, List.getElem?_cons_succ] at ho
   cases ho
   refine .inl ⟨by decide, by decide, fun Γ M => stepA rfl (fun li ac wx H hn hed hM K hk => ?_)⟩
   have e17 : ac.tmps[17]?.getD undef = .slice (some ⟨bn, 0, none⟩) nl cb := slot_at (H.known 6 _ rfl (hed ⟨6, .data⟩ (by simp) rfl) 17 rfl)
   clear hed H
   go_simp
   exact hk _ hM
  ·simp only [List.getElem?_toArray, List.getElem?_cons_zero, List.getElem?_cons_succ] at ho
   cases ho
   refine .inl ⟨by decide, by decide, fun Γ M => stepA rfl (fun li ac wx H hn hed hM K hk => ?_)⟩
   have e13 : ac.tmps[13]?.getD undef = I n1 := slot_at (H.known 2 _ rfl (hed ⟨2, .data⟩ (by simp) rfl) 13 rfl)
   have e16 : ac.tmps[16]?.getD undef = I n2 := slot_at (H.known 5 _ rfl (hed ⟨5, .data⟩ (by simp) rfl) 16 rfl)
   have e18 : ac.tmps[18]?.getD undef = .slice (some ⟨bn, 3, none⟩) (nl - 3) (cb - 3) := slot_at (H.known 7 _ rfl (hed ⟨7, .data⟩ (by simp) rfl) 18 rfl)
   clear hed H
   go_simp
   exact hk _ hM
  ·simp only [List.getElem?_toArray, List.getElem?_cons_zero, List.getElem?_cons_succ] at ho
   cases ho
   refine .inr (.inl ⟨rfl, by decide, 0, 10, rfl, by kernel_rfl, fun Γ j hj => ?_⟩)
   have hj2 : j = 0 := by omega
   clear hj
   subst hj2
   ·refine stepC rfl (fun li ac wx H hn hed hM K hk => ?_)
    have hM1 : (fun Γ b => fun wx => Below w1.heap.size w1 wx ∧ (b = true → Has wx (Γ 0) 51 #[I 0, .slice none 0 0, I 0] ∧ w1.heap.size ≤ Γ 0)) Γ false wx := hM
    clear hed H
    go_simp
    exact hk (Γ.set 0 wx.heap.size) _ (chg1 _ _ _) ⟨Below.alloc hM1.1 hM1.1.size _, fun _ => ⟨Has.new _ _ _, hM1.1.size⟩⟩
  ·simp only [List.getElem?_toArray, List.getElem?_cons_zero, List.getElem?_cons_succ] at ho
   cases ho
   refine .inr (.inr (.inl ⟨by decide, 0, rfl, fun Γ b hba => stepC rfl (fun li ac wx H hn hed hM K hk => ?_)⟩))
   have e6 : ac.tmps[6]?.getD undef = .pointer (some ⟨Γ 0, 0, none⟩) := slot_at (H.known 9 _ rfl (hed ⟨9, .data⟩ (by simp) rfl) 6 rfl)
   have e19 : ac.tmps[19]?.getD undef = .agg #[I n2, .slice (some ⟨bn, 3, none⟩) (nl - 3) (cb - 3), I n1] := slot_at (H.known 8 _ rfl (hed ⟨8, .data⟩ (by simp) rfl) 19 rfl)
   have hM1 : (fun Γ b => fun wx => Below w1.heap.size w1 wx ∧ (b = true → Has wx (Γ 0) 51 #[I 0, .slice none 0 0, I 0] ∧ w1.heap.size ≤ Γ 0)) Γ b wx := hM
   have hdf := Lib.hid (H.frm.defers.trans fdf)
   clear hed H
   have hal := hM1.2 (hba (by kernel_rfl))
   refine wp_store_row 51 (.tmp 6) (.tmp 19) rfl (Γ 0) #[I n2, .slice (some ⟨bn, 3, none⟩) (nl - 3) (cb - 3), I n1] (eval_at e6) (eval_at e19) 51 #[I 0, .slice none 0 0, I 0] hal.1 infoLay rfl (by simp [Value.oneCell']) ?_
   exact hk Γ _ (chg0 Γ) ⟨below_setRow hM1.1 hal.2 _, hal.1.setRow _, hal.2⟩
 ·intro Γ b ac wx hF hK hM0
  have hM : (fun Γ _ => fun wx => Below w1.heap.size w1 wx ∧ Has wx (Γ 0) 51 #[I n2, .slice (some ⟨bn, 3, none⟩) (nl - 3) (cb - 3), I n1] ∧ w1.heap.size ≤ Γ 0) Γ b wx := hM0
  have E6 : ac.tmps.getD 6 undef = .pointer (some ⟨Γ 0, 0, none⟩) := hK 9 _ rfl 6 rfl
  have hMet := hF.meet
  simp only [List.foldl_cons, List.foldl_nil, List.setIfInBounds_toArray, List.set_cons_succ, List.set_cons_zero, E6] at hMet
  generalize ac.tmps.getD 11 undef = v11 at hMet
  generalize ac.tmps.getD 12 undef = v12 at hMet
  generalize ac.tmps.getD 13 undef = v13 at hMet
  generalize ac.tmps.getD 14 undef = v14 at hMet
  generalize ac.tmps.getD 15 undef = v15 at hMet
  generalize ac.tmps.getD 16 undef = v16 at hMet
  generalize ac.tmps.getD 17 undef = v17 at hMet
  generalize ac.tmps.getD 18 undef = v18 at hMet
  generalize ac.tmps.getD 19 undef = v19 at hMet
  clear hF hK hM0 E6
  subst hMet
  obtain ⟨hM1, hM2, hM3⟩ := hM
  have HBX := Lib.hid (HB.out.trans (hM1.mono HB.out.size))
  have HSX := Lib.hid (HS1.out.after hM1)
  have hq0 := (Below.cell hM1 (p := ⟨bn, 0, none⟩) hbl).trans hq0
  have hbl : bn < wx.heap.size := Nat.lt_of_lt_of_le hbl hM1.size
  have HCX := Lib.hid (HCS.out.after hM1)
  have HL := Lib.hid hM2
  have hgl := hM2.lt
  have HRX : Hid (Reads wx wx.heap.size (some ⟨bn, 3, none⟩) (ints rs)) := Lib.hid fun _ => ⟨bn, 3, rfl, hbl, fun j u hu => by rw [HCX.out.cell]; exact HRS.out j u hu⟩
  clear hM1 hM2 hM3 hq1 hq2 HCS HS1 HB
  generalize Γ 0 = gl at *
  go_upto_region 3 with fail
  have HX' : Hid (∀ wy, Below wx.heap.size wx wy → Calls Tryz.prog 40 #[.agg #[I n2, .slice (some ⟨bn, 3, none⟩) (nl - 3) (cb - 3), I n1], I n0] wy fun e w' => (∃ x, e = .returned (.tuple #[.pointer (some ⟨x.g, 0, none⟩), .nilIface]) ∧ SyAt w' wy.heap.size x L (Sys.new n0)) ∧ Below wy.heap.size wy w') := Lib.hid fun wy hb => by
   obtain ⟨h1, h2, h3, h4⟩ := hL.out
   have hrd : Reads wy wy.heap.size (some ⟨bn, 3, none⟩) (ints (zs L.routes)) := by rw [← h3]; exact (HRX.out.below hb).more hb.size
   have hlen : L.routes.length = nl - 3 := by rw [HNL.out, h3, zs_length]
   have h5 := sy_new (some ⟨bn, 3, none⟩) (nl - 3) (cb - 3) L wy h1 (Lib.hid hlen) (by have := HCB.out; omega) hrd n0 hwin.out.1 hwin.out.2
   rw [h2, h4]
   exact h5
  refine region_gen (by kernel_rfl) (fun b0 => b0.tmps.getD 5 undef = .slice (some ⟨bn, 0, none⟩) nl cb ∧ b0.tmps.getD 6 undef = .pointer (some ⟨gl, 0, none⟩) ∧ b0.defers = []) ⟨rfl, rfl, rfl⟩ 38 rfl (fun _ => 0) (fun (Γ : Unk) i => ([.agg #[I n2, .slice (some ⟨bn, 3, none⟩) (nl - 3) (cb - 3), I n1], .slice (some ⟨bn, 0, none⟩) nl cb, .pointer (some ⟨bn, 0, none⟩), I n0, .tuple #[.pointer (some ⟨Γ 0, 0, none⟩), .nilIface], .tuple #[.pointer (some ⟨Γ 0, 0, none⟩), .nilIface], .pointer (some ⟨Γ 0, 0, none⟩), .nilIface, .pointer (some ⟨Γ 0, 0, none⟩), .nilIface] : List Value).getD i undef) [4] (by kernel_rfl) (fun i => ([[], [], [], [], [0], [], [], [], [], []] : List (List Nat)).getD i []) (fun i => ([[], [], [], [], [0], [0], [0], [], [0], []] : List (List Nat)).getD i []) 10 (by kernel_rfl) ?_ (fun j Γ b => ([(fun _ _ => fun wy => Below wx.heap.size wx wy) Γ b, (fun Γ _ => fun wy => Below wx.heap.size wx wy ∧ ∃ x, x.g = Γ 0 ∧ SyAt wy wx.heap.size x L (Sys.new n0)) Γ b] : List (World → Prop)).getD j (fun _ => True)) [21, 22, 23, 24, 25, 20, 26, 27, 7, 8] (by kernel_rfl) (by kernel_rfl) ((Below.refl _ _).drew) ?_ ?_
  ·intro Γ Γ' j hj hu
   have hj2 : j < 10 := hj
   have hcase : j = 0 ∨ j = 1 ∨ j = 2 ∨ j = 3 ∨ j = 4 ∨ j = 5 ∨ j = 6 ∨ j = 7 ∨ j = 8 ∨ j = 9 := by omega
   clear hj hj2
   rcases hcase with rfl | rfl | rfl | rfl | rfl | rfl | rfl | rfl | rfl | rfl
   ·rfl
   ·rfl
   ·rfl
   ·rfl
   ·show (.tuple #[.pointer (some ⟨Γ 0, 0, none⟩), .nilIface] : Value) = .tuple #[.pointer (some ⟨Γ' 0, 0, none⟩), .nilIface]; rw [hu 0 (by decide)]
   ·show (.tuple #[.pointer (some ⟨Γ 0, 0, none⟩), .nilIface] : Value) = .tuple #[.pointer (some ⟨Γ' 0, 0, none⟩), .nilIface]; rw [hu 0 (by decide)]
   ·show (.pointer (some ⟨Γ 0, 0, none⟩) : Value) = .pointer (some ⟨Γ' 0, 0, none⟩); rw [hu 0 (by decide)]
   ·rfl
   ·show (.pointer (some ⟨Γ 0, 0, none⟩) : Value) = .pointer (some ⟨Γ' 0, 0, none⟩); rw [hu 0 (by decide)]
   ·rfl
  ·intro b0 hb0 i o ho
   have hi : i < 10 := (Array.getElem?_eq_some_iff.1 ho).1
   obtain ⟨f5, f6, fdf⟩ := hb0
   have hcase : i = 0 ∨ i = 1 ∨ i = 2 ∨ i = 3 ∨ i = 4 ∨ i = 5 ∨ i = 6 ∨ i = 7 ∨ i = 8 ∨ i = 9 := by omega
   clear hi
   rcases hcase with rfl | rfl | rfl | rfl | rfl | rfl | rfl | rfl | rfl | rfl
   ·simp only [List.getElem?_toArray, List.getElem?_cons_zero] at ho
    cases ho
    refine .inr (.inr (.inr ⟨by decide, by decide, 0, 4, rfl, by kernel_rfl, fun Γ b j hj => ?_⟩))
    have hj2 : j = 0 := by omega
    clear hj
    subst hj2
    ·refine stepA rfl (fun li ac wx' H hn hed hM K hk => ?_)
     have e6 : ac.tmps[6]?.getD undef = .pointer (some ⟨gl, 0, none⟩) := slot_at ((H.frm.slot (by decide)).trans f6)
     have hM1 : (fun _ _ => fun wy => Below wx.heap.size wx wy) Γ b wx' := hM
     clear hed H
     have kl := HL.out.after hM1
     have c0 := kl.cellv 0 _ rfl
     have c1 := kl.cellv 1 _ rfl
     have c2 := kl.cellv 2 _ rfl
     have hgl := kl.lt
     go_simp
     exact hk _ hM
   ·simp only [List.getElem?_toArray, List.getElem?_cons_zero, List.getElem?_cons_succ] at ho
    cases ho
    refine .inl ⟨by decide, by decide, fun Γ M => stepA rfl (fun li ac wx' H hn hed hM K hk => ?_)⟩
    have e5 : ac.tmps[5]?.getD undef = .slice (some ⟨bn, 0, none⟩) nl cb := slot_at ((H.frm.slot (by decide)).trans f5)
    clear hed H
    go_simp
    exact hk _ hM
   ·simp only [List.getElem?_toArray, List.getElem?_cons_zero, List.getElem?_cons_succ] at ho
    cases ho
    refine .inl ⟨by decide, by decide, fun Γ M => stepA rfl (fun li ac wx' H hn hed hM K hk => ?_)⟩
    have e22 : ac.tmps[22]?.getD undef = .slice (some ⟨bn, 0, none⟩) nl cb := slot_at (H.known 1 _ rfl (hed ⟨1, .data⟩ (by simp) rfl) 22 rfl)
    clear hed H
    go_simp
    exact hk _ hM
   ·simp only [List.getElem?_toArray, List.getElem?_cons_zero, List.getElem?_cons_succ] at ho
    cases ho
    refine .inr (.inr (.inr ⟨by decide, by decide, 0, 4, rfl, by kernel_rfl, fun Γ b j hj => ?_⟩))
    have hj2 : j = 0 := by omega
    clear hj
    subst hj2
    ·refine stepA rfl (fun li ac wx' H hn hed hM K hk => ?_)
     have e23 : ac.tmps[23]?.getD undef = .pointer (some ⟨bn, 0, none⟩) := slot_at (H.known 2 _ rfl (hed ⟨2, .data⟩ (by simp) rfl) 23 rfl)
     have hM1 : (fun _ _ => fun wy => Below wx.heap.size wx wy) Γ b wx' := hM
     clear hed H
     have c0 := (Below.cell hM1 (p := ⟨bn, 0, none⟩) hbl).trans hq0
     go_simp
     exact hk _ hM
   ·simp only [List.getElem?_toArray, List.getElem?_cons_zero, List.getElem?_cons_succ] at ho
    cases ho
    refine .inr (.inr (.inl ⟨by decide, 0, rfl, fun Γ b hba => stepC rfl (fun li ac wx' H hn hed hM K hk => ?_)⟩))
    have e21 : ac.tmps[21]?.getD undef = .agg #[I n2, .slice (some ⟨bn, 3, none⟩) (nl - 3) (cb - 3), I n1] := slot_at (H.known 0 _ rfl (hed ⟨0, .data⟩ (by simp) rfl) 21 rfl)
    have e24 : ac.tmps[24]?.getD undef = I n0 := slot_at (H.known 3 _ rfl (hed ⟨3, .data⟩ (by simp) rfl) 24 rfl)
    have hM1 : (fun _ _ => fun wy => Below wx.heap.size wx wy) Γ b wx' := hM
    have hdf := Lib.hid (H.frm.defers.trans fdf)
    clear hed H
    go_simp
    refine (HX'.out wx' hM1).mono ?_
    rintro e w' ⟨⟨x', rfl, hsy⟩, hb⟩
    exact hk (Γ.set 0 x'.g) _ (chg1 _ _ _) ⟨hM1.trans (hb.mono hM1.size), x', rfl, syAt_base hsy hM1.size⟩
   ·simp only [List.getElem?_toArray, List.getElem?_cons_zero, List.getElem?_cons_succ] at ho
    cases ho
    refine .inl ⟨by decide, by decide, fun Γ M => stepA rfl (fun li ac wx' H hn hed hM K hk => ?_)⟩
    have e25 : ac.tmps[25]?.getD undef = .tuple #[.pointer (some ⟨Γ 0, 0, none⟩), .nilIface] := slot_at (H.known 4 _ rfl (hed ⟨4, .data⟩ (by simp) rfl) 25 rfl)
    clear hed H
    go_simp
    exact hk _ hM
   ·simp only [List.getElem?_toArray, List.getElem?_cons_zero, List.getElem?_cons_succ] at ho
    cases ho
    refine .inl ⟨by decide, by decide, fun Γ M => stepA rfl (fun li ac wx' H hn hed hM K hk => ?_)⟩
    have e20 : ac.tmps[20]?.getD undef = .tuple #[.pointer (some ⟨Γ 0, 0, none⟩), .nilIface] := slot_at (H.known 5 _ rfl (hed ⟨5, .data⟩ (by simp) rfl) 20 rfl)
    clear hed H
    go_simp
    exact hk _ hM
   ·simp only [List.getElem?_toArray, List.getElem?_cons_zero, List.getElem?_cons_succ] at ho
    cases ho
    refine .inl ⟨by decide, by decide, fun Γ M => stepA rfl (fun li ac wx' H hn hed hM K hk => ?_)⟩
    have e20 : ac.tmps[20]?.getD undef = .tuple #[.pointer (some ⟨Γ 0, 0, none⟩), .nilIface] := slot_at (H.known 5 _ rfl (hed ⟨5, .data⟩ (by simp) rfl) 20 rfl)
    clear hed H
    go_simp
    exact hk _ hM
   ·simp only [List.getElem?_toArray, List.getElem?_cons_zero, List.getElem?_cons_succ] at ho
    cases ho
    refine .inl ⟨by decide, by decide, fun Γ M => stepA rfl (fun li ac wx' H hn hed hM K hk => ?_)⟩
    have e26 : ac.tmps[26]?.getD undef = .pointer (some ⟨Γ 0, 0, none⟩) := slot_at (H.known 6 _ rfl (hed ⟨6, .data⟩ (by simp) rfl) 26 rfl)
    clear hed H
    go_simp
    exact hk _ hM
   ·simp only [List.getElem?_toArray, List.getElem?_cons_zero, List.getElem?_cons_succ] at ho
    cases ho
    refine .inl ⟨by decide, by decide, fun Γ M => stepA rfl (fun li ac wx' H hn hed hM K hk => ?_)⟩
    have e27 : ac.tmps[27]?.getD undef = .nilIface := slot_at (H.known 7 _ rfl (hed ⟨7, .data⟩ (by simp) rfl) 27 rfl)
    clear hed H
    go_simp
    exact hk _ hM
  ·intro Γ b ac wy hF hK hM0
   have hM : (fun Γ _ => fun wy => Below wx.heap.size wx wy ∧ ∃ x, x.g = Γ 0 ∧ SyAt wy wx.heap.size x L (Sys.new n0)) Γ b wy := hM0
   have E7 : ac.tmps.getD 7 undef = .pointer (some ⟨Γ 0, 0, none⟩) := hK 8 _ rfl 7 rfl
   have E8 : ac.tmps.getD 8 undef = .nilIface := hK 9 _ rfl 8 rfl
   have hMet := hF.meet
   simp only [List.foldl_cons, List.foldl_nil, List.setIfInBounds_toArray, List.set_cons_succ, List.set_cons_zero, E7, E8] at hMet
   generalize ac.tmps.getD 21 undef = v21 at hMet
   generalize ac.tmps.getD 22 undef = v22 at hMet
   generalize ac.tmps.getD 23 undef = v23 at hMet
   generalize ac.tmps.getD 24 undef = v24 at hMet
   generalize ac.tmps.getD 25 undef = v25 at hMet
   generalize ac.tmps.getD 20 undef = v20 at hMet
   generalize ac.tmps.getD 26 undef = v26 at hMet
   generalize ac.tmps.getD 27 undef = v27 at hMet
   clear hF hK hM0 E7 E8
   subst hMet
   obtain ⟨hM1, x, hxg, hsy⟩ := hM
   have HM := Lib.hid hM1
   have HSY := Lib.hid hsy
   have HXG := Lib.hid hxg
   have kl := HL.out.after hM1
   have KD := Lib.hid (((h.after HBX.out)).after hM1)
   have c0 := kl.cellv 0 (I n2) rfl
   have c1 := kl.cellv 1 (.slice (some ⟨bn, 3, none⟩) (nl - 3) (cb - 3)) rfl
   have c2 := kl.cellv 2 (I n1) rfl
   have hgl := kl.lt
   generalize Γ 0 = gx at *
   have d0 := KD.out.cellv 0 a0 rfl
   have d1 := KD.out.cellv 1 a1 rfl
   have d2 := KD.out.cellv 2 a2 rfl
   have d3 := KD.out.cellv 3 a3 rfl
   have f0 := KD.out.free 0
   have f1 := KD.out.free 1
   have f2 := KD.out.free 2
   have f3 := KD.out.free 3
   have hgd := KD.out.lt
   clear hM1 hsy hxg kl
   go_wp2_with (go_at_call 41; refine (must_nil wy).mono ?_; rintro e w3 ⟨rfl, rfl⟩)
   go_ret
   have hn0 : ∀ b, b = g → Own dkT wy b := fun b e => ⟨_, _, e ▸ KD.out, rfl⟩
   have ht : Turned (fun b => b = g) wy ((((wy.setCell ⟨g, 0, none⟩ (I n2)).setCell ⟨g, 1, none⟩ (.slice (some ⟨bn, 3, none⟩) (nl - 3) (cb - 3))).setCell ⟨g, 2, none⟩ (I n1)).setCell ⟨g, 3, none⟩ (.pointer (some ⟨gx, 0, none⟩))) := ((((Turned.refl (fun b => b = g) wy).setCell ⟨g, 0, none⟩ (I n2) (.inl rfl)).setCell ⟨g, 1, none⟩ (.slice (some ⟨bn, 3, none⟩) (nl - 3) (cb - 3)) (.inl rfl)).setCell ⟨g, 2, none⟩ (I n1) (.inl rfl)).setCell ⟨g, 3, none⟩ (.pointer (some ⟨gx, 0, none⟩)) (.inl rfl)
   have hd := (((KD.out.set 0 (I n2)).set 1 (.slice (some ⟨bn, 3, none⟩) (nl - 3) (cb - 3))).set 2 (I n1)).set 3 (.pointer (some ⟨gx, 0, none⟩))
   obtain ⟨h1, h2, h3, h4⟩ := hL.out
   have hll : L.routes.length = nl - 3 := by rw [HNL.out, h3, zs_length]
   have hcn := (HCX.out.after HM.out).keepG ht hn0 rfl
   refine ⟨rfl, x, .slice (some ⟨bn, 3, none⟩) (nl - 3) (cb - 3), ⟨?_, ?_, HSY.out.desk ht hn0 |> (syAt_base · (Nat.le_trans hBw HBX.out.size)), hBg, h1, ?_⟩, ?_, fun b hb => Nat.le_trans HBX.out.size (HSY.out.ge hb)⟩
   ·show Has _ g _ #[I L.secs, _, I L.delay, .pointer (some ⟨x.g, 0, none⟩)]
    rw [HXG.out, ← h2, ← h4]
    exact hd
   ·refine ⟨bn, 3, cb - 3, cs, by rw [← hll], by show L.routes.length ≤ _; omega, hcn, fun j u hu => HRS.out j u (by rw [h3]; exact hu)⟩
   ·exact Nat.le_trans hBw (Nat.le_trans (HBX.out.trans (HM.out.mono HBX.out.size)).size ht.size)
   ·exact (Turned.of_below (HBX.out.trans (HM.out.mono HBX.out.size)) _).trans ht (fun k hk hf => hf)
end
end Go.Proofs.YtdhekhlmdefcnaaGreatDoor
namespace Go.Proofs.YtdhekhlmdefcnaaGreatDoor
open Go.RowKit
section
variable {w : World} {B g : Nat} {x : SyX} {vr : Value} {d : Dk} {T : Nat} {A : Option Addr} {l : List ByteArray}
def Few (c : Cmd) : Prop := c = .conflicts ∨ c = .most ∨ c = .show
theorem cmd_ok (h : DkAt w B g x vr d) (hf : Fine T d.s) (hT : T ≤ 9900000000) (hw : Words w A l) (c : Nat) (hs : Std w) : ∀ p ∈ cmdL, Few p.2.1 → Calls Tryz.prog p.2.2 #[.pointer (some ⟨g, 0, none⟩), .slice A l.length c] w (MPost w B g x (does' p.2.1 d l)) := by
 unfold cmdL
 simp only [List.forall_mem_cons]
 have no : ∀ {c : Cmd} {q : Prop}, c ≠ .conflicts → c ≠ .most → c ≠ .show → Few c → q := fun h1 h2 h3 h => (h.elim h1 (fun h => h.elim h2 h3)).elim
 refine ⟨no (by simp) (by simp) (by simp), no (by simp) (by simp) (by simp), no (by simp) (by simp) (by simp), fun _ => m_conflicts h hw c hs, no (by simp) (by simp) (by simp), no (by simp) (by simp) (by simp), no (by simp) (by simp) (by simp), no (by simp) (by simp) (by simp), no (by simp) (by simp) (by simp), no (by simp) (by simp) (by simp), fun _ => m_most h hw c hs, no (by simp) (by simp) (by simp), no (by simp) (by simp) (by simp), fun _ => m_show h hf hT hw c hs, no (by simp) (by simp) (by simp), no (by simp) (by simp) (by simp), no (by simp) (by simp) (by simp), fun p hp => by cases hp⟩
end
theorem cmd_enters : ∀ p ∈ cmdL, ∀ args w, (callFunc p.2.2 args).run Tryz.prog w = .ok (.enter p.2.2 args) w := by
 unfold cmdL
 simp only [List.forall_mem_cons]
 exact ⟨enters_of Tryz.func69 (by kernel_rfl) rfl, enters_of Tryz.func14 (by kernel_rfl) rfl, enters_of Tryz.func70 (by kernel_rfl) rfl, enters_of Tryz.func71 (by kernel_rfl) rfl, enters_of Tryz.func72 (by kernel_rfl) rfl, enters_of Tryz.func73 (by kernel_rfl) rfl, enters_of Tryz.func74 (by kernel_rfl) rfl, enters_of Tryz.func75 (by kernel_rfl) rfl, enters_of Tryz.func76 (by kernel_rfl) rfl, enters_of Tryz.func77 (by kernel_rfl) rfl, enters_of Tryz.func78 (by kernel_rfl) rfl, enters_of Tryz.func79 (by kernel_rfl) rfl, enters_of Tryz.func80 (by kernel_rfl) rfl, enters_of Tryz.func81 (by kernel_rfl) rfl, enters_of Tryz.func82 (by kernel_rfl) rfl, enters_of Tryz.func83 (by kernel_rfl) rfl, enters_of Tryz.func84 (by kernel_rfl) rfl, fun _ hh => by cases hh⟩
def anT : An → By
 | .txt t => t
 | .err n => [101, 114, 114, 111, 114, 32] ++ Lib.itoa n
def lineOf (d : Dk) (s : ByteArray) : Dk × By :=
 match fieldsB s with
 | [] => (d, [111, 107])
 | a :: l => match cmdL.find? (isNm a.data.toList) with
  | none => (d, anT (.err 3))
  | some p => ((does' p.2.1 d l).1, anT (does' p.2.1 d l).2)
def FewL (s : ByteArray) : Prop := ∀ a l p, fieldsB s = a :: l → cmdL.find? (isNm a.data.toList) = some p → Few p.2.1
theorem errNo_small (S : Int) (rs : List Int) (dl : Int) : 0 ≤ errNo (chk S rs dl) ∧ errNo (chk S rs dl) ≤ 9 := by
 unfold chk
 repeat' split
 all_goals simp [errNo]
theorem err_small (c : Cmd) (d : Dk) (l : List ByteArray) (n : Int) (h : (does' c d l).2 = .err n) : 0 ≤ n ∧ n ≤ 9 := by
 have hd : ∀ (ok : Bool) (s : Sys) (t : By), (dOne d ok s t).2 = .err n → 0 ≤ n ∧ n ≤ 9 := fun ok s t hh => by
  unfold dOne at hh
  split at hh
  ·cases hh
  ·injection hh with hh; omega
 have hb : ∀ m, (doBegin d m).2 = .err n → 0 ≤ n ∧ n ≤ 9 := fun m hh => by
  have := errNo_small (m.getD 2 0) (m.drop 3) (m.getD 1 0)
  unfold doBegin at hh
  split at hh
  ·split at hh
   ·cases hh
   ·injection hh with hh; omega
  ·injection hh with hh
   unfold chkOf at hh
   omega
 cases c <;> simp only [does'] at h <;> split at h <;> first
  |(injection h with h; omega)
  |exact hd _ _ _ h
  |exact hb _ h
  |(cases h; done)
  |(split at h; first | (cases h; done) | (injection h with h; omega))
  | skip
end Go.Proofs.YtdhekhlmdefcnaaGreatDoor
namespace Go.Proofs.YtdhekhlmdefcnaaGreatDoor
open Go.RowKit
theorem blank_ok (x : Nat) (w : World) : FnGives Tryz.prog 48 #[] #[encR x] (.bool (isBl x)) w := by
 unfold FnGives
 go_enter Tryz.func48, Tryz.ntmps48
 go_wp2
 go_ret
 refine ⟨?_, 0, rfl⟩
 show Ending.returned (.bool ((x : Int) == 32)) = _
 have e : ((x : Int) == 32) = isBl x := by
  unfold isBl
  rw [Bool.eq_iff_iff, beq_iff_eq, beq_iff_eq]
  omega
 rw [e]
theorem blank_at (w : World) : PredAt Tryz.prog 48 #[] encR isBl w := fun W x _ => blank_ok x W
def slots32 (p : Addr) (v : Value) : Array Value := #[.pointer (some p), v, undef, undef, v, undef, undef, undef, undef, undef, undef, undef, undef, undef, undef, undef, undef, undef, undef]
theorem slots32_eq (p : Addr) (v : Value) : #[Value.pointer (some p)] ++ ((Array.replicate 18 undef).setIfInBounds 3 v).setIfInBounds 0 v = slots32 p v := by simp [Array.replicate, slots32, List.replicate]
theorem catch_idle (p : Addr) (w : World) :
  CallsD Tryz.prog 45 #[.pointer (some p)] .returning w fun e u' w' => e = .returned (.tuple #[]) ∧ u' = .returning ∧ w' = w := by
 refine callsD_of_wpS Tryz.func45 rfl fun c₀ cs hu => ?_
 apply wpS_seq
 apply wpS_region
 simp [wpOpsS, go_sem, recoverD, hu, Tryz.ntmps45, Exit.thenS]
 rw [slots32_eq]
 unfold slots32
 refine wpS_of_wp ?_
 go_wp2
 cases c₀
 simp_all [bodyPostS, results, Tryz.results45]
theorem run_assert (a : TypeId) (n : Int) (w : World) : (Instr.typeAssert (.iface 89 (.agg #[I n])) a 89 true).run Tryz.prog w = .ok (.tuple #[.agg #[I n], .bool true]) w := by
 simp [Instr.typeAssert, run_underlying Tryz.underlying89, Result.andThen]
set_option maxHeartbeats 1000000 in
set_option maxRecDepth 100000 in
theorem catch_wrong (gl : Nat) (t : ByteArray) (n : Int) (hn : I64 n) (w : World) (hh : Has w gl 9 #[.string t]) (hs : Std w) :
  CallsD Tryz.prog 45 #[.pointer (some ⟨gl, 0, none⟩)] (.panicking (pan n)) w fun e u' w' =>
   e = .returned (.tuple #[]) ∧ u' = .panicking [{ v := .iface 89 (.agg #[I n]), recovered := true }] ∧ ∃ w1, Below w.heap.size w w1 ∧ w' = w1.setCell ⟨gl, 0, none⟩ (.string (⟨#[101, 114, 114, 111, 114, 32]⟩ ++ ⟨(Lib.itoa n).toArray⟩)) := by
 have HH := Lib.hid hh
 have HS := Lib.hid hs
 have HN := Lib.hid hn
 have hw0 : Has (w.alloc (.cells #[I n] 89)) w.heap.size 89 #[I n] := Has.new _ _ _
 have hb0 : Below w.heap.size w (w.alloc (.cells #[I n] 89)) := (Below.refl _ _).alloc (Nat.le_refl _) _
 have HB0 := Lib.hid hb0
 have HIT : Hid (Calls Tryz.prog 46 #[I n] (w.alloc (.cells #[I n] 89)) fun e w' => e = .returned (.string ⟨(Lib.itoa n).toArray⟩) ∧ Below (w.alloc (.cells #[I n] 89)).heap.size (w.alloc (.cells #[I n] 89)) w') := Lib.hid (itoa_ok n hn _ (Lib.hid (hs.after hb0)))
 have c0 := hw0.cellv 0 (I n) rfl
 have hl0 := hw0.lt
 have HZ : Hid (¬ 9223372036854775807 < 6 + (⟨(Lib.itoa n).toArray⟩ : ByteArray).size) := Lib.hid (by have := Lib.itoa_length_le n hn.1 hn.2; show ¬ _ < 6 + (Lib.itoa n).toArray.size; simp; omega)
 clear hh hs hn hb0
 refine callsD_of_wpS Tryz.func45 rfl fun c₀ cs hu => ?_
 unfold pan at hu
 apply wpS_seq
 apply wpS_region
 simp [wpOpsS, go_sem, recoverD, hu, Tryz.ntmps45, Exit.thenS]
 rw [slots32_eq]
 unfold slots32
 refine wpS_of_wp ?_
 have hta := fun a w => run_assert a n w
 go_wp2_with (go_at_call 46; refine HIT.out.mono ?_; rintro e w2 ⟨rfl, hb2⟩; have kg := HH.out.after (HB0.out.trans (hb2.mono HB0.out.size)); have q0 := kg.cellv 0 _ rfl; have q1 := kg.free 0; have q2 := kg.lt; have q3 : ¬ 9223372036854775807 < 6 + (⟨(Lib.itoa n).toArray⟩ : ByteArray).size := HZ.out)
 refine ⟨rfl, _, rfl, .tuple #[], by simp [results, Tryz.results45, go_sem], rfl, rfl, w2, HB0.out.trans (hb2.mono HB0.out.size), rfl⟩
end Go.Proofs.YtdhekhlmdefcnaaGreatDoor
