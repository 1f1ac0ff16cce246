/- Part 34 of the proof: DkStd, DkNums. -/
import Derived.Test.YtdhekhlmdefcnaaGreatDoorPart29
import Derived.Test.YtdhekhlmdefcnaaGreatDoorPart32
import Derived.Test.YtdhekhlmdefcnaaGreatDoorPart33
import Derived.Test.YtdhekhlmdefcnaaGreatDoorPart27
import Derived.Test.YtdhekhlmdefcnaaGreatDoorPart19
import Derived.WalkSmall
namespace Go.Proofs.YtdhekhlmdefcnaaGreatDoor
open Go.RowKit Go.Sort
structure Std (w : World) : Prop where
 pow : Lib.TabIs Tryz.prog w "internal/strconv.uint64pow10" .u64 Lib.pow10Tab
 et : EType w
 tab : TabIs w
 size : 9 ≤ w.heap.size
section
variable {w w' : World} {B : Nat}
theorem Std.below (h : Std w) (hB : 9 ≤ B) (hb : Below B w w') : Std w' where
 pow := var?_below hb (show Tryz.prog.globalNamed "internal/strconv.uint64pow10" = some 6 by kernel_rfl) (by omega) h.pow
 et := h.et.below (by omega) hb
 tab := fun j v hv => (hb.cell (p := ⟨8, j, none⟩) (show 8 < B by omega)).trans (h.tab j v hv)
 size := Nat.le_trans h.size hb.size
theorem Std.after (h : Std w) (hb : Below w.heap.size w w') : Std w' := h.below h.size hb
end
theorem below_grow' (w : World) (q : Nat) (os : Array Obj) : Below w.heap.size w (grow (w.drewN q) os) := ⟨rfl, rfl, rfl, by simp [grow], fun k hk => Array.getElem?_append_left hk⟩
theorem atoi_64 {l : List UInt8} {v : Int} (h : Lib.atoiAll l = .ok v) : I64 v := by
 unfold Lib.atoiAll at h
 cases l with
 | nil => cases h
 | cons c r =>
  dsimp only at h
  split at h
  ·cases h
  ·cases h
  ·rename_i u _
   split at h
   ·cases h
   ·split at h
    ·cases h
    ·injection h with h
     subst h
     split
     ·constructor <;> omega
     ·constructor <;> omega
theorem itoa_ok (n : Int) (hn : I64 n) (w : World) (hs : Hid (Std w)) : Calls Tryz.prog 46 #[I n] w fun e w' => e = .returned (.string ⟨(Lib.itoa n).toArray⟩) ∧ Below w.heap.size w w' := by
 refine (Tryz.strconv_Itoa n hn.1 hn.2 w hs.out.pow).mono ?_
 rintro e w' ⟨he, k, os, rfl⟩
 exact ⟨he, below_grow' w k os⟩
theorem atoi_ok (s : ByteArray) (hl : s.size ≤ 100000) (hq : ∃ v, Lib.atoiAll s.data.toList = .ok v) (w : World) : Calls Tryz.prog 59 #[.string s] w fun e w' =>
  (∃ v er, e = .returned (.tuple #[I v, er]) ∧ ((er = .nilIface ∧ I64 v ∧ Lib.atoiAll s.data.toList = .ok v) ∨ ((∃ t p, er = .iface t p) ∧ numOf s = none))) ∧ Below w.heap.size w w' := by
 obtain ⟨v, ha⟩ := hq
 refine (Tryz.strconv_Atoi_ok s (by omega) v ha w).mono ?_
 rintro e w' ⟨he, hw⟩
 refine ⟨⟨v, .nilIface, he, .inl ⟨rfl, atoi_64 ha, ha⟩⟩, ?_⟩
 rcases hw with rfl | ⟨t, rfl⟩
 ·exact Below.refl _ _
 ·exact ⟨rfl, rfl, rfl, by rw [Lib.bytesWorld_size]; omega, fun j hj => Lib.bytesWorld_at_old w _ _ j hj⟩
def Nums (l : List ByteArray) : Prop := ∀ s ∈ l, ∃ v, Lib.atoiAll s.data.toList = .ok v
theorem nums_to : ∀ {l : List ByteArray} {n : List Int}, numsTo l = some n → Nums l
 | [], _, _ => fun s hs => by cases hs
 | s :: l, n, h => by
  unfold numsTo at h
  cases e : numOf s with
  | none => rw [e] at h; cases h
  | some v =>
   rw [e] at h
   obtain ⟨m, hm, _⟩ := Option.map_eq_some_iff.1 h
   intro t ht
   rcases List.mem_cons.1 ht with rfl | ht
   ·unfold numOf at e
    split at e
    ·exact ⟨_, by assumption⟩
    ·cases e
   ·exact nums_to hm t ht
theorem nums_of {l : List ByteArray} {k : Int} {n : List Int} (h : numsOf l k = some n) : Nums l := by
 unfold numsOf at h
 split at h
 ·cases h
 ·exact nums_to h
theorem nums_zero {l : List ByteArray} (h : lenBad 0 l.length = false) : Nums l := by
 unfold lenBad at h
 simp at h
 subst h
 exact fun s hs => by cases hs
end Go.Proofs.YtdhekhlmdefcnaaGreatDoor
namespace Go.Proofs.YtdhekhlmdefcnaaGreatDoor
open Go.RowKit
abbrev strs (l : List ByteArray) : List Value := l.map Value.string
theorem reads_at {w : World} {B : Nat} {A : Option Addr} {xs : List Value} (h : Reads w B A xs) {k : Nat} {u : Value} (hu : xs[k]? = some u) : ∃ b o, A = some ⟨b, o, none⟩ ∧ b < B ∧ w.cell? ⟨b, o + k, none⟩ = some u := by
 obtain ⟨b, o, hA, hb, hc⟩ := h (by rintro rfl; simp at hu)
 exact ⟨b, o, hA, hb, hc k u hu⟩
theorem numsTo_cons {s : ByteArray} {l : List ByteArray} {v : Int} {vs : List Int} (h : numOf s = some v) (h' : numsTo l = some vs) : numsTo (s :: l) = some (v :: vs) := by
 unfold numsTo
 rw [h]
 show (numsTo l).map _ = _
 rw [h']
 rfl
theorem numsTo_length : ∀ {l : List ByteArray} {vs : List Int}, numsTo l = some vs → vs.length = l.length
 | [], vs, h => by injection h with h; subst h; rfl
 | s :: l, vs, h => by
  unfold numsTo at h
  cases e : numOf s with
  | none => rw [e] at h; cases h
  | some v =>
   rw [e] at h
   cases e2 : numsTo l with
   | none => rw [e2] at h; cases h
   | some vs' =>
    rw [e2] at h
    injection h with h
    subst h
    rw [List.length_cons, List.length_cons, numsTo_length e2]
theorem numsTo_at : ∀ {l : List ByteArray} {i : Nat} {s : ByteArray} {vs : List Int}, l[i]? = some s → numsTo (l.take i) = some vs → (∀ v, numOf s = some v → numsTo (l.take (i + 1)) = some (vs ++ [v])) ∧ (numOf s = none → numsTo l = none)
 | [], i, s, vs, h, _ => by simp at h
 | a :: l, 0, s, vs, h, h' => by
  simp at h
  subst h
  have : vs = [] := by injection h' with h'; exact h'.symm
  subst this
  refine ⟨fun v hv => numsTo_cons hv (l := l.take 0) rfl, fun hn => ?_⟩
  unfold numsTo
  rw [hn]
 | a :: l, i + 1, s, vs, h, h' => by
  rw [List.getElem?_cons_succ] at h
  rw [List.take_succ_cons] at h'
  unfold numsTo at h'
  cases e : numOf a with
  | none => rw [e] at h'; cases h'
  | some v =>
   rw [e] at h'
   cases e2 : numsTo (l.take i) with
   | none => rw [e2] at h'; cases h'
   | some vs' =>
    rw [e2] at h'
    injection h' with h'
    subst h'
    obtain ⟨h1, h2⟩ := numsTo_at h e2
    refine ⟨fun v' hv => ?_, fun hn => ?_⟩
    ·rw [List.take_succ_cons, numsTo_cons e (h1 v' hv)]
     rfl
    ·unfold numsTo
     rw [e, h2 hn]
     rfl
theorem itoa_by {v : Int} {s : ByteArray} : ((⟨(Lib.itoa v).toArray⟩ : ByteArray) = s) ↔ Lib.itoa v = s.data.toList := by
 constructor
 ·rintro rfl; rfl
 ·intro h
  have : (Lib.itoa v).toArray = s.data := by rw [h]
  rw [this]
theorem ba_same {a b : ByteArray} (h : a = b) : (!(a.toList == b.toList)) = false := by
 subst h
 rw [beq_self_eq_true]
 rfl
theorem ba_other {a b : ByteArray} (h : ¬ a = b) : (!(a.toList == b.toList)) = true := by
 rw [← beq_toListBytes]
 show (!(a.data == b.data)) = true
 rw [beq_eq_false_iff_ne.2 fun e => h (by cases a; cases b; cases e; rfl)]
 rfl
set_option maxHeartbeats 4000000 in
set_option maxRecDepth 100000 in
theorem dk_numbers (A : Option Addr) (c : Nat) (l : List ByteArray) (n : Int) (hn1 : -100 ≤ n) (hn2 : n ≤ 100) (hl : l.length ≤ 100000) (hb : ∀ s ∈ l, s.size ≤ 100000) (w : World) (hr : Reads w w.heap.size A (strs l)) (hs : Hid (Std w)) (r : Option (List Int)) (hres : Hid (numsOf l n = r)) (hq : lenBad n l.length = false → Nums l) :
  Calls Tryz.prog 39 #[.slice A l.length c, I n] w fun e w' =>
   (match r with | none => e = .panicked (pan 3) | some vs => ∃ v, e = .returned v ∧ w'.ownsRow w.heap.size 3 1 v vs.length (ints vs)) ∧ Below w.heap.size w w' := by
 obtain ⟨i0, hi0, hz0, hz1, hz2⟩ := info_parts infoInt
 have HR := Lib.hid hr
 have HB := Lib.hid hb
 have HQ0 := Lib.hid hq
 clear hr hb hq
 have bad : lenBad n l.length = true → r = none := fun h => by rw [← hres.out]; unfold numsOf; rw [if_pos h]
 by_cases h0 : 0 ≤ n
 ·by_cases he : (l.length : Int) = n
  ·have HN : Hid (numsTo l = r) := Lib.hid (by
    rw [← hres.out]; unfold numsOf lenBad
    rw [if_pos h0, if_neg (by simp [he])])
   have HQ := Lib.hid (HQ0.out (by unfold lenBad; rw [if_pos h0]; simp [he]))
   clear HQ0
   subst he
   clear bad
   go_enter Tryz.func39, Tryz.ntmps39
   go_wp2_with fail
   go_loopw [5, 29] (fun v iv wr => ∃ i : Nat, i ≤ l.length ∧ iv = I i ∧ ∃ vs, Hid (numsTo (l.take i) = some vs) ∧ Hid (wr.ownsRow w.heap.size 3 1 v vs.length (ints vs)) ∧ Hid (Below w.heap.size w wr)) (fun _ iv _ => l.length - (intOf iv).toNat)
   case atStart => exact ⟨0, Nat.zero_le _, rfl, [], Lib.hid rfl, Lib.hid (by simpa [ints] using World.ownsRow_nil _ _ _ _), Lib.hid (Below.refl _ _)⟩
   case round =>
    obtain ⟨i, hi, rfl, vs, HV, HO, HW⟩ := hrel
    by_cases hlt : i < l.length
    ·obtain ⟨s, hx⟩ := some_at l i hlt
     obtain ⟨b, o, rfl, hbb, hcell⟩ := reads_at (HR.out.below HW.out) (show (strs l)[i]? = some (.string s) by simp [hx])
     have hii : (i : Int) < (l.length : Int) := by omega
     have hsz := HB.out s (List.mem_of_getElem? hx)
     have HT := Lib.hid (numsTo_at hx HV.out)
     have hvl : vs.length = i := by rw [numsTo_length HV.out, List.length_take]; omega
     have HLT := Lib.hid hlt
     have HS := Lib.hid (hs.out.below hs.out.size HW.out)
     have HA := Lib.hid (atoi_ok s hsz (HQ.out s (List.mem_of_getElem? hx)) wr)
     clear hx hsz hlt hi HV
     go_upto_region 8 with (go_at_call 59; refine HA.out.mono ?_; rintro e w1 ⟨⟨v, er, rfl, hv⟩, hb1⟩; have HB1 := Lib.hid hb1; have HVV := Lib.hid hv; clear hv hb1)
     have HW1 : Hid (Below w.heap.size w w1) := Lib.hid (HW.out.trans (HB1.out.mono HW.out.size))
     have HS1 := Lib.hid (HS.out.after HB1.out)
     rcases HVV.out with ⟨rfl, h64, hat⟩ | ⟨⟨t, p, rfl⟩, hno⟩
     ·have HI := Lib.hid (itoa_ok v h64 w1 HS1)
      have HO1 : Hid (w1.ownsRow w.heap.size 3 1 _ vs.length (ints vs)) := Lib.hid (own_after HO.out HB1.out)
      by_cases hsp : (⟨(Lib.itoa v).toArray⟩ : ByteArray) = s
      ·have hno : numOf s = some v := by unfold numOf; rw [hat]; exact if_pos (itoa_by.1 hsp)
       have HNX := Lib.hid (HT.out.1 v hno)
       have ht := ba_same hsp
       have HV64 := Lib.hid h64
       clear hsp hno hat h64 HVV HA HT hcell
       generalize (⟨(Lib.itoa v).toArray⟩ : ByteArray) = sv at *
       go_upto_region 10 with (go_at_call 46; refine HI.out.mono ?_; rintro e w2 ⟨rfl, hb2⟩; have HB2 := Lib.hid hb2; clear hb2)
       have HO2 := Lib.hid (own_after HO1.out HB2.out)
       have HW2 : Hid (Below w.heap.size w w2) := Lib.hid (HW1.out.trans (HB2.out.mono HW1.out.size))
       go_wp2_with (at_builtin; refine wpList_append_own _ rfl _ _ 49 rfl w.heap.size 3 i0 (.int .i64 0) 1 8 Tryz.underlying49 hi0 hz0 hz1 hz2 rfl (by decide) _ _ _ rfl (World.ownsRow.alloc HO2.out _) ⟨w2.heap.size, 0, none⟩ 1 1 [I v] rfl rfl (cell_one_new _ _ _) (fun u hu => by rw [List.mem_singleton.1 hu]; rfl) ?c3 ?c4 ?c5 ?_)
       case c3 => unfold maxLen; omega
       case c4 => omega
       case c5 => have := HW2.out.size; simp; omega
       intro v' w' hown' hgrow _
       have HW3 : Hid (Below w.heap.size w w') := Lib.hid ((HW2.out.alloc HW2.out.size _).grown hgrow (by have := HW2.out.size; simp; omega) (fun q hq => (HO2.out.lt q hq).1))
       have HO3 : Hid (w'.ownsRow w.heap.size 3 1 v' (vs ++ [v]).length (ints (vs ++ [v]))) := Lib.hid (by
        rw [List.length_append, hvl]
        simpa [ints] using hown')
       clear hown' hgrow HO HO1 HO2
       go_wp2_with fail
       go_roundw
       case rel => exact ⟨i + 1, HLT.out, by go_num, vs ++ [v], HNX, HO3, HW3⟩
       case measure => have := HLT.out; simp [intOf]; omega
      ·have hno : numOf s = none := by unfold numOf; rw [hat]; exact if_neg fun h => hsp (itoa_by.2 h)
       have hrn : r = none := by rw [← HN.out]; exact HT.out.2 hno
       subst hrn
       have ht := ba_other hsp
       clear hsp hno hat h64 HVV HA HT hcell
       generalize (⟨(Lib.itoa v).toArray⟩ : ByteArray) = sv at *
       go_wp2_with (first
        |(go_at_call 46; refine HI.out.mono ?_; rintro e w2 ⟨rfl, hb2⟩; have HB2 := Lib.hid hb2; clear hb2)
        |(go_at_call 41; refine (must_errno 3 w2 (Lib.hid (HS1.out.after HB2.out).et)).mono ?_; rintro e w3 ⟨rfl, hb3⟩))
       exact ⟨rfl, rfl, (HW1.out.trans (HB2.out.mono HW1.out.size)).trans (hb3.mono (Nat.le_trans HW1.out.size HB2.out.size))⟩
     ·have hrn : r = none := by rw [← HN.out]; exact HT.out.2 hno
      subst hrn
      clear hno HVV HA HT hcell
      go_wp2_with (go_at_call 41; refine (must_errno 3 w1 (Lib.hid HS1.out.et)).mono ?_; rintro e w3 ⟨rfl, hb3⟩)
      exact ⟨rfl, rfl, HW1.out.trans (hb3.mono HW1.out.size)⟩
    ·have hil : i = l.length := by omega
     subst hil
     have hrn : r = some vs := by rw [← HN.out, ← HV.out, List.take_of_length_le (Nat.le_refl _)]
     subst hrn
     go_wp2_with fail
     go_ret
     exact ⟨⟨_, rfl, HO.out⟩, HW.out⟩
  ·have hrn := bad (by unfold lenBad; rw [if_pos h0]; simpa using he)
   subst hrn
   have e1 : ((l.length : Int) != n) = true := by simpa using he
   clear bad
   go_enter Tryz.func39, Tryz.ntmps39
   go_wp2_with (go_at_call 41; refine (must_errno 3 w (Lib.hid hs.out.et)).mono ?_; rintro e w' ⟨rfl, hb⟩)
   exact ⟨rfl, rfl, hb⟩
 ·by_cases he : (l.length : Int) < -n
  ·have hrn := bad (by unfold lenBad; rw [if_neg h0]; simpa using he)
   subst hrn
   clear bad
   go_enter Tryz.func39, Tryz.ntmps39
   go_wp2_with (go_at_call 41; refine (must_errno 3 w (Lib.hid hs.out.et)).mono ?_; rintro e w' ⟨rfl, hb⟩)
   exact ⟨rfl, rfl, hb⟩
  ·have HN : Hid (numsTo l = r) := Lib.hid (by
    rw [← hres.out]; unfold numsOf lenBad
    rw [if_neg h0, if_neg (by simpa using he)])
   have HQ := Lib.hid (HQ0.out (by unfold lenBad; rw [if_neg h0]; simpa using he))
   clear HQ0
   clear bad
   go_enter Tryz.func39, Tryz.ntmps39
   go_wp2_with fail
   go_loopw [5, 29] (fun v iv wr => ∃ i : Nat, i ≤ l.length ∧ iv = I i ∧ ∃ vs, Hid (numsTo (l.take i) = some vs) ∧ Hid (wr.ownsRow w.heap.size 3 1 v vs.length (ints vs)) ∧ Hid (Below w.heap.size w wr)) (fun _ iv _ => l.length - (intOf iv).toNat)
   case atStart => exact ⟨0, Nat.zero_le _, rfl, [], Lib.hid rfl, Lib.hid (by simpa [ints] using World.ownsRow_nil _ _ _ _), Lib.hid (Below.refl _ _)⟩
   case round =>
    obtain ⟨i, hi, rfl, vs, HV, HO, HW⟩ := hrel
    by_cases hlt : i < l.length
    ·obtain ⟨s, hx⟩ := some_at l i hlt
     obtain ⟨b, o, rfl, hbb, hcell⟩ := reads_at (HR.out.below HW.out) (show (strs l)[i]? = some (.string s) by simp [hx])
     have hii : (i : Int) < (l.length : Int) := by omega
     have hsz := HB.out s (List.mem_of_getElem? hx)
     have HT := Lib.hid (numsTo_at hx HV.out)
     have hvl : vs.length = i := by rw [numsTo_length HV.out, List.length_take]; omega
     have HLT := Lib.hid hlt
     have HS := Lib.hid (hs.out.below hs.out.size HW.out)
     have HA := Lib.hid (atoi_ok s hsz (HQ.out s (List.mem_of_getElem? hx)) wr)
     clear hx hsz hlt hi HV
     go_upto_region 8 with (go_at_call 59; refine HA.out.mono ?_; rintro e w1 ⟨⟨v, er, rfl, hv⟩, hb1⟩; have HB1 := Lib.hid hb1; have HVV := Lib.hid hv; clear hv hb1)
     have HW1 : Hid (Below w.heap.size w w1) := Lib.hid (HW.out.trans (HB1.out.mono HW.out.size))
     have HS1 := Lib.hid (HS.out.after HB1.out)
     rcases HVV.out with ⟨rfl, h64, hat⟩ | ⟨⟨t, p, rfl⟩, hno⟩
     ·have HI := Lib.hid (itoa_ok v h64 w1 HS1)
      have HO1 : Hid (w1.ownsRow w.heap.size 3 1 _ vs.length (ints vs)) := Lib.hid (own_after HO.out HB1.out)
      by_cases hsp : (⟨(Lib.itoa v).toArray⟩ : ByteArray) = s
      ·have hno : numOf s = some v := by unfold numOf; rw [hat]; exact if_pos (itoa_by.1 hsp)
       have HNX := Lib.hid (HT.out.1 v hno)
       have ht := ba_same hsp
       have HV64 := Lib.hid h64
       clear hsp hno hat h64 HVV HA HT hcell
       generalize (⟨(Lib.itoa v).toArray⟩ : ByteArray) = sv at *
       go_upto_region 10 with (go_at_call 46; refine HI.out.mono ?_; rintro e w2 ⟨rfl, hb2⟩; have HB2 := Lib.hid hb2; clear hb2)
       have HO2 := Lib.hid (own_after HO1.out HB2.out)
       have HW2 : Hid (Below w.heap.size w w2) := Lib.hid (HW1.out.trans (HB2.out.mono HW1.out.size))
       go_wp2_with (at_builtin; refine wpList_append_own _ rfl _ _ 49 rfl w.heap.size 3 i0 (.int .i64 0) 1 8 Tryz.underlying49 hi0 hz0 hz1 hz2 rfl (by decide) _ _ _ rfl (World.ownsRow.alloc HO2.out _) ⟨w2.heap.size, 0, none⟩ 1 1 [I v] rfl rfl (cell_one_new _ _ _) (fun u hu => by rw [List.mem_singleton.1 hu]; rfl) ?d3 ?d4 ?d5 ?_)
       case d3 => unfold maxLen; omega
       case d4 => omega
       case d5 => have := HW2.out.size; simp; omega
       intro v' w' hown' hgrow _
       have HW3 : Hid (Below w.heap.size w w') := Lib.hid ((HW2.out.alloc HW2.out.size _).grown hgrow (by have := HW2.out.size; simp; omega) (fun q hq => (HO2.out.lt q hq).1))
       have HO3 : Hid (w'.ownsRow w.heap.size 3 1 v' (vs ++ [v]).length (ints (vs ++ [v]))) := Lib.hid (by
        rw [List.length_append, hvl]
        simpa [ints] using hown')
       clear hown' hgrow HO HO1 HO2
       go_wp2_with fail
       go_roundw
       case rel => exact ⟨i + 1, HLT.out, by go_num, vs ++ [v], HNX, HO3, HW3⟩
       case measure => have := HLT.out; simp [intOf]; omega
      ·have hno : numOf s = none := by unfold numOf; rw [hat]; exact if_neg fun h => hsp (itoa_by.2 h)
       have hrn : r = none := by rw [← HN.out]; exact HT.out.2 hno
       subst hrn
       have ht := ba_other hsp
       clear hsp hno hat h64 HVV HA HT hcell
       generalize (⟨(Lib.itoa v).toArray⟩ : ByteArray) = sv at *
       go_wp2_with (first
        |(go_at_call 46; refine HI.out.mono ?_; rintro e w2 ⟨rfl, hb2⟩; have HB2 := Lib.hid hb2; clear hb2)
        |(go_at_call 41; refine (must_errno 3 w2 (Lib.hid (HS1.out.after HB2.out).et)).mono ?_; rintro e w3 ⟨rfl, hb3⟩))
       exact ⟨rfl, rfl, (HW1.out.trans (HB2.out.mono HW1.out.size)).trans (hb3.mono (Nat.le_trans HW1.out.size HB2.out.size))⟩
     ·have hrn : r = none := by rw [← HN.out]; exact HT.out.2 hno
      subst hrn
      clear hno HVV HA HT hcell
      go_wp2_with (go_at_call 41; refine (must_errno 3 w1 (Lib.hid HS1.out.et)).mono ?_; rintro e w3 ⟨rfl, hb3⟩)
      exact ⟨rfl, rfl, HW1.out.trans (hb3.mono HW1.out.size)⟩
    ·have hil : i = l.length := by omega
     subst hil
     have hrn : r = some vs := by rw [← HN.out, ← HV.out, List.take_of_length_le (Nat.le_refl _)]
     subst hrn
     go_wp2_with fail
     go_ret
     exact ⟨⟨_, rfl, HO.out⟩, HW.out⟩
end Go.Proofs.YtdhekhlmdefcnaaGreatDoor
