/- Part 35 of the proof: StepsIn. -/
import Derived.Test.YtdhekhlmdefcnabPart33
import Derived.Test.YtdhekhlmdefcnabPart6
import Derived.ProofKit
import Derived.OpenShut
import Derived.Deep.Slices
import Derived.Deep.Fields
import Derived.ChangeOld
namespace Go.Proofs.Ytdhekhlmdefcnab
open Go.ChangeShapes Go.WideShapes Go.ChangeAt Go.RowKit Go.Deep
theorem own : ownKnob Try.prog.godebug = none := by kernel_rfl
theorem laidOut : laidOutB Try.prog = true := by kernel_rfl
theorem spot_none {w : World} {x : Addr} {v : Value} (h : w.cell? (x.add 0) = some v) : ∃ b o, x = ⟨b, o, none⟩ := by
 obtain ⟨b, o, s⟩ := x
 have : s = none := by simpa [Addr.add] using World.cell?_spot h
 exact ⟨b, o, by rw [this]⟩
section
variable {H : Type} {enc : TypeId × Value → H} {w : World}
theorem ints_in {t e : TypeId} {a : Option Addr} {n c : Nat} {d : DataW H} {p : List MemPlace} (ht : Try.prog.underlying t = some (.slice e)) (he : Try.prog.underlying e = some (.int .i64)) (hC : Try.prog.cellsOf e = 1)
  (h : DataW.Trod enc Try.prog w 0 (fun _ => true) true t (.slice a n c) d p) : ∃ xs : List Int, xs.length = n ∧ n ≤ c ∧ Reads w w.heap.size a (ints xs) := by
 obtain ⟨fuel, hf⟩ := h
 rcases open_ints ht he hC hf with ⟨hcs, _⟩ | ⟨x, l, c', zs', hcs, _, hl, hm, hz, _, hcell, hwz⟩
 ·simp [Value.cells] at hcs
  obtain ⟨rfl, rfl, rfl⟩ := hcs
  exact ⟨[], rfl, Nat.le_refl _, fun h => absurd rfl h⟩
 ·simp [Value.cells] at hcs
  obtain ⟨rfl, rfl, rfl⟩ := hcs
  have hz' : zs'.length = c := by simpa using hz
  refine ⟨zs'.take n, by simp; omega, hl, fun hne => ?_⟩
  have hn0 : 0 < n := by
   rcases Nat.eq_zero_or_pos n with h0 | h0
   ·subst h0; simp [ints] at hne
   ·exact h0
  have h0 := hcell 0 (by omega)
  obtain ⟨b, o, rfl⟩ := spot_none h0
  rw [add_at] at h0
  refine ⟨b, o, rfl, World.block_lt_of_cell? w ⟨b, o + 0, none⟩ h0, fun j u hu => ?_⟩
  rw [ints_get, List.getElem?_take] at hu
  split at hu
  ·rename_i hj
   have := hcell j (by omega)
   rw [add_at] at this
   rw [this, ← hu, List.getD_eq_getElem?_getD, List.getElem?_eq_getElem (by omega)]
   rfl
  ·cases hu
end
theorem list_from {T : Type} {P : Nat → T → Prop} : ∀ n, (∀ i, i < n → ∃ p, P i p) → ∃ l : List T, l.length = n ∧ ∀ i p, l[i]? = some p → P i p
 | 0, _ => ⟨[], rfl, fun i p h => by simp at h⟩
 | n + 1, h => by
  obtain ⟨l, hl, hp⟩ := list_from n (fun i hi => h i (by omega))
  obtain ⟨q, hq⟩ := h n (by omega)
  refine ⟨l ++ [q], by simp [hl], fun i p hi => ?_⟩
  rw [List.getElem?_append] at hi
  split at hi
  ·exact hp i p hi
  ·have : i - l.length = 0 := by
    rcases Nat.eq_zero_or_pos (i - l.length) with h0 | h0
    ·exact h0
    ·rw [List.getElem?_eq_none (by simp; omega)] at hi; cases hi
   rw [this] at hi
   simp at hi
   subst hi
   have : i = n := by omega
   subst this
   exact hq
theorem Fit.join : ∀ {a b : List (Option IntKind)} {cs : List Value}, Fit a (cs.take a.length) → Fit b (cs.drop a.length) → Fit (a ++ b) cs
 | [], _, _, _, h => h
 | _ :: _, _, [], h, _ => h.elim
 | _ :: _, _, _ :: _, h1, h2 => ⟨h1.1, Fit.join h1.2 h2⟩
theorem sigF_fit (sg : TypeId → Option (List (Option IntKind))) (cells : TypeId → Nat) (all : List Value) :
  ∀ (fs : List Field) (o : Nat) (s : List (Option IntKind)), sigF sg cells fs o = some s → (∀ f ∈ fs, ∀ a, sg f.type = some a → Fit a ((all.drop f.offset).take (cells f.type))) → all.length = o + s.length → Fit s (all.drop o)
 | [], o, s, h, _, hl => by
  simp only [sigF, Option.some.injEq] at h
  subst h
  rw [List.drop_of_length_le (by simp at hl; omega)]
  trivial
 | f :: fs, o, s, h, hf, hl => by
  simp only [sigF] at h
  cases ha : sg f.type with
  | none => rw [ha] at h; cases h
  | some a =>
   rw [ha] at h
   simp only at h
   split at h
   ·rename_i hc
    obtain ⟨h1, _, h3⟩ := hc
    obtain ⟨b, hb, rfl⟩ := Option.map_eq_some_iff.1 h
    refine Fit.join ?_ ?_
    ·have := hf f (List.mem_cons_self ..) a ha
     rw [h1, ← h3] at this
     exact this
    ·rw [List.drop_drop]
     exact sigF_fit sg cells all fs (o + a.length) b hb (fun g hg => hf g (List.mem_cons_of_mem _ hg)) (by rw [hl, List.length_append]; omega)
   ·cases h
theorem arr_fit (s : List (Option IntKind)) (c : Nat) (hc : s.length = c) (all : List Value) : ∀ (n o : Nat), (∀ i, o ≤ i → i < o + n → Fit s ((all.drop (i * c)).take c)) → all.length = o * c + n * c → Fit (List.replicate n s).flatten (all.drop (o * c))
 | 0, o, _, hl => by
  rw [List.drop_of_length_le (by omega)]
  trivial
 | n + 1, o, h, hl => by
  rw [List.replicate_succ, List.flatten_cons]
  refine Fit.join ?_ ?_
  ·rw [hc]; exact h o (Nat.le_refl _) (by omega)
  ·rw [List.drop_drop, hc, ← Nat.succ_mul]
   exact arr_fit s c hc all n (o + 1) (fun i h1 h2 => h i (by omega) (by omega)) (by rw [hl, Nat.succ_mul, Nat.succ_mul]; omega)
section
variable {H : Type} {enc : TypeId × Value → H} {P : Program} {w : World} {base : Nat} {sp : Nat → Bool} {held : Bool}
theorem sig_trod : ∀ (m : Nat) (t : TypeId) (s : List (Option IntKind)) (cs : List Value) (fuel : Nat) (x : DataW H × List MemPlace), sig P m t = some s → DataW.trod enc P w base sp held fuel t cs = some x → Fit s cs
 | 0, _, _, _, _, _, h, _ => by cases h
 | m + 1, t, s, cs, fuel, x, h, hx => by
  unfold sig at h
  split at h
  ·rename_i hu
   simp only [Option.some.injEq] at h
   subst h
   obtain ⟨b, rfl, _⟩ := DataW.trod_bool hu hx
   exact ⟨trivial, trivial⟩
  ·rename_i k hu
   simp only [Option.some.injEq] at h
   subst h
   obtain ⟨n, rfl, _, hw⟩ := DataW.trod_int hu hx
   exact ⟨⟨rfl, hw⟩, trivial⟩
  ·rename_i n e hu
   cases he : sig P m e with
   | none => rw [he] at h; cases h
   | some se =>
    rw [he] at h
    simp only at h
    split at h
    ·rename_i hc
     simp only [Option.some.injEq] at h
     subst h
     obtain ⟨xs, k, _, _, hl, hn, hi⟩ := DataW.trod_array hu hx
     have := arr_fit se (P.cellsOf e) hc.1 cs n 0 (fun i _ h2 => by
      have h3 := hi i (by omega)
      rw [List.getElem?_eq_getElem (by omega)] at h3
      exact sig_trod m e se _ k _ he h3) (by rw [hl, hc.2, hc.1]; omega)
     simpa using this
    ·cases h
  ·rename_i fs hu
   cases he : sigF (sig P m) P.cellsOf fs.toList 0 with
   | none => rw [he] at h; cases h
   | some se =>
    rw [he] at h
    simp only at h
    split at h
    ·rename_i hc
     simp only [Option.some.injEq] at h
     subst h
     obtain ⟨xs, k, _, _, hl, hn, hi⟩ := DataW.trod_struct hu hx
     have := sigF_fit (sig P m) P.cellsOf cs fs.toList 0 se he (fun f hf a ha => by
      obtain ⟨i, hi', hfi⟩ := List.getElem_of_mem hf
      have hfs : fs[i]? = some f := by
       rw [Array.getElem?_eq_getElem (by simpa using hi')]
       simpa using hfi
      have h3 := hi i f hfs
      rw [List.getElem?_eq_getElem (by simp at hi'; omega)] at h3
      exact sig_trod m f.type a _ k _ ha h3) (by rw [hl, hc.1]; omega)
     simpa using this
    ·cases h
  ·cases h
end
theorem ints_of_fit : ∀ (n : Nat) (cs : List Value), Fit (List.replicate n (some .i64)) cs → ∃ l : List Int, cs = ints l ∧ l.length = n ∧ ∀ x ∈ l, -9223372036854775808 ≤ x ∧ x ≤ 9223372036854775807
 | 0, [], _ => ⟨[], rfl, rfl, fun x h => by cases h⟩
 | 0, _ :: _, h => h.elim
 | n + 1, [], h => h.elim
 | n + 1, v :: cs, h => by
  obtain ⟨h1, h2⟩ := h
  obtain ⟨l, rfl, hl, hr⟩ := ints_of_fit n cs h2
  cases v with
  | int k x =>
   obtain ⟨rfl, hw⟩ := h1
   refine ⟨x :: l, rfl, by simp [hl], fun y hy => ?_⟩
   rcases List.mem_cons.1 hy with rfl | hy
   ·have e1 : IntKind.i64.min = -9223372036854775808 := by decide
    have e2 : IntKind.i64.max = 9223372036854775807 := by decide
    unfold Lit.wf at hw
    simp at hw
    omega
   ·exact hr y hy
  | _ => exact h1.elim
section
variable {H : Type} {enc : TypeId × Value → H} {w : World}
theorem frame_in {cs : Array Value} {d : DataW H} {p : List MemPlace} (h : DataW.Trod enc Try.prog w 0 (fun _ => true) true 35 (.agg cs) d p) : ∃ f, cs = frC f ∧ Wf f := by
 obtain ⟨fuel, hf⟩ := h
 obtain ⟨l, hl, h1, h2⟩ := ints_of_fit 23 cs.toList (sig_trod 5 _ _ _ _ _ sigFrame hf)
 exact ⟨l, Array.toList_inj.1 hl, h1, h2⟩
end
def toU8 (l : List Int) : List UInt8 := l.map fun x => UInt8.ofNat x.toNat
theorem toU8_val {x : Int} (h : (Lit.int .u8 x).wf = true) : U8 (UInt8.ofNat x.toNat) = .int .u8 x := by
 have e1 : IntKind.u8.min = 0 := by decide
 have e2 : IntKind.u8.max = 255 := by decide
 unfold Lit.wf at h
 simp at h
 have : ((UInt8.ofNat x.toNat).toNat : Int) = x := by
  rw [UInt8.toNat_ofNat']
  omega
 show Value.int .u8 _ = _
 rw [this]
section
variable {H : Type} {enc : TypeId × Value → H} {w : World}
theorem bytes_in {a : Option Addr} {n c : Nat} {d : DataW H} {p : List MemPlace}
  (h : DataW.Trod enc Try.prog w 0 (fun _ => true) true 36 (.slice a n c) d p) : ∃ xs : List UInt8, xs.length = n ∧ n ≤ c ∧ (a = none → n = 0 ∧ c = 0) ∧ Reads w w.heap.size a (bytes xs) := by
 obtain ⟨fuel, hf⟩ := h
 rcases open_ints Try.underlying36 Try.underlying5 (by kernel_rfl) hf with ⟨hcs, _⟩ | ⟨x, l, c', zs', hcs, _, hl, hm, hz, _, hcell, hwz⟩
 ·simp [Value.cells] at hcs
  obtain ⟨rfl, rfl, rfl⟩ := hcs
  exact ⟨[], rfl, Nat.le_refl _, fun _ => ⟨rfl, rfl⟩, fun h => absurd rfl h⟩
 ·simp [Value.cells] at hcs
  obtain ⟨rfl, rfl, rfl⟩ := hcs
  have hz' : zs'.length = c := by simpa using hz
  refine ⟨toU8 (zs'.take n), by simp [toU8]; omega, hl, (fun h => by cases h), fun hne => ?_⟩
  have hn0 : 0 < n := by
   rcases Nat.eq_zero_or_pos n with h0 | h0
   ·subst h0; simp [toU8, bytes] at hne
   ·exact h0
  have h0 := hcell 0 (by omega)
  obtain ⟨b, o, rfl⟩ := spot_none h0
  rw [add_at] at h0
  refine ⟨b, o, rfl, World.block_lt_of_cell? w ⟨b, o + 0, none⟩ h0, fun j u hu => ?_⟩
  rw [bytes_get, toU8, List.getElem?_map, List.getElem?_take] at hu
  split at hu
  ·rename_i hj
   have := hcell j (by omega)
   rw [add_at] at this
   rw [List.getElem?_eq_getElem (by omega)] at hu
   simp only [Option.map_some, Option.some.injEq] at hu
   rw [this, ← hu, List.getD_eq_getElem?_getD, List.getElem?_eq_getElem (by omega)]
   rw [toU8_val (hwz _ (List.getElem_mem _))]
   rfl
  ·cases hu
end
section
variable {H : Type} {enc : TypeId × Value → H} {w : World}
theorem cellsOfStep : Try.prog.cellsOf 38 = 29 := by kernel_rfl
theorem cellsOfFr : Try.prog.cellsOf 35 = 23 := by kernel_rfl
theorem i64_of {p : Int} (h : (Lit.int .i64 p).wf = true) : I64 p := by
 have e1 : IntKind.i64.min = -9223372036854775808 := by decide
 have e2 : IntKind.i64.max = 9223372036854775807 := by decide
 unfold Lit.wf at h
 simp at h
 exact ⟨by omega, by omega⟩
set_option maxRecDepth 100000 in
theorem step_in {cs : List Value} {fuel : Nat} {x : DataW H × List MemPlace} (hf : DataW.trod enc Try.prog w 0 (fun _ => true) true fuel 38 cs = some x) :
  ∃ (s : Stp) (A' : Option Addr) (c' : Nat), cs = (stpC s (.slice A' s.bytes.length c')).toList ∧ Wf s.frame ∧ I64 s.c ∧ I64 s.w ∧ s.bytes.length ≤ c' ∧ Reads w w.heap.size A' (bytes s.bytes) := by
 obtain ⟨ys, k, _, _, hl, hyl, hff⟩ := DataW.trod_struct Try.underlying38 hf
 rw [cellsOfStep] at hl
 have g0 := hff 0 _ rfl
 have g1 := hff 1 _ rfl
 have g2 := hff 2 _ rfl
 have g3 := hff 3 _ rfl
 have g4 := hff 4 _ rfl
 have g5 := hff 5 _ rfl
 match ys, hyl with
 | [y0, y1, y2, y3, y4, y5], _ =>
  match cs, hl with
  | v0 :: v1 :: v2 :: v3 :: v4 :: cs', hl =>
   have hl' : cs'.length = 24 := by simpa using hl
   have g0' : DataW.trod enc Try.prog w 0 (fun _ => true) true k 3 [v0] = some y0 := g0
   have g1' : DataW.trod enc Try.prog w 0 (fun _ => true) true k 3 [v1] = some y1 := g1
   have g2' : DataW.trod enc Try.prog w 0 (fun _ => true) true k 3 [v2] = some y2 := g2
   have g3' : DataW.trod enc Try.prog w 0 (fun _ => true) true k 30 [v3, v4] = some y3 := g3
   have g4' : DataW.trod enc Try.prog w 0 (fun _ => true) true k 35 (cs'.take 23) = some y4 := by
    rw [← cellsOfFr]; exact g4
   have g5' : DataW.trod enc Try.prog w 0 (fun _ => true) true k 36 (cs'.drop 23) = some y5 := by
    have e : (cs'.drop 23) = (cs'.drop 23).take 1 := by
     rw [List.take_of_length_le (by rw [List.length_drop]; omega)]
    rw [e]; exact g5
   obtain ⟨p0, hp0, _, _⟩ := DataW.trod_int Try.underlying3 (x := y0) g0'
   obtain ⟨p1, hp1, _, _⟩ := DataW.trod_int Try.underlying3 (x := y1) g1'
   obtain ⟨p2, hp2, _, _⟩ := DataW.trod_int Try.underlying3 (x := y2) g2'
   obtain ⟨li, hli, li1, li2⟩ := ints_of_fit 2 _ (sig_trod 5 _ _ _ _ _ (show sig Try.prog 5 30 = some (List.replicate 2 (some .i64)) by kernel_rfl) g3')
   obtain ⟨fr, hfr, fr1, fr2⟩ := ints_of_fit 23 _ (sig_trod 5 _ _ _ _ _ sigFrame g4')
   injection hp0 with hp0
   injection hp1 with hp1
   injection hp2 with hp2
   subst hp0 hp1 hp2
   match li, li1 with
   | [p3, p4], _ =>
    injection hli with h3 hli
    injection hli with h4 _
    subst h3 h4
    obtain ⟨v5, hv5⟩ : ∃ v, cs'.drop 23 = [v] := by
     have hld : (cs'.drop 23).length = 1 := by rw [List.length_drop]; omega
     exact List.length_eq_one_iff.1 hld
    rw [hv5] at g5'
    have hs : ∃ (A : Option Addr) (n c : Nat), v5 = .slice A n c := by
     rcases open_ints Try.underlying36 Try.underlying5 (by kernel_rfl) g5' with ⟨hcs, _⟩ | ⟨x, l, c', zs', hcs, _⟩
     ·injection hcs with hcs
      exact ⟨_, _, _, hcs⟩
     ·injection hcs with hcs
      exact ⟨_, _, _, hcs⟩
    obtain ⟨A, n, c, rfl⟩ := hs
    obtain ⟨bs, hb1, hb2, _, hb3⟩ := bytes_in (d := y5.1) (p := y5.2) ⟨k, g5'⟩
    refine ⟨⟨p0, p1, p2, p3, p4, fr, bs⟩, A, c, ?_, ⟨fr1, fr2⟩, ?_, ?_, by rw [hb1]; exact hb2, hb3⟩
    ·show _ = [I p0, I p1, I p2, I p3, I p4] ++ (ints fr ++ [.slice A bs.length c])
     rw [← hfr, hb1, ← hv5, List.take_append_drop]
     rfl
    ·have := li2 p3 (by simp); exact ⟨this.1, by have := this.2; omega⟩
    ·have := li2 p4 (by simp); exact ⟨this.1, by have := this.2; omega⟩
set_option maxRecDepth 100000 in
theorem steps_in {a : Option Addr} {n c : Nat} {d : DataW H} {p : List MemPlace} (h : DataW.Trod enc Try.prog w 0 (fun _ => true) true 23 (.slice a n c) d p) :
  ∃ l : List Stp, l.length = n ∧ StepsAt w w.heap.size a l := by
 obtain ⟨fuel, hf⟩ := h
 rcases open_slice Try.underlying23 hf with ⟨hcs, _⟩ | ⟨x, l, c', m, k, D, Pl, hcs, _, hl, hm, hmm, _, hi⟩
 ·simp [Value.cells] at hcs
  obtain ⟨rfl, rfl, rfl⟩ := hcs
  exact ⟨[], rfl, fun i s h => by simp at h⟩
 ·simp [Value.cells] at hcs
  obtain ⟨rfl, rfl, rfl⟩ := hcs
  have hmn : n ≤ m := by rw [hmm]; simp; omega
  have hb0 : 0 < n → ∃ b o, x = ⟨b, o, none⟩ := by
   intro hn
   obtain ⟨cs', hc, ht'⟩ := hi 0 (by omega)
   rw [cellsOfStep] at hc
   obtain ⟨_, hcl, hat⟩ := World.cells?_some hc
   have h0 := hat 0 (Nat.zero_lt_succ 28)
   have e : (x.add (0 * 29)).add 0 = x.add 0 := by simp [Addr.add]
   obtain ⟨v, hv⟩ := some_at cs' 0 (by rw [hcl]; decide)
   exact spot_none ((congrArg w.cell? e.symm).trans (h0.trans hv))
  have key : ∀ i, i < n → ∃ s : Stp, ∃ b o A' c, some x = some ⟨b, o, none⟩ ∧ b < w.heap.size ∧ w.rangeAt b (o + i * 29) (stpC s (.slice A' s.bytes.length c)).toList ∧ Wf s.frame ∧ I64 s.c ∧ I64 s.w ∧ s.bytes.length ≤ c ∧ Reads w w.heap.size A' (bytes s.bytes) := by
   intro i hin
   obtain ⟨cs', hc, ht'⟩ := hi i (by omega)
   rw [cellsOfStep] at hc
   obtain ⟨_, hcl, hat⟩ := World.cells?_some hc
   obtain ⟨s, A', c2, e, h1, h2, h3, h4, h5⟩ := step_in ht'
   obtain ⟨b, o, rfl⟩ := hb0 (by omega)
   have h0 := hat 0 (Nat.zero_lt_succ 28)
   rw [add_at, add_at] at h0
   obtain ⟨v, hv⟩ := some_at cs' 0 (by rw [hcl]; decide)
   refine ⟨s, b, o, A', c2, rfl, World.block_lt_of_cell? w _ (h0.trans hv), fun j u hu => ?_, h1, h2, h3, h4, h5⟩
   rw [← e] at hu
   have hj : j < 29 := by
    have := (List.getElem?_eq_some_iff.1 hu).1
    omega
   have h1 := hat j hj
   rw [add_at, add_at] at h1
   exact h1.trans hu
  obtain ⟨xs, hxl, hxs⟩ := list_from n key
  exact ⟨xs, hxl, fun i s hs => hxs i s hs⟩
end
end Go.Proofs.Ytdhekhlmdefcnab
