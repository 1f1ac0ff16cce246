/- Part 11 of the proof: Handle, BytesIn. -/
import Derived.Test.YtdhekhlmdefcnaaDoorPart5
import Derived.Test.YtdhekhlmdefcnaaDoorPart6
import Derived.Test.YtdhekhlmdefcnaaDoorPart7
import Derived.Test.YtdhekhlmdefcnaaDoorPart8
/- The listed variable errors.errorType, and arguments that are whole structs. -/
namespace Go.Proofs.YtdhekhlmdefcnaaDoor
open Go.ChangeShapes Go.WideShapes Go.ChangeAt Go.RowKit Go.Deep
theorem etG : Tryd.prog.globalNamed "errors.errorType" = some 2 := by kernel_rfl
theorem etR : (Tryd.prog.cutTypes.find? (·.1 == "internal/reflectlite.rtype")).map (·.2) = some 215 := by kernel_rfl
theorem etOne : ((List.range 254).filter fun t => Tryd.prog.rowNamed t [101, 114, 114, 111, 114]) = [28] := by kernel_rfl
theorem etSize : Tryd.prog.types.size = 254 := by kernel_rfl
def etList : List (String × DataW Unit) := [("errors.errorType", Rows.laid_errors_errorType)]
/-- what the condition gives a walk -/
theorem etype_of_handles {W : World} {l : List (String × DataW Unit)} (hm : ("errors.errorType", Rows.laid_errors_errorType) ∈ l) (h' : handlesMet Tryd.prog l W) : EType W := by
  obtain ⟨name, u, ty, e1, e2, e3, e4, e5⟩ := h' ("errors.errorType", Rows.laid_errors_errorType) hm
  have en : name = [101, 114, 114, 111, 114] := (Option.some.inj e1).symm
  subst en
  obtain rfl := Option.some.inj (etR.symm.trans e2)
  have hm : ty ∈ (List.range 254).filter fun t => Tryd.prog.rowNamed t [101, 114, 114, 111, 114] := List.mem_filter.2 ⟨List.mem_range.2 (by rw [← etSize]; exact e3), e4⟩
  rw [etOne] at hm
  obtain rfl := List.mem_singleton.1 hm
  have hh : typeHandle Tryd.prog 28 = .pointer (some ⟨3, 28, none⟩) := by kernel_rfl
  rw [hh] at e5
  have := World.var?_cell etG e5 0
  simp at this
  exact this
theorem etype_of_laid {W : World} (h : laidMetH Tryd.prog etList W) : EType W := by
  have h' : laidMet Tryd.prog [] W ∧ handlesMet Tryd.prog etList W := h
  exact etype_of_handles (List.mem_singleton.2 rfl) (fun x hx => h'.2 x hx)
theorem et_met (os : Os) (args : Array Value) : laidMetH Tryd.prog etList ((World.doorLaid Tryd.prog 400 os).forCall (fun _ _ => 0) ⟨#[], args, []⟩).memory :=
  laidMetH_of_parts3 (fuel := 8) (laidMet_of_run' 8 (by kernel_rfl) (by kernel_rfl)) (by kernel_rfl) (by kernel_rfl)
theorem Fit.join : ∀ {a b : List (Option IntKind)} {cs : List Value}, Fit a (cs.take a.length) → Fit b (cs.drop a.length) → Fit (a ++ b) cs
  | [], _, _, _, h => h
  | _ :: _, _, [], h, _ => h.elim
  | _ :: _, _, _ :: _, h1, h2 => ⟨h1.1, Fit.join h1.2 h2⟩
theorem sigF_fit (sg : TypeId → Option (List (Option IntKind))) (cells : TypeId → Nat) (all : List Value) :
    ∀ (fs : List Field) (o : Nat) (s : List (Option IntKind)), sigF sg cells fs o = some s → (∀ f ∈ fs, ∀ a, sg f.type = some a → Fit a ((all.drop f.offset).take (cells f.type))) → all.length = o + s.length → Fit s (all.drop o)
  | [], o, s, h, _, hl => by
    simp only [sigF, Option.some.injEq] at h
    subst h
    rw [List.drop_of_length_le (by simp at hl; omega)]
    trivial
  | f :: fs, o, s, h, hf, hl => by
    simp only [sigF] at h
    cases ha : sg f.type with
    | none => rw [ha] at h; cases h
    | some a =>
      rw [ha] at h
      simp only at h
      split at h
      · rename_i hc
        obtain ⟨h1, _, h3⟩ := hc
        obtain ⟨b, hb, rfl⟩ := Option.map_eq_some_iff.1 h
        refine Fit.join ?_ ?_
        · have := hf f (List.mem_cons_self ..) a ha
          rw [h1, ← h3] at this
          exact this
        · rw [List.drop_drop]
          exact sigF_fit sg cells all fs (o + a.length) b hb (fun g hg => hf g (List.mem_cons_of_mem _ hg)) (by rw [hl, List.length_append]; omega)
      · cases h
theorem arr_fit (s : List (Option IntKind)) (c : Nat) (hc : s.length = c) (all : List Value) : ∀ (n o : Nat), (∀ i, o ≤ i → i < o + n → Fit s ((all.drop (i * c)).take c)) → all.length = o * c + n * c → Fit (List.replicate n s).flatten (all.drop (o * c))
  | 0, o, _, hl => by
    rw [List.drop_of_length_le (by omega)]
    trivial
  | n + 1, o, h, hl => by
    rw [List.replicate_succ, List.flatten_cons]
    refine Fit.join ?_ ?_
    · rw [hc]; exact h o (Nat.le_refl _) (by omega)
    · rw [List.drop_drop, hc, ← Nat.succ_mul]
      exact arr_fit s c hc all n (o + 1) (fun i h1 h2 => h i (by omega) (by omega)) (by rw [hl, Nat.succ_mul, Nat.succ_mul]; omega)
section
variable {H : Type} {enc : TypeId × Value → H} {P : Program} {w : World} {base : Nat} {sp : Nat → Bool} {held : Bool}
theorem sig_trod : ∀ (m : Nat) (t : TypeId) (s : List (Option IntKind)) (cs : List Value) (fuel : Nat) (x : DataW H × List MemPlace), sig P m t = some s → DataW.trod enc P w base sp held fuel t cs = some x → Fit s cs
  | 0, _, _, _, _, _, h, _ => by cases h
  | m + 1, t, s, cs, fuel, x, h, hx => by
    unfold sig at h
    split at h
    · rename_i hu
      simp only [Option.some.injEq] at h
      subst h
      obtain ⟨b, rfl, _⟩ := DataW.trod_bool hu hx
      exact ⟨trivial, trivial⟩
    · rename_i k hu
      simp only [Option.some.injEq] at h
      subst h
      obtain ⟨n, rfl, _, hw⟩ := DataW.trod_int hu hx
      exact ⟨⟨rfl, hw⟩, trivial⟩
    · rename_i n e hu
      cases he : sig P m e with
      | none => rw [he] at h; cases h
      | some se =>
        rw [he] at h
        simp only at h
        split at h
        · rename_i hc
          simp only [Option.some.injEq] at h
          subst h
          obtain ⟨xs, k, _, _, hl, hn, hi⟩ := DataW.trod_array hu hx
          have := arr_fit se (P.cellsOf e) hc.1 cs n 0 (fun i _ h2 => by
            have h3 := hi i (by omega)
            rw [List.getElem?_eq_getElem (by omega)] at h3
            exact sig_trod m e se _ k _ he h3) (by rw [hl, hc.2, hc.1]; omega)
          simpa using this
        · cases h
    · rename_i fs hu
      cases he : sigF (sig P m) P.cellsOf fs.toList 0 with
      | none => rw [he] at h; cases h
      | some se =>
        rw [he] at h
        simp only at h
        split at h
        · rename_i hc
          simp only [Option.some.injEq] at h
          subst h
          obtain ⟨xs, k, _, _, hl, hn, hi⟩ := DataW.trod_struct hu hx
          have := sigF_fit (sig P m) P.cellsOf cs fs.toList 0 se he (fun f hf a ha => by
            obtain ⟨i, hi', hfi⟩ := List.getElem_of_mem hf
            have hfs : fs[i]? = some f := by
              rw [Array.getElem?_eq_getElem (by simpa using hi')]
              simpa using hfi
            have h3 := hi i f hfs
            rw [List.getElem?_eq_getElem (by simp at hi'; omega)] at h3
            exact sig_trod m f.type a _ k _ ha h3) (by rw [hl, hc.1]; omega)
          simpa using this
        · cases h
    · cases h
end
/-- a row of ints is ints -/
theorem ints_of_fit : ∀ (n : Nat) (cs : List Value), Fit (List.replicate n (some .i64)) cs → ∃ l : List Int, cs = ints l ∧ l.length = n ∧ ∀ x ∈ l, -9223372036854775808 ≤ x ∧ x ≤ 9223372036854775807
  | 0, [], _ => ⟨[], rfl, rfl, fun x h => by cases h⟩
  | 0, _ :: _, h => h.elim
  | n + 1, [], h => h.elim
  | n + 1, v :: cs, h => by
    obtain ⟨h1, h2⟩ := h
    obtain ⟨l, rfl, hl, hr⟩ := ints_of_fit n cs h2
    cases v with
    | int k x =>
      obtain ⟨rfl, hw⟩ := h1
      refine ⟨x :: l, rfl, by simp [hl], fun y hy => ?_⟩
      rcases List.mem_cons.1 hy with rfl | hy
      · have e1 : IntKind.i64.min = -9223372036854775808 := by decide
        have e2 : IntKind.i64.max = 9223372036854775807 := by decide
        unfold Lit.wf at hw
        simp at hw
        omega
      · exact hr y hy
    | _ => exact h1.elim
section
variable {H : Type} {enc : TypeId × Value → H} {w : World}
/-- a frame that came in -/
theorem frame_in {cs : Array Value} {d : DataW H} {p : List MemPlace} (h : DataW.Trod enc Tryd.prog w 0 (fun _ => true) true 40 (.agg cs) d p) : ∃ f, cs = frC f ∧ Wf f := by
  obtain ⟨fuel, hf⟩ := h
  obtain ⟨l, hl, h1, h2⟩ := ints_of_fit 23 cs.toList (sig_trod 5 _ _ _ _ _ sigFrame hf)
  exact ⟨l, Array.toList_inj.1 hl, h1, h2⟩
end
end Go.Proofs.YtdhekhlmdefcnaaDoor
/- A slice of bytes that came in, as a list of bytes. -/
namespace Go.Proofs.YtdhekhlmdefcnaaDoor
open Go.ChangeShapes Go.WideShapes Go.ChangeAt Go.RowKit Go.Deep
def toU8 (l : List Int) : List UInt8 := l.map fun x => UInt8.ofNat x.toNat
theorem toU8_val {x : Int} (h : (Lit.int .u8 x).wf = true) : U8 (UInt8.ofNat x.toNat) = .int .u8 x := by
  have e1 : IntKind.u8.min = 0 := by decide
  have e2 : IntKind.u8.max = 255 := by decide
  unfold Lit.wf at h
  simp at h
  have : ((UInt8.ofNat x.toNat).toNat : Int) = x := by
    rw [UInt8.toNat_ofNat']
    omega
  show Value.int .u8 _ = _
  rw [this]
section
variable {H : Type} {enc : TypeId × Value → H} {w : World}
/-- a slice of bytes that came in -/
theorem bytes_in {a : Option Addr} {n c : Nat} {d : DataW H} {p : List MemPlace}
    (h : DataW.Trod enc Tryd.prog w 0 (fun _ => true) true 41 (.slice a n c) d p) : ∃ xs : List UInt8, xs.length = n ∧ n ≤ c ∧ (a = none → n = 0 ∧ c = 0) ∧ Reads w w.heap.size a (bytes xs) := by
  obtain ⟨fuel, hf⟩ := h
  rcases open_ints Tryd.underlying41 Tryd.underlying5 (by kernel_rfl) hf with ⟨hcs, _⟩ | ⟨x, l, c', zs', hcs, _, hl, hm, hz, _, hcell, hwz⟩
  · simp [Value.cells] at hcs
    obtain ⟨rfl, rfl, rfl⟩ := hcs
    exact ⟨[], rfl, Nat.le_refl _, fun _ => ⟨rfl, rfl⟩, fun h => absurd rfl h⟩
  · simp [Value.cells] at hcs
    obtain ⟨rfl, rfl, rfl⟩ := hcs
    have hz' : zs'.length = c := by simpa using hz
    refine ⟨toU8 (zs'.take n), by simp [toU8]; omega, hl, (fun h => by cases h), fun hne => ?_⟩
    have hn0 : 0 < n := by
      rcases Nat.eq_zero_or_pos n with h0 | h0
      · subst h0; simp [toU8, bytes] at hne
      · exact h0
    have h0 := hcell 0 (by omega)
    obtain ⟨b, o, rfl⟩ := spot_none h0
    rw [add_at] at h0
    refine ⟨b, o, rfl, World.block_lt_of_cell? w ⟨b, o + 0, none⟩ h0, fun j u hu => ?_⟩
    rw [bytes_get, toU8, List.getElem?_map, List.getElem?_take] at hu
    split at hu
    · rename_i hj
      have := hcell j (by omega)
      rw [add_at] at this
      rw [List.getElem?_eq_getElem (by omega)] at hu
      simp only [Option.map_some, Option.some.injEq] at hu
      rw [this, ← hu, List.getD_eq_getElem?_getD, List.getElem?_eq_getElem (by omega)]
      rw [toU8_val (hwz _ (List.getElem_mem _))]
      rfl
    · cases hu
end
end Go.Proofs.YtdhekhlmdefcnaaDoor
