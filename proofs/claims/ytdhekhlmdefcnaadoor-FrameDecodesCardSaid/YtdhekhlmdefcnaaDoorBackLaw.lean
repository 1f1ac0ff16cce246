/- What a frame's bytes are is that frame again; no beginning of them is one: the plain law. -/
import Derived.Test.YtdhekhlmdefcnaaDoorDecSpec
namespace Go.Proofs.YtdhekhlmdefcnaaDoor
open Go.RowKit
theorem flat3 {α : Type} (g : Nat → List α) (hg : ∀ i, (g i).length = 3) : ∀ (L : List Nat) (j i r : Nat), L[j]? = some i → r < 3 → (L.flatMap g)[3 * j + r]? = (g i)[r]?
  | [], j, i, r, h, _ => by simp at h
  | a :: L, j, i, r, h, hr => by
    rw [List.flatMap_cons]
    cases j with
    | zero =>
      simp at h
      subst h
      rw [List.getElem?_append_left (by rw [hg]; omega)]
      simp
    | succ j =>
      rw [List.getElem?_cons_succ] at h
      rw [List.getElem?_append_right (by rw [hg]; omega), hg, show 3 * (j + 1) + r - 3 = 3 * j + r by omega]
      exact flat3 g hg L j i r h hr
theorem three_len (x : Int) : (three x).length = 3 := rfl
theorem n3_three (x : Int) (h0 : 0 ≤ x) (h1 : x ≤ 1048576) : ((n3 (UInt8.ofNat (x.toNat / 65536)) (UInt8.ofNat (x.toNat / 256)) (UInt8.ofNat x.toNat) : Nat) : Int) = x := by
  unfold n3
  rw [UInt8.toNat_ofNat', UInt8.toNat_ofNat', UInt8.toNat_ofNat']
  omega
section
variable {f : List Int} (hm : mayB f = true)
include hm
theorem may_all : ∀ i, i ∈ idx (f.getD 0 0) → 0 ≤ f.getD i 0 ∧ f.getD i 0 ≤ 1048576 := by
  intro i hi
  unfold mayB at hm
  simp only [Bool.and_eq_true, List.all_eq_true] at hm
  have := hm.1.2 i hi
  unfold inB at this
  simpa using this
theorem may_cp : f = cpTo f (idx (f.getD 0 0)).length := by
  unfold mayB at hm
  simp only [Bool.and_eq_true, decide_eq_true_eq] at hm
  exact hm.2
omit hm in
theorem enc_len : (encB f).length = 3 * (idx (f.getD 0 0)).length + 4 := by
  unfold encB body
  rw [List.length_append, bodyTo_length f _ (Nat.le_refl _)]
  rfl
omit hm in
theorem enc_at (j i r : Nat) (h : (idx (f.getD 0 0))[j]? = some i) (hr : r < 3) : (encB f)[3 * j + r]? = (three (f.getD i 0))[r]? := by
  have hj := (List.getElem?_eq_some_iff.1 h).1
  unfold encB
  rw [List.getElem?_append_left (by unfold body; rw [bodyTo_length f _ (Nat.le_refl _)]; omega)]
  unfold body bodyTo
  rw [List.take_of_length_le (Nat.le_refl _)]
  exact flat3 _ (fun i => three_len _) _ j i r h hr
theorem enc_num (l : List UInt8) (j i : Nat) (h : (idx (f.getD 0 0))[j]? = some i) (hl : ∀ r, r < 3 → l[3 * j + r]? = (encB f)[3 * j + r]?) : ((num3 l j : Nat) : Int) = f.getD i 0 := by
  obtain ⟨a, b⟩ := may_all hm i (List.mem_of_getElem? h)
  have e0 := (hl 0 (by decide)).trans (enc_at j i 0 h (by decide))
  have e1 := (hl 1 (by decide)).trans (enc_at j i 1 h (by decide))
  have e2 := (hl 2 (by decide)).trans (enc_at j i 2 h (by decide))
  rw [Nat.add_zero] at e0
  unfold num3
  rw [List.getD_eq_getElem?_getD, List.getD_eq_getElem?_getD, List.getD_eq_getElem?_getD, e0, e1, e2]
  exact n3_three _ a b
omit hm in
theorem idx_zero (k : Int) : (idx k)[0]? = some 0 := by
  rcases idx_cases k with ⟨_, e⟩ | ⟨_, e⟩ | ⟨_, e⟩ | ⟨_, e⟩ | ⟨_, _, _, _, e⟩ <;> rw [e] <;> rfl
omit hm in
theorem idx_three (k : Int) : 3 ≤ (idx k).length := by
  rcases idx_cases k with ⟨_, e⟩ | ⟨_, e⟩ | ⟨_, e⟩ | ⟨_, e⟩ | ⟨_, _, _, _, e⟩ <;> rw [e] <;> decide
theorem dec_cp : ∀ n, n ≤ (idx (f.getD 0 0)).length → decTo (encB f) n = cpTo f n
  | 0, _ => by
    have h0 := enc_num hm (encB f) 0 0 (idx_zero _) (fun _ _ => rfl)
    unfold decTo cpTo
    rw [h0]
    rfl
  | n + 1, h => by
    obtain ⟨i, hi⟩ := some_at (idx (f.getD 0 0)) n (by omega)
    have h0 := enc_num hm (encB f) 0 0 (idx_zero _) (fun _ _ => rfl)
    have hn := enc_num hm (encB f) n i hi (fun _ _ => rfl)
    rw [decTo, dec_cp n (by omega), h0, hn, cpTo_succ f n i hi, List.getD_eq_getElem?_getD, hi]
    rfl
theorem dec_enc : dec (encB f) = (0, f) := by
  have hl := enc_len (f := f)
  have h3 := idx_three (f.getD 0 0)
  have h20 := idx_len (f.getD 0 0)
  have h0 := enc_num hm (encB f) 0 0 (idx_zero _) (fun _ _ => rfl)
  have hb : (body f).length = 3 * (idx (f.getD 0 0)).length := by unfold body; exact bodyTo_length f _ (Nat.le_refl _)
  have e1 : (encB f).drop ((encB f).length - 4) = four (Crc.sum (body f)) := by
    rw [hl, show 3 * (idx (f.getD 0 0)).length + 4 - 4 = (body f).length by omega]
    unfold encB
    rw [List.drop_left]
  have e2 : (encB f).take ((encB f).length - 4) = body f := by
    rw [hl, show 3 * (idx (f.getD 0 0)).length + 4 - 4 = (body f).length by omega]
    unfold encB
    rw [List.take_left]
  have e3 : decF (encB f) = f := by
    unfold decF
    rw [h0, dec_cp hm _ (Nat.le_refl _)]
    exact (may_cp hm).symm
  unfold dec
  rw [if_neg (by rw [hl]; omega), if_neg (by rw [e1, e2]; simp), if_neg (by rw [hl]; omega), if_neg (by rw [h0, hl]; omega), e3, if_pos hm]
theorem dec_cut (k : Nat) (hk : k < (encB f).length) : ∃ e, (e = 3 ∨ e = 15) ∧ dec ((encB f).take k) = (e, zeroF) := by
  have hl := enc_len (f := f)
  have hlen : ((encB f).take k).length = k := by rw [List.length_take]; omega
  unfold dec
  split
  · exact ⟨3, .inl rfl, rfl⟩
  · rename_i h7
    rw [hlen] at h7
    split
    · exact ⟨15, .inr rfl, rfl⟩
    · split
      · exact ⟨3, .inl rfl, rfl⟩
      · have h0 := enc_num hm ((encB f).take k) 0 0 (idx_zero _) (fun r hr => by rw [List.getElem?_take, if_pos (by omega)])
        rw [if_pos (by rw [h0, hlen]; omega)]
        exact ⟨3, .inl rfl, rfl⟩
end
end Go.Proofs.YtdhekhlmdefcnaaDoor
