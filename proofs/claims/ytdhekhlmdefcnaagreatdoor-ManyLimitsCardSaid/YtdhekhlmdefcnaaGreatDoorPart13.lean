/- Part 13 of the proof: Region. -/
import Derived.Orders
namespace Go.Proofs.YtdhekhlmdefcnaaGreatDoor
theorem filter_less {α : Type} (p q : α → Bool) : ∀ (l : List α), (∀ x ∈ l, q x = true → p x = true) → ((l.filter q).length ≤ (l.filter p).length) ∧ ((∃ x ∈ l, p x = true ∧ q x = false) → (l.filter q).length < (l.filter p).length)
 | [], _ => ⟨Nat.le_refl _, by rintro ⟨x, hx, _⟩; cases hx⟩
 | y :: l, h => by
  obtain ⟨h1, h2⟩ := filter_less p q l (fun x hx => h x (List.mem_cons_of_mem _ hx))
  have hy := h y (List.mem_cons_self ..)
  cases hq : q y <;> cases hp : p y <;> simp only [List.filter_cons, hq, hp, if_true, if_false, Bool.false_eq_true, List.length_cons]
  ·refine ⟨h1, ?_⟩
   rintro ⟨x, hx, hpx, hqx⟩
   rcases List.mem_cons.1 hx with rfl | hx
   ·rw [hp] at hpx; cases hpx
   ·exact h2 ⟨x, hx, hpx, hqx⟩
  ·exact ⟨by omega, fun _ => by omega⟩
  ·rw [hq] at hy; rw [hy rfl] at hp; cases hp
  ·refine ⟨by omega, ?_⟩
   rintro ⟨x, hx, hpx, hqx⟩
   rcases List.mem_cons.1 hx with rfl | hx
   ·rw [hq] at hqx; cases hqx
   ·have := h2 ⟨x, hx, hpx, hqx⟩; omega
section
variable {P : Program} {ops : Array Oper} {Q : Exit → Act → World → Prop} {md : Region.Mode}
def left (n : Nat) (listed : Array Bool) : Nat := ((List.range n).filter fun j => !listed.getD j true).length
theorem wpAny_inv (J : Array Bool → Act → World → Prop)
  (hstep : ∀ i listed a w, i ∈ Region.ready md ops listed → J listed a w → wpOp P ops Q i (J (listed.setIfInBounds i true)) a w)
  (hend : ∀ listed a w, J listed a w → Region.ready md ops listed = [] → Q .normal a w) :
  ∀ fuel listed a w, J listed a w → left ops.size listed ≤ fuel → wpAny P md ops Q fuel listed a w
 | 0, listed, a, w, hJ, hf => by
  have hr : Region.ready md ops listed = [] := by
   cases hh : Region.ready md ops listed with
   | nil => rfl
   | cons i r =>
    have hi : i ∈ Region.ready md ops listed := by rw [hh]; exact List.mem_cons_self ..
    obtain ⟨h1, o, h2, _⟩ := mem_ready.1 hi
    have hlt : i < ops.size := (Array.getElem?_eq_some_iff.1 h2).1
    have : i ∈ (List.range ops.size).filter fun j => !listed.getD j true := List.mem_filter.2 ⟨List.mem_range.2 hlt, by rw [h1]; rfl⟩
    have := List.length_pos_of_mem this
    unfold left at hf
    omega
  exact ⟨hr, hend _ _ _ hJ hr⟩
 | fuel + 1, listed, a, w, hJ, hf => by
  refine ⟨hend _ _ _ hJ, fun i hi => ?_⟩
  obtain ⟨h1, o, h2, _⟩ := mem_ready.1 hi
  have hlt : i < ops.size := (Array.getElem?_eq_some_iff.1 h2).1
  have hls : i < listed.size := by
   rcases Nat.lt_or_ge i listed.size with h | h
   ·exact h
   ·rw [Array.getD_eq_getD_getElem?, Array.getElem?_eq_none h] at h1; cases h1
  refine wpOp_mono (fun a' w' hJ' => wpAny_inv J hstep hend fuel _ a' w' hJ' ?_) (hstep i listed a w hi hJ)
  have hsub := filter_less (fun j => !listed.getD j true) (fun j => !(listed.setIfInBounds i true).getD j true) (List.range ops.size) (fun j _ hj => by
   by_cases e : i = j
   ·subst e; simp [Array.getD_eq_getD_getElem?, hls] at hj
   ·rw [getD_set_ne true e] at hj; exact hj)
  have := hsub.2 ⟨i, List.mem_range.2 hlt, by rw [h1]; rfl, by simp [Array.getD_eq_getD_getElem?, hls]⟩
  unfold left at hf ⊢
  omega
theorem region_inv {id : Nat} {a : Act} {w : World} (hm : P.follows .mixedOrders = true) (J : Array Bool → Act → World → Prop)
  (h0 : J (Array.replicate ops.size false) a { w with drawn := w.drawn + 1 })
  (hstep : ∀ i listed a w, i ∈ Region.ready .any ops listed → J listed a w → wpOp P ops Q i (J (listed.setIfInBounds i true)) a w)
  (hend : ∀ listed a w, J listed a w → Region.ready .any ops listed = [] → Q .normal a w) : (Code.region id ops true).wp P Q a w :=
 wp_region_any hm (wpAny_inv J hstep hend _ _ _ _ h0 (Nat.le_trans (List.length_filter_le _ _) (by simp)))
theorem all_listed {md : Region.Mode} {listed : Array Bool} (h : Region.ready md ops listed = []) (hs : listed.size = ops.size) (hb : (List.range ops.size).all (fun i => ((ops[i]?).map fun o => o.after.all fun e => !Region.binds md e || decide (e.on < i)).getD true) = true) :
  ∀ i, i < ops.size → listed.getD i false = true := by
 intro i
 induction i using Nat.strongRecOn with
 | _ i ih =>
  intro hi
  have ho : ops[i]? = some ops[i] := Array.getElem?_eq_getElem hi
  cases hl : listed.getD i false with
  | true => rfl
  | false =>
   exfalso
   have hmem : i ∈ Region.ready md ops listed := by
    rw [mem_ready]
    refine ⟨?_, _, ho, fun e he hbd => ?_⟩
    ·rw [Array.getD_eq_getD_getElem?] at hl ⊢
     rw [Array.getElem?_eq_getElem (by omega)] at hl ⊢
     exact hl
    ·have h1 := List.all_eq_true.1 hb i (List.mem_range.2 hi)
     rw [ho] at h1
     simp only [Option.map_some, Option.getD_some, Array.all_eq_true_iff_forall_mem, Bool.or_eq_true, decide_eq_true_eq] at h1
     have h2 := (h1 e he).resolve_left (by simp [hbd])
     exact ih e.on h2 (by omega)
   rw [h] at hmem
   cases hmem
end
structure Frm (S : List Nat) (a0 a : Act) : Prop where
 defers : a.defers = a0.defers
 size : a.tmps.size = a0.tmps.size
 same : ∀ k, k ∉ S → a.tmps[k]? = a0.tmps[k]?
theorem Frm.refl (S : List Nat) (a : Act) : Frm S a a := ⟨rfl, rfl, fun _ _ => rfl⟩
theorem Frm.put {S : List Nat} {a0 a : Act} (h : Frm S a0 a) {d : Nat} (hd : d ∈ S) (v : Value) : Frm S a0 (a.put (some d) v) := by
 refine ⟨h.defers, by simpa [Act.put] using h.size, fun k hk => ?_⟩
 have hne : d ≠ k := fun e => hk (e ▸ hd)
 show (a.tmps.setIfInBounds d v)[k]? = _
 rw [Array.getElem?_setIfInBounds, if_neg hne]
 exact h.same k hk
theorem put_at (a : Act) (d : Nat) (v : Value) (h : d < a.tmps.size) : (a.put (some d) v).tmps.getD d undef = v := by
 show (a.tmps.setIfInBounds d v).getD d undef = v
 rw [Array.getD_eq_getD_getElem?, Array.getElem?_setIfInBounds, if_pos rfl, if_pos h]
 rfl
theorem put_ne (a : Act) (d k : Nat) (v : Value) (h : d ≠ k) : (a.put (some d) v).tmps.getD k undef = a.tmps.getD k undef := by
 show (a.tmps.setIfInBounds d v).getD k undef = _
 rw [Array.getD_eq_getD_getElem?, Array.getElem?_setIfInBounds, if_neg h, Array.getD_eq_getD_getElem?]
theorem Frm.slot {S : List Nat} {a0 a : Act} (h : Frm S a0 a) {k : Nat} (hk : k ∉ S) : a.tmps.getD k undef = a0.tmps.getD k undef := by
 rw [Array.getD_eq_getD_getElem?, Array.getD_eq_getD_getElem?, h.same k hk]
theorem foldl_get (f : Nat → Value) : ∀ (S : List Nat) (t : Array Value) (k : Nat), (S.foldl (fun t d => t.setIfInBounds d (f d)) t)[k]? = if k ∈ S then (if k < t.size then some (f k) else none) else t[k]?
 | [], t, k => by simp
 | d :: S, t, k => by
  rw [List.foldl_cons, foldl_get f S]
  rw [Array.size_setIfInBounds, Array.getElem?_setIfInBounds]
  by_cases h1 : k ∈ S
  ·simp [h1]
  ·by_cases h2 : d = k
   ·subst h2; simp [h1]
   ·have h3 : k ≠ d := fun e => h2 e.symm
    simp [h1, h2, h3]
theorem Frm.meet {S : List Nat} {a0 a : Act} (h : Frm S a0 a) : a = ⟨S.foldl (fun t d => t.setIfInBounds d (a.tmps.getD d undef)) a0.tmps, a0.defers⟩ := by
 obtain ⟨tmps, defers⟩ := a
 obtain ⟨h1, h2, h3⟩ := h
 have e1 : defers = a0.defers := h1
 subst e1
 congr 1
 apply Array.ext_getElem?
 intro k
 rw [foldl_get]
 by_cases hk : k ∈ S
 ·rw [if_pos hk]
  by_cases hs : k < a0.tmps.size
  ·rw [if_pos hs, Array.getD_eq_getD_getElem?]
   have : k < tmps.size := by have : tmps.size = a0.tmps.size := h2; omega
   rw [Array.getElem?_eq_getElem this]
   rfl
  ·rw [if_neg hs, Array.getElem?_eq_none]
   have : tmps.size = a0.tmps.size := h2
   omega
 ·rw [if_neg hk]
  exact h3 k hk
end Go.Proofs.YtdhekhlmdefcnaaGreatDoor
