/- Part 14 of the proof: Args, SigIn. -/
import Derived.Test.YtdhekhlmdefcnabGreatDoorPart5
import Derived.Test.YtdhekhlmdefcnabGreatDoorPart13
import Derived.Test.YtdhekhlmdefcnabGreatDoorRows
import Derived.ProofKit
import Derived.LaidMore
import Derived.LaidHandle
import Derived.OpenShut
import Derived.Deep.Slices
import Derived.Deep.Fields
import Derived.ChangeOld
import Derived.Stop.Joined
import Derived.Stop.LaidErr
import Derived.Lib.LaidTab
namespace Go.Proofs.YtdhekhlmdefcnabGreatDoor
open Go.ChangeShapes Go.WideShapes Go.ChangeAt Go.RowKit Go.Deep
theorem own : ownKnob Tryz.prog.godebug = none := by kernel_rfl
theorem laidOut : laidOutB Tryz.prog = true := by kernel_rfl
section
variable {H : Type} {enc : TypeId × Value → H} {w : World}
end
end Go.Proofs.YtdhekhlmdefcnabGreatDoor
namespace Go.Proofs.YtdhekhlmdefcnabGreatDoor
open Go.ChangeShapes Go.WideShapes Go.ChangeAt Go.RowKit Go.Deep
theorem Fit.join : ∀ {a b : List (Option IntKind)} {cs : List Value}, Fit a (cs.take a.length) → Fit b (cs.drop a.length) → Fit (a ++ b) cs
 | [], _, _, _, h => h
 | _ :: _, _, [], h, _ => h.elim
 | _ :: _, _, _ :: _, h1, h2 => ⟨h1.1, Fit.join h1.2 h2⟩
theorem sigF_fit (sg : TypeId → Option (List (Option IntKind))) (cells : TypeId → Nat) (all : List Value) :
  ∀ (fs : List Field) (o : Nat) (s : List (Option IntKind)), sigF sg cells fs o = some s → (∀ f ∈ fs, ∀ a, sg f.type = some a → Fit a ((all.drop f.offset).take (cells f.type))) → all.length = o + s.length → Fit s (all.drop o)
 | [], o, s, h, _, hl => by
  simp only [sigF, Option.some.injEq] at h
  subst h
  rw [List.drop_of_length_le (by simp at hl; omega)]
  trivial
 | f :: fs, o, s, h, hf, hl => by
  simp only [sigF] at h
  cases ha : sg f.type with
  | none => rw [ha] at h; cases h
  | some a =>
   rw [ha] at h
   simp only at h
   split at h
   ·rename_i hc
    obtain ⟨h1, _, h3⟩ := hc
    obtain ⟨b, hb, rfl⟩ := Option.map_eq_some_iff.1 h
    refine Fit.join ?_ ?_
    ·have := hf f (List.mem_cons_self ..) a ha
     rw [h1, ← h3] at this
     exact this
    ·rw [List.drop_drop]
     exact sigF_fit sg cells all fs (o + a.length) b hb (fun g hg => hf g (List.mem_cons_of_mem _ hg)) (by rw [hl, List.length_append]; omega)
   ·cases h
theorem arr_fit (s : List (Option IntKind)) (c : Nat) (hc : s.length = c) (all : List Value) : ∀ (n o : Nat), (∀ i, o ≤ i → i < o + n → Fit s ((all.drop (i * c)).take c)) → all.length = o * c + n * c → Fit (List.replicate n s).flatten (all.drop (o * c))
 | 0, o, _, hl => by
  rw [List.drop_of_length_le (by omega)]
  trivial
 | n + 1, o, h, hl => by
  rw [List.replicate_succ, List.flatten_cons]
  refine Fit.join ?_ ?_
  ·rw [hc]; exact h o (Nat.le_refl _) (by omega)
  ·rw [List.drop_drop, hc, ← Nat.succ_mul]
   exact arr_fit s c hc all n (o + 1) (fun i h1 h2 => h i (by omega) (by omega)) (by rw [hl, Nat.succ_mul, Nat.succ_mul]; omega)
section
variable {H : Type} {enc : TypeId × Value → H} {P : Program} {w : World} {base : Nat} {sp : Nat → Bool} {held : Bool}
theorem sig_trod : ∀ (m : Nat) (t : TypeId) (s : List (Option IntKind)) (cs : List Value) (fuel : Nat) (x : DataW H × List MemPlace), sig P m t = some s → DataW.trod enc P w base sp held fuel t cs = some x → Fit s cs
 | 0, _, _, _, _, _, h, _ => by cases h
 | m + 1, t, s, cs, fuel, x, h, hx => by
  unfold sig at h
  split at h
  ·rename_i hu
   simp only [Option.some.injEq] at h
   subst h
   obtain ⟨b, rfl, _⟩ := DataW.trod_bool hu hx
   exact ⟨trivial, trivial⟩
  ·rename_i k hu
   simp only [Option.some.injEq] at h
   subst h
   obtain ⟨n, rfl, _, hw⟩ := DataW.trod_int hu hx
   exact ⟨⟨rfl, hw⟩, trivial⟩
  ·rename_i n e hu
   cases he : sig P m e with
   | none => rw [he] at h; cases h
   | some se =>
    rw [he] at h
    simp only at h
    split at h
    ·rename_i hc
     simp only [Option.some.injEq] at h
     subst h
     obtain ⟨xs, k, _, _, hl, hn, hi⟩ := DataW.trod_array hu hx
     have := arr_fit se (P.cellsOf e) hc.1 cs n 0 (fun i _ h2 => by
      have h3 := hi i (by omega)
      rw [List.getElem?_eq_getElem (by omega)] at h3
      exact sig_trod m e se _ k _ he h3) (by rw [hl, hc.2, hc.1]; omega)
     simpa using this
    ·cases h
  ·rename_i fs hu
   cases he : sigF (sig P m) P.cellsOf fs.toList 0 with
   | none => rw [he] at h; cases h
   | some se =>
    rw [he] at h
    simp only at h
    split at h
    ·rename_i hc
     simp only [Option.some.injEq] at h
     subst h
     obtain ⟨xs, k, _, _, hl, hn, hi⟩ := DataW.trod_struct hu hx
     have := sigF_fit (sig P m) P.cellsOf cs fs.toList 0 se he (fun f hf a ha => by
      obtain ⟨i, hi', hfi⟩ := List.getElem_of_mem hf
      have hfs : fs[i]? = some f := by
       rw [Array.getElem?_eq_getElem (by simpa using hi')]
       simpa using hfi
      have h3 := hi i f hfs
      rw [List.getElem?_eq_getElem (by simp at hi'; omega)] at h3
      exact sig_trod m f.type a _ k _ ha h3) (by rw [hl, hc.1]; omega)
     simpa using this
    ·cases h
  ·cases h
end
theorem ints_of_fit : ∀ (n : Nat) (cs : List Value), Fit (List.replicate n (some .i64)) cs → ∃ l : List Int, cs = ints l ∧ l.length = n ∧ ∀ x ∈ l, -9223372036854775808 ≤ x ∧ x ≤ 9223372036854775807
 | 0, [], _ => ⟨[], rfl, rfl, fun x h => by cases h⟩
 | 0, _ :: _, h => h.elim
 | n + 1, [], h => h.elim
 | n + 1, v :: cs, h => by
  obtain ⟨h1, h2⟩ := h
  obtain ⟨l, rfl, hl, hr⟩ := ints_of_fit n cs h2
  cases v with
  | int k x =>
   obtain ⟨rfl, hw⟩ := h1
   refine ⟨x :: l, rfl, by simp [hl], fun y hy => ?_⟩
   rcases List.mem_cons.1 hy with rfl | hy
   ·have e1 : IntKind.i64.min = -9223372036854775808 := by decide
    have e2 : IntKind.i64.max = 9223372036854775807 := by decide
    unfold Lit.wf at hw
    simp at hw
    omega
   ·exact hr y hy
  | _ => exact h1.elim
end Go.Proofs.YtdhekhlmdefcnabGreatDoor
