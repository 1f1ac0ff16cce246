/- Part 16 of the proof: Turn. -/
import Derived.Test.YtdhekhlmdefcnaaGreatDoorPart15
import Derived.Maps.AppendAt
import Derived.Laws.AppendOwnNone
import Derived.Lib.Hide
namespace Go.Proofs.YtdhekhlmdefcnaaGreatDoor
open Go.RowKit
structure Turned (F : Nat → Prop) (w w' : World) : Prop where
 os : w'.os = w.os
 tape : w'.tape = w.tape
 output : w'.output = w.output
 size : w.heap.size ≤ w'.heap.size
 block : ∀ k, k < w.heap.size → ¬ F k → w'.heap[k]? = w.heap[k]?
section
variable {F F' : Nat → Prop} {a w w' : World}
theorem Turned.refl (F : Nat → Prop) (w : World) : Turned F w w := ⟨rfl, rfl, rfl, Nat.le_refl _, fun _ _ _ => rfl⟩
theorem Turned.trans (h : Turned F a w) (h' : Turned F' w w') (hF : ∀ k, k < a.heap.size → F' k → F k) : Turned F a w' :=
  ⟨h'.os.trans h.os, h'.tape.trans h.tape, h'.output.trans h.output, Nat.le_trans h.size h'.size,
   fun k hk hn => (h'.block k (Nat.lt_of_lt_of_le hk h.size) (fun hf => hn (hF k hk hf))).trans (h.block k hk hn)⟩
theorem Turned.of_below (h : Below w.heap.size w w') (F : Nat → Prop) : Turned F w w' := ⟨h.os, h.tape, h.output, h.size, fun k hk _ => h.block k hk⟩
theorem Turned.setCell (h : Turned F a w) (p : Addr) (v : Value) (hp : F p.block ∨ a.heap.size ≤ p.block) : Turned F a (w.setCell p v) :=
 ⟨h.os, h.tape, h.output, by simpa [World.setCell] using h.size, fun k hk hn => (Below.heap_setCell w p v k (by rintro rfl; rcases hp with hp | hp; exact hn hp; omega)).trans (h.block k hk hn)⟩
theorem Turned.below {B : Nat} (h : Turned F w w') (hB : ∀ k, F k → B ≤ k) (hw : B ≤ w.heap.size) : Below B w w' :=
 ⟨h.os, h.tape, h.output, h.size, fun k hk => h.block k (by omega) (fun hf => by have := hB k hf; omega)⟩
theorem Has.turned {g : Nat} {t : TypeId} {cs : Array Value} (h : Has w g t cs) (ht : Turned F w w') (hn : ¬ F g) : Has w' g t cs := (ht.block g h.lt hn).trans h
theorem own_turned {base : Nat} {e : TypeId} {size n : Nat} {v : Value} {xs : List Value} (h : w.ownsRow base e size v n xs) (ht : Turned F w w') (hn : ∀ q, v.ownBlock = some q → ¬ F q) : w'.ownsRow base e size v n xs :=
 own_keep h fun g _ he hh => ht.block g hh.lt (hn g he)
end
theorem Has.ne {w : World} {g g' : Nat} {t t' : TypeId} {cs cs' : Array Value} (h : Has w g t cs) (h' : Has w g' t' cs') (hne : t ≠ t') : g ≠ g' := by
 rintro rfl
 unfold Has at h h'
 rw [h] at h'
 injection h' with h'
 injection h' with _ ht
 exact hne ht
section
variable {P : Program} {w : World}
end
section
variable {P : Program} {w : World}
theorem wpList_append_read {ops : Array Oper} {rest : List Oper} {o : Oper} {a : Act} {Q : Exit → Act → World → Prop} (hgd : o.guard = none) (s x : Operand) (t : TypeId)
  (ho : o.op = .call { callee := .builtin .append, args := #[s, x], argTypes := #[t, t] })
  (base : Nat) (e : TypeId) (i : TypeInfo) (z : Value) (size bytes : Nat) (ht : P.underlying t = some (.slice e)) (hi : P.info? e = some i) (hz : i.zero = some z)
  (hsize : i.size = size) (hby : i.bytes = bytes) (hzs : z.cells.size = size) (hsz : 0 < size)
  (v : Value) (n : Nat) (xs : List Value) (hs : a.eval s = v) (hown : w.ownsRow base e size v n xs)
  (B : Nat) (A : Option Addr) (m c : Nat) (news : List Value) (hx : a.eval x = .slice A m c) (hA : A = none → m = 0 ∧ c = 0) (hl : news.length = m * size) (hr : Reads w B A news) (h1 : ∀ u ∈ news, u.oneCell' = true)
  (h63 : n + m ≤ maxLen) (hbytes : (n + m) * bytes ≤ 140737488355328) (hbase : base ≤ w.heap.size)
  (h : ∀ v' w', w'.ownsRow base e size v' (n + m) (xs ++ news) → w.grownBy w' v.ownBlock → wpList P ops Q rest (a.put o.dst v') w') : wpList P ops Q (o :: rest) a w := by
 cases A with
 | none =>
  obtain ⟨rfl, rfl⟩ := hA rfl
  have hn : news = [] := List.eq_nil_of_length_eq_zero (by omega)
  subst hn
  rw [List.append_nil] at h
  exact wpList_append_own_none hgd s x t ho base e i size ht hi v n xs hs hown hx (h v w hown (World.grownBy.refl w _))
 | some ad =>
  refine wpList_append_own w hgd s x t ho base e i z size bytes ht hi hz hsize hby hzs hsz v n xs hs hown ad m c news hx hl (fun j u hu => ?_) h1 h63 hbytes hbase fun v' w' h2 h3 _ => h v' w' h2 h3
  obtain ⟨b, o', e', _, hc⟩ := hr (by rintro rfl; simp at hu)
  cases e'
  rw [add_at]
  exact hc j u hu
end
theorem own_read {w : World} {base : Nat} {e : TypeId} {size n : Nat} {v : Value} {xs : List Value} (h : w.ownsRow base e size v n xs) :
  ∃ A c, v = .slice A n c ∧ n ≤ c ∧ xs.length = n * size ∧ (A = none → n = 0 ∧ c = 0) ∧ Reads w w.heap.size A xs := by
 obtain ⟨h1, h2⟩ := h
 rcases h2 with ⟨hv, hn⟩ | ⟨g, cap, cur, hv, hg, hh, hnc, _, _, ht⟩
 ·exact ⟨none, 0, by rw [hv, hn], by omega, h1, fun _ => ⟨hn, rfl⟩, fun hx => absurd (List.eq_nil_of_length_eq_zero (by rw [h1, hn]; omega)) hx⟩
 ·refine ⟨some ⟨g, 0, none⟩, cap, hv, hnc, h1, (fun h => by cases h), fun _ => ⟨g, 0, rfl, (Array.getElem?_eq_some_iff.1 hh).1, fun j u hu => ?_⟩⟩
  have hc : Has w g e cur := hh
  rw [Nat.zero_add, hc.cell]
  rw [← ht, List.getElem?_take] at hu
  split at hu
  ·simpa using hu
  ·cases hu
end Go.Proofs.YtdhekhlmdefcnaaGreatDoor
