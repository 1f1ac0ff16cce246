/- The walk over frame.numbers. -/
import Derived.Test.YtdhekhlmdefcnaaDoorFrameSpec
import Derived.Lib.Hide
import Derived.RegionTactic
import Derived.BigRegion
import Derived.LoopTactic
import Derived.StillTailTactics
import Derived.Deep.QuietTactic
import Derived.BigQuiet
import Derived.Outline
import Derived.Deep.DeepFit
import Derived.Deep.DeepCutAuto
import Derived.Deep.RegionLaw
namespace Go.Proofs.YtdhekhlmdefcnaaDoor
open Go.RowKit
theorem infoPint : (Tryd.prog.info? 146).map (fun i => (i.zero, i.size, i.bytes)) = some (some (.pointer none), 1, 8) := by kernel_rfl
theorem own_new {w : World} {base : Nat} {e : TypeId} (cs : Array Value) (n : Nat) (hb : base ≤ w.heap.size) (hn : cs.size = n) (hm : n ≤ maxLen) :
    (w.alloc (.cells cs e)).ownsRow base e 1 (.slice (some ⟨w.heap.size, 0, none⟩) n n) n cs.toList :=
  ⟨by simp [hn], .inr ⟨w.heap.size, n, cs, rfl, hb, heap_alloc_new w _, Nat.le_refl _, hm, by omega, by rw [List.take_of_length_le (by simp; omega)]⟩⟩
set_option maxHeartbeats 2000000 in
set_option maxRecDepth 100000 in
theorem numbers_few (b : Nat) (cs : Array Value) (k : Int) (w : World) (hh : Hid (Has w b 40 cs)) (hk : w.cell? ⟨b, 0, none⟩ = some (I k)) (h1 : (k == 1) = false) (h2 : (k == 2) = false) (h3 : (k == 3) = false) (h5 : (k == 5) = false) :
    Calls Tryd.prog 75 #[.pointer (some ⟨b, 0, none⟩)] w fun e w' => e = .returned (.slice (some ⟨w.heap.size, 0, none⟩) 3 3) ∧ (w.alloc (.cells #[.pointer (some ⟨b, 0, none⟩), .pointer (some ⟨b, 1, none⟩), .pointer (some ⟨b, 2, none⟩)] 146)).drew = w' := by
  have hb : b < w.heap.size := hh.out.lt
  go_enter Tryd.func75, Tryd.ntmps75
  go_wp2
  go_region
  go_wp2
  go_ret
  exact ⟨rfl, rfl⟩

section
variable {P : Program} {w : World}
theorem step_append_own {ops : Array Oper} {o : Oper} {a : Act} {K : Act → World → Prop} {Q : Exit → Act → World → Prop} {E : Prop} (hgd : o.guard = none) (s x : Operand) (t : TypeId)
    (ho : o.op = .call { callee := .builtin .append, args := #[s, x], argTypes := #[t, t] })
    (base : Nat) (e : TypeId) (i : TypeInfo) (z : Value) (size bytes : Nat) (ht : P.underlying t = some (.slice e)) (hi : P.info? e = some i) (hz : i.zero = some z)
    (hsize : i.size = size) (hby : i.bytes = bytes) (hzs : z.cells.size = size) (hsz : 0 < size)
    (v : Value) (n : Nat) (xs : List Value) (hs : a.eval s = v) (hown : w.ownsRow base e size v n xs)
    (ad : Addr) (m c : Nat) (news : List Value) (hx : a.eval x = .slice (some ad) m c) (hl : news.length = m * size) (hnews : ∀ j u, news[j]? = some u → w.cell? (ad.add j) = some u) (h1 : ∀ u ∈ news, u.oneCell' = true)
    (h63 : n + m ≤ maxLen) (hbytes : (n + m) * bytes ≤ 140737488355328) (hbase : base ≤ w.heap.size)
    (h : ∀ v' w', w'.ownsRow base e size v' (n + m) (xs ++ news) → w.grownBy w' v.ownBlock → K (a.put o.dst v') w') : if Region.wanted o (yielded ops a.tmps) = true then Oper.wp P o a w K Q else E := by
  rw [if_pos (by simp [Region.wanted, hgd])]
  exact wp_append_own w s x t ho base e i z size bytes ht hi hz hsize hby hzs hsz v n xs hs hown ad m c news hx hl hnews h1 h63 hbytes hbase fun v' w' h2 h3 _ => h v' w' h2 h3
end
theorem cells_new (w : World) (cs : Array Value) (t : TypeId) : ∀ j u, cs.toList[j]? = some u → (w.alloc (.cells cs t)).cell? ((⟨w.heap.size, 0, none⟩ : Addr).add j) = some u := fun j u h => by
  rw [add_at, (Has.new w t cs).cell]
  simpa using h
set_option maxHeartbeats 2000000 in
set_option maxRecDepth 100000 in
theorem numbers_one (b : Nat) (cs : Array Value) (w : World) (hh : Hid (Has w b 40 cs)) (hk : w.cell? ⟨b, 0, none⟩ = some (I 1)) :
    Calls Tryd.prog 75 #[.pointer (some ⟨b, 0, none⟩)] w fun e w' => (∃ A c, e = .returned (.slice A 5 c) ∧ w'.ownsRow w.heap.size 146 1 (.slice A 5 c) 5 (ptrs b [0, 1, 2, 3, 4])) ∧ Below w.heap.size w w' := by
  obtain ⟨i0, hi0, hz0, hz1, hz2⟩ := info_parts infoPint
  have hb : b < w.heap.size := hh.out.lt
  go_enter Tryd.func75, Tryd.ntmps75
  go_wp2
  go_region
  go_wp2
  have H1 := Lib.hid (own_new (w := w) (base := w.heap.size) (e := 146) #[.pointer (some ⟨b, 0, none⟩), .pointer (some ⟨b, 1, none⟩), .pointer (some ⟨b, 2, none⟩)] 3 (Nat.le_refl _) rfl (by decide))
  have hb1 : Below w.heap.size w (w.alloc (.cells #[.pointer (some ⟨b, 0, none⟩), .pointer (some ⟨b, 1, none⟩), .pointer (some ⟨b, 2, none⟩)] 146)) := (Below.refl _ _).alloc (Nat.le_refl _) _
  have hk1 : (w.alloc (.cells #[.pointer (some ⟨b, 0, none⟩), .pointer (some ⟨b, 1, none⟩), .pointer (some ⟨b, 2, none⟩)] 146)).cell? ⟨b, 0, none⟩ = some (I 1) := (World.cell?_alloc_lt _ _ ⟨b, 0, none⟩ hb).trans hk
  have hs1 : w.heap.size ≤ (w.alloc (.cells #[.pointer (some ⟨b, 0, none⟩), .pointer (some ⟨b, 1, none⟩), .pointer (some ⟨b, 2, none⟩)] 146)).heap.size := hb1.size
  have hbl : b < (w.alloc (.cells #[.pointer (some ⟨b, 0, none⟩), .pointer (some ⟨b, 1, none⟩), .pointer (some ⟨b, 2, none⟩)] 146)).heap.size := Nat.lt_of_lt_of_le hb hs1
  generalize w.alloc (.cells #[.pointer (some ⟨b, 0, none⟩), .pointer (some ⟨b, 1, none⟩), .pointer (some ⟨b, 2, none⟩)] 146) = w1 at *
  go_region_law ((refine step_append_own rfl _ _ 143 rfl w.heap.size 146 i0 (.pointer none) 1 8 Tryd.underlying143 hi0 hz0 hz1 hz2 rfl (by decide) _ 3 _ rfl (World.ownsRow.alloc H1.out _) _ 2 2 _ rfl rfl (cells_new _ _ _) (by intro u hu; simp at hu; rcases hu with rfl | rfl <;> rfl) (by decide) (by decide) (by simp <;> omega) ?_; intro v2 w2 hown2 hgrow2))
  have hb2 : Below w.heap.size w w2 := ((hb1.alloc hs1 _).drew.drew).grown hgrow2 (by simp <;> omega) (fun q hq => by have := (H1.out.lt q hq).1; omega)
  have hk2 := (hb2.cell (p := ⟨b, 0, none⟩) hb).trans hk
  have hl2 : b < w2.heap.size := Nat.lt_of_lt_of_le hb hb2.size
  have HO2 := Lib.hid hown2
  clear hown2 hgrow2 hk1 hs1 hbl
  clear H1 hb1
  go_wp2
  go_ret
  obtain ⟨A, c, rfl, -⟩ := own_reads HO2.out
  exact ⟨⟨A, c, rfl, HO2.out⟩, hb2⟩
set_option maxHeartbeats 2000000 in
set_option maxRecDepth 100000 in
theorem numbers_two (b : Nat) (cs : Array Value) (w : World) (hh : Hid (Has w b 40 cs)) (hk : w.cell? ⟨b, 0, none⟩ = some (I 2)) :
    Calls Tryd.prog 75 #[.pointer (some ⟨b, 0, none⟩)] w fun e w' => (∃ A c, e = .returned (.slice A 6 c) ∧ w'.ownsRow w.heap.size 146 1 (.slice A 6 c) 6 (ptrs b [0, 1, 2, 3, 4, 5])) ∧ Below w.heap.size w w' := by
  obtain ⟨i0, hi0, hz0, hz1, hz2⟩ := info_parts infoPint
  have hb : b < w.heap.size := hh.out.lt
  go_enter Tryd.func75, Tryd.ntmps75
  go_wp2
  go_region
  go_wp2
  have H1 := Lib.hid (own_new (w := w) (base := w.heap.size) (e := 146) #[.pointer (some ⟨b, 0, none⟩), .pointer (some ⟨b, 1, none⟩), .pointer (some ⟨b, 2, none⟩)] 3 (Nat.le_refl _) rfl (by decide))
  have hb1 : Below w.heap.size w (w.alloc (.cells #[.pointer (some ⟨b, 0, none⟩), .pointer (some ⟨b, 1, none⟩), .pointer (some ⟨b, 2, none⟩)] 146)) := (Below.refl _ _).alloc (Nat.le_refl _) _
  have hk1 : (w.alloc (.cells #[.pointer (some ⟨b, 0, none⟩), .pointer (some ⟨b, 1, none⟩), .pointer (some ⟨b, 2, none⟩)] 146)).cell? ⟨b, 0, none⟩ = some (I 2) := (World.cell?_alloc_lt _ _ ⟨b, 0, none⟩ hb).trans hk
  have hs1 : w.heap.size ≤ (w.alloc (.cells #[.pointer (some ⟨b, 0, none⟩), .pointer (some ⟨b, 1, none⟩), .pointer (some ⟨b, 2, none⟩)] 146)).heap.size := hb1.size
  have hbl : b < (w.alloc (.cells #[.pointer (some ⟨b, 0, none⟩), .pointer (some ⟨b, 1, none⟩), .pointer (some ⟨b, 2, none⟩)] 146)).heap.size := Nat.lt_of_lt_of_le hb hs1
  generalize w.alloc (.cells #[.pointer (some ⟨b, 0, none⟩), .pointer (some ⟨b, 1, none⟩), .pointer (some ⟨b, 2, none⟩)] 146) = w1 at *
  go_region_law ((refine step_append_own rfl _ _ 143 rfl w.heap.size 146 i0 (.pointer none) 1 8 Tryd.underlying143 hi0 hz0 hz1 hz2 rfl (by decide) _ 3 _ rfl (World.ownsRow.alloc H1.out _) _ 2 2 _ rfl rfl (cells_new _ _ _) (by intro u hu; simp at hu; rcases hu with rfl | rfl <;> rfl) (by decide) (by decide) (by simp <;> omega) ?_; intro v2 w2 hown2 hgrow2))
  have hb2 : Below w.heap.size w w2 := ((hb1.alloc hs1 _).drew.drew).grown hgrow2 (by simp <;> omega) (fun q hq => by have := (H1.out.lt q hq).1; omega)
  have hk2 := (hb2.cell (p := ⟨b, 0, none⟩) hb).trans hk
  have hl2 : b < w2.heap.size := Nat.lt_of_lt_of_le hb hb2.size
  have HO2 := Lib.hid hown2
  clear hown2 hgrow2 hk1 hs1 hbl
  clear H1 hb1
  go_wp2_with (at_builtin; refine wpList_append_own _ rfl _ _ 143 rfl w.heap.size 146 i0 (.pointer none) 1 8 Tryd.underlying143 hi0 hz0 hz1 hz2 rfl (by decide) _ _ _ rfl (World.ownsRow.alloc HO2.out _) ⟨w2.heap.size, 0, none⟩ 1 1 [.pointer (some ⟨b, 5, none⟩)] rfl rfl ?c1 ?c2 ?c3 ?c4 ?c5 ?_)
  case c2 => rfl
  case c3 => decide
  case c5 => have := hb2.size; simp <;> omega
  intro v3 w3 hown3 hgrow3 _
  have hb3 : Below w.heap.size w w3 := (hb2.alloc hb2.size _).grown hgrow3 (by have := hb2.size; simp <;> omega) (fun q hq => (HO2.out.lt q hq).1)
  have hk3 := (hb3.cell (p := ⟨b, 0, none⟩) hb).trans hk
  have HO3 := Lib.hid hown3
  clear hown3 hgrow3 hk2 hl2 HO2 hb2
  go_wp2
  go_ret
  obtain ⟨A, c, rfl, -⟩ := own_reads HO3.out
  exact ⟨⟨A, c, rfl, HO3.out⟩, hb3⟩
set_option maxHeartbeats 2000000 in
set_option maxRecDepth 100000 in
theorem numbers_three (b : Nat) (cs : Array Value) (w : World) (hh : Hid (Has w b 40 cs)) (hk : w.cell? ⟨b, 0, none⟩ = some (I 3)) :
    Calls Tryd.prog 75 #[.pointer (some ⟨b, 0, none⟩)] w fun e w' => (∃ A c, e = .returned (.slice A 6 c) ∧ w'.ownsRow w.heap.size 146 1 (.slice A 6 c) 6 (ptrs b [0, 1, 2, 3, 4, 5])) ∧ Below w.heap.size w w' := by
  obtain ⟨i0, hi0, hz0, hz1, hz2⟩ := info_parts infoPint
  have hb : b < w.heap.size := hh.out.lt
  go_enter Tryd.func75, Tryd.ntmps75
  go_wp2
  go_region
  go_wp2
  have H1 := Lib.hid (own_new (w := w) (base := w.heap.size) (e := 146) #[.pointer (some ⟨b, 0, none⟩), .pointer (some ⟨b, 1, none⟩), .pointer (some ⟨b, 2, none⟩)] 3 (Nat.le_refl _) rfl (by decide))
  have hb1 : Below w.heap.size w (w.alloc (.cells #[.pointer (some ⟨b, 0, none⟩), .pointer (some ⟨b, 1, none⟩), .pointer (some ⟨b, 2, none⟩)] 146)) := (Below.refl _ _).alloc (Nat.le_refl _) _
  have hk1 : (w.alloc (.cells #[.pointer (some ⟨b, 0, none⟩), .pointer (some ⟨b, 1, none⟩), .pointer (some ⟨b, 2, none⟩)] 146)).cell? ⟨b, 0, none⟩ = some (I 3) := (World.cell?_alloc_lt _ _ ⟨b, 0, none⟩ hb).trans hk
  have hs1 : w.heap.size ≤ (w.alloc (.cells #[.pointer (some ⟨b, 0, none⟩), .pointer (some ⟨b, 1, none⟩), .pointer (some ⟨b, 2, none⟩)] 146)).heap.size := hb1.size
  have hbl : b < (w.alloc (.cells #[.pointer (some ⟨b, 0, none⟩), .pointer (some ⟨b, 1, none⟩), .pointer (some ⟨b, 2, none⟩)] 146)).heap.size := Nat.lt_of_lt_of_le hb hs1
  generalize w.alloc (.cells #[.pointer (some ⟨b, 0, none⟩), .pointer (some ⟨b, 1, none⟩), .pointer (some ⟨b, 2, none⟩)] 146) = w1 at *
  go_region_law ((refine step_append_own rfl _ _ 143 rfl w.heap.size 146 i0 (.pointer none) 1 8 Tryd.underlying143 hi0 hz0 hz1 hz2 rfl (by decide) _ 3 _ rfl (World.ownsRow.alloc H1.out _) _ 2 2 _ rfl rfl (cells_new _ _ _) (by intro u hu; simp at hu; rcases hu with rfl | rfl <;> rfl) (by decide) (by decide) (by simp <;> omega) ?_; intro v2 w2 hown2 hgrow2))
  have hb2 : Below w.heap.size w w2 := ((hb1.alloc hs1 _).drew.drew).grown hgrow2 (by simp <;> omega) (fun q hq => by have := (H1.out.lt q hq).1; omega)
  have hk2 := (hb2.cell (p := ⟨b, 0, none⟩) hb).trans hk
  have hl2 : b < w2.heap.size := Nat.lt_of_lt_of_le hb hb2.size
  have HO2 := Lib.hid hown2
  clear hown2 hgrow2 hk1 hs1 hbl
  clear H1 hb1
  go_wp2_with (at_builtin; refine wpList_append_own _ rfl _ _ 143 rfl w.heap.size 146 i0 (.pointer none) 1 8 Tryd.underlying143 hi0 hz0 hz1 hz2 rfl (by decide) _ _ _ rfl (World.ownsRow.alloc HO2.out _) ⟨w2.heap.size, 0, none⟩ 1 1 [.pointer (some ⟨b, 5, none⟩)] rfl rfl ?c1 ?c2 ?c3 ?c4 ?c5 ?_)
  case c2 => rfl
  case c3 => decide
  case c5 => have := hb2.size; simp <;> omega
  intro v3 w3 hown3 hgrow3 _
  have hb3 : Below w.heap.size w w3 := (hb2.alloc hb2.size _).grown hgrow3 (by have := hb2.size; simp <;> omega) (fun q hq => (HO2.out.lt q hq).1)
  have hk3 := (hb3.cell (p := ⟨b, 0, none⟩) hb).trans hk
  have HO3 := Lib.hid hown3
  clear hown3 hgrow3 hk2 hl2 HO2 hb2
  go_wp2
  go_ret
  obtain ⟨A, c, rfl, -⟩ := own_reads HO3.out
  exact ⟨⟨A, c, rfl, HO3.out⟩, hb3⟩
theorem pairs_take (b j : Nat) (h : j < 8) : (ptrs b ([0, 1, 2, 6, 7, 15, 8, 16, 9, 17, 10, 18, 11, 19, 12, 20, 13, 21, 14, 22].take (4 + 2 * (j + 1)))) = ptrs b ([0, 1, 2, 6, 7, 15, 8, 16, 9, 17, 10, 18, 11, 19, 12, 20, 13, 21, 14, 22].take (4 + 2 * j)) ++ [.pointer (some ⟨b, 7 + j, none⟩), .pointer (some ⟨b, 15 + j, none⟩)] := by
  have : j = 0 ∨ j = 1 ∨ j = 2 ∨ j = 3 ∨ j = 4 ∨ j = 5 ∨ j = 6 ∨ j = 7 := by omega
  rcases this with rfl | rfl | rfl | rfl | rfl | rfl | rfl | rfl <;> rfl
set_option maxHeartbeats 2000000 in
set_option maxRecDepth 100000 in
theorem numbers_five (b : Nat) (cs : Array Value) (w : World) (hh : Hid (Has w b 40 cs)) (hk : w.cell? ⟨b, 0, none⟩ = some (I 5)) :
    Calls Tryd.prog 75 #[.pointer (some ⟨b, 0, none⟩)] w fun e w' => (∃ A c, e = .returned (.slice A 20 c) ∧ w'.ownsRow w.heap.size 146 1 (.slice A 20 c) 20 (ptrs b [0, 1, 2, 6, 7, 15, 8, 16, 9, 17, 10, 18, 11, 19, 12, 20, 13, 21, 14, 22])) ∧ Below w.heap.size w w' := by
  obtain ⟨i0, hi0, hz0, hz1, hz2⟩ := info_parts infoPint
  have hb : b < w.heap.size := hh.out.lt
  go_enter Tryd.func75, Tryd.ntmps75
  go_wp2
  go_region
  go_upto_region 7 with (fail)
  have H1 := Lib.hid (own_new (w := w) (base := w.heap.size) (e := 146) #[.pointer (some ⟨b, 0, none⟩), .pointer (some ⟨b, 1, none⟩), .pointer (some ⟨b, 2, none⟩)] 3 (Nat.le_refl _) rfl (by decide))
  have hb1 : Below w.heap.size w (w.alloc (.cells #[.pointer (some ⟨b, 0, none⟩), .pointer (some ⟨b, 1, none⟩), .pointer (some ⟨b, 2, none⟩)] 146)) := (Below.refl _ _).alloc (Nat.le_refl _) _
  have hk1 : (w.alloc (.cells #[.pointer (some ⟨b, 0, none⟩), .pointer (some ⟨b, 1, none⟩), .pointer (some ⟨b, 2, none⟩)] 146)).cell? ⟨b, 0, none⟩ = some (I 5) := (World.cell?_alloc_lt _ _ ⟨b, 0, none⟩ hb).trans hk
  have hs1 : w.heap.size ≤ (w.alloc (.cells #[.pointer (some ⟨b, 0, none⟩), .pointer (some ⟨b, 1, none⟩), .pointer (some ⟨b, 2, none⟩)] 146)).heap.size := hb1.size
  have hbl : b < (w.alloc (.cells #[.pointer (some ⟨b, 0, none⟩), .pointer (some ⟨b, 1, none⟩), .pointer (some ⟨b, 2, none⟩)] 146)).heap.size := Nat.lt_of_lt_of_le hb hs1
  generalize w.alloc (.cells #[.pointer (some ⟨b, 0, none⟩), .pointer (some ⟨b, 1, none⟩), .pointer (some ⟨b, 2, none⟩)] 146) = w1 at *
  go_wp2_with (at_builtin; refine wpList_append_own _ rfl _ _ 143 rfl w.heap.size 146 i0 (.pointer none) 1 8 Tryd.underlying143 hi0 hz0 hz1 hz2 rfl (by decide) _ _ _ rfl (World.ownsRow.alloc H1.out _) ⟨w1.heap.size, 0, none⟩ 1 1 [.pointer (some ⟨b, 6, none⟩)] rfl rfl ?c1 ?c2 ?c3 ?c4 ?c5 ?_)
  case c2 => rfl
  case c3 => decide
  case c5 => first | omega | (simp <;> omega)
  intro v3 w3 hown3 hgrow3 _
  have hb3 : Below w.heap.size w w3 := ((hb1.alloc hs1 _).drew).grown hgrow3 (by simp <;> omega) (fun q hq => by have := (H1.out.lt q hq).1; omega)
  have HO3 := Lib.hid hown3
  clear hown3 hgrow3 hk1 H1 hb1
  go_wp2_with fail
  go_loopw [3, 75] (fun v i wr => ∃ j : Nat, j ≤ 8 ∧ i = I j ∧ Hid (wr.ownsRow w.heap.size 146 1 v (4 + 2 * j) (ptrs b ([0, 1, 2, 6, 7, 15, 8, 16, 9, 17, 10, 18, 11, 19, 12, 20, 13, 21, 14, 22].take (4 + 2 * j)))) ∧ Below w.heap.size w wr) (fun _ i _ => 8 - (intOf i).toNat)
  case atStart => exact ⟨0, by omega, rfl, HO3, hb3⟩
  case round =>
    obtain ⟨j, hj, rfl, HO, hbr⟩ := hrel
    by_cases hlt : j < 8
    · have hsr := hbr.size
      have HP := Lib.hid (pairs_take b j hlt)
      go_wp2_with fail
      go_region_law ((refine step_append_own rfl _ _ 143 rfl w.heap.size 146 i0 (.pointer none) 1 8 Tryd.underlying143 hi0 hz0 hz1 hz2 rfl (by decide) _ (4 + 2 * j) _ rfl (World.ownsRow.alloc HO.out _) _ 2 2 _ rfl rfl (cells_new _ _ _) (by intro u hu; simp at hu; rcases hu with rfl | rfl <;> rfl) (by unfold maxLen; omega) (by omega) (by simp <;> omega) ?_; intro v2 w2 hown2 hgrow2))
      have hb2 : Below w.heap.size w w2 := ((hbr.alloc hsr _).drew).grown hgrow2 (by simp <;> omega) (fun q hq => (HO.out.lt q hq).1)
      have HO2 : Hid (w2.ownsRow w.heap.size 146 1 v2 (4 + 2 * (j + 1)) (ptrs b ([0, 1, 2, 6, 7, 15, 8, 16, 9, 17, 10, 18, 11, 19, 12, 20, 13, 21, 14, 22].take (4 + 2 * (j + 1))))) := Lib.hid (by rw [HP.out]; exact hown2)
      clear hown2 hgrow2 HO HP
      go_wp2_with fail
      go_roundw
      case rel => exact ⟨j + 1, by omega, by go_num, HO2, hb2⟩
      case measure => simp [intOf]; omega
    · have hj8 : j = 8 := by omega
      subst hj8
      go_wp2
      go_ret
      obtain ⟨A, c, rfl, -⟩ := own_reads HO.out
      exact ⟨⟨A, c, rfl, HO.out⟩, hbr⟩
theorem idx_cases (k : Int) : (k = 1 ∧ idx k = [0, 1, 2, 3, 4]) ∨ (k = 2 ∧ idx k = [0, 1, 2, 3, 4, 5]) ∨ (k = 3 ∧ idx k = [0, 1, 2, 3, 4, 5]) ∨ (k = 5 ∧ idx k = [0, 1, 2, 6, 7, 15, 8, 16, 9, 17, 10, 18, 11, 19, 12, 20, 13, 21, 14, 22]) ∨ (k ≠ 1 ∧ k ≠ 2 ∧ k ≠ 3 ∧ k ≠ 5 ∧ idx k = [0, 1, 2]) := by
  by_cases h1 : k = 1
  · exact .inl ⟨h1, by subst h1; rfl⟩
  by_cases h2 : k = 2
  · exact .inr (.inl ⟨h2, by subst h2; rfl⟩)
  by_cases h3 : k = 3
  · exact .inr (.inr (.inl ⟨h3, by subst h3; rfl⟩))
  by_cases h5 : k = 5
  · exact .inr (.inr (.inr (.inl ⟨h5, by subst h5; rfl⟩)))
  · exact .inr (.inr (.inr (.inr ⟨h1, h2, h3, h5, by unfold idx; rw [if_neg h1, if_neg (by omega), if_neg h5]⟩)))
/-- numbers: pointers to the numbers that the frame's kind has. -/
theorem numbers_ok (b : Nat) (cs : Array Value) (k : Int) (w : World) (hh : Has w b 40 cs) (hk : w.cell? ⟨b, 0, none⟩ = some (I k)) :
    Calls Tryd.prog 75 #[.pointer (some ⟨b, 0, none⟩)] w fun e w' => (∃ A c, e = .returned (.slice A (idx k).length c) ∧ w'.ownsRow w.heap.size 146 1 (.slice A (idx k).length c) (idx k).length (ptrs b (idx k))) ∧ Below w.heap.size w w' := by
  rcases idx_cases k with ⟨rfl, e⟩ | ⟨rfl, e⟩ | ⟨rfl, e⟩ | ⟨rfl, e⟩ | ⟨h1, h2, h3, h5, e⟩ <;> rw [e]
  · exact numbers_one b cs w hh hk
  · exact numbers_two b cs w hh hk
  · exact numbers_three b cs w hh hk
  · exact numbers_five b cs w hh hk
  · refine (numbers_few b cs k w hh hk (by simpa using h1) (by simpa using h2) (by simpa using h3) (by simpa using h5)).mono ?_
    rintro e w' ⟨rfl, rfl⟩
    exact ⟨⟨_, 3, rfl, (own_new (w := w) (base := w.heap.size) (e := 146) #[.pointer (some ⟨b, 0, none⟩), .pointer (some ⟨b, 1, none⟩), .pointer (some ⟨b, 2, none⟩)] 3 (Nat.le_refl _) rfl (by decide))⟩, ((Below.refl _ _).alloc (Nat.le_refl _) _).drew⟩
end Go.Proofs.YtdhekhlmdefcnaaDoor
