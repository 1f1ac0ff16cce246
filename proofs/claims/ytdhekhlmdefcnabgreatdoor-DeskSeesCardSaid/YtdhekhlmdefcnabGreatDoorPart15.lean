/- Part 15 of the proof: Numbers, FrRight, Sum, Encode, Equal, DecSpec. -/
import Derived.Test.YtdhekhlmdefcnabGreatDoorPart13
import Derived.Test.YtdhekhlmdefcnabGreatDoorPart2
import Derived.Test.YtdhekhlmdefcnabGreatDoorPart4
import Derived.Lib.Hide
import Derived.RegionTactic
import Derived.BigRegion
import Derived.LoopTactic
import Derived.StillTailTactics
import Derived.Deep.QuietTactic
import Derived.BigQuiet
import Derived.Outline
import Derived.Deep.DeepFit
import Derived.Deep.DeepCutAuto
import Derived.Deep.RegionLaw
namespace Go.Proofs.YtdhekhlmdefcnabGreatDoor
open Go.RowKit
theorem infoPint : (Tryz.prog.info? 166).map (fun i => (i.zero, i.size, i.bytes)) = some (some (.pointer none), 1, 8) := by kernel_rfl
theorem own_new {w : World} {base : Nat} {e : TypeId} (cs : Array Value) (n : Nat) (hb : base ≤ w.heap.size) (hn : cs.size = n) (hm : n ≤ maxLen) :
  (w.alloc (.cells cs e)).ownsRow base e 1 (.slice (some ⟨w.heap.size, 0, none⟩) n n) n cs.toList :=
 ⟨by simp [hn], .inr ⟨w.heap.size, n, cs, rfl, hb, heap_alloc_new w _, Nat.le_refl _, hm, by omega, by rw [List.take_of_length_le (by simp; omega)]⟩⟩
set_option maxHeartbeats 2000000 in
set_option maxRecDepth 100000 in
theorem numbers_few (b : Nat) (cs : Array Value) (k : Int) (w : World) (hh : Hid (Has w b 110 cs)) (hk : w.cell? ⟨b, 0, none⟩ = some (I k)) (h1 : (k == 1) = false) (h2 : (k == 2) = false) (h3 : (k == 3) = false) (h5 : (k == 5) = false) :
  Calls Tryz.prog 105 #[.pointer (some ⟨b, 0, none⟩)] w fun e w' => e = .returned (.slice (some ⟨w.heap.size, 0, none⟩) 3 3) ∧ (w.alloc (.cells #[.pointer (some ⟨b, 0, none⟩), .pointer (some ⟨b, 1, none⟩), .pointer (some ⟨b, 2, none⟩)] 166)).drew = w' := by
 have hb : b < w.heap.size := hh.out.lt
 go_enter Tryz.func105, Tryz.ntmps105
 go_wp2
 go_region
 go_wp2
 go_ret
 exact ⟨rfl, rfl⟩
section
variable {P : Program} {w : World}
theorem step_append_own {ops : Array Oper} {o : Oper} {a : Act} {K : Act → World → Prop} {Q : Exit → Act → World → Prop} {E : Prop} (hgd : o.guard = none) (s x : Operand) (t : TypeId)
  (ho : o.op = .call { callee := .builtin .append, args := #[s, x], argTypes := #[t, t] })
  (base : Nat) (e : TypeId) (i : TypeInfo) (z : Value) (size bytes : Nat) (ht : P.underlying t = some (.slice e)) (hi : P.info? e = some i) (hz : i.zero = some z)
  (hsize : i.size = size) (hby : i.bytes = bytes) (hzs : z.cells.size = size) (hsz : 0 < size)
  (v : Value) (n : Nat) (xs : List Value) (hs : a.eval s = v) (hown : w.ownsRow base e size v n xs)
  (ad : Addr) (m c : Nat) (news : List Value) (hx : a.eval x = .slice (some ad) m c) (hl : news.length = m * size) (hnews : ∀ j u, news[j]? = some u → w.cell? (ad.add j) = some u) (h1 : ∀ u ∈ news, u.oneCell' = true)
  (h63 : n + m ≤ maxLen) (hbytes : (n + m) * bytes ≤ 140737488355328) (hbase : base ≤ w.heap.size)
  (h : ∀ v' w', w'.ownsRow base e size v' (n + m) (xs ++ news) → w.grownBy w' v.ownBlock → K (a.put o.dst v') w') : if Region.wanted o (yielded ops a.tmps) = true then Oper.wp P o a w K Q else E := by
 rw [if_pos (by simp [Region.wanted, hgd])]
 exact wp_append_own w s x t ho base e i z size bytes ht hi hz hsize hby hzs hsz v n xs hs hown ad m c news hx hl hnews h1 h63 hbytes hbase fun v' w' h2 h3 _ => h v' w' h2 h3
end
theorem cells_new (w : World) (cs : Array Value) (t : TypeId) : ∀ j u, cs.toList[j]? = some u → (w.alloc (.cells cs t)).cell? ((⟨w.heap.size, 0, none⟩ : Addr).add j) = some u := fun j u h => by
 rw [add_at, (Has.new w t cs).cell]
 simpa using h
set_option maxHeartbeats 2000000 in
set_option maxRecDepth 100000 in
theorem numbers_one (b : Nat) (cs : Array Value) (w : World) (hh : Hid (Has w b 110 cs)) (hk : w.cell? ⟨b, 0, none⟩ = some (I 1)) :
  Calls Tryz.prog 105 #[.pointer (some ⟨b, 0, none⟩)] w fun e w' => (∃ A c, e = .returned (.slice A 5 c) ∧ w'.ownsRow w.heap.size 166 1 (.slice A 5 c) 5 (ptrs b [0, 1, 2, 3, 4])) ∧ Below w.heap.size w w' := by
 obtain ⟨i0, hi0, hz0, hz1, hz2⟩ := info_parts infoPint
 have hb : b < w.heap.size := hh.out.lt
 go_enter Tryz.func105, Tryz.ntmps105
 go_wp2
 go_region
 go_wp2
 have H1 := Lib.hid (own_new (w := w) (base := w.heap.size) (e := 166) #[.pointer (some ⟨b, 0, none⟩), .pointer (some ⟨b, 1, none⟩), .pointer (some ⟨b, 2, none⟩)] 3 (Nat.le_refl _) rfl (by decide))
 have hb1 : Below w.heap.size w (w.alloc (.cells #[.pointer (some ⟨b, 0, none⟩), .pointer (some ⟨b, 1, none⟩), .pointer (some ⟨b, 2, none⟩)] 166)) := (Below.refl _ _).alloc (Nat.le_refl _) _
 have hk1 : (w.alloc (.cells #[.pointer (some ⟨b, 0, none⟩), .pointer (some ⟨b, 1, none⟩), .pointer (some ⟨b, 2, none⟩)] 166)).cell? ⟨b, 0, none⟩ = some (I 1) := (World.cell?_alloc_lt _ _ ⟨b, 0, none⟩ hb).trans hk
 have hs1 : w.heap.size ≤ (w.alloc (.cells #[.pointer (some ⟨b, 0, none⟩), .pointer (some ⟨b, 1, none⟩), .pointer (some ⟨b, 2, none⟩)] 166)).heap.size := hb1.size
 have hbl : b < (w.alloc (.cells #[.pointer (some ⟨b, 0, none⟩), .pointer (some ⟨b, 1, none⟩), .pointer (some ⟨b, 2, none⟩)] 166)).heap.size := Nat.lt_of_lt_of_le hb hs1
 generalize w.alloc (.cells #[.pointer (some ⟨b, 0, none⟩), .pointer (some ⟨b, 1, none⟩), .pointer (some ⟨b, 2, none⟩)] 166) = w1 at *
 go_region_law ((refine step_append_own rfl _ _ 163 rfl w.heap.size 166 i0 (.pointer none) 1 8 Tryz.underlying163 hi0 hz0 hz1 hz2 rfl (by decide) _ 3 _ rfl (World.ownsRow.alloc H1.out _) _ 2 2 _ rfl rfl (cells_new _ _ _) (by intro u hu; simp at hu; rcases hu with rfl | rfl <;> rfl) (by decide) (by decide) (by simp <;> omega) ?_; intro v2 w2 hown2 hgrow2))
 have hb2 : Below w.heap.size w w2 := ((hb1.alloc hs1 _).drew.drew).grown hgrow2 (by simp <;> omega) (fun q hq => by have := (H1.out.lt q hq).1; omega)
 have hk2 := (hb2.cell (p := ⟨b, 0, none⟩) hb).trans hk
 have hl2 : b < w2.heap.size := Nat.lt_of_lt_of_le hb hb2.size
 have HO2 := Lib.hid hown2
 clear hown2 hgrow2 hk1 hs1 hbl
 clear H1 hb1
 go_wp2
 go_ret
 obtain ⟨A, c, rfl, -⟩ := own_reads HO2.out
 exact ⟨⟨A, c, rfl, HO2.out⟩, hb2⟩
set_option maxHeartbeats 2000000 in
set_option maxRecDepth 100000 in
theorem numbers_two (b : Nat) (cs : Array Value) (w : World) (hh : Hid (Has w b 110 cs)) (hk : w.cell? ⟨b, 0, none⟩ = some (I 2)) :
  Calls Tryz.prog 105 #[.pointer (some ⟨b, 0, none⟩)] w fun e w' => (∃ A c, e = .returned (.slice A 6 c) ∧ w'.ownsRow w.heap.size 166 1 (.slice A 6 c) 6 (ptrs b [0, 1, 2, 3, 4, 5])) ∧ Below w.heap.size w w' := by
 obtain ⟨i0, hi0, hz0, hz1, hz2⟩ := info_parts infoPint
 have hb : b < w.heap.size := hh.out.lt
 go_enter Tryz.func105, Tryz.ntmps105
 go_wp2
 go_region
 go_wp2
 have H1 := Lib.hid (own_new (w := w) (base := w.heap.size) (e := 166) #[.pointer (some ⟨b, 0, none⟩), .pointer (some ⟨b, 1, none⟩), .pointer (some ⟨b, 2, none⟩)] 3 (Nat.le_refl _) rfl (by decide))
 have hb1 : Below w.heap.size w (w.alloc (.cells #[.pointer (some ⟨b, 0, none⟩), .pointer (some ⟨b, 1, none⟩), .pointer (some ⟨b, 2, none⟩)] 166)) := (Below.refl _ _).alloc (Nat.le_refl _) _
 have hk1 : (w.alloc (.cells #[.pointer (some ⟨b, 0, none⟩), .pointer (some ⟨b, 1, none⟩), .pointer (some ⟨b, 2, none⟩)] 166)).cell? ⟨b, 0, none⟩ = some (I 2) := (World.cell?_alloc_lt _ _ ⟨b, 0, none⟩ hb).trans hk
 have hs1 : w.heap.size ≤ (w.alloc (.cells #[.pointer (some ⟨b, 0, none⟩), .pointer (some ⟨b, 1, none⟩), .pointer (some ⟨b, 2, none⟩)] 166)).heap.size := hb1.size
 have hbl : b < (w.alloc (.cells #[.pointer (some ⟨b, 0, none⟩), .pointer (some ⟨b, 1, none⟩), .pointer (some ⟨b, 2, none⟩)] 166)).heap.size := Nat.lt_of_lt_of_le hb hs1
 generalize w.alloc (.cells #[.pointer (some ⟨b, 0, none⟩), .pointer (some ⟨b, 1, none⟩), .pointer (some ⟨b, 2, none⟩)] 166) = w1 at *
 go_region_law ((refine step_append_own rfl _ _ 163 rfl w.heap.size 166 i0 (.pointer none) 1 8 Tryz.underlying163 hi0 hz0 hz1 hz2 rfl (by decide) _ 3 _ rfl (World.ownsRow.alloc H1.out _) _ 2 2 _ rfl rfl (cells_new _ _ _) (by intro u hu; simp at hu; rcases hu with rfl | rfl <;> rfl) (by decide) (by decide) (by simp <;> omega) ?_; intro v2 w2 hown2 hgrow2))
 have hb2 : Below w.heap.size w w2 := ((hb1.alloc hs1 _).drew.drew).grown hgrow2 (by simp <;> omega) (fun q hq => by have := (H1.out.lt q hq).1; omega)
 have hk2 := (hb2.cell (p := ⟨b, 0, none⟩) hb).trans hk
 have hl2 : b < w2.heap.size := Nat.lt_of_lt_of_le hb hb2.size
 have HO2 := Lib.hid hown2
 clear hown2 hgrow2 hk1 hs1 hbl
 clear H1 hb1
 go_wp2_with (at_builtin; refine wpList_append_own _ rfl _ _ 163 rfl w.heap.size 166 i0 (.pointer none) 1 8 Tryz.underlying163 hi0 hz0 hz1 hz2 rfl (by decide) _ _ _ rfl (World.ownsRow.alloc HO2.out _) ⟨w2.heap.size, 0, none⟩ 1 1 [.pointer (some ⟨b, 5, none⟩)] rfl rfl ?c1 ?c2 ?c3 ?c4 ?c5 ?_)
 case c2 => rfl
 case c3 => decide
 case c5 => have := hb2.size; simp <;> omega
 intro v3 w3 hown3 hgrow3 _
 have hb3 : Below w.heap.size w w3 := (hb2.alloc hb2.size _).grown hgrow3 (by have := hb2.size; simp <;> omega) (fun q hq => (HO2.out.lt q hq).1)
 have hk3 := (hb3.cell (p := ⟨b, 0, none⟩) hb).trans hk
 have HO3 := Lib.hid hown3
 clear hown3 hgrow3 hk2 hl2 HO2 hb2
 go_wp2
 go_ret
 obtain ⟨A, c, rfl, -⟩ := own_reads HO3.out
 exact ⟨⟨A, c, rfl, HO3.out⟩, hb3⟩
set_option maxHeartbeats 2000000 in
set_option maxRecDepth 100000 in
theorem numbers_three (b : Nat) (cs : Array Value) (w : World) (hh : Hid (Has w b 110 cs)) (hk : w.cell? ⟨b, 0, none⟩ = some (I 3)) :
  Calls Tryz.prog 105 #[.pointer (some ⟨b, 0, none⟩)] w fun e w' => (∃ A c, e = .returned (.slice A 6 c) ∧ w'.ownsRow w.heap.size 166 1 (.slice A 6 c) 6 (ptrs b [0, 1, 2, 3, 4, 5])) ∧ Below w.heap.size w w' := by
 obtain ⟨i0, hi0, hz0, hz1, hz2⟩ := info_parts infoPint
 have hb : b < w.heap.size := hh.out.lt
 go_enter Tryz.func105, Tryz.ntmps105
 go_wp2
 go_region
 go_wp2
 have H1 := Lib.hid (own_new (w := w) (base := w.heap.size) (e := 166) #[.pointer (some ⟨b, 0, none⟩), .pointer (some ⟨b, 1, none⟩), .pointer (some ⟨b, 2, none⟩)] 3 (Nat.le_refl _) rfl (by decide))
 have hb1 : Below w.heap.size w (w.alloc (.cells #[.pointer (some ⟨b, 0, none⟩), .pointer (some ⟨b, 1, none⟩), .pointer (some ⟨b, 2, none⟩)] 166)) := (Below.refl _ _).alloc (Nat.le_refl _) _
 have hk1 : (w.alloc (.cells #[.pointer (some ⟨b, 0, none⟩), .pointer (some ⟨b, 1, none⟩), .pointer (some ⟨b, 2, none⟩)] 166)).cell? ⟨b, 0, none⟩ = some (I 3) := (World.cell?_alloc_lt _ _ ⟨b, 0, none⟩ hb).trans hk
 have hs1 : w.heap.size ≤ (w.alloc (.cells #[.pointer (some ⟨b, 0, none⟩), .pointer (some ⟨b, 1, none⟩), .pointer (some ⟨b, 2, none⟩)] 166)).heap.size := hb1.size
 have hbl : b < (w.alloc (.cells #[.pointer (some ⟨b, 0, none⟩), .pointer (some ⟨b, 1, none⟩), .pointer (some ⟨b, 2, none⟩)] 166)).heap.size := Nat.lt_of_lt_of_le hb hs1
 generalize w.alloc (.cells #[.pointer (some ⟨b, 0, none⟩), .pointer (some ⟨b, 1, none⟩), .pointer (some ⟨b, 2, none⟩)] 166) = w1 at *
 go_region_law ((refine step_append_own rfl _ _ 163 rfl w.heap.size 166 i0 (.pointer none) 1 8 Tryz.underlying163 hi0 hz0 hz1 hz2 rfl (by decide) _ 3 _ rfl (World.ownsRow.alloc H1.out _) _ 2 2 _ rfl rfl (cells_new _ _ _) (by intro u hu; simp at hu; rcases hu with rfl | rfl <;> rfl) (by decide) (by decide) (by simp <;> omega) ?_; intro v2 w2 hown2 hgrow2))
 have hb2 : Below w.heap.size w w2 := ((hb1.alloc hs1 _).drew.drew).grown hgrow2 (by simp <;> omega) (fun q hq => by have := (H1.out.lt q hq).1; omega)
 have hk2 := (hb2.cell (p := ⟨b, 0, none⟩) hb).trans hk
 have hl2 : b < w2.heap.size := Nat.lt_of_lt_of_le hb hb2.size
 have HO2 := Lib.hid hown2
 clear hown2 hgrow2 hk1 hs1 hbl
 clear H1 hb1
 go_wp2_with (at_builtin; refine wpList_append_own _ rfl _ _ 163 rfl w.heap.size 166 i0 (.pointer none) 1 8 Tryz.underlying163 hi0 hz0 hz1 hz2 rfl (by decide) _ _ _ rfl (World.ownsRow.alloc HO2.out _) ⟨w2.heap.size, 0, none⟩ 1 1 [.pointer (some ⟨b, 5, none⟩)] rfl rfl ?c1 ?c2 ?c3 ?c4 ?c5 ?_)
 case c2 => rfl
 case c3 => decide
 case c5 => have := hb2.size; simp <;> omega
 intro v3 w3 hown3 hgrow3 _
 have hb3 : Below w.heap.size w w3 := (hb2.alloc hb2.size _).grown hgrow3 (by have := hb2.size; simp <;> omega) (fun q hq => (HO2.out.lt q hq).1)
 have hk3 := (hb3.cell (p := ⟨b, 0, none⟩) hb).trans hk
 have HO3 := Lib.hid hown3
 clear hown3 hgrow3 hk2 hl2 HO2 hb2
 go_wp2
 go_ret
 obtain ⟨A, c, rfl, -⟩ := own_reads HO3.out
 exact ⟨⟨A, c, rfl, HO3.out⟩, hb3⟩
theorem pairs_take (b j : Nat) (h : j < 8) : (ptrs b ([0, 1, 2, 6, 7, 15, 8, 16, 9, 17, 10, 18, 11, 19, 12, 20, 13, 21, 14, 22].take (4 + 2 * (j + 1)))) = ptrs b ([0, 1, 2, 6, 7, 15, 8, 16, 9, 17, 10, 18, 11, 19, 12, 20, 13, 21, 14, 22].take (4 + 2 * j)) ++ [.pointer (some ⟨b, 7 + j, none⟩), .pointer (some ⟨b, 15 + j, none⟩)] := by
 have : j = 0 ∨ j = 1 ∨ j = 2 ∨ j = 3 ∨ j = 4 ∨ j = 5 ∨ j = 6 ∨ j = 7 := by omega
 rcases this with rfl | rfl | rfl | rfl | rfl | rfl | rfl | rfl <;> rfl
set_option maxHeartbeats 2000000 in
set_option maxRecDepth 100000 in
theorem numbers_five (b : Nat) (cs : Array Value) (w : World) (hh : Hid (Has w b 110 cs)) (hk : w.cell? ⟨b, 0, none⟩ = some (I 5)) :
  Calls Tryz.prog 105 #[.pointer (some ⟨b, 0, none⟩)] w fun e w' => (∃ A c, e = .returned (.slice A 20 c) ∧ w'.ownsRow w.heap.size 166 1 (.slice A 20 c) 20 (ptrs b [0, 1, 2, 6, 7, 15, 8, 16, 9, 17, 10, 18, 11, 19, 12, 20, 13, 21, 14, 22])) ∧ Below w.heap.size w w' := by
 obtain ⟨i0, hi0, hz0, hz1, hz2⟩ := info_parts infoPint
 have hb : b < w.heap.size := hh.out.lt
 go_enter Tryz.func105, Tryz.ntmps105
 go_wp2
 go_region
 go_upto_region 7 with (fail)
 have H1 := Lib.hid (own_new (w := w) (base := w.heap.size) (e := 166) #[.pointer (some ⟨b, 0, none⟩), .pointer (some ⟨b, 1, none⟩), .pointer (some ⟨b, 2, none⟩)] 3 (Nat.le_refl _) rfl (by decide))
 have hb1 : Below w.heap.size w (w.alloc (.cells #[.pointer (some ⟨b, 0, none⟩), .pointer (some ⟨b, 1, none⟩), .pointer (some ⟨b, 2, none⟩)] 166)) := (Below.refl _ _).alloc (Nat.le_refl _) _
 have hk1 : (w.alloc (.cells #[.pointer (some ⟨b, 0, none⟩), .pointer (some ⟨b, 1, none⟩), .pointer (some ⟨b, 2, none⟩)] 166)).cell? ⟨b, 0, none⟩ = some (I 5) := (World.cell?_alloc_lt _ _ ⟨b, 0, none⟩ hb).trans hk
 have hs1 : w.heap.size ≤ (w.alloc (.cells #[.pointer (some ⟨b, 0, none⟩), .pointer (some ⟨b, 1, none⟩), .pointer (some ⟨b, 2, none⟩)] 166)).heap.size := hb1.size
 have hbl : b < (w.alloc (.cells #[.pointer (some ⟨b, 0, none⟩), .pointer (some ⟨b, 1, none⟩), .pointer (some ⟨b, 2, none⟩)] 166)).heap.size := Nat.lt_of_lt_of_le hb hs1
 generalize w.alloc (.cells #[.pointer (some ⟨b, 0, none⟩), .pointer (some ⟨b, 1, none⟩), .pointer (some ⟨b, 2, none⟩)] 166) = w1 at *
 go_wp2_with (at_builtin; refine wpList_append_own _ rfl _ _ 163 rfl w.heap.size 166 i0 (.pointer none) 1 8 Tryz.underlying163 hi0 hz0 hz1 hz2 rfl (by decide) _ _ _ rfl (World.ownsRow.alloc H1.out _) ⟨w1.heap.size, 0, none⟩ 1 1 [.pointer (some ⟨b, 6, none⟩)] rfl rfl ?c1 ?c2 ?c3 ?c4 ?c5 ?_)
 case c2 => rfl
 case c3 => decide
 case c5 => first | omega | (simp <;> omega)
 intro v3 w3 hown3 hgrow3 _
 have hb3 : Below w.heap.size w w3 := ((hb1.alloc hs1 _).drew).grown hgrow3 (by simp <;> omega) (fun q hq => by have := (H1.out.lt q hq).1; omega)
 have HO3 := Lib.hid hown3
 clear hown3 hgrow3 hk1 H1 hb1
 go_wp2_with fail
 go_loopw [3, 75] (fun v i wr => ∃ j : Nat, j ≤ 8 ∧ i = I j ∧ Hid (wr.ownsRow w.heap.size 166 1 v (4 + 2 * j) (ptrs b ([0, 1, 2, 6, 7, 15, 8, 16, 9, 17, 10, 18, 11, 19, 12, 20, 13, 21, 14, 22].take (4 + 2 * j)))) ∧ Below w.heap.size w wr) (fun _ i _ => 8 - (intOf i).toNat)
 case atStart => exact ⟨0, by omega, rfl, HO3, hb3⟩
 case round =>
  obtain ⟨j, hj, rfl, HO, hbr⟩ := hrel
  by_cases hlt : j < 8
  ·have hsr := hbr.size
   have HP := Lib.hid (pairs_take b j hlt)
   go_wp2_with fail
   go_region_law ((refine step_append_own rfl _ _ 163 rfl w.heap.size 166 i0 (.pointer none) 1 8 Tryz.underlying163 hi0 hz0 hz1 hz2 rfl (by decide) _ (4 + 2 * j) _ rfl (World.ownsRow.alloc HO.out _) _ 2 2 _ rfl rfl (cells_new _ _ _) (by intro u hu; simp at hu; rcases hu with rfl | rfl <;> rfl) (by unfold maxLen; omega) (by omega) (by simp <;> omega) ?_; intro v2 w2 hown2 hgrow2))
   have hb2 : Below w.heap.size w w2 := ((hbr.alloc hsr _).drew).grown hgrow2 (by simp <;> omega) (fun q hq => (HO.out.lt q hq).1)
   have HO2 : Hid (w2.ownsRow w.heap.size 166 1 v2 (4 + 2 * (j + 1)) (ptrs b ([0, 1, 2, 6, 7, 15, 8, 16, 9, 17, 10, 18, 11, 19, 12, 20, 13, 21, 14, 22].take (4 + 2 * (j + 1))))) := Lib.hid (by rw [HP.out]; exact hown2)
   clear hown2 hgrow2 HO HP
   go_wp2_with fail
   go_roundw
   case rel => exact ⟨j + 1, by omega, by go_num, HO2, hb2⟩
   case measure => simp [intOf]; omega
  ·have hj8 : j = 8 := by omega
   subst hj8
   go_wp2
   go_ret
   obtain ⟨A, c, rfl, -⟩ := own_reads HO.out
   exact ⟨⟨A, c, rfl, HO.out⟩, hbr⟩
theorem idx_cases (k : Int) : (k = 1 ∧ idx k = [0, 1, 2, 3, 4]) ∨ (k = 2 ∧ idx k = [0, 1, 2, 3, 4, 5]) ∨ (k = 3 ∧ idx k = [0, 1, 2, 3, 4, 5]) ∨ (k = 5 ∧ idx k = [0, 1, 2, 6, 7, 15, 8, 16, 9, 17, 10, 18, 11, 19, 12, 20, 13, 21, 14, 22]) ∨ (k ≠ 1 ∧ k ≠ 2 ∧ k ≠ 3 ∧ k ≠ 5 ∧ idx k = [0, 1, 2]) := by
 by_cases h1 : k = 1
 ·exact .inl ⟨h1, by subst h1; rfl⟩
 by_cases h2 : k = 2
 ·exact .inr (.inl ⟨h2, by subst h2; rfl⟩)
 by_cases h3 : k = 3
 ·exact .inr (.inr (.inl ⟨h3, by subst h3; rfl⟩))
 by_cases h5 : k = 5
 ·exact .inr (.inr (.inr (.inl ⟨h5, by subst h5; rfl⟩)))
 ·exact .inr (.inr (.inr (.inr ⟨h1, h2, h3, h5, by unfold idx; rw [if_neg h1, if_neg (by omega), if_neg h5]⟩)))
theorem numbers_ok (b : Nat) (cs : Array Value) (k : Int) (w : World) (hh : Has w b 110 cs) (hk : w.cell? ⟨b, 0, none⟩ = some (I k)) :
  Calls Tryz.prog 105 #[.pointer (some ⟨b, 0, none⟩)] w fun e w' => (∃ A c, e = .returned (.slice A (idx k).length c) ∧ w'.ownsRow w.heap.size 166 1 (.slice A (idx k).length c) (idx k).length (ptrs b (idx k))) ∧ Below w.heap.size w w' := by
 rcases idx_cases k with ⟨rfl, e⟩ | ⟨rfl, e⟩ | ⟨rfl, e⟩ | ⟨rfl, e⟩ | ⟨h1, h2, h3, h5, e⟩ <;> rw [e]
 ·exact numbers_one b cs w hh hk
 ·exact numbers_two b cs w hh hk
 ·exact numbers_three b cs w hh hk
 ·exact numbers_five b cs w hh hk
 ·refine (numbers_few b cs k w hh hk (by simpa using h1) (by simpa using h2) (by simpa using h3) (by simpa using h5)).mono ?_
  rintro e w' ⟨rfl, rfl⟩
  exact ⟨⟨_, 3, rfl, (own_new (w := w) (base := w.heap.size) (e := 166) #[.pointer (some ⟨b, 0, none⟩), .pointer (some ⟨b, 1, none⟩), .pointer (some ⟨b, 2, none⟩)] 3 (Nat.le_refl _) rfl (by decide))⟩, ((Below.refl _ _).alloc (Nat.le_refl _) _).drew⟩
end Go.Proofs.YtdhekhlmdefcnabGreatDoor
namespace Go.Proofs.YtdhekhlmdefcnabGreatDoor
open Go.RowKit
theorem own_slice {w : World} {base : Nat} {e : TypeId} {A : Option Addr} {n c : Nat} {xs : List Value} (h : w.ownsRow base e 1 (.slice A n c) n xs) : n ≤ c ∧ Reads w w.heap.size A xs := by
 obtain ⟨A', c', he, h1, _, h2⟩ := own_reads h
 injection he with e1 _ e3
 subst e1
 subst e3
 exact ⟨h1, h2⟩
theorem ptr_at {w : World} {B b : Nat} {A : Option Addr} {l : List Nat} {k i : Nat} (h : Reads w B A (ptrs b l)) (hi : l[k]? = some i) :
  ∃ bb o, A = some ⟨bb, o, none⟩ ∧ bb < B ∧ w.cell? ⟨bb, o + k, none⟩ = some (.pointer (some ⟨b, i, none⟩)) := by
 have hk : (ptrs b l)[k]? = some (.pointer (some ⟨b, i, none⟩)) := by rw [ptrs_get, hi]; rfl
 obtain ⟨bb, o, hA, hb, hc⟩ := h (by rintro h0; rw [h0] at hk; simp at hk)
 exact ⟨bb, o, hA, hb, hc _ _ hk⟩
theorem infoFrame : (Tryz.prog.info? 110).map (·.size) = some 23 := by kernel_rfl
theorem sigFrame : sig Tryz.prog 5 110 = some (List.replicate 23 (some .i64)) := by kernel_rfl
theorem zeroFrame : frC zeroF = #[I 0, I 0, I 0, I 0, I 0, I 0, I 0, I 0, I 0, I 0, I 0, I 0, I 0, I 0, I 0, I 0, I 0, I 0, I 0, I 0, I 0, I 0, I 0] := rfl
theorem fit_frame {f : List Int} (h : Wf f) : Fit (List.replicate 23 (some .i64)) (frC f).toList := by
 have := fit_ints f (fun x hx => wf_i64 (h.2 x hx).1 (h.2 x hx).2)
 rw [h.1] at this
 exact this
set_option maxHeartbeats 4000000 in
set_option maxRecDepth 100000 in
theorem right_no (f : List Int) (hf : Wf f) (hh : headB f = false) (w : World) :
  Calls Tryz.prog 106 #[.agg (frC f)] w fun e w' => e = .returned (.bool false) ∧ Below w.heap.size w w' := by
 obtain ⟨k, hk⟩ := some_at f 0 (by rw [hf.1]; decide)
 obtain ⟨fr, hfr⟩ := some_at f 1 (by rw [hf.1]; decide)
 have hbad : k < 1 ∨ 5 < k ∨ fr < 0 ∨ 3 < fr := by
  unfold headB at hh
  simp only [List.getD_eq_getElem?_getD, hk, hfr, Option.getD_some, Bool.and_eq_false_iff, decide_eq_false_iff_not] at hh
  omega
 have k0 := Has.new w 110 (frC f)
 have c0 := k0.cellv 0 _ (frC_get f 0 k hk)
 have c1 := k0.cellv 1 _ (frC_get f 1 fr hfr)
 have hb : Below w.heap.size w (w.alloc (.cells (frC f) 110)) := (Below.refl _ _).alloc (Nat.le_refl _) _
 clear hk hfr hh k0
 go_enter Tryz.func106, Tryz.ntmps106
 rcases hbad with h | h | h | h
 all_goals
  go_wp2_with fail
  all_goals
   go_ret
   exact ⟨rfl, hb⟩
theorem cpTo_wf {f : List Int} (h : Wf f) (n : Nat) : Wf (cpTo f n) := by
 refine ⟨cpTo_length f n, ?_⟩
 unfold cpTo
 have hd : ∀ i, -9223372036854775808 ≤ f.getD i 0 ∧ f.getD i 0 ≤ 9223372036854775807 := by
  intro i
  rw [List.getD_eq_getElem?_getD]
  cases hi : f[i]? with
  | none => simp
  | some x => exact h.2 x (List.mem_of_getElem? hi)
 generalize (idx (f.getD 0 0)).take n = l
 have h0 : ∀ x ∈ zeroF.set 0 (f.getD 0 0), -9223372036854775808 ≤ x ∧ x ≤ 9223372036854775807 := by
  intro x hx
  rcases List.mem_or_eq_of_mem_set hx with hx | rfl
  ·have := List.eq_of_mem_replicate hx
   omega
  ·exact hd 0
 generalize zeroF.set 0 (f.getD 0 0) = g at h0
 induction l generalizing g with
 | nil => exact h0
 | cons i l ih =>
  refine ih _ ?_
  intro x hx
  rcases List.mem_or_eq_of_mem_set hx with hx | rfl
  ·exact h0 x hx
  ·exact hd i
set_option maxHeartbeats 4000000 in
set_option maxRecDepth 100000 in
theorem right_yes (f : List Int) (hf : Wf f) (hh : headB f = true) (w : World) :
  Calls Tryz.prog 106 #[.agg (frC f)] w fun e w' => e = .returned (.bool (mayB f)) ∧ Below w.heap.size w w' := by
 obtain ⟨k, hk⟩ := some_at f 0 (by rw [hf.1]; decide)
 obtain ⟨fr, hfr⟩ := some_at f 1 (by rw [hf.1]; decide)
 have hgood : 1 ≤ k ∧ k ≤ 5 ∧ 0 ≤ fr ∧ fr ≤ 3 := by
  unfold headB at hh
  simp only [List.getD_eq_getElem?_getD, hk, hfr, Option.getD_some, Bool.and_eq_true, decide_eq_true_eq] at hh
  omega
 obtain ⟨h1, h2, h3, h4⟩ := hgood
 have HK : Hid (f.getD 0 0 = k) := Lib.hid (by rw [List.getD_eq_getElem?_getD, hk]; rfl)
 have HF := Lib.hid hf
 have HH := Lib.hid hh
 have k0 := Has.new w 110 (frC f)
 have c0 := k0.cellv 0 _ (frC_get f 0 k hk)
 have c1 := k0.cellv 1 _ (frC_get f 1 fr hfr)
 have hb : Below w.heap.size w (w.alloc (.cells (frC f) 110)) := (Below.refl _ _).alloc (Nat.le_refl _) _
 have t1 : decide (k < 1) = false := by simp; omega
 have t2 : decide (5 < k) = false := by simp; omega
 have t3 : decide (fr < 0) = false := by simp; omega
 have t4 : decide (3 < fr) = false := by simp; omega
 clear hk hfr hh hf
 go_enter Tryz.func106, Tryz.ntmps106
 go_upto_region 1 with (fail)
 generalize hw1 : w.alloc (.cells (frC f) 110) = w1 at *
 have hsz : w1.heap.size = w.heap.size + 1 := by rw [← hw1]; simp
 clear hw1
 have hg0 : w.heap.size < w1.heap.size := by omega
 generalize hG : w.heap.size = g0 at *
 have HG := Lib.hid hG
 clear hG
 have HS := Lib.hid hsz
 clear hsz
 go_wp2_with fail
 have hz0 : frC (cpTo f 0) = #[I k, I 0, I 0, I 0, I 0, I 0, I 0, I 0, I 0, I 0, I 0, I 0, I 0, I 0, I 0, I 0, I 0, I 0, I 0, I 0, I 0, I 0, I 0] := by unfold cpTo; rw [HK.out]; rfl
 have kz : Has (w1.alloc (.cells #[I k, I 0, I 0, I 0, I 0, I 0, I 0, I 0, I 0, I 0, I 0, I 0, I 0, I 0, I 0, I 0, I 0, I 0, I 0, I 0, I 0, I 0, I 0] 110)) w1.heap.size 110 (frC (cpTo f 0)) := by rw [hz0]; exact Has.new _ _ _
 have cz := kz.cellv 0 (I k) (by rw [hz0]; rfl)
 have k0a := k0.alloc (.cells #[I k, I 0, I 0, I 0, I 0, I 0, I 0, I 0, I 0, I 0, I 0, I 0, I 0, I 0, I 0, I 0, I 0, I 0, I 0, I 0, I 0, I 0, I 0] 110)
 have hba : Below g0 w (w1.alloc (.cells #[I k, I 0, I 0, I 0, I 0, I 0, I 0, I 0, I 0, I 0, I 0, I 0, I 0, I 0, I 0, I 0, I 0, I 0, I 0, I 0, I 0, I 0, I 0] 110)) := hb.alloc (Nat.le_of_lt hg0) _
 have hne : g0 ≠ w1.heap.size := by omega
 have hle : g0 ≤ w1.heap.size := by omega
 clear k0 c0 c1 hb hz0 HS
 generalize w1.alloc (.cells #[I k, I 0, I 0, I 0, I 0, I 0, I 0, I 0, I 0, I 0, I 0, I 0, I 0, I 0, I 0, I 0, I 0, I 0, I 0, I 0, I 0, I 0, I 0] 110) = w2 at *
 generalize w1.heap.size = g1 at *
 refine (numbers_ok g1 _ k w2 kz cz).mono ?_
 rintro e w3 ⟨⟨A1, n1, rfl, own1⟩, hb3⟩
 have k03 := k0a.after hb3
 have kz3 := kz.after hb3
 obtain ⟨x0, hx0⟩ := some_at f 0 (by rw [HF.out.1]; decide)
 have hxk : x0 = k := by have := HK.out; rw [List.getD_eq_getElem?_getD, hx0] at this; exact this
 have c03 := k03.cellv 0 _ (frC_get f 0 x0 hx0)
 rw [hxk] at c03
 have hbw3 := hba.trans (hb3.mono (Nat.le_of_lt k0a.lt))
 clear hx0 hxk x0 k0a kz cz hba
 go_wp2_with fail
 refine (numbers_ok g0 _ k w3 k03 c03).mono ?_
 rintro e w4 ⟨⟨A2, n2, rfl, own2⟩, hb4⟩
 have k04 := k03.after hb4
 have kz4 := kz3.after hb4
 have own14 := own_after own1 hb4
 have hbw4 := hbw3.trans (hb4.mono (Nat.le_of_lt k03.lt))
 clear k03 c03 kz3 hbw3 own1
 have HO1 := Lib.hid (own_base own14 (Nat.zero_le _))
 have HO2 := Lib.hid (own_base own2 (Nat.zero_le _))
 have hid20 := idx_len k
 have HL : Hid (∀ i, i ∈ idx k → i < 23) := Lib.hid (idx_lt k)
 clear own14 own2 hb3 hb4 hg0
 go_wp2_with fail
 go_loopw [31] (fun i wr => ∃ j : Nat, j ≤ (idx k).length ∧ i = I j ∧ Hid (∀ q, q < j → ∃ i, (idx k)[q]? = some i ∧ inB (f.getD i 0) = true) ∧ Has wr g0 110 (frC f) ∧ Has wr g1 110 (frC (cpTo f j)) ∧
  Hid (wr.ownsRow 0 166 1 (.slice A1 (idx k).length n1) (idx k).length (ptrs g1 (idx k))) ∧ Hid (wr.ownsRow 0 166 1 (.slice A2 (idx k).length n2) (idx k).length (ptrs g0 (idx k))) ∧ Below g0 w wr) (fun i _ => (idx k).length - (intOf i).toNat)
 case atStart => exact ⟨0, by omega, rfl, Lib.hid (fun q hq => absurd hq (by omega)), k04, kz4, HO1, HO2, hbw4⟩
 case round =>
  clear HO1 HO2 k04 kz4 hbw4
  obtain ⟨j, hj, rfl, HR, ka, kb, HO1, HO2, hbr⟩ := hrel
  by_cases hlt : j < (idx k).length
  ·obtain ⟨i, hi⟩ := some_at (idx k) j hlt
   have hi23 : i < 23 := HL.out i (List.mem_of_getElem? hi)
   obtain ⟨x, hx⟩ := some_at f i (by rw [HF.out.1]; exact hi23)
   obtain ⟨y, hy⟩ := some_at (cpTo f j) i (by rw [cpTo_length]; exact hi23)
   obtain ⟨hc1, hr1⟩ := own_slice HO1.out
   obtain ⟨hc2, hr2⟩ := own_slice HO2.out
   obtain ⟨b1, o1, rfl, _, e1⟩ := ptr_at hr1 hi
   obtain ⟨b2, o2, rfl, _, e2⟩ := ptr_at hr2 hi
   have a1 := ka.cellv i _ (frC_get f i x hx)
   have z1 := kb.cellv i _ (frC_get _ i y hy)
   have z2 := kb.free i
   have HI := Lib.hid hi
   have HX : Hid (f.getD i 0 = x) := Lib.hid (by rw [List.getD_eq_getElem?_getD, hx]; rfl)
   clear hi hx hy hr1 hr2 hc1 hc2
   by_cases hin : 0 ≤ x ∧ x ≤ 1048576
   ·obtain ⟨q1, q2⟩ := hin
    have u1 : decide (x < 0) = false := by simp; omega
    have u2 : decide (1048576 < x) = false := by simp; omega
    go_wp2_with fail
    go_region
    go_wp2_with fail
    go_roundw
    case rel =>
     refine ⟨j + 1, by omega, by go_num, Lib.hid (fun q hq => ?_), ka.drew.far hne _, ?_, Lib.hid (own_far (w := wr.drew) HO1.out kb (by decide) _ _), Lib.hid (own_far (w := wr.drew) HO2.out kb (by decide) _ _), hbr.drew.setCell hle _⟩
     ·rcases Nat.lt_or_ge q j with h | h
      ·exact HR.out q h
      ·have : q = j := by omega
       subst this
       exact ⟨i, HI.out, by rw [HX.out]; unfold inB; simp; omega⟩
     ·have h := kb.drew.set i (I x)
      rw [frC_set] at h
      rw [cpTo_succ f j i (by rw [HK.out]; exact HI.out), HX.out]
      exact h
    case measure => simp [intOf]; omega
   ·have HM : Hid (mayB f = false) := Lib.hid (by
     have h1 : (idx (f.getD 0 0)).all (fun i => inB (f.getD i 0)) = false := by
      rw [List.all_eq_false]
      refine ⟨i, by rw [HK.out]; exact List.mem_of_getElem? HI.out, ?_⟩
      rw [HX.out]; unfold inB; simp; omega
     unfold mayB
     rw [h1, Bool.and_false, Bool.false_and])
    have hor : x < 0 ∨ 1048576 < x := by omega
    clear hin
    rcases hor with h | h
    ·have u1 : decide (x < 0) = true := by simp; omega
     go_wp2_with fail
     go_ret
     exact ⟨by rw [HM.out]; rfl, HG.out ▸ hbr⟩
    ·have u1 : decide (1048576 < x) = true := by simp; omega
     have u2 : decide (x < 0) = false := by simp; omega
     go_wp2_with fail
     go_ret
     exact ⟨by rw [HM.out]; rfl, HG.out ▸ hbr⟩
  ·have hjn : j = (idx k).length := by omega
   have HM : Hid (mayB f = decide (f = cpTo f j)) := Lib.hid (by
    have h1 : (idx (f.getD 0 0)).all (fun i => inB (f.getD i 0)) = true := by
     rw [List.all_eq_true]
     intro i hi
     rw [HK.out] at hi
     obtain ⟨q, hq, rfl⟩ := List.getElem_of_mem hi
     obtain ⟨i', h1, h2⟩ := HR.out q (by omega)
     rw [List.getElem?_eq_getElem hq] at h1
     injection h1 with h1
     rw [h1]; exact h2
    unfold mayB
    rw [h1, HH.out, HK.out, ← hjn]
    rfl)
   have HWc : Hid (Wf (cpTo f j)) := Lib.hid (cpTo_wf HF.out j)
   have HD : Hid (decide (f = cpTo f j) = true ↔ frC f = frC (cpTo f j)) := Lib.hid (by rw [decide_eq_true_eq, frC_inj])
   have hs1 : Hid ((Tryz.prog.info? 110).map (·.size) = some (frC f).size) := Lib.hid (by rw [frC_size _ HF.out.1]; exact infoFrame)
   have hs2 : Hid ((Tryz.prog.info? 110).map (·.size) = some (frC (cpTo f j)).size) := Lib.hid (by rw [frC_size _ (cpTo_length _ _)]; exact infoFrame)
   clear hjn
   generalize cpTo f j = cf at *
   go_wp2_with (first
    | (refine wpList_load_row rfl 110 (.tmp 1) rfl g0 rfl 110 (frC f) (0, 0) _ ka Tryz.underlying110 rfl hs1.out ?_)
    | (refine wpList_load_row rfl 110 (.tmp 3) rfl g1 rfl 110 (frC cf) (0, 0) _ kb Tryz.underlying110 rfl hs2.out ?_)
    | (refine wpList_taken rfl (fun K hK => wp_eql_row 110 110 5 (frC f) (frC cf) (List.replicate 23 (some .i64)) (.tmp 55) (.tmp 56) rfl rfl rfl (by decide) (by kernel_rfl) sigFrame (by kernel_rfl) (by kernel_rfl) (by kernel_rfl) (fit_frame HF.out) (fit_frame HWc.out) _ HD.out (hK _ _ ?_))))
   go_ret
   exact ⟨by rw [HM.out]; rfl, HG.out ▸ hbr⟩
theorem right_ok (f : List Int) (hf : Wf f) (w : World) :
  Calls Tryz.prog 106 #[.agg (frC f)] w fun e w' => e = .returned (.bool (mayB f)) ∧ Below w.heap.size w w' := by
 cases hh : headB f with
 | true => exact right_yes f hf hh w
 | false =>
  have : mayB f = false := by unfold mayB; rw [hh]; rfl
  rw [this]
  exact right_no f hf hh w
end Go.Proofs.YtdhekhlmdefcnabGreatDoor
namespace Go.Proofs.YtdhekhlmdefcnabGreatDoor
open Go.RowKit
abbrev U8 (c : UInt8) : Value := .int .u8 (c.toNat : Int)
def bytes (l : List UInt8) : List Value := l.map U8
theorem bytes_length (l : List UInt8) : (bytes l).length = l.length := by simp [bytes]
theorem bytes_get (l : List UInt8) (i : Nat) : (bytes l)[i]? = (l[i]?).map U8 := by simp [bytes]
theorem Reads.byte_ {w : World} {B : Nat} {A : Option Addr} {xs : List UInt8} (h : Reads w B A (bytes xs)) {k : Nat} {x : UInt8} (hx : xs[k]? = some x) :
  ∃ b o, A = some ⟨b, o, none⟩ ∧ b < B ∧ w.cell? ⟨b, o + k, none⟩ = some (U8 x) := by
 have hk : (bytes xs)[k]? = some (U8 x) := by rw [bytes_get, hx]; rfl
 obtain ⟨b, o, hA, hb, hc⟩ := h (by rintro h0; rw [h0] at hk; simp at hk)
 exact ⟨b, o, hA, hb, hc _ _ hk⟩
theorem u32_shl1 (s : Crc.B32) : IntKind.u32.wrap ((s.toNat : Int) * 2) = ((s <<< 1).toNat : Int) := by
 have h := s.isLt
 rw [BitVec.toNat_shiftLeft, Nat.shiftLeft_eq]
 show (s.toNat : Int) * 2 % 4294967296 = _
 omega
theorem u32_shl1' (s : Crc.B32) : (s.toNat : Int) * (2 : Int) % (4294967296 : Int) = ((s <<< 1).toNat : Int) := u32_shl1 s
theorem u32_top (s : Crc.B32) : ((s.toNat : Int) / 2147483648 == 1) = s.msb := by
 have h := s.isLt
 rw [BitVec.msb_eq_decide]
 rw [Bool.eq_iff_iff]
 simp
 omega
theorem u32_xor (s t : Crc.B32) : bits .xor .u32 (s.toNat : Int) (t.toNat : Int) = ((s ^^^ t).toNat : Int) := by
 have e1 : BitVec.ofInt IntKind.u32.bits (s.toNat : Int) = s := by simp [IntKind.bits]
 have e2 : BitVec.ofInt IntKind.u32.bits (t.toNat : Int) = t := by simp [IntKind.bits]
 show IntKind.u32.wrap (((BitVec.ofInt IntKind.u32.bits (s.toNat : Int) ^^^ BitVec.ofInt IntKind.u32.bits (t.toNat : Int)).toNat : Nat) : Int) = _
 rw [e1, e2]
 have h := (s ^^^ t).isLt
 show (((s ^^^ t).toNat : Nat) : Int) % 4294967296 = _
 omega
theorem u8_shl' (c : UInt8) : (c.toNat : Int) * (16777216 : Int) = ((BitVec.ofNat 32 c.toNat <<< 24).toNat : Int) := by
 have h := c.toNat_lt
 rw [BitVec.toNat_shiftLeft, Nat.shiftLeft_eq, BitVec.toNat_ofNat]
 omega
theorem take_byte {l : List UInt8} {k : Nat} {x : UInt8} (hx : l[k]? = some x) : Crc.sum (l.take (k + 1)) = Crc.byte (Crc.sum (l.take k)) x := by
 have hk := (List.getElem?_eq_some_iff.1 hx).1
 have he := (List.getElem?_eq_some_iff.1 hx).2
 unfold Crc.sum
 rw [List.take_succ_eq_append_getElem hk, Crc.run_append, he]
 rfl
theorem U_eq {k : IntKind} {a b : Int} (h : a = b) : Value.int k a = Value.int k b := by rw [h]
theorem Tn_succ (n : Nat) (s : Crc.B32) : Crc.Tn (n + 1) s = Crc.T (Crc.Tn n s) := by
 induction n generalizing s with
 | zero => rfl
 | succ n ih => rw [Crc.Tn, ih]; rfl
set_option maxHeartbeats 2000000 in
theorem sum_ok (A : Option Addr) (n c : Nat) (l : List UInt8) (w : World) (hl : Hid (l.length = n)) (hn : n ≤ 1000) (hr : Reads w w.heap.size A (bytes l)) :
  Calls Tryz.prog 103 #[.slice A n c] w fun e w' => e = .returned (.int .u32 ((Crc.sum l).toNat : Int)) ∧ w = w' := by
 go_enter Tryz.func103, Tryz.ntmps103
 go_wp2
 go_loop [3, 9] (fun v i => ∃ k : Nat, k ≤ n ∧ i = I k ∧ v = .int .u32 ((Crc.sum (l.take k)).toNat : Int)) (fun _ i => n - (intOf i).toNat)
 case atStart => exact ⟨0, by omega, rfl, rfl⟩
 case round =>
  obtain ⟨k, hk, rfl, rfl⟩ := hrel
  by_cases hlt : k < n
  ·obtain ⟨x, hx⟩ := some_at l k (by rw [hl.out]; exact hlt)
   obtain ⟨b, o, rfl, hb, hcell⟩ := hr.byte_ hx
   have hx8 := x.toNat_lt
   have HX := Lib.hid (take_byte hx)
   clear hx
   go_wp2
   have HB : Hid (Crc.byte (Crc.sum (l.take k)) x = Crc.Tn 8 (Crc.sum (l.take k) ^^^ (BitVec.ofNat 32 x.toNat <<< 24))) := rfl
   have H0 : Hid (bits .xor .u32 ((Crc.sum (l.take k)).toNat : Int) ((x.toNat : Int) * 16777216) = ((Crc.sum (l.take k) ^^^ (BitVec.ofNat 32 x.toNat <<< 24)).toNat : Int)) := Lib.hid (by rw [u8_shl', u32_xor])
   generalize Crc.sum (l.take k) ^^^ (BitVec.ofNat 32 x.toNat <<< 24) = s0 at *
   go_loop [3, 18] (fun v i => ∃ j : Nat, j ≤ 8 ∧ i = I j ∧ v = .int .u32 ((Crc.Tn j s0).toNat : Int)) (fun _ i => 8 - (intOf i).toNat)
   case atStart => exact ⟨0, by omega, rfl, U_eq H0.out⟩
   case round =>
    obtain ⟨j, hj, rfl, rfl⟩ := hrel
    by_cases hlt2 : j < 8
    ·have HT := Lib.hid (Tn_succ j s0)
     generalize Crc.Tn j s0 = S at *
     have hm := u32_top S
     have HS := Lib.hid (u32_shl1' S)
     have hlt3 := S.isLt
     cases hb : S.msb with
     | true =>
      rw [hb] at hm
      have HT' : Hid (Crc.Tn (j + 1) s0 = (S <<< 1) ^^^ Crc.poly) := Lib.hid (by rw [HT.out]; unfold Crc.T; rw [hb]; rfl)
      clear hb HT
      go_wp2
      go_round
      case rel => exact ⟨j + 1, by omega, by go_num, U_eq (by rw [HT'.out, HS.out]; exact u32_xor (S <<< 1) Crc.poly)⟩
      case measure => simp [intOf]; omega
     | false =>
      rw [hb] at hm
      have HT' : Hid (Crc.Tn (j + 1) s0 = S <<< 1) := Lib.hid (by rw [HT.out]; unfold Crc.T; rw [hb]; rfl)
      clear hb HT
      go_wp2
      go_round
      case rel => exact ⟨j + 1, by omega, by go_num, U_eq (by rw [HT'.out, HS.out])⟩
      case measure => simp [intOf]; omega
    ·have hj8 : j = 8 := by omega
     subst hj8
     go_wp2
     go_round
     case rel => exact ⟨k + 1, by omega, by go_num, U_eq (by rw [HX.out, HB.out])⟩
     case measure => simp [intOf]; omega
  ·have hkn : l.take k = l := List.take_of_length_le (by rw [hl.out]; omega)
   rw [hkn]
   clear hkn
   go_wp2
   go_ret
   exact ⟨rfl, rfl⟩
end Go.Proofs.YtdhekhlmdefcnabGreatDoor
namespace Go.Proofs.YtdhekhlmdefcnabGreatDoor
open Go.RowKit
def three (x : Int) : List UInt8 := [UInt8.ofNat (x.toNat / 65536), UInt8.ofNat (x.toNat / 256), UInt8.ofNat x.toNat]
def four (s : Crc.B32) : List UInt8 := [UInt8.ofNat (s.toNat / 16777216), UInt8.ofNat (s.toNat / 65536), UInt8.ofNat (s.toNat / 256), UInt8.ofNat s.toNat]
def bodyTo (f : List Int) (n : Nat) : List UInt8 := ((idx (f.getD 0 0)).take n).flatMap fun i => three (f.getD i 0)
def body (f : List Int) : List UInt8 := bodyTo f (idx (f.getD 0 0)).length
def encB (f : List Int) : List UInt8 := body f ++ four (Crc.sum (body f))
theorem bodyTo_succ (f : List Int) (n i : Nat) (h : (idx (f.getD 0 0))[n]? = some i) : bodyTo f (n + 1) = bodyTo f n ++ three (f.getD i 0) := by
 have hn := (List.getElem?_eq_some_iff.1 h).1
 have he := (List.getElem?_eq_some_iff.1 h).2
 unfold bodyTo
 rw [List.take_succ_eq_append_getElem hn, List.flatMap_append, he]
 simp
theorem bodyTo_length (f : List Int) : ∀ n, n ≤ (idx (f.getD 0 0)).length → (bodyTo f n).length = 3 * n
 | 0, _ => rfl
 | n + 1, h => by
  obtain ⟨i, hi⟩ := some_at (idx (f.getD 0 0)) n (by omega)
  rw [bodyTo_succ f n i hi, List.length_append, bodyTo_length f n (by omega)]
  simp [three]; omega
theorem infoU8 : (Tryz.prog.info? 5).map (fun i => (i.zero, i.size, i.bytes)) = some (some (.int .u8 0), 1, 1) := by kernel_rfl
theorem own_own {w w' : World} {base base' : Nat} {e e' : TypeId} {size size' : Nat} {v v' : Value} {n n' : Nat} {xs xs' : List Value} (h : w.ownsRow base e size v n xs) (h' : w.ownsRow base' e' size' v' n' xs') (hne : e ≠ e') (hg : w.grownBy w' v'.ownBlock) :
  w'.ownsRow base e size v n xs := by
 refine h.kept hg ?_
 rcases h.2 with ⟨rfl, _⟩ | ⟨g, cap, cur, rfl, _, hh, _⟩
 ·exact .inl rfl
 ·refine .inr ?_
  intro he
  have := own_ne h' (g := g) (t := e) (cs := cur) hh hne
  exact this he
theorem three_vals (x : Int) (h0 : 0 ≤ x) (h1 : x ≤ 1048576) : [Value.int .u8 (IntKind.u8.wrap (x / 65536)), .int .u8 (IntKind.u8.wrap (x / 256)), .int .u8 (IntKind.u8.wrap x)] = bytes (three x) := by
 unfold three bytes
 simp only [List.map_cons, List.map_nil]
 have e : ∀ y : Int, 0 ≤ y → IntKind.u8.wrap y = ((UInt8.ofNat y.toNat).toNat : Int) := by
  intro y hy
  rw [UInt8.toNat_ofNat']
  show y % 256 = _
  omega
 have h2 : (x / 65536).toNat = x.toNat / 65536 := by omega
 have h3 : (x / 256).toNat = x.toNat / 256 := by omega
 rw [e _ (by omega), e _ (by omega), e _ h0, h2, h3]
theorem four_vals (s : Crc.B32) : (#[Value.int .u8 ((s.toNat : Int) / 16777216), .int .u8 ((s.toNat : Int) / 65536 % 256), .int .u8 ((s.toNat : Int) / 256 % 256), .int .u8 ((s.toNat : Int) % 256)] : Array Value).toList = bytes (four s) := by
 have h := s.isLt
 unfold four bytes
 simp only [List.map_cons, List.map_nil]
 have e : ∀ y : Nat, (((UInt8.ofNat y).toNat : Nat) : Int) = ((y % 256 : Nat) : Int) := by
  intro y
  rw [UInt8.toNat_ofNat']
 have e1 : s.toNat / 16777216 % 256 = s.toNat / 16777216 := by omega
 unfold U8
 rw [e, e, e, e, e1]
 rfl
set_option maxHeartbeats 2000000 in
set_option maxRecDepth 100000 in
theorem encode_no (f : List Int) (hf : Wf f) (hm : mayB f = false) (w : World) :
  Calls Tryz.prog 80 #[.agg (frC f)] w fun e w' => e = .returned (.tuple #[.slice none 0 0, .iface 73 (I 1)]) ∧ Below w.heap.size w w' := by
 have HF := Lib.hid hf
 have HM := Lib.hid hm
 clear hf hm
 have hs1 : Hid ((Tryz.prog.info? 110).map (·.size) = some (frC f).size) := Lib.hid (by rw [frC_size _ HF.out.1]; exact infoFrame)
 have k0 := Has.new w 110 (frC f)
 have hb : Below w.heap.size w (w.alloc (.cells (frC f) 110)) := (Below.refl _ _).alloc (Nat.le_refl _) _
 go_enter Tryz.func80, Tryz.ntmps80
 go_wp2_with (first
  | (refine wpList_load_row rfl 110 (.tmp 1) rfl w.heap.size rfl 110 (frC f) (0, 0) _ k0 Tryz.underlying110 rfl hs1.out ?_)
  | (go_at_call 106; refine (right_ok f HF.out _).mono ?_; rintro e w1 ⟨rfl, hb1⟩; rw [HM.out]))
 go_ret2
 exact ⟨rfl, hb.trans (hb1.mono (by simp))⟩
set_option maxHeartbeats 4000000 in
set_option maxRecDepth 100000 in
theorem encode_yes (f : List Int) (hf : Wf f) (hm : mayB f = true) (w : World) :
  Calls Tryz.prog 80 #[.agg (frC f)] w fun e w' => (∃ A c, e = .returned (.tuple #[.slice A (encB f).length c, .nilIface]) ∧ w'.ownsRow w.heap.size 5 1 (.slice A (encB f).length c) (encB f).length (bytes (encB f))) ∧ Below w.heap.size w w' := by
 obtain ⟨i0, hi0, hz0, hz1, hz2⟩ := info_parts infoU8
 obtain ⟨k, hk⟩ := some_at f 0 (by rw [hf.1]; decide)
 have HK : Hid (f.getD 0 0 = k) := Lib.hid (by rw [List.getD_eq_getElem?_getD, hk]; rfl)
 have HF := Lib.hid hf
 have HM := Lib.hid hm
 have hall : ∀ i, i ∈ idx k → 0 ≤ f.getD i 0 ∧ f.getD i 0 ≤ 1048576 := by
  intro i hi
  unfold mayB at hm
  simp only [Bool.and_eq_true, List.all_eq_true] at hm
  have := hm.1.2 i (by rw [HK.out]; exact hi)
  unfold inB at this
  simpa using this
 have HA := Lib.hid hall
 have hs1 : Hid ((Tryz.prog.info? 110).map (·.size) = some (frC f).size) := Lib.hid (by rw [frC_size _ HF.out.1]; exact infoFrame)
 have k0 := Has.new w 110 (frC f)
 have c0 := k0.cellv 0 _ (frC_get f 0 k hk)
 have hb : Below w.heap.size w (w.alloc (.cells (frC f) 110)) := (Below.refl _ _).alloc (Nat.le_refl _) _
 have Hk0 := Lib.hid (frC_get f 0 k hk)
 clear hf hm hk hall
 go_enter Tryz.func80, Tryz.ntmps80
 go_upto_region 1 with (fail)
 generalize w.alloc (.cells (frC f) 110) = w1 at *
 have hg0 := k0.lt
 generalize hG : w.heap.size = g0 at *
 have HG := Lib.hid hG
 clear hG
 go_wp2_with (first
  | (refine wpList_load_row rfl 110 (.tmp 1) rfl g0 rfl 110 (frC f) (0, 0) _ k0 Tryz.underlying110 rfl hs1.out ?_)
  | (go_at_call 106; refine (right_ok f HF.out _).mono ?_; rintro e w2 ⟨rfl, hb1⟩; rw [HM.out]; have k1 := k0.after hb1; have c1 := k1.cellv 0 _ Hk0.out; have hbw := hb.trans (hb1.mono (Nat.le_of_lt hg0)); clear k0 c0 hb hb1)
  | (go_at_call 105; refine (numbers_ok g0 (frC f) k _ k1 c1).mono ?_; rintro e w3 ⟨⟨A2, n2, rfl, own2⟩, hb3⟩))
 have k3 := k1.after hb3
 have hbw3 := hbw.trans (hb3.mono (Nat.le_of_lt k1.lt))
 have HO2 := Lib.hid (own_base own2 (Nat.zero_le _))
 have hid20 := idx_len k
 have hg3 : g0 ≤ w3.heap.size := Nat.le_of_lt k3.lt
 clear own2 hb3 hbw k1 c1
 go_loopw [4, 14] (fun v i wr => ∃ j : Nat, j ≤ (idx k).length ∧ i = I j ∧ Hid (wr.ownsRow g0 5 1 v (3 * j) (bytes (bodyTo f j))) ∧ Has wr g0 110 (frC f) ∧
  Hid (wr.ownsRow 0 166 1 (.slice A2 (idx k).length n2) (idx k).length (ptrs g0 (idx k))) ∧ Below g0 w wr) (fun _ i _ => (idx k).length - (intOf i).toNat)
 case atStart => exact ⟨0, by omega, rfl, Lib.hid (World.ownsRow_nil _ _ _ _), k3, HO2, hbw3⟩
 case round =>
  clear HO2 k3 hbw3 hg3
  obtain ⟨j, hj, rfl, HV, ka, HO2, hbr⟩ := hrel
  by_cases hlt : j < (idx k).length
  ·obtain ⟨i, hi⟩ := some_at (idx k) j hlt
   have hi23 : i < 23 := idx_lt k i (List.mem_of_getElem? hi)
   obtain ⟨x, hx⟩ := some_at f i (by rw [HF.out.1]; exact hi23)
   obtain ⟨hc2, hr2⟩ := own_slice HO2.out
   obtain ⟨b2, o2, rfl, hb2, e2⟩ := ptr_at hr2 hi
   have a1 := ka.cellv i _ (frC_get f i x hx)
   have HX : Hid (f.getD i 0 = x) := Lib.hid (by rw [List.getD_eq_getElem?_getD, hx]; rfl)
   obtain ⟨q1, q2⟩ := HA.out i (List.mem_of_getElem? hi)
   rw [HX.out] at q1 q2
   have HB : Hid (bodyTo f (j + 1) = bodyTo f j ++ three x) := Lib.hid (by rw [bodyTo_succ f j i (by rw [HK.out]; exact hi), HX.out])
   have hsr := Nat.le_of_lt ka.lt
   have hga := ka.lt
   clear hi hx hr2 hc2
   go_wp2_with fail
   go_region_law ((refine step_append_own rfl _ _ 50 rfl g0 5 i0 (.int .u8 0) 1 1 Tryz.underlying50 hi0 hz0 hz1 hz2 rfl (by decide) _ (3 * j) _ rfl (World.ownsRow.alloc HV.out _) _ 3 3 _ rfl rfl (cells_new _ _ _) (by intro u hu; simp at hu; rcases hu with rfl | rfl | rfl <;> rfl) (by unfold maxLen; omega) (by omega) (by simp <;> omega) ?_; intro v4 w4 hown4 hgrow4))
   all_goals
    have HO4 : Hid (w4.ownsRow g0 5 1 v4 (3 * (j + 1)) (bytes (bodyTo f (j + 1)))) := Lib.hid (by
     have e : bytes (bodyTo f (j + 1)) = bytes (bodyTo f j) ++ bytes (three x) := by rw [HB.out]; simp [bytes]
     rw [e, ← three_vals x q1 q2]
     exact hown4)
    have hb4 : Below g0 w w4 := ((hbr.alloc hsr _).drew).grown hgrow4 (by simp <;> omega) (fun q hq => (HV.out.lt q hq).1)
    have ka4 : Has w4 g0 110 (frC f) := ((ka.alloc _).drew).grown hgrow4 (own_ne HV.out ka (by decide))
    have HO24 := Lib.hid (own_own (w := (wr.alloc _).drew) (HO2.out.alloc _) (HV.out.alloc _) (by decide) hgrow4)
    clear hown4 hgrow4 HV ka HO2 a1 e2
    go_wp2_with fail
    go_roundw
    case rel => exact ⟨j + 1, by omega, by go_num, HO4, ka4, HO24, hb4⟩
    case measure => simp [intOf]; omega
  ·have hjn : j = (idx k).length := by omega
   have HB : Hid (bodyTo f j = body f) := Lib.hid (by unfold body; rw [HK.out, hjn])
   have hl3 : (body f).length = 3 * j := by rw [← HB.out]; exact bodyTo_length f j (by rw [HK.out]; exact hj)
   have HL3 := Lib.hid hl3
   clear hl3 hjn
   obtain ⟨A4, c4, rfl, hc4, -, hr4⟩ := own_reads HV.out
   rw [HB.out] at hr4
   go_wp2_with (first
    | (go_at_call 103; refine (sum_ok A4 (3 * j) c4 (body f) _ HL3 (by omega) hr4).mono ?_; rintro e w5 ⟨rfl, rfl⟩)
    | (at_builtin; refine wpList_append_own _ rfl _ _ 50 rfl g0 5 i0 (.int .u8 0) 1 1 Tryz.underlying50 hi0 hz0 hz1 hz2 rfl (by decide) _ _ _ rfl (World.ownsRow.alloc HV.out _) ⟨wr.heap.size, 0, none⟩ 4 4 (bytes (four (Crc.sum (body f)))) rfl rfl ?c1 ?c2 ?c3 ?c4 ?c5 ?_))
   case c1 => rw [← four_vals]; exact cells_new _ _ _
   case c2 => intro u hu; simp [bytes, four] at hu; rcases hu with rfl | rfl | rfl | rfl <;> rfl
   case c3 => unfold maxLen; omega
   case c4 => omega
   case c5 => have := ka.lt; simp <;> omega
   intro v5 w5 hown5 hgrow5 _
   have hsr := Nat.le_of_lt ka.lt
   have hb5 : Below g0 w w5 := (hbr.alloc hsr _).grown hgrow5 (by simp <;> omega) (fun q hq => (HV.out.lt q hq).1)
   have hlen : (encB f).length = 3 * j + 4 := by unfold encB; rw [List.length_append, HL3.out]; rfl
   have HO5 : Hid (w5.ownsRow g0 5 1 v5 (encB f).length (bytes (encB f))) := Lib.hid (by
    have e : bytes (encB f) = bytes (body f) ++ bytes (four (Crc.sum (body f))) := by unfold encB; simp [bytes]
    have h5 := hown5
    rw [HB.out] at h5
    rw [hlen, e]
    exact h5)
   clear hown5 hgrow5 hlen
   go_wp2
   obtain ⟨A5, c5, rfl, -⟩ := own_reads HO5.out
   go_ret2
   refine ⟨⟨A5, c5, rfl, ?_⟩, HG.out ▸ hb5⟩
   rw [HG.out]
   exact HO5.out
end Go.Proofs.YtdhekhlmdefcnabGreatDoor
namespace Go.Proofs.YtdhekhlmdefcnabGreatDoor
open Go.RowKit
theorem take_eq_succ {l1 l2 : List UInt8} {k : Nat} {x y : UInt8} (h : l1.take k = l2.take k) (hx : l1[k]? = some x) (hy : l2[k]? = some y) : (l1.take (k + 1) = l2.take (k + 1)) ↔ x = y := by
 have h1 := (List.getElem?_eq_some_iff.1 hx).1
 have h2 := (List.getElem?_eq_some_iff.1 hy).1
 have e1 := (List.getElem?_eq_some_iff.1 hx).2
 have e2 := (List.getElem?_eq_some_iff.1 hy).2
 rw [List.take_succ_eq_append_getElem h1, List.take_succ_eq_append_getElem h2, e1, e2, h]
 simp
theorem drewN_two (w : World) (a b : Nat) : w.drewN (a + b) = (w.drewN a).drewN b := by
 simp [World.drewN, Nat.add_assoc]
theorem u8_ne (x y : UInt8) : ((x.toNat : Int) != (y.toNat : Int)) = !decide (x = y) := by
 by_cases h : x = y
 ·simp [h]
 ·have : x.toNat ≠ y.toNat := fun e => h (UInt8.toNat_inj.1 e)
  simp [h]; omega
set_option maxHeartbeats 2000000 in
theorem equal_ok (A1 A2 : Option Addr) (n1 c1 n2 c2 : Nat) (l1 l2 : List UInt8) (w : World) (hl1 : Hid (l1.length = n1)) (hl2 : Hid (l2.length = n2)) (hn1 : n1 ≤ 1000) (hn2 : n2 ≤ 1000)
  (hr1 : Reads w w.heap.size A1 (bytes l1)) (hr2 : Reads w w.heap.size A2 (bytes l2)) :
  Calls Tryz.prog 104 #[.slice A1 n1 c1, .slice A2 n2 c2] w fun e w' => e = .returned (.bool (decide (l1 = l2))) ∧ ∃ q, w.drewN q = w' := by
 by_cases hn : n1 = n2
 ·subst hn
  go_enter Tryz.func104, Tryz.ntmps104
  go_wp2
  go_loopw [13] (fun i wr => ∃ k q : Nat, k ≤ n1 ∧ i = I k ∧ Hid (l1.take k = l2.take k) ∧ wr = w.drewN q) (fun i _ => n1 - (intOf i).toNat)
  case atStart => exact ⟨0, 0, by omega, rfl, Lib.hid rfl, rfl⟩
  case round =>
   obtain ⟨k, q, hk, rfl, HE, rfl⟩ := hrel
   by_cases hlt : k < n1
   ·obtain ⟨x, hx⟩ := some_at l1 k (by rw [hl1.out]; exact hlt)
    obtain ⟨y, hy⟩ := some_at l2 k (by rw [hl2.out]; exact hlt)
    obtain ⟨b, o, rfl, hb, hcell⟩ := hr1.byte_ hx
    obtain ⟨b', o', rfl, hb', hcell'⟩ := hr2.byte_ hy
    have hne := u8_ne x y
    have HS := Lib.hid (take_eq_succ HE.out hx hy)
    cases hd : decide (x = y) with
    | true =>
     rw [hd] at hne
     have HS' : Hid (l1.take (k + 1) = l2.take (k + 1)) := Lib.hid (HS.out.2 (by simpa using hd))
     clear hd hx hy HS HE
     go_wp2_with fail
     go_quiet (fail)
     go_wp2_with fail
     go_roundw
     case rel => exact ⟨k + 1, _, by omega, by go_num, HS', rfl⟩
     case measure => simp [intOf]; omega
    | false =>
     rw [hd] at hne
     have HS' : Hid (decide (l1 = l2) = false) := Lib.hid (by
      rw [decide_eq_false_iff_not]
      rintro rfl
      have := HS.out.1 rfl
      rw [this] at hd
      simp at hd)
     clear hd hx hy HS HE
     go_wp2_with fail
     go_quiet (fail)
     go_wp2_with fail
     go_ret
     exact ⟨by rw [HS'.out]; rfl, _, drewN_two _ _ _⟩
   ·have HS' : Hid (decide (l1 = l2) = true) := Lib.hid (by
     have h := HE.out
     rw [List.take_of_length_le (by rw [hl1.out]; omega), List.take_of_length_le (by rw [hl2.out]; omega)] at h
     simpa using h)
    clear HE
    go_wp2_with fail
    go_ret
    exact ⟨by rw [HS'.out]; rfl, _, rfl⟩
 ·have hd : decide (l1 = l2) = false := by
   rw [decide_eq_false_iff_not]
   rintro rfl
   exact hn (by rw [← hl1.out, ← hl2.out])
  rw [hd]
  have hne : ((n1 : Int) != (n2 : Int)) = true := by simp; omega
  clear hd hn
  go_enter Tryz.func104, Tryz.ntmps104
  go_wp2
  go_ret
  exact ⟨rfl, 0, rfl⟩
end Go.Proofs.YtdhekhlmdefcnabGreatDoor
namespace Go.Proofs.YtdhekhlmdefcnabGreatDoor
open Go.RowKit
def n3 (x y z : UInt8) : Nat := x.toNat * 65536 + y.toNat * 256 + z.toNat
def num3 (b : List UInt8) (j : Nat) : Nat := n3 (b.getD (3 * j) 0) (b.getD (3 * j + 1) 0) (b.getD (3 * j + 2) 0)
def decTo (b : List UInt8) : Nat → List Int
 | 0 => zeroF.set 0 (num3 b 0)
 | n + 1 => (decTo b n).set ((idx (num3 b 0)).getD n 0) (num3 b n)
def decF (b : List UInt8) : List Int := decTo b (idx (num3 b 0)).length
def dec (b : List UInt8) : Int × List Int :=
 if b.length < 7 ∨ 80 < b.length then (3, zeroF) else
 if ¬ b.drop (b.length - 4) = four (Crc.sum (b.take (b.length - 4))) then (15, zeroF) else
 if ¬ (b.length - 4) % 3 = 0 then (3, zeroF) else
 if ¬ (idx (num3 b 0)).length * 3 = b.length - 4 then (3, zeroF) else
 if mayB (decF b) then (0, decF b) else (3, zeroF)
def errV (e : Int) : Value := if e = 0 then .nilIface else .iface 73 (I e)
theorem n3_lt (x y z : UInt8) : n3 x y z < 16777216 := by
 have := x.toNat_lt
 have := y.toNat_lt
 have := z.toNat_lt
 unfold n3
 omega
theorem n3_or (x y z : UInt8) : bits .or .i64 (bits .or .i64 ((x.toNat : Int) * 65536) ((y.toNat : Int) * 256)) (z.toNat : Int) = ((n3 x y z : Nat) : Int) := by
 have hx := x.toNat_lt
 have hy := y.toNat_lt
 have hz := z.toNat_lt
 have e1 : (x.toNat : Int) * 65536 = ((x.toNat * 65536 : Nat) : Int) := by omega
 have e2 : (y.toNat : Int) * 256 = ((y.toNat * 256 : Nat) : Int) := by omega
 have o1 : x.toNat * 65536 ||| y.toNat * 256 = x.toNat * 65536 + y.toNat * 256 := by
  have := Nat.two_pow_add_eq_or_of_lt (i := 16) (b := y.toNat * 256) (by omega) x.toNat
  rw [show 2 ^ 16 * x.toNat = x.toNat * 65536 by omega] at this
  exact this.symm
 have o2 : (x.toNat * 65536 + y.toNat * 256) ||| z.toNat = x.toNat * 65536 + y.toNat * 256 + z.toNat := by
  have := Nat.two_pow_add_eq_or_of_lt (i := 8) (b := z.toNat) (by omega) (x.toNat * 256 + y.toNat)
  have e : 2 ^ 8 * (x.toNat * 256 + y.toNat) = x.toNat * 65536 + y.toNat * 256 := by omega
  rw [e] at this
  exact this.symm
 rw [e1, e2, or_i64 _ _ (by omega) (by omega), o1, or_i64 _ _ (by omega) (by omega), o2]
 rfl
theorem decTo_length (b : List UInt8) : ∀ n, (decTo b n).length = 23
 | 0 => by simp [decTo, zeroF]
 | n + 1 => by rw [decTo, List.length_set, decTo_length b n]
theorem decTo_wf (b : List UInt8) : ∀ n, Wf (decTo b n)
 | 0 => ⟨decTo_length b 0, fun x hx => by
  unfold decTo at hx
  rcases List.mem_or_eq_of_mem_set hx with hx | rfl
  ·have := List.eq_of_mem_replicate hx
   omega
  ·have := n3_lt (b.getD (3 * 0) 0) (b.getD (3 * 0 + 1) 0) (b.getD (3 * 0 + 2) 0)
   unfold num3
   omega⟩
 | n + 1 => ⟨decTo_length b _, fun x hx => by
  unfold decTo at hx
  rcases List.mem_or_eq_of_mem_set hx with hx | rfl
  ·exact (decTo_wf b n).2 x hx
  ·have := n3_lt (b.getD (3 * n) 0) (b.getD (3 * n + 1) 0) (b.getD (3 * n + 2) 0)
   unfold num3
   omega⟩
theorem Reads.drop {w : World} {B b o : Nat} {xs : List Value} (h : Reads w B (some ⟨b, o, none⟩) xs) (k : Nat) : Reads w B (some ⟨b, o + k, none⟩) (xs.drop k) := fun hn => by
 have h0 : xs ≠ [] := by rintro rfl; simp at hn
 obtain ⟨b', o', e, hb, hc⟩ := h h0
 injection e with e
 injection e with e1 e2
 subst e1
 subst e2
 refine ⟨b, o + k, rfl, hb, fun j u hu => ?_⟩
 rw [List.getElem?_drop] at hu
 have := hc _ u hu
 rw [show o + k + j = o + (k + j) by omega]
 exact this
theorem bytes_take (l : List UInt8) (k : Nat) : bytes (l.take k) = (bytes l).take k := by simp [bytes, List.map_take]
theorem bytes_drop (l : List UInt8) (k : Nat) : bytes (l.drop k) = (bytes l).drop k := by simp [bytes, List.map_drop]
end Go.Proofs.YtdhekhlmdefcnabGreatDoor
