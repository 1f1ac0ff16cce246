/- Part 28 of the proof: SySl, SyPut, SyOth, SyGet, SyIn, SyTick. -/
import Derived.Test.YtdhekhlmdefcnabGreatDoorPart20
import Derived.Test.YtdhekhlmdefcnabGreatDoorPart16
import Derived.Test.YtdhekhlmdefcnabGreatDoorPart27
import Derived.Test.YtdhekhlmdefcnabGreatDoorPart26
import Derived.Lib.SliceRun
import Derived.Deep.RegionLaw
import Derived.Deep.LoopGhost
namespace Go.Proofs.YtdhekhlmdefcnabGreatDoor
open Go.RowKit
theorem infoGram : (Tryz.prog.info? 132).map (fun i => (i.zero, i.size, i.bytes)) = some (some (.agg #[.int .i64 0, .int .i64 0, .slice none 0 0]), 3, 40) := by kernel_rfl
theorem bytes_ones (l : List UInt8) : ∀ u ∈ bytes l, u.oneCell' = true := by
 intro u hu
 simp [bytes] at hu
 obtain ⟨a, _, rfl⟩ := hu
 rfl
def nilGram : List Value := [I 0, I 0, .slice none 0 0]
def putL (cs : Array Value) : Nat → List Value → Array Value
 | _, [] => cs
 | o, v :: l => putL (cs.setIfInBounds o v) (o + 1) l
theorem putL_size : ∀ (l : List Value) (cs : Array Value) (o : Nat), (putL cs o l).size = cs.size
 | [], _, _ => rfl
 | v :: l, cs, o => by rw [putL, putL_size l, Array.size_setIfInBounds]
theorem putL_toList : ∀ (l : List Value) (cs : Array Value) (o : Nat), o + l.length ≤ cs.size → (putL cs o l).toList = cs.toList.take o ++ l ++ cs.toList.drop (o + l.length)
 | [], cs, o, _ => by simp [putL]
 | v :: l, cs, o, h => by
  simp only [List.length_cons] at h
  rw [putL, putL_toList l _ _ (by rw [Array.size_setIfInBounds]; omega), Array.toList_setIfInBounds]
  have h1 : (cs.toList.set o v).take (o + 1) = cs.toList.take o ++ [v] := by
   rw [List.take_add_one, List.take_set_of_le (Nat.le_refl o)]
   simp [show o < cs.size by omega]
  rw [h1, List.drop_set_of_lt (by omega), List.length_cons, show o + 1 + l.length = o + (l.length + 1) by omega]
  simp
theorem Has.sets {g : Nat} {t : TypeId} : ∀ (l : List Value) (o : Nat) {w : World} {cs : Array Value}, Has w g t cs → Has (w.setCells g o l) g t (putL cs o l)
 | [], _, _, _, h => h
 | v :: l, o, _, _, h => Has.sets l (o + 1) (h.set o v)
theorem run_clear_gram (w : World) (ty : TypeId) (b o c : Nat) (hc : ∀ j, j < 3 → (w.cell? ⟨b, o + j, none⟩).isSome = true) (hf : ∀ j, j < 3 → w.frozen? ⟨b, o + j, none⟩ = false) :
  (Builtin.clear_ #[66] ty #[.slice (some ⟨b, o, none⟩) 1 c]).run Tryz.prog w = .ok (.tuple #[]) (w.setCells b o nilGram) := by
 have hzc : (Builtin.zeroCells (Value.agg #[.int .i64 0, .int .i64 0, .slice none 0 0]).cells 1).toList = nilGram := by kernel_rfl
 have hst := run_storeCells_cells (P := Tryz.prog) b o nilGram 0 w (by simpa [nilGram] using hc) (by simpa [nilGram] using hf) (by intro v hv'; simp [nilGram] at hv'; rcases hv' with rfl | rfl <;> rfl)
 simp only [Nat.add_zero] at hst
 simp [Builtin.clear_, run_underlying Tryz.underlying66, hzc, hst]
section
variable {w : World}
set_option maxHeartbeats 4000000 in
set_option maxRecDepth 100000 in
theorem del_gram {B n : Nat} {v : Value} {xs : List Value} (h : w.ownsRow B 132 3 v n xs) (hx : ∀ u ∈ xs, u.oneCell' = true) (i : Nat) (hi : i < n) :
  Calls Tryz.prog 70 #[v, I i, I ((i : Int) + 1)] w fun e w' => (∃ v', e = .returned v' ∧ v'.ownBlock = v.ownBlock ∧ w'.ownsRow B 132 3 v' (n - 1) (xs.take (i * 3) ++ xs.drop ((i + 1) * 3))) ∧ Turned (fun b => v.ownBlock = some b) w w' := by
 obtain ⟨i0, hi0, hz0, hz1, hz2⟩ := info_parts infoGram
 obtain ⟨hlen, hn | ⟨g, cap, cur, rfl, hB, hh, hnc, hcm, hsz, htk⟩⟩ := h
 ·omega
 have kg : Has w g 132 cur := hh
 obtain ⟨news, hnews⟩ : ∃ news, news = xs.drop ((i + 1) * 3) := ⟨_, rfl⟩
 have hnl : news.length = (n - (i + 1)) * 3 := by rw [hnews, List.length_drop, hlen]; omega
 have hget : ∀ t u, news[t]? = some u → w.cell? ⟨g, (i + 1) * 3 + t, none⟩ = some u := fun t u hu => by
  rw [kg.cell]
  rw [hnews, List.getElem?_drop, ← htk, List.getElem?_take] at hu
  split at hu
  ·simpa using hu
  ·cases hu
 obtain ⟨A, hA, hsrc⟩ : ∃ A : Addr, (if cap = i + 1 then some (⟨g, 0, none⟩ : Addr) else some ⟨g, (i + 1) * 3, none⟩) = some A ∧ Hid (∀ t u, news[t]? = some u → w.drew.cell? (A.add t) = some u) := by
  by_cases hc : cap = i + 1
  ·refine ⟨⟨g, 0, none⟩, by simp [hc], Lib.hid fun t u hu => ?_⟩
   have h0 : news.length = 0 := by rw [hnl]; omega
   rw [List.length_eq_zero_iff.1 h0] at hu
   simp at hu
  ·refine ⟨⟨g, (i + 1) * 3, none⟩, by simp [hc], Lib.hid fun t u hu => ?_⟩
   rw [Addr.add_lit]
   exact hget t u hu
 have s1 : Hid (news.length = (n - (i + 1)) * 3) := Lib.hid hnl
 have s2 : Hid (∀ u ∈ news, u.oneCell' = true) := Lib.hid fun u hu => hx u (List.mem_of_mem_drop (by rw [← hnews]; exact hu))
 have s3 : Hid (∀ t, t < news.length → (w.drew.cell? ⟨g, 0 + i * 3 + t, none⟩).isSome = true ∧ w.drew.frozen? ⟨g, 0 + i * 3 + t, none⟩ = false) := Lib.hid fun t ht => by
  rw [hnl] at ht
  have hz : i * 3 + t < cur.size := by rw [hsz]; omega
  exact ⟨by show (w.cell? _).isSome = true; rw [Nat.zero_add, kg.cell, Array.getElem?_eq_getElem hz]; rfl, kg.free _⟩
 obtain ⟨W1, hW1⟩ : ∃ W1, W1 = w.drew.setCells g (0 + i * 3) news := ⟨_, rfl⟩
 have k1 : Has W1 g 132 (putL cur (0 + i * 3) news) := by rw [hW1]; exact kg.drew.sets _ _
 have t1 : Turned (fun b => (Value.slice (some ⟨g, 0, none⟩) n cap).ownBlock = some b) w W1 := by rw [hW1]; exact Turned.setCells (F := fun b => (Value.slice (some ⟨g, 0, none⟩) n cap).ownBlock = some b) (a := w) (g := g) (.inl rfl) _ _ (Turned.refl _ _).drew
 have hp : (putL cur (0 + i * 3) news).size = cap * 3 := by rw [putL_size, hsz]
 have hcl : ∀ ty, (Builtin.clear_ #[66] ty #[.slice (some ⟨g, (i + (n - (i + 1))) * 3, none⟩) (n - (i + (n - (i + 1)))) (cap - (i + (n - (i + 1))))]).run Tryz.prog W1 = .ok (.tuple #[]) (W1.setCells g ((n - 1) * 3) nilGram) := fun ty => by
  rw [show n - (i + (n - (i + 1))) = 1 by omega, show i + (n - (i + 1)) = n - 1 by omega]
  exact run_clear_gram W1 ty g _ _ (fun j hj => by rw [k1.cell, Array.getElem?_eq_getElem (by rw [hp]; omega)]; rfl) (fun j hj => k1.free _)
 have hW : Hid (W1 = w.drew.setCells g (0 + i * 3) news) := Lib.hid hW1
 have K1 := Lib.hid k1
 have T1 := Lib.hid t1
 have HL : Hid ((putL cur (0 + i * 3) news).toList = cur.toList.take (i * 3) ++ news ++ cur.toList.drop ((n - 1) * 3)) := Lib.hid (by
  rw [putL_toList _ _ _ (by rw [hnl, hsz]; omega), hnl, show 0 + i * 3 = i * 3 by omega, show i * 3 + (n - (i + 1)) * 3 = (n - 1) * 3 by omega])
 have HN := Lib.hid hnews
 have HT := Lib.hid htk
 have HLN := Lib.hid hlen
 have hic : i ≤ cap := by omega
 have hjc : i + 1 ≤ cap := by omega
 have hin : i + 1 ≤ n := by omega
 have hq1 : (0 : Int) ≤ (i : Int) + 1 := by omega
 have hq2 : (i : Int) + 1 ≤ (n : Int) := by omega
 clear hW1 k1 t1 hget hnews hnl kg hh hx htk hlen
 go_enter Tryz.func70, Tryz.ntmps70
 go_wp2_with fail
 go_region_law (refine step_append_room rfl (.tmp 22) (.tmp 25) 66 rfl 132 i0 3 Tryz.underlying66 hi0 hz1 g 0 i cap (by simp [Act.eval, Act.put]) A (n - (i + 1)) (cap - (i + 1)) news (by simp [Act.eval, Act.put]) s1.out hsrc.out s2.out (by omega) s3.out ?_; rw [← hW.out])
 go_wp2
 go_ret
 have k2 := K1.out.sets nilGram ((n - 1) * 3)
 refine ⟨⟨_, rfl, rfl, ?_, .inr ⟨g, cap, _, by rw [show i + (n - (i + 1)) = n - 1 by omega]; rfl, hB, k2, by omega, hcm, by rw [putL_size, hp], ?_⟩⟩, Turned.setCells (F := fun b => (Value.slice (some ⟨g, 0, none⟩) n cap).ownBlock = some b) (a := w) (g := g) (.inl rfl) _ _ T1.out⟩
 ·have := HLN.out
  rw [List.length_append, List.length_take, List.length_drop]
  omega
 ·have hn1 := s1.out
  have h3 := HLN.out
  have h4 := HT.out
  rw [putL_toList _ _ _ (by rw [hp]; simp [nilGram]; omega), HL.out, List.append_assoc, List.take_append_of_le_length (by simp; omega), List.take_of_length_le (by simp; omega)]
  rw [List.take_append_of_le_length (by simp; omega), List.take_of_length_le (by simp; omega), HN.out, ← h4, List.take_take, Nat.min_eq_left (by omega)]
set_option maxHeartbeats 4000000 in
set_option maxRecDepth 100000 in
theorem clone_u8 (A : Option Addr) (n c : Nat) (l : List UInt8) (hl : l.length = n) (hn : n ≤ 1000) (hr : Reads w w.heap.size A (bytes l)) :
  Calls Tryz.prog 141 #[.slice A n c] w fun e w' => (∃ v', e = .returned v' ∧ w'.ownsRow w.heap.size 5 1 v' n (bytes l)) ∧ Below w.heap.size w w' := by
 obtain ⟨i0, hi0, hz0, hz1, hz2⟩ := info_parts infoU8
 have HR := Lib.hid hr
 have HL := Lib.hid hl
 have heq : (binOp .eql 50 (.slice A n c) (.slice none 0 0)).run Tryz.prog w = .ok (.bool A.isNone) w := Lib.run_eql_slice_nil w _ _ A n c 0 0 Tryz.underlying50
 cases A with
 | none =>
  have hl0 : bytes l = [] := Classical.byContradiction fun h => by obtain ⟨_, _, e, _⟩ := hr h; cases e
  have hn0 : n = 0 := by rw [← hl, ← bytes_length, hl0]; rfl
  subst hn0
  have HB := Lib.hid hl0
  clear hr hl hl0
  go_enter Tryz.func141, Tryz.ntmps141
  go_wp2
  go_ret
  rw [HB.out]
  exact ⟨⟨_, rfl, rfl, .inl ⟨rfl, rfl⟩⟩, Below.refl _ _⟩
 | some a =>
  clear hr hl
  go_enter Tryz.func141, Tryz.ntmps141
  go_wp2_with (at_builtin; go_loud (refine wpList_append_read rfl (.tmp 5) (.tmp 6) 50 rfl w.heap.size 5 i0 (.int .u8 0) 1 1 Tryz.underlying50 hi0 hz0 hz1 hz2 rfl (by decide) _ _ _ rfl (World.ownsRow_lit w #[] 0 (Nat.le_refl _) (Nat.zero_le _) rfl) w.heap.size (some a) n c (bytes l) rfl (fun h => by cases h) (by rw [bytes_length, HL.out, Nat.mul_one]) ?c2 (bytes_ones _) ?c3 ?c4 ?c5 ?_))
  case c2 => exact HR.out.alloc (Nat.le_refl _) _
  case c3 => unfold maxLen; omega
  case c4 => omega
  case c5 => simp
  intro v1 w1 hown1 hgrow1
  have hb1 : Below w.heap.size w w1 := ((Below.refl _ _).alloc (Nat.le_refl _) _).grown hgrow1 (by simp) (fun q hq => by simp [Value.ownBlock] at hq; omega)
  have HO1 : Hid (w1.ownsRow w.heap.size 5 1 v1 n (bytes l)) := Lib.hid (by simpa using hown1)
  have HB := Lib.hid hb1
  clear hown1 hgrow1 hb1
  go_wp2
  go_ret
  exact ⟨⟨_, rfl, HO1.out⟩, HB.out⟩
end
end Go.Proofs.YtdhekhlmdefcnabGreatDoor
namespace Go.Proofs.YtdhekhlmdefcnabGreatDoor
open Go.RowKit
section
variable {w : World} {B : Nat} {x : SyX} {L : Lay} {s : Sys}
def SysPost (w : World) (B : Nat) (x : SyX) (L : Lay) (v : Value) (s' : Sys) (e : Ending) (w' : World) : Prop := e = .returned v ∧ ∃ x', SyAt w' B x' L s' ∧ Moved w w' x x'
set_option maxHeartbeats 4000000 in
set_option maxRecDepth 100000 in
theorem sy_put (h : SyAt w B x L s) (hB : B ≤ w.heap.size) (hw : s.way.length ≤ 120) (hl : s.lost ≤ 10000000000) (g : Gram) (v : Value) (hv : BAt w v g.bytes) :
  Calls Tryz.prog 81 #[.pointer (some ⟨x.g, 0, none⟩), .agg #[I g.src, I g.dst, v]] w (SysPost w B x L (.tuple #[]) (sysPut s g)) := by
 obtain ⟨i0, hi0, hz0, hz1, hz2⟩ := info_parts infoGram
 have hgl := h.has.lt
 have hvo : v.oneCell' = true := by obtain ⟨A, c, rfl, _⟩ := hv; rfl
 have k1 := h.has.alloc (.cells #[I g.src, I g.dst, v] 132)
 have kb := Has.new w 132 #[I g.src, I g.dst, v]
 have HB1 : Hid (Below w.heap.size w (w.alloc (.cells #[I g.src, I g.dst, v] 132))) := Lib.hid ((Below.refl _ _).alloc (Nat.le_refl _) _)
 have hy1 : SyAt (w.alloc (.cells #[I g.src, I g.dst, v] 132)) B x L s := h.after HB1.out
 have HY1 := Lib.hid hy1
 have HV1 := Lib.hid (hv.after HB1.out)
 have hB1 : B ≤ (w.alloc (.cells #[I g.src, I g.dst, v] 132)).heap.size := by simp; omega
 clear hv hy1
 obtain ⟨A, cc, hvt, hcc, hlen, hA, hR⟩ := own_read h.way
 have HVT := Lib.hid hvt
 have HH := Lib.hid h
 clear hR hA hlen h
 have a7 : (w.alloc (.cells #[I g.src, I g.dst, v] 132)).cell? ⟨x.g, 7, none⟩ = some (.slice A s.way.length cc) := by rw [← hvt]; exact k1.cellv 7 x.vw rfl
 have a8 := k1.cellv 8 (I (s.lost : Int)) rfl
 have f8 := k1.free 8
 have b0 := kb.cellv 0 _ rfl
 have b1 := kb.cellv 1 _ rfl
 have b2 := kb.cellv 2 _ rfl
 have hg1 := k1.lt
 go_enter Tryz.func81, Tryz.ntmps81
 go_upto_region 1 with (fail)
 generalize w.alloc (.cells #[I g.src, I g.dst, v] 132) = w1 at *
 by_cases hfull : 120 ≤ s.way.length
 ·have HE : Hid (sysPut s g = { s with way := s.way, lost := s.lost + 1 }) := Lib.hid (by unfold sysPut; rw [if_pos hfull])
  go_wp2_with fail
  go_end0
  have hs8 := k1.set 8 (I ((s.lost : Int) + 1))
  have ht : Turned (fun b => b = x.g ∨ x.vw.ownBlock = some b) w1 (w1.setCell ⟨x.g, 8, none⟩ (I ((s.lost : Int) + 1))) := (Turned.refl _ _).setCell _ _ (.inl (.inl rfl))
  have hF : ∀ b, (b = x.g ∨ x.vw.ownBlock = some b) → Mut w1 b := fun b e => HY1.out.mut (e.elim .inl fun e => .inr (.inr (.inr e)))
  obtain ⟨h3, h4⟩ := HY1.out.setWay (vw' := x.vw) (vs' := x.vs) (way' := s.way) (lost' := s.lost + 1) ht hs8 (own_far HY1.out.way k1 (by decide) 8 _) HY1.out.len (fun b hb => .inl hb) (fun i gm v' e1 e2 => (HY1.out.bytes i gm v' e1 e2).keepT ht hF)
  refine ⟨rfl, _, ?_, (Moved.of_below HB1.out).trans h4⟩
  rw [HE.out]
  exact h3
 ·have HE : Hid (sysPut s g = { s with way := s.way ++ [g], lost := s.lost }) := Lib.hid (by unfold sysPut; rw [if_neg hfull])
  have hm1 : s.way.length + 1 ≤ maxLen := by unfold maxLen; omega
  have hm2 : (s.way.length + 1) * 40 ≤ 140737488355328 := by omega
  have hnf : ¬ (120 : Int) ≤ (s.way.length : Int) := by omega
  have HNE : Hid (some x.g ≠ (Value.slice A s.way.length cc).ownBlock) := Lib.hid (fun e => own_has_ne HY1.out.way k1 (by decide) (by rw [HVT.out]; exact e.symm))
  have ho : Hid (w1.ownsRow B 132 3 (.slice A s.way.length cc) s.way.length (wayL s.way x.vs)) := Lib.hid (by have := HY1.out.way; rw [HVT.out] at this; exact this)
  have hvv : Hid (v.oneCell' = true) := Lib.hid hvo
  clear hfull hvt hvo
  go_upto_region 3 with (fail)
  go_region_law ((refine step_append_at rfl _ _ 66 rfl B 132 i0 (.agg #[.int .i64 0, .int .i64 0, .slice none 0 0]) 3 40 Tryz.underlying66 hi0 hz0 hz1 hz2 rfl (by decide) _ s.way.length _ rfl (World.ownsRow.alloc ho.out _) _ 1 1 _ rfl rfl (cells_new _ _ _) (by intro u hu; simp at hu; rcases hu with rfl | rfl | rfl; rfl; rfl; exact hvv.out) hm1 hm2 (Nat.le_trans hB1 (by simp)) ?_; intro v2 w2 hown2 hgrow2 hloc2; obtain ⟨A2, c2, rfl, hc2, -⟩ := own_read hown2; have k2 : Has w2 x.g 68 (syC x L s) := (k1.alloc _).drew.grown hgrow2 HNE.out; have f27 := k2.free 7; have c27 := k2.cellv 7 x.vw rfl))
  all_goals
   have hg2 : (w1.alloc (.cells #[I g.src, I g.dst, v] 132)).drew.grownBy w2 (Value.slice A s.way.length cc).ownBlock := hgrow2
   have ho2 : Hid ((w2.setCell ⟨x.g, 7, none⟩ (.slice A2 (s.way.length + 1) c2)).ownsRow B 132 3 (.slice A2 (s.way.length + 1) c2) (s.way.length + 1) (wayL (s.way ++ [g]) (x.vs ++ [v]))) := Lib.hid (own_far (by rw [wayL_append _ _ _ _ HY1.out.len]; exact hown2) k2 (by decide) _ _)
   have hl2 : Hid (∀ b, (Value.slice A2 (s.way.length + 1) c2).ownBlock = some b → x.vw.ownBlock = some b ∨ w1.heap.size ≤ b) := Lib.hid (fun b hb => by
    rw [HVT.out]
    rcases hloc2 with h | h
    ·exact .inl (h ▸ hb)
    ·rw [h] at hb
     injection hb with hb
     exact .inr (by rw [← hb]; simp))
   have ht2 : Hid (Turned (fun b => b = x.g ∨ x.vw.ownBlock = some b) w1 (w2.setCell ⟨x.g, 7, none⟩ (.slice A2 (s.way.length + 1) c2))) := Lib.hid (((((Turned.refl _ _).alloc _).drew).grown hg2 (fun q hq => .inl (.inr (by rw [HVT.out]; exact hq)))).setCell _ _ (.inl (.inl rfl)))
   have k3 := Lib.hid (k2.set 7 (.slice A2 (s.way.length + 1) c2))
   clear hgrow2 hloc2 hown2 hg2 f27 c27 k2
   go_wp2_with fail
   go_end0
   have hF : ∀ b, (b = x.g ∨ x.vw.ownBlock = some b) → Mut w1 b := fun b e => HY1.out.mut (e.elim .inl fun e => .inr (.inr (.inr e)))
   obtain ⟨h3, h4⟩ := HY1.out.setWay (vw' := .slice A2 (s.way.length + 1) c2) (vs' := x.vs ++ [v]) (way' := s.way ++ [g]) (lost' := s.lost) ht2.out k3.out (by rw [List.length_append]; exact ho2.out) (by rw [List.length_append, List.length_append, HY1.out.len]; rfl) hl2.out (fun i gm v' e1 e2 => by
    rw [List.getElem?_append] at e1 e2
    rw [HY1.out.len] at e2
    split at e1
    ·rename_i hlt
     rw [if_pos hlt] at e2
     exact (HY1.out.bytes i gm v' e1 e2).keepT ht2.out hF
    ·rename_i hlt
     rw [if_neg hlt] at e2
     have hi : i - s.way.length = 0 := by
      have := (List.getElem?_eq_some_iff.1 e1).1
      simp at this
      omega
     rw [hi] at e1 e2
     simp at e1 e2
     subst e1 e2
     exact HV1.out.keepT ht2.out hF)
   refine ⟨rfl, _, ?_, (Moved.of_below HB1.out).trans h4⟩
   rw [HE.out]
   exact h3
set_option maxHeartbeats 4000000 in
set_option maxRecDepth 100000 in
theorem sy_send (h : SyAt w B x L s) (hB : B ≤ w.heap.size) (hw : s.way.length ≤ 120) (hl : s.lost ≤ 10000000000) (a b : Nat) (f : List Int) (hf : Wf f) :
  Calls Tryz.prog 43 #[.pointer (some ⟨x.g, 0, none⟩), I a, I b, .agg (frC f)] w (SysPost w B x L (.tuple #[]) (sysSend s a b f)) := by
 have HF := Lib.hid hf
 have HH := Lib.hid h
 have hs1 : Hid ((Tryz.prog.info? 110).map (·.size) = some (frC f).size) := Lib.hid (by rw [frC_size _ HF.out.1]; exact infoFrame)
 have k0 := Has.new w 110 (frC f)
 have hb : Below w.heap.size w (w.alloc (.cells (frC f) 110)) := (Below.refl _ _).alloc (Nat.le_refl _) _
 clear hf h
 cases hm : mayB f with
 | false =>
  have HM := Lib.hid hm
  have HE : Hid (sysSend s a b f = s) := Lib.hid (by unfold sysSend; rw [hm]; rfl)
  clear hm
  go_enter Tryz.func43, Tryz.ntmps43
  go_wp2_with (first
   | (refine wpList_load_row rfl 110 (.tmp 7) rfl w.heap.size rfl 110 (frC f) (0, 0) _ k0 Tryz.underlying110 rfl hs1.out ?_)
   | (go_at_call 80; refine (encode_no f HF.out HM.out _).mono ?_; rintro e w1 ⟨rfl, hb1⟩))
  go_end0
  have h2 := hb.trans (hb1.mono (by simp))
  exact ⟨rfl, x, by rw [HE.out]; exact HH.out.after h2, Moved.of_below h2⟩
 | true =>
  have HM := Lib.hid hm
  have HE : Hid (sysSend s a b f = sysPut s ⟨a, b, encB f⟩) := Lib.hid (by unfold sysSend; rw [hm]; rfl)
  clear hm
  go_enter Tryz.func43, Tryz.ntmps43
  go_wp2_with (first
   | (refine wpList_load_row rfl 110 (.tmp 7) rfl w.heap.size rfl 110 (frC f) (0, 0) _ k0 Tryz.underlying110 rfl hs1.out ?_)
   | (go_at_call 80; refine (encode_yes f HF.out HM.out _).mono ?_; rintro e w1 ⟨⟨A, c, rfl, ho⟩, hb1⟩; have h2 := hb.trans (hb1.mono (by simp)); have HY := Lib.hid (HH.out.after h2); have HO := Lib.hid (BAt.of_own ho); clear ho)
   | (go_at_call 81; refine (sy_put HY.out (by have := h2.size; omega) hw hl ⟨a, b, encB f⟩ _ HO.out).mono ?_; rintro e w2 ⟨rfl, x2, hy2, hm2⟩; have HP := Lib.hid (And.intro hy2 hm2); clear hy2 hm2))
  go_end0
  rw [HE.out]
  exact ⟨rfl, x2, HP.out.1, (Moved.of_below h2).trans HP.out.2⟩
end
end Go.Proofs.YtdhekhlmdefcnabGreatDoor
namespace Go.Proofs.YtdhekhlmdefcnabGreatDoor
open Go.RowKit
section
variable {w : World}
theorem right_nat (k : Nat) (hk : k ≤ 1000) : Calls Tryz.prog 22 #[I k] w fun e w' => e = .returned (.bool (decide (k < 3))) ∧ w = w' := by
 by_cases h : k < 3
 ·have e : decide (k < 3) = true := by simpa using h
  have HE := Lib.hid e
  have h2 : (k : Int) < 3 := by omega
  clear h e hk
  go_enter Tryz.func22, Tryz.ntmps22
  go_wp2
  go_ret
  exact ⟨by rw [HE.out]; rfl, rfl⟩
 ·have e : decide (k < 3) = false := by simpa using h
  have HE := Lib.hid e
  have h2 : ¬ (k : Int) < 3 := by omega
  clear h e hk
  go_enter Tryz.func22, Tryz.ntmps22
  go_wp2
  go_ret
  exact ⟨by rw [HE.out]; rfl, rfl⟩
theorem oth_fn (k y : Nat) (b : Nat) (hb : w.cell? ⟨b, 0, none⟩ = some (I k)) : Calls Tryz.prog 79 #[I y, .pointer (some ⟨b, 0, none⟩)] w fun e w' => e = .returned (.bool (decide (y = k))) ∧ w = w' := by
 by_cases h : y = k
 ·subst h
  go_enter Tryz.func79, Tryz.ntmps79
  go_wp2
  go_ret
  exact ⟨rfl, rfl⟩
 ·have HE := Lib.hid (show decide (y = k) = false by simpa using h)
  have h2 : ((y : Int) == (k : Int)) = false := by simpa using fun e => h (by omega)
  clear h
  go_enter Tryz.func79, Tryz.ntmps79
  go_wp2
  go_ret
  exact ⟨by rw [HE.out]; rfl, rfl⟩
theorem oth_index (k : Nat) (hk : k < 3) (b g : Nat) (hb : w.cell? ⟨b, 0, none⟩ = some (I k)) (hg : Has w g 3 #[I 0, I 1, I 2]) :
  Calls Tryz.prog 113 #[.slice (some ⟨g, 0, none⟩) 3 3, .func (.func 79) #[] #[.pointer (some ⟨b, 0, none⟩)]] w fun e w' => e = .returned (I k) ∧ w = w' := by
 have c0 := hg.cellv 0 (I 0) rfl
 have c1 := hg.cellv 1 (I 1) rfl
 have c2 := hg.cellv 2 (I 2) rfl
 have HB := Lib.hid hb
 clear hb hg
 go_enter Tryz.func113, Tryz.ntmps113
 go_wp2_with fail
 go_loopw [8] (fun i wr => ∃ j : Nat, j ≤ k ∧ i = I j ∧ w = wr) (fun i _ => 3 - (intOf i).toNat)
 case atStart => exact ⟨0, by omega, rfl, rfl⟩
 case round =>
  obtain ⟨j, hj, rfl, rfl⟩ := hrel
  have hjc : j = 0 ∨ j = 1 ∨ j = 2 := by omega
  by_cases e : j = k
  ·have HD := Lib.hid (show decide (j = k) = true by simpa using e)
   have HK := Lib.hid e
   clear e hk hj
   rcases hjc with rfl | rfl | rfl
   all_goals
    go_wp2_with (go_at_call 79; refine (oth_fn k _ b HB.out).mono ?_; rintro e w' ⟨rfl, rfl⟩; rw [HD.out])
    go_ret
    exact ⟨by rw [← HK.out]; rfl, rfl⟩
  ·have HD := Lib.hid (show decide (j = k) = false by simpa using e)
   have HK := Lib.hid (show j + 1 ≤ k by omega)
   have hk3 := Lib.hid hk
   clear e hk hj
   rcases hjc with rfl | rfl | rfl
   all_goals
    go_wp2_with (go_at_call 79; refine (oth_fn k _ b HB.out).mono ?_; rintro e w' ⟨rfl, rfl⟩; rw [HD.out])
    go_roundw
    case rel => exact ⟨_, HK.out, by rfl, trivial⟩
    case measure => simp [intOf]
def othR (k m : Nat) : Array Value := if k = 0 then (if m = 0 then #[I 0, I 1, I 2] else if m = 1 then #[I 1, I 1, I 2] else #[I 1, I 2, I 2]) else if k = 1 then (if m = 0 then #[I 0, I 1, I 2] else #[I 0, I 2, I 2]) else #[I 0, I 1, I 2]
def othC (k : Nat) : Array Value := if k = 0 then #[I 1, I 2, I 0] else if k = 1 then #[I 0, I 2, I 0] else #[I 0, I 1, I 0]
theorem zeroInt (w : World) : (zeroValue 3).run Tryz.prog w = .ok (.int .i64 0) w := by kernel_rfl
theorem oth_clear {wr : World} {g : Nat} {cs : Array Value} (h : Has wr g 3 cs) (hs : cs.size = 3) (ty : TypeId) : (Builtin.clear_ #[27] ty #[.slice (some ⟨g, 2, none⟩) 1 1]).run Tryz.prog wr = .ok (.tuple #[]) (wr.setCell ⟨g, 2, none⟩ (I 0)) :=
 Lib.run_clear_slice wr 27 3 ty (.int .i64 0) Tryz.underlying27 zeroInt rfl rfl g 2 1 1 (by decide) (fun j hj => by rw [h.cell, Array.getElem?_eq_getElem (by omega)]; rfl) (fun j hj => h.free _)
set_option maxHeartbeats 2000000 in
set_option maxRecDepth 100000 in
theorem oth_delete (k : Nat) (hk : k < 3) (b g : Nat) (hb : w.cell? ⟨b, 0, none⟩ = some (I k)) (hbg : b ≠ g) (hg : Has w g 3 #[I 0, I 1, I 2]) :
  Calls Tryz.prog 78 #[.slice (some ⟨g, 0, none⟩) 3 3, .func (.func 79) #[] #[.pointer (some ⟨b, 0, none⟩)]] w fun e w' => (e = .returned (.slice (some ⟨g, 0, none⟩) 2 3) ∧ Has w' g 3 (othC k)) ∧ Turned (fun q => q = g) w w' := by
 have HB := Lib.hid hb
 have HG := Lib.hid hg
 have HT0 := Lib.hid (Turned.refl (fun q => q = g) w)
 have HBG := Lib.hid hbg
 clear hb hg hbg
 have hkc : k = 0 ∨ k = 1 ∨ k = 2 := by omega
 have hkk : k < 3 := hk
 clear hk
 go_enter Tryz.func78, Tryz.ntmps78
 rcases hkc with rfl | rfl | rfl
 ·go_wp2_with (go_at_call 113; refine (oth_index _ hkk b g HB.out HG.out).mono ?_; rintro e w' ⟨rfl, rfl⟩)
  go_loopw [5, 6] (fun s5 s6 wr => ∃ m : Nat, 1 + m ≤ 3 ∧ s5 = I ((0 + m : Nat) : Int) ∧ s6 = I ((1 + m : Nat) : Int) ∧ Has wr g 3 (othR 0 m) ∧ Hid (wr.cell? ⟨b, 0, none⟩ = some (I 0)) ∧ Hid (Turned (fun q => q = g) w wr)) (fun _ s6 _ => 3 - (intOf s6).toNat)
  case atStart => exact ⟨0, by omega, by rfl, by rfl, HG.out, HB, HT0⟩
  case round =>
   clear HT0
   obtain ⟨m, hm, rfl, rfl, hR, hB, hT⟩ := hrel
   have hmc : m = 0 ∨ m = 1 ∨ m = 2 := by omega
   clear hm
   rcases hmc with rfl | rfl | rfl
   ·have cj := hR.cellv 1 (I 1) rfl
    have ci := hR.cellv 0 (I 0) rfl
    have fi := hR.free 0
    have hR2 : Has (wr.setCell ⟨g, 0, none⟩ (I 1)) g 3 (othR 0 1) := hR.set 0 (I 1)
    have hB2 : Hid ((wr.setCell ⟨g, 0, none⟩ (I 1)).cell? ⟨b, 0, none⟩ = some (I 0)) := Lib.hid ((World.cell?_setCell_other _ _ _ _ (fun e => HBG.out (congrArg Addr.block e).symm)).trans hB.out)
    have hT2 : Hid (Turned (fun q => q = g) w (wr.setCell ⟨g, 0, none⟩ (I 1))) := Lib.hid (hT.out.setCell _ _ (.inl rfl))
    go_wp2_with (go_at_call 79; refine (oth_fn 0 1 b hB.out).mono ?_; rintro e w' ⟨rfl, rfl⟩)
    go_roundw
    case rel => exact ⟨1, by omega, by rfl, by rfl, hR2, hB2, hT2⟩
    case measure => simp [intOf]
   ·have cj := hR.cellv 2 (I 2) rfl
    have ci := hR.cellv 1 (I 1) rfl
    have fi := hR.free 1
    have hR2 : Has (wr.setCell ⟨g, 1, none⟩ (I 2)) g 3 (othR 0 2) := hR.set 1 (I 2)
    have hB2 : Hid ((wr.setCell ⟨g, 1, none⟩ (I 2)).cell? ⟨b, 0, none⟩ = some (I 0)) := Lib.hid ((World.cell?_setCell_other _ _ _ _ (fun e => HBG.out (congrArg Addr.block e).symm)).trans hB.out)
    have hT2 : Hid (Turned (fun q => q = g) w (wr.setCell ⟨g, 1, none⟩ (I 2))) := Lib.hid (hT.out.setCell _ _ (.inl rfl))
    go_wp2_with (go_at_call 79; refine (oth_fn 0 2 b hB.out).mono ?_; rintro e w' ⟨rfl, rfl⟩)
    go_roundw
    case rel => exact ⟨2, by omega, by rfl, by rfl, hR2, hB2, hT2⟩
    case measure => simp [intOf]
   ·have hcl := oth_clear hR rfl
    have hR2 : Has (wr.setCell ⟨g, 2, none⟩ (I 0)) g 3 (othC 0) := hR.set 2 (I 0)
    have hT2 : Hid (Turned (fun q => q = g) w (wr.setCell ⟨g, 2, none⟩ (I 0))) := Lib.hid (hT.out.setCell _ _ (.inl rfl))
    have HR2 := Lib.hid hR2
    clear hR hR2
    go_wp2
    go_ret
    exact ⟨⟨by rfl, HR2.out⟩, hT2.out⟩
 ·go_wp2_with (go_at_call 113; refine (oth_index _ hkk b g HB.out HG.out).mono ?_; rintro e w' ⟨rfl, rfl⟩)
  go_loopw [5, 6] (fun s5 s6 wr => ∃ m : Nat, 2 + m ≤ 3 ∧ s5 = I ((1 + m : Nat) : Int) ∧ s6 = I ((2 + m : Nat) : Int) ∧ Has wr g 3 (othR 1 m) ∧ Hid (wr.cell? ⟨b, 0, none⟩ = some (I 1)) ∧ Hid (Turned (fun q => q = g) w wr)) (fun _ s6 _ => 3 - (intOf s6).toNat)
  case atStart => exact ⟨0, by omega, by rfl, by rfl, HG.out, HB, HT0⟩
  case round =>
   clear HT0
   obtain ⟨m, hm, rfl, rfl, hR, hB, hT⟩ := hrel
   have hmc : m = 0 ∨ m = 1 := by omega
   clear hm
   rcases hmc with rfl | rfl
   ·have cj := hR.cellv 2 (I 2) rfl
    have ci := hR.cellv 1 (I 1) rfl
    have fi := hR.free 1
    have hR2 : Has (wr.setCell ⟨g, 1, none⟩ (I 2)) g 3 (othR 1 1) := hR.set 1 (I 2)
    have hB2 : Hid ((wr.setCell ⟨g, 1, none⟩ (I 2)).cell? ⟨b, 0, none⟩ = some (I 1)) := Lib.hid ((World.cell?_setCell_other _ _ _ _ (fun e => HBG.out (congrArg Addr.block e).symm)).trans hB.out)
    have hT2 : Hid (Turned (fun q => q = g) w (wr.setCell ⟨g, 1, none⟩ (I 2))) := Lib.hid (hT.out.setCell _ _ (.inl rfl))
    go_wp2_with (go_at_call 79; refine (oth_fn 1 2 b hB.out).mono ?_; rintro e w' ⟨rfl, rfl⟩)
    go_roundw
    case rel => exact ⟨1, by omega, by rfl, by rfl, hR2, hB2, hT2⟩
    case measure => simp [intOf]
   ·have hcl := oth_clear hR rfl
    have hR2 : Has (wr.setCell ⟨g, 2, none⟩ (I 0)) g 3 (othC 1) := hR.set 2 (I 0)
    have hT2 : Hid (Turned (fun q => q = g) w (wr.setCell ⟨g, 2, none⟩ (I 0))) := Lib.hid (hT.out.setCell _ _ (.inl rfl))
    have HR2 := Lib.hid hR2
    clear hR hR2
    go_wp2
    go_ret
    exact ⟨⟨by rfl, HR2.out⟩, hT2.out⟩
 ·go_wp2_with (go_at_call 113; refine (oth_index _ hkk b g HB.out HG.out).mono ?_; rintro e w' ⟨rfl, rfl⟩)
  go_loopw [5, 6] (fun s5 s6 wr => ∃ m : Nat, 3 + m ≤ 3 ∧ s5 = I ((2 + m : Nat) : Int) ∧ s6 = I ((3 + m : Nat) : Int) ∧ Has wr g 3 (othR 2 m) ∧ Hid (wr.cell? ⟨b, 0, none⟩ = some (I 2)) ∧ Hid (Turned (fun q => q = g) w wr)) (fun _ s6 _ => 3 - (intOf s6).toNat)
  case atStart => exact ⟨0, by omega, by rfl, by rfl, HG.out, HB, HT0⟩
  case round =>
   clear HT0
   obtain ⟨m, hm, rfl, rfl, hR, hB, hT⟩ := hrel
   have hmc : m = 0 := by omega
   clear hm
   subst hmc
   ·have hcl := oth_clear hR rfl
    have hR2 : Has (wr.setCell ⟨g, 2, none⟩ (I 0)) g 3 (othC 2) := hR.set 2 (I 0)
    have hT2 : Hid (Turned (fun q => q = g) w (wr.setCell ⟨g, 2, none⟩ (I 0))) := Lib.hid (hT.out.setCell _ _ (.inl rfl))
    have HR2 := Lib.hid hR2
    clear hR hR2
    go_wp2
    go_ret
    exact ⟨⟨by rfl, HR2.out⟩, hT2.out⟩
set_option maxHeartbeats 1000000 in
theorem others_ok (k : Nat) (hk : k < 3) : Calls Tryz.prog 42 #[I k] w fun e w' => (∃ g, e = .returned (.slice (some ⟨g, 0, none⟩) 2 3) ∧ Has w' g 3 (othC k)) ∧ Below w.heap.size w w' := by
 have k0 := (Has.new w 3 #[I k]).alloc (.cells #[I 0, I 1, I 2] 3)
 have k1 := Has.new (w.alloc (.cells #[I k] 3)) 3 #[I 0, I 1, I 2]
 have b0 := k0.cellv 0 (I k) rfl
 have hne : w.heap.size ≠ (w.alloc (.cells #[I k] 3)).heap.size := by simp
 have hc := oth_delete k hk w.heap.size (w.alloc (.cells #[I k] 3)).heap.size b0 hne k1
 rw [show (w.alloc (.cells #[I k] 3)).heap.size = w.heap.size + 1 by simp] at hc
 have HC := Lib.hid hc
 have hb : Below w.heap.size w ((w.alloc (.cells #[I k] 3)).alloc (.cells #[I 0, I 1, I 2] 3)) := ((Below.refl _ _).alloc (Nat.le_refl _) _).alloc (by simp) _
 have HBE := Lib.hid hb
 have hsz : (w.alloc (.cells #[I k] 3)).heap.size = w.heap.size + 1 := by simp
 have HS := Lib.hid hsz
 clear k0 k1 b0 hne hb hsz hk hc
 go_enter Tryz.func42, Tryz.ntmps42
 go_wp2_with (go_at_call 78; refine HC.out.mono ?_; rintro e w' ⟨⟨rfl, hh⟩, ht⟩)
 go_ret
 refine ⟨⟨_, rfl, hh⟩, HBE.out.trans (ht.below (fun q hq => ?_) (by simp; omega))⟩
 rw [hq]
 omega
end
end Go.Proofs.YtdhekhlmdefcnabGreatDoor
namespace Go.Proofs.YtdhekhlmdefcnabGreatDoor
open Go.RowKit
section
variable {w : World} {B : Nat} {x : SyX} {L : Lay} {s : Sys}
def SysDoneN (G : Prop) (w : World) (B : Nat) (x : SyX) (L : Lay) (s' : Sys) (e : Ending) (w' : World) : Prop := (∃ v, e = .returned v ∧ (G → v = .nilIface)) ∧ ∃ x', SyAt w' B x' L s' ∧ Moved w w' x x'
theorem SyAt.vcell (h : SyAt w B x L s) : w.cell? ⟨x.g, 6, none⟩ = some (.pointer (some ⟨x.vb, 0, none⟩)) := h.cell 6 _ rfl
theorem SyAt.rcell (h : SyAt w B x L s) {k : Nat} (hk : k < 3) : w.cell? ⟨x.g, 3 + k, none⟩ = some (.pointer (some ⟨x.rb k, 0, none⟩)) := h.cell (3 + k) _ (by
 have : k = 0 ∨ k = 1 ∨ k = 2 := by omega
 rcases this with rfl | rfl | rfl <;> rfl)
theorem SyAt.wcell (h : SyAt w B x L s) : ∃ A c, x.vw = .slice A s.way.length c ∧ w.cell? ⟨x.g, 7, none⟩ = some (.slice A s.way.length c) := by
 obtain ⟨A, c, hv, _⟩ := own_read h.way
 exact ⟨A, c, hv, by rw [← hv]; exact h.cell 7 _ rfl⟩
theorem sy_latch (h : SyAt w B x L s) : Calls Tryz.prog 91 #[.pointer (some ⟨x.g, 0, none⟩)] w (SysPost w B x L (.tuple #[]) (sysLatch s)) := by
 have c6 := h.vcell
 have hg := h.has.lt
 have HH := Lib.hid h
 clear h
 go_enter Tryz.func91, Tryz.ntmps91
 go_wp2_with (go_at_call 131; refine (vo_latch HH.out.vo).mono ?_; rintro e w' ⟨rfl, hv, ht⟩)
 go_end0
 obtain ⟨h1, h2⟩ := HH.out.setVo ht hv (.inl rfl)
 exact ⟨rfl, _, h1, h2⟩
theorem sy_latched (h : SyAt w B x L s) : Calls Tryz.prog 100 #[.pointer (some ⟨x.g, 0, none⟩)] w fun e w' => e = .returned (.bool s.v.latched) ∧ w = w' := by
 have c6 := h.vcell
 have hg := h.has.lt
 have HH := Lib.hid h
 clear h
 go_enter Tryz.func100, Tryz.ntmps100
 go_wp2_with (go_at_call 139; refine (vo_latched HH.out.vo).mono ?_; rintro e w' ⟨rfl, rfl⟩)
 go_ret
 exact ⟨rfl, rfl⟩
theorem sy_out (h : SyAt w B x L s) : Calls Tryz.prog 98 #[.pointer (some ⟨x.g, 0, none⟩)] w fun e w' => e = .returned (I (s.v.out : Int)) ∧ w = w' := by
 have c6 := h.vcell
 have hg := h.has.lt
 have HH := Lib.hid h
 clear h
 go_enter Tryz.func98, Tryz.ntmps98
 go_wp2_with (go_at_call 137; refine (vo_out HH.out.vo).mono ?_; rintro e w' ⟨rfl, rfl⟩)
 go_ret
 exact ⟨rfl, rfl⟩
theorem sy_shown (h : SyAt w B x L s) (hw : s.v.trace.length ≤ 1000) : Calls Tryz.prog 97 #[.pointer (some ⟨x.g, 0, none⟩)] w fun e w' => e = .returned (I (voShown s.v)) ∧ ∃ q, w.drewN q = w' := by
 have c6 := h.vcell
 have hg := h.has.lt
 have HH := Lib.hid h
 clear h
 go_enter Tryz.func97, Tryz.ntmps97
 go_wp2_with (go_at_call 136; refine (vo_shown HH.out.vo hw).mono ?_; rintro e w' ⟨rfl, q, rfl⟩)
 go_ret
 exact ⟨rfl, q, rfl⟩
theorem sy_trace (h : SyAt w B x L s) (hw : s.v.trace.length ≤ 1000) : Calls Tryz.prog 12 #[.pointer (some ⟨x.g, 0, none⟩)] w fun e w' => (∃ vr, e = .returned vr ∧ w'.ownsRow w.heap.size 42 3 vr s.v.trace.length (cmsC s.v.trace)) ∧ Below w.heap.size w w' := by
 have c6 := h.vcell
 have hg := h.has.lt
 have HH := Lib.hid h
 clear h
 go_enter Tryz.func12, Tryz.ntmps12
 go_wp2_with (go_at_call 26; refine (vo_trace HH.out.vo hw).mono ?_; rintro e w' ⟨⟨vr, rfl, ho⟩, hb⟩)
 go_ret
 exact ⟨⟨_, rfl, ho⟩, hb⟩
theorem sy_many (h : SyAt w B x L s) : Calls Tryz.prog 93 #[.pointer (some ⟨x.g, 0, none⟩)] w fun e w' => e = .returned (I (s.way.length : Int)) ∧ w = w' := by
 obtain ⟨A, c, _, c7⟩ := h.wcell
 have hg := h.has.lt
 clear h
 go_enter Tryz.func93, Tryz.ntmps93
 go_wp2
 go_ret
 exact ⟨rfl, rfl⟩
theorem sy_tick3 (h : SyAt w B x L s) (hf : s.v.Wf) : Calls Tryz.prog 25 #[.pointer (some ⟨x.g, 0, none⟩), I 3] w (SysDoneN True w B x L { s with v := voTick s.v }) := by
 have c6 := h.vcell
 have hg := h.has.lt
 have HH := Lib.hid h
 have HF := Lib.hid hf
 clear h hf
 go_enter Tryz.func25, Tryz.ntmps25
 go_wp2_with (go_at_call 40; refine (vo_tick HH.out.vo HF.out).mono ?_; rintro e w' ⟨rfl, hv, ht⟩)
 go_ret
 obtain ⟨h1, h2⟩ := HH.out.setVo ht hv (.inl rfl)
 exact ⟨⟨_, rfl, fun _ => rfl⟩, _, h1, h2⟩
set_option maxHeartbeats 1000000 in
theorem sy_see (h : SyAt w B x L s) (k : Nat) (hk : k < 3) (a b : Int) : Calls Tryz.prog 9 #[.pointer (some ⟨x.g, 0, none⟩), I k, .agg #[I a, I b]] w (SysPost w B x L .nilIface (sysSee s k (a, b))) := by
 have hb : Below w.heap.size w (w.alloc (.cells #[I a, I b] 26)) := (Below.refl _ _).alloc (Nat.le_refl _) _
 have h1 : SyAt (w.alloc (.cells #[I a, I b] 26)) B x L s := h.after hb
 have ki := Has.new w 26 #[I a, I b]
 have i0 := ki.cellv 0 (I a) rfl
 have i1 := ki.cellv 1 (I b) rfl
 have ck := h1.rcell hk
 have hg := h1.has.lt
 have HH := Lib.hid h1
 have HB := Lib.hid hb
 have HK := Lib.hid hk
 have hki : (k : Int) < 3 := by omega
 have HD := Lib.hid (show decide (k < 3) = true by simpa using hk)
 clear h h1 hb ki
 go_enter Tryz.func9, Tryz.ntmps9
 go_upto_region 1 with (fail)
 generalize w.alloc (.cells #[I a, I b] 26) = w1 at *
 go_upto_region 3 with (go_at_call 22; refine (right_nat k (by omega)).mono ?_; rintro e w' ⟨rfl, rfl⟩; rw [HD.out])
 have HR := Lib.hid (HH.out.after ((Below.refl _ _).drew))
 go_cut [] (fun wx => SyAt wx B x L (sysSee s k (a, b)) ∧ Moved w1 wx x x)
 case first =>
  go_region_with (go_at_call 23; refine (re_see (HR.out.rep k HK.out) a b).mono ?_; rintro e w' ⟨rfl, hr, ht⟩)
  all_goals
   obtain ⟨h2, h3⟩ := HR.out.setRep HK.out ht hr
   go_wp2_with fail
   go_meet
   case rel => exact ⟨h2, (Moved.of_below ((Below.refl _ _).drew)).trans h3⟩
 case rest =>
  obtain ⟨h2, h3⟩ := hcut
  have H4 := Lib.hid (And.intro h2 h3)
  clear h2 h3
  go_wp2
  go_ret
  exact ⟨rfl, x, H4.out.1, (Moved.of_below HB.out).trans H4.out.2⟩
end
end Go.Proofs.YtdhekhlmdefcnabGreatDoor
namespace Go.Proofs.YtdhekhlmdefcnabGreatDoor
open Go.RowKit
def Stay (w w' : World) : Prop := ∀ g t cs, Has w g t cs → mutT t = false → Has w' g t cs
theorem Stay.refl (w : World) : Stay w w := fun _ _ _ h _ => h
theorem Stay.trans {a b c : World} (h : Stay a b) (h' : Stay b c) : Stay a c := fun g t cs k hn => h' g t cs (h g t cs k hn) hn
theorem Stay.below {w w' : World} (h : Below w.heap.size w w') : Stay w w' := fun _ _ _ k _ => k.after h
def SyIn (w0 : World) (B : Nat) (x : SyX) (L : Lay) (s : Sys) (w : World) : Prop := ∃ x', SyAt w B x' L s ∧ Moved w0 w x x' ∧ B ≤ w.heap.size
section
variable {w0 w w' : World} {B : Nat} {x : SyX} {L : Lay} {s s' : Sys}
theorem SyIn.start (h : SyAt w B x L s) (hB : B ≤ w.heap.size) : SyIn w B x L s w := ⟨x, h, Moved.refl w x, hB⟩
theorem SyIn.after (h : SyIn w0 B x L s w) (hb : Below w.heap.size w w') : SyIn w0 B x L s w' := by
 obtain ⟨x', h1, h2, h3⟩ := h
 exact ⟨x', h1.after hb, h2.trans (Moved.of_below hb), Nat.le_trans h3 hb.size⟩
theorem SyAt.stay {x' : SyX} (h : SyAt w B x L s) (hm : Moved w w' x x') : Stay w w' := fun _g _t _cs k hn => k.keepT hm.turned (fun _ hb => h.mut hb) hn
theorem Moved.size {x' : SyX} (h : Moved w w' x x') : w.heap.size ≤ w'.heap.size := h.turned.size
def InPost (w0 : World) (B : Nat) (x : SyX) (L : Lay) (w : World) (V : Value → Prop) (s' : Sys) (e : Ending) (w' : World) : Prop := (∃ v, e = .returned v ∧ V v) ∧ SyIn w0 B x L s' w' ∧ Stay w w'
theorem SyIn.next {x1 x2 : SyX} (h1 : SyAt w B x1 L s) (hm : Moved w0 w x x1) (hB : B ≤ w.heap.size) (h2 : SyAt w' B x2 L s') (hm2 : Moved w w' x1 x2) : SyIn w0 B x L s' w' ∧ Stay w w' :=
 ⟨⟨x2, h2, hm.trans hm2, Nat.le_trans hB hm2.size⟩, h1.stay hm2⟩
theorem in_send {T : Nat} (h : SyIn w0 B x L s w) (hf : Fine T s) (hT : T ≤ 10000000000) (a b : Nat) (f : List Int) (hw : Wf f) :
  Calls Tryz.prog 43 #[.pointer (some ⟨x.g, 0, none⟩), I a, I b, .agg (frC f)] w (InPost w0 B x L w (· = .tuple #[]) (sysSend s a b f)) := by
 obtain ⟨x1, h1, hm, hB⟩ := h
 have hc := sy_send h1 hB hf.way (Nat.le_trans hf.lost hT) a b f hw
 rw [hm.same] at hc
 refine hc.mono ?_
 rintro e w' ⟨he, x2, h2, hm2⟩
 exact ⟨⟨_, he, rfl⟩, SyIn.next h1 hm hB h2 hm2⟩
theorem in_see (h : SyIn w0 B x L s w) (k : Nat) (hk : k < 3) (a b : Int) :
  Calls Tryz.prog 9 #[.pointer (some ⟨x.g, 0, none⟩), I k, .agg #[I a, I b]] w (InPost w0 B x L w (· = .nilIface) (sysSee s k (a, b))) := by
 obtain ⟨x1, h1, hm, hB⟩ := h
 have hc := sy_see h1 k hk a b
 rw [hm.same] at hc
 refine hc.mono ?_
 rintro e w' ⟨he, x2, h2, hm2⟩
 exact ⟨⟨_, he, rfl⟩, SyIn.next h1 hm hB h2 hm2⟩
theorem in_latch (h : SyIn w0 B x L s w) : Calls Tryz.prog 91 #[.pointer (some ⟨x.g, 0, none⟩)] w (InPost w0 B x L w (fun _ => True) (sysLatch s)) := by
 obtain ⟨x1, h1, hm, hB⟩ := h
 have hc := sy_latch h1
 rw [hm.same] at hc
 refine hc.mono ?_
 rintro e w' ⟨he, x2, h2, hm2⟩
 exact ⟨⟨_, he, trivial⟩, SyIn.next h1 hm hB h2 hm2⟩
theorem in_tick3 (h : SyIn w0 B x L s w) (hf : s.v.Wf) : Calls Tryz.prog 25 #[.pointer (some ⟨x.g, 0, none⟩), I 3] w (InPost w0 B x L w (· = .nilIface) { s with v := voTick s.v }) := by
 obtain ⟨x1, h1, hm, hB⟩ := h
 have hc := sy_tick3 h1 hf
 rw [hm.same] at hc
 refine hc.mono ?_
 rintro e w' ⟨⟨v, he, hn⟩, x2, h2, hm2⟩
 exact ⟨⟨_, he, hn trivial⟩, SyIn.next h1 hm hB h2 hm2⟩
theorem in_trace (h : SyIn w0 B x L s w) (hw : s.v.trace.length ≤ 1000) : Calls Tryz.prog 12 #[.pointer (some ⟨x.g, 0, none⟩)] w fun e w' => (∃ vr, e = .returned vr ∧ w'.ownsRow w.heap.size 42 3 vr s.v.trace.length (cmsC s.v.trace)) ∧ Below w.heap.size w w' := by
 obtain ⟨x1, h1, hm, hB⟩ := h
 have hc := sy_trace h1 hw
 rw [hm.same] at hc
 exact hc
theorem SyIn.rep (h : SyIn w0 B x L s w) {k : Nat} (hk : k < 3) : ∃ gr gc, w.cell? ⟨x.g, 3 + k, none⟩ = some (.pointer (some ⟨gr, 0, none⟩)) ∧ RepAt w gr gc L (re s k) ∧
  ∀ (w' : World) (r : Re), Turned (fun b => b = gr) w w' → RepAt w' gr gc L r → SyIn w0 B x L { s with rs := s.rs.set k r } w' ∧ Stay w w' := by
 obtain ⟨x1, h1, hm, hB⟩ := h
 refine ⟨x1.rb k, x1.cb k, by rw [← hm.same]; exact h1.rcell hk, h1.rep k hk, fun w' r ht hr => ?_⟩
 obtain ⟨h2, hm2⟩ := h1.setRep hk ht hr
 exact SyIn.next h1 hm hB h2 hm2
theorem SyIn.lt (h : SyIn w0 B x L s w) : x.g < w.heap.size := by
 obtain ⟨x1, h1, hm, hB⟩ := h
 rw [← hm.same]
 exact h1.has.lt
theorem two_others {k : Nat} (hk : k < 3) : ∃ o0 o1, others k = [o0, o1] ∧ othC k = #[I (o0 : Nat), I (o1 : Nat), I 0] ∧ o0 ≤ 3 ∧ o1 ≤ 3 := by
 have : k = 0 ∨ k = 1 ∨ k = 2 := by omega
 rcases this with rfl | rfl | rfl
 ·exact ⟨1, 2, by decide, rfl, by decide, by decide⟩
 ·exact ⟨0, 2, by decide, rfl, by decide, by decide⟩
 ·exact ⟨0, 1, by decide, rfl, by decide, by decide⟩
end
end Go.Proofs.YtdhekhlmdefcnabGreatDoor
namespace Go.Proofs.YtdhekhlmdefcnabGreatDoor
open Go.RowKit
section
variable {w0 w : World} {B : Nat} {x : SyX} {L : Lay} {s : Sys} {T : Nat}
theorem sendAll_re (s : Sys) (a : Nat) (l : List Nat) (f : List Int) (k : Nat) : re (sendAll s a l f) k = re s k := re_rs (sendAll_rest a f l s).1 k
set_option maxHeartbeats 4000000 in
set_option maxRecDepth 100000 in
theorem in_asks (h : SyIn w0 B x L s w) (hf : Fine T s) (hT : T ≤ 9999999990) (k : Nat) (hk : k < 3) : Calls Tryz.prog 88 #[.pointer (some ⟨x.g, 0, none⟩), I k] w (InPost w0 B x L w (· = .nilIface) (sysAsks s k)) := by
 have hg := h.lt
 have HH := Lib.hid h
 have HF := Lib.hid hf
 have HK := Lib.hid hk
 have hki : (k : Int) < 3 := by omega
 have HD := Lib.hid (show decide (k < 3) = true by simpa using hk)
 obtain ⟨o0, o1, ho, hc, hl0, hl1⟩ := two_others hk
 have HO := Lib.hid ho
 have HC := Lib.hid hc
 clear h hf ho hc
 go_enter Tryz.func88, Tryz.ntmps88
 go_wp2_with (first
  | (go_at_call 22; refine (right_nat k (by omega)).mono ?_; rintro e w' ⟨rfl, rfl⟩; rw [HD.out])
  | (go_at_call 42; refine (others_ok k HK.out).mono ?_; rintro e wo ⟨⟨gO, rfl, hO⟩, hbo⟩; rw [HC.out] at hO; have H1 := Lib.hid (HH.out.after hbo); have S1 := Lib.hid (Stay.below hbo)))
 clear HH hbo
 go_loopw [14] (fun i wr => ∃ j : Nat, j ≤ 2 ∧ i = I j ∧ Hid (SyIn w0 B x L (sendAll s k ([o0, o1].take j) (asks (re s k))) wr) ∧ Has wr gO 3 #[I (o0 : Nat), I (o1 : Nat), I 0] ∧ Hid (Stay w wr)) (fun i _ => 2 - (intOf i).toNat)
 case atStart => exact ⟨0, by omega, rfl, H1, hO, S1⟩
 case round =>
  clear H1 hO S1
  obtain ⟨j, hj, rfl, HI, hO, HS⟩ := hrel
  have hjc : j = 0 ∨ j = 1 ∨ j = 2 := by omega
  clear hj
  rcases hjc with rfl | rfl | rfl
  ·have c0 := hO.cellv 0 (I (o0 : Nat)) rfl
   have hO' := Lib.hid hO
   have hgx := HI.out.lt
   obtain ⟨gr, gc, c3, hr, _⟩ := HI.out.rep HK.out
   rw [sendAll_re] at hr
   have HR := Lib.hid hr
   have HFI : Hid (Fine T (sendAll s k ([o0, o1].take 0) (asks (re s k)))) := HF
   clear hr hO
   go_wp2_with (first
    | (go_at_call 75; refine (re_asks HR.out).mono ?_; rintro e wa ⟨rfl, hba⟩; have HI2 := Lib.hid (HI.out.after hba); have HO2 := Lib.hid (hO'.out.after hba); have HS2 := Lib.hid (HS.out.trans (Stay.below hba)))
    | (go_at_call 43; refine (in_send HI2.out HFI.out (by omega) k o0 (asks (re s k)) (asks_wf (HF.out.fits k HK.out))).mono ?_; rintro e wb ⟨⟨v, rfl, rfl⟩, hin2, hst2⟩; have HI3 := Lib.hid hin2; have HO3 := Lib.hid (hst2 _ _ _ HO2.out (by decide)); have HS3 := Lib.hid (HS2.out.trans hst2)))
   go_roundw
   case rel => exact ⟨1, by omega, by rfl, HI3, HO3.out, HS3⟩
   case measure => simp [intOf]
  ·have c0 := hO.cellv 1 (I (o1 : Nat)) rfl
   have hO' := Lib.hid hO
   have hgx := HI.out.lt
   obtain ⟨gr, gc, c3, hr, _⟩ := HI.out.rep HK.out
   rw [sendAll_re] at hr
   have HR := Lib.hid hr
   have HFI : Hid (Fine (T + 1) (sendAll s k ([o0, o1].take 1) (asks (re s k)))) := Lib.hid (HF.out.send _ (by omega) hl0)
   clear hr hO
   go_wp2_with (first
    | (go_at_call 75; refine (re_asks HR.out).mono ?_; rintro e wa ⟨rfl, hba⟩; have HI2 := Lib.hid (HI.out.after hba); have HO2 := Lib.hid (hO'.out.after hba); have HS2 := Lib.hid (HS.out.trans (Stay.below hba)))
    | (go_at_call 43; refine (in_send HI2.out HFI.out (by omega) k o1 (asks (re s k)) (asks_wf (HF.out.fits k HK.out))).mono ?_; rintro e wb ⟨⟨v, rfl, rfl⟩, hin2, hst2⟩; have HI3 := Lib.hid hin2; have HO3 := Lib.hid (hst2 _ _ _ HO2.out (by decide)); have HS3 := Lib.hid (HS2.out.trans hst2)))
   go_roundw
   case rel => exact ⟨2, by omega, by rfl, HI3, HO3.out, HS3⟩
   case measure => simp [intOf]
  ·go_wp2
   go_ret
   refine ⟨⟨_, rfl, rfl⟩, ?_, HS.out⟩
   unfold sysAsks
   rw [HO.out]
   exact HI.out
def twoF (w : World) (a b : List Int) : World := (((w.alloc (.cells (frC zeroF) 110)).alloc (.cells (frC zeroF) 110)).setRow w.heap.size (frC a)).setRow (w.heap.size + 1) (frC b)
theorem twoF_has (w : World) (a b : List Int) : Has (twoF w a b) w.heap.size 110 (frC a) ∧ Has (twoF w a b) (w.heap.size + 1) 110 (frC b) ∧ Below w.heap.size w (twoF w a b) := by
 have k0 := (Has.new w 110 (frC zeroF)).alloc (.cells (frC zeroF) 110)
 have k1 := Has.new' (w.alloc (.cells (frC zeroF) 110)) 110 (frC zeroF) (w.heap.size + 1) (by simp)
 have hb : Below w.heap.size w ((w.alloc (.cells (frC zeroF) 110)).alloc (.cells (frC zeroF) 110)) := ((Below.refl _ _).alloc (Nat.le_refl _) _).alloc (by simp) _
 refine ⟨?_, (k1.farRow (by omega) _).setRow _, below_setRow (below_setRow hb (Nat.le_refl _) _) (by omega) _⟩
 exact (k0.setRow _).farRow (by omega) _
set_option maxHeartbeats 4000000 in
set_option maxRecDepth 100000 in
theorem in_tick (h : SyIn w0 B x L s w) (hf : Fine T s) (hL : L.Ok) (hT : T ≤ 9999999990) (k : Nat) (hk : k < 3) : Calls Tryz.prog 25 #[.pointer (some ⟨x.g, 0, none⟩), I k] w (InPost w0 B x L w (· = .nilIface) (tickR L s k)) := by
 have hg := h.lt
 have HH := Lib.hid h
 have HF := Lib.hid hf
 have HK := Lib.hid hk
 have hki : (k : Int) < 3 := by omega
 have hk3 : ((k : Int) == 3) = false := by simpa using (by omega : ¬ (k : Int) = 3)
 have HD := Lib.hid (show decide (k < 3) = true by simpa using hk)
 obtain ⟨o0, o1, ho, hc, hl0, hl1⟩ := two_others hk
 have HC := Lib.hid hc
 obtain ⟨gr, gc, c3, hr, hup⟩ := h.rep hk
 have hwf := tick_wf hL (hf.fits k hk)
 have hfit := tick_fits hL (hf.fits k hk)
 have hcall := re_tick hr hL T (by omega) (Lib.hid (hf.fits k hk))
 unfold TickPost at hcall
 have hE : tickR L s k = (if (reTick L (re s k)).2.2.2 then sysSend (sendAll { s with rs := s.rs.set k (reTick L (re s k)).1 } k (others k) (reTick L (re s k)).2.1) k 3 (reTick L (re s k)).2.2.1 else sendAll { s with rs := s.rs.set k (reTick L (re s k)).1 } k (others k) (reTick L (re s k)).2.1) := rfl
 rw [ho] at hE
 generalize reTick L (re s k) = R at *
 obtain ⟨q, fa, fb, ok⟩ := R
 dsimp only at hwf hfit hcall hE
 have HE := Lib.hid hE
 have HCL := Lib.hid hcall
 have HW := Lib.hid hwf
 have HF1 := Lib.hid (hf.setRe hk hfit (by omega))
 have HU := Lib.hid hup
 have hsa : Hid ((Tryz.prog.info? 110).map (·.size) = some (frC fa).size) := Lib.hid (by rw [frC_size _ hwf.1.1]; exact infoFrame)
 have hsb : Hid ((Tryz.prog.info? 110).map (·.size) = some (frC fb).size) := Lib.hid (by rw [frC_size _ hwf.2.1]; exact infoFrame)
 have hza : Hid ((frC zeroF).size = (frC fa).size) := Lib.hid (by rw [frC_size _ hwf.1.1]; rfl)
 have hzb : Hid ((frC zeroF).size = (frC fb).size) := Lib.hid (by rw [frC_size _ hwf.2.1]; rfl)
 clear h hf ho hc hwf hfit hcall hE hup hr
 go_enter Tryz.func25, Tryz.ntmps25
 go_upto_region 6 with (first
  | (go_at_call 22; refine (right_nat k (by omega)).mono ?_; rintro e w' ⟨rfl, rfl⟩; rw [HD.out])
  | (go_at_call 41; refine HCL.out.mono ?_; rintro e wt ⟨rfl, hrt, htt⟩; have H1 := Lib.hid (HU.out wt q htt hrt); clear hrt htt)
  | (rw [← zeroFrame]; refine wpList_store_row rfl 110 (.tmp 5) (.tmp 30) rfl wt.heap.size (frC fa) rfl rfl 110 (frC zeroF) ((Has.new wt 110 (frC zeroF)).alloc _) hsa.out hza.out (frC_one _) ?_)
  | (refine wpList_store_row rfl 110 (.tmp 6) (.tmp 31) rfl (wt.heap.size + 1) (frC fb) rfl rfl 110 (frC zeroF) ((Has.new' (wt.alloc (.cells (frC zeroF) 110)) 110 (frC zeroF) (wt.heap.size + 1) (by simp)).farRow (by omega) _) hsb.out hzb.out (frC_one _) ?_))
 have h5 := twoF_has wt fa fb
 change Code.wp _ _ _ _ (twoF wt fa fb)
 generalize twoF wt fa fb = w5 at *
 obtain ⟨k5, k6, hb5⟩ := h5
 have H2 : Hid (SyIn w0 B x L { s with rs := s.rs.set k q } w5) := Lib.hid (H1.out.1.after hb5)
 have S2 := Lib.hid (H1.out.2.trans (Stay.below hb5))
 generalize hG : wt.heap.size = g5 at *
 clear hG hb5 H1 HU c3 HCL
 go_wp2_with (go_at_call 42; refine (others_ok k HK.out).mono ?_; rintro e wo ⟨⟨gO, rfl, hO⟩, hbo⟩; rw [HC.out] at hO; have H3 := Lib.hid (H2.out.after hbo); have S3 := Lib.hid (S2.out.trans (Stay.below hbo)); have K5 := Lib.hid (k5.after hbo); have K6 := Lib.hid (k6.after hbo))
 clear H2 S2 hbo k5 k6
 go_loopw [36] (fun i wr => ∃ j : Nat, j ≤ 2 ∧ i = I j ∧ Hid (SyIn w0 B x L (sendAll { s with rs := s.rs.set k q } k ([o0, o1].take j) fa) wr) ∧ Has wr gO 3 #[I (o0 : Nat), I (o1 : Nat), I 0] ∧ Has wr g5 110 (frC fa) ∧ Has wr (g5 + 1) 110 (frC fb) ∧ Hid (Stay w wr)) (fun i _ => 2 - (intOf i).toNat)
 case atStart => exact ⟨0, by omega, rfl, H3, hO, K5.out, K6.out, S3⟩
 case round =>
  clear H3 hO S3 K5 K6
  obtain ⟨j, hj, rfl, HI, hO, k5, k6, HS⟩ := hrel
  have hjc : j = 0 ∨ j = 1 ∨ j = 2 := by omega
  clear hj
  rcases hjc with rfl | rfl | rfl
  ·have c0 := hO.cellv 0 (I (o0 : Nat)) rfl
   have hO' := Lib.hid hO
   have hgx := HI.out.lt
   have k5' := Lib.hid k5
   have k6' := Lib.hid k6
   have HFI : Hid (Fine (T + 1) (sendAll { s with rs := s.rs.set k q } k ([o0, o1].take 0) fa)) := HF1
   clear hO k6
   go_wp2_with (first
    | (refine wpList_load_row rfl 110 (.tmp 5) rfl g5 rfl 110 (frC fa) (0, 0) _ k5 Tryz.underlying110 rfl hsa.out ?_)
    | (go_at_call 43; refine (in_send HI.out HFI.out (by omega) k o0 fa HW.out.1).mono ?_; rintro e wb ⟨⟨v, rfl, rfl⟩, hin2, hst2⟩; have HI3 := Lib.hid hin2; have HO3 := Lib.hid (hst2 _ _ _ hO'.out (by decide)); have H53 := Lib.hid (hst2 _ _ _ k5'.out (by decide)); have H63 := Lib.hid (hst2 _ _ _ k6'.out (by decide)); have HS3 := Lib.hid (HS.out.trans hst2)))
   go_roundw
   case rel => exact ⟨1, by omega, by rfl, HI3, HO3.out, H53.out, H63.out, HS3⟩
   case measure => simp [intOf]
  ·have c0 := hO.cellv 1 (I (o1 : Nat)) rfl
   have hO' := Lib.hid hO
   have hgx := HI.out.lt
   have k5' := Lib.hid k5
   have k6' := Lib.hid k6
   have HFI : Hid (Fine (T + 2) (sendAll { s with rs := s.rs.set k q } k ([o0, o1].take 1) fa)) := Lib.hid (HF1.out.send fa (by omega) hl0)
   clear hO k6
   go_wp2_with (first
    | (refine wpList_load_row rfl 110 (.tmp 5) rfl g5 rfl 110 (frC fa) (0, 0) _ k5 Tryz.underlying110 rfl hsa.out ?_)
    | (go_at_call 43; refine (in_send HI.out HFI.out (by omega) k o1 fa HW.out.1).mono ?_; rintro e wb ⟨⟨v, rfl, rfl⟩, hin2, hst2⟩; have HI3 := Lib.hid hin2; have HO3 := Lib.hid (hst2 _ _ _ hO'.out (by decide)); have H53 := Lib.hid (hst2 _ _ _ k5'.out (by decide)); have H63 := Lib.hid (hst2 _ _ _ k6'.out (by decide)); have HS3 := Lib.hid (HS.out.trans hst2)))
   go_roundw
   case rel => exact ⟨2, by omega, by rfl, HI3, HO3.out, H53.out, H63.out, HS3⟩
   case measure => simp [intOf]
  ·have HFI : Hid (Fine (T + 3) (sendAll { s with rs := s.rs.set k q } k [o0, o1] fa)) := Lib.hid ((HF1.out.send fa (by omega) hl0).send fa (by omega) hl1)
   have k6' := Lib.hid k6
   have HI2 : Hid (SyIn w0 B x L (sendAll { s with rs := s.rs.set k q } k [o0, o1] fa) wr) := HI
   clear hO k5 HI
   cases ok with
   | false =>
    go_wp2
    go_ret
    refine ⟨⟨_, rfl, rfl⟩, ?_, HS.out⟩
    rw [HE.out]
    exact HI2.out
   | true =>
    go_wp2_with (first
     | (refine wpList_load_row rfl 110 (.tmp 6) rfl (g5 + 1) rfl 110 (frC fb) (0, 0) _ k6 Tryz.underlying110 rfl hsb.out ?_)
     | (go_at_call 43; refine (in_send HI2.out HFI.out (by omega) k 3 fb HW.out.2).mono ?_; rintro e wb ⟨⟨v, rfl, rfl⟩, hin2, hst2⟩; have HI3 := Lib.hid hin2; have HS3 := Lib.hid (HS.out.trans hst2)))
    go_ret
    refine ⟨⟨_, rfl, rfl⟩, ?_, HS3.out⟩
    rw [HE.out]
    exact HI3.out
end
end Go.Proofs.YtdhekhlmdefcnabGreatDoor
