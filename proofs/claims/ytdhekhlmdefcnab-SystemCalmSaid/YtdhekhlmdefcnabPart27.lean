/- Part 27 of the proof: SySl, SyPut, SyOth, SyFine, SyGet. -/
import Derived.Test.YtdhekhlmdefcnabPart19
import Derived.Test.YtdhekhlmdefcnabPart8
import Derived.Test.YtdhekhlmdefcnabPart26
import Derived.Test.YtdhekhlmdefcnabPart25
import Derived.Test.YtdhekhlmdefcnabPart21
import Derived.Test.YtdhekhlmdefcnabPart12
import Derived.Lib.SliceRun
import Derived.Deep.RegionLaw
import Derived.Deep.LoopGhost
namespace Go.Proofs.Ytdhekhlmdefcnab
open Go.RowKit
theorem infoGram : (Try.prog.info? 109).map (fun i => (i.zero, i.size, i.bytes)) = some (some (.agg #[.int .i64 0, .int .i64 0, .slice none 0 0]), 3, 40) := by kernel_rfl
theorem zeroGram (w : World) : (zeroValue 109).run Try.prog w = .ok (.agg #[.int .i64 0, .int .i64 0, .slice none 0 0]) w := by kernel_rfl
theorem bytes_ones (l : List UInt8) : ∀ u ∈ bytes l, u.oneCell' = true := by
 intro u hu
 simp [bytes] at hu
 obtain ⟨a, _, rfl⟩ := hu
 rfl
def nilGram : List Value := [I 0, I 0, .slice none 0 0]
def putL (cs : Array Value) : Nat → List Value → Array Value
 | _, [] => cs
 | o, v :: l => putL (cs.setIfInBounds o v) (o + 1) l
theorem putL_size : ∀ (l : List Value) (cs : Array Value) (o : Nat), (putL cs o l).size = cs.size
 | [], _, _ => rfl
 | v :: l, cs, o => by rw [putL, putL_size l, Array.size_setIfInBounds]
theorem putL_toList : ∀ (l : List Value) (cs : Array Value) (o : Nat), o + l.length ≤ cs.size → (putL cs o l).toList = cs.toList.take o ++ l ++ cs.toList.drop (o + l.length)
 | [], cs, o, _ => by simp [putL]
 | v :: l, cs, o, h => by
  simp only [List.length_cons] at h
  rw [putL, putL_toList l _ _ (by rw [Array.size_setIfInBounds]; omega), Array.toList_setIfInBounds]
  have h1 : (cs.toList.set o v).take (o + 1) = cs.toList.take o ++ [v] := by
   rw [List.take_add_one, List.take_set_of_le (Nat.le_refl o)]
   simp [show o < cs.size by omega]
  rw [h1, List.drop_set_of_lt (by omega), List.length_cons, show o + 1 + l.length = o + (l.length + 1) by omega]
  simp
theorem Has.sets {g : Nat} {t : TypeId} : ∀ (l : List Value) (o : Nat) {w : World} {cs : Array Value}, Has w g t cs → Has (w.setCells g o l) g t (putL cs o l)
 | [], _, _, _, h => h
 | v :: l, o, _, _, h => Has.sets l (o + 1) (h.set o v)
theorem run_clear_gram (w : World) (ty : TypeId) (b o c : Nat) (hc : ∀ j, j < 3 → (w.cell? ⟨b, o + j, none⟩).isSome = true) (hf : ∀ j, j < 3 → w.frozen? ⟨b, o + j, none⟩ = false) :
  (Builtin.clear_ #[84] ty #[.slice (some ⟨b, o, none⟩) 1 c]).run Try.prog w = .ok (.tuple #[]) (w.setCells b o nilGram) := by
 have hzc : (Builtin.zeroCells (Value.agg #[.int .i64 0, .int .i64 0, .slice none 0 0]).cells 1).toList = nilGram := by kernel_rfl
 have hst := run_storeCells_cells (P := Try.prog) b o nilGram 0 w (by simpa [nilGram] using hc) (by simpa [nilGram] using hf) (by intro v hv'; simp [nilGram] at hv'; rcases hv' with rfl | rfl <;> rfl)
 simp only [Nat.add_zero] at hst
 simp [Builtin.clear_, run_underlying Try.underlying84, hzc, hst]
section
variable {w : World}
set_option maxHeartbeats 4000000 in
set_option maxRecDepth 100000 in
theorem del_gram {B n : Nat} {v : Value} {xs : List Value} (h : w.ownsRow B 109 3 v n xs) (hx : ∀ u ∈ xs, u.oneCell' = true) (i : Nat) (hi : i < n) :
  Calls Try.prog 59 #[v, I i, I ((i : Int) + 1)] w fun e w' => (∃ v', e = .returned v' ∧ v'.ownBlock = v.ownBlock ∧ w'.ownsRow B 109 3 v' (n - 1) (xs.take (i * 3) ++ xs.drop ((i + 1) * 3))) ∧ Turned (fun b => v.ownBlock = some b) w w' := by
 obtain ⟨i0, hi0, hz0, hz1, hz2⟩ := info_parts infoGram
 obtain ⟨hlen, hn | ⟨g, cap, cur, rfl, hB, hh, hnc, hcm, hsz, htk⟩⟩ := h
 ·omega
 have kg : Has w g 109 cur := hh
 obtain ⟨news, hnews⟩ : ∃ news, news = xs.drop ((i + 1) * 3) := ⟨_, rfl⟩
 have hnl : news.length = (n - (i + 1)) * 3 := by rw [hnews, List.length_drop, hlen]; omega
 have hget : ∀ t u, news[t]? = some u → w.cell? ⟨g, (i + 1) * 3 + t, none⟩ = some u := fun t u hu => by
  rw [kg.cell]
  rw [hnews, List.getElem?_drop, ← htk, List.getElem?_take] at hu
  split at hu
  ·simpa using hu
  ·cases hu
 obtain ⟨A, hA, hsrc⟩ : ∃ A : Addr, (if cap = i + 1 then some (⟨g, 0, none⟩ : Addr) else some ⟨g, (i + 1) * 3, none⟩) = some A ∧ Hid (∀ t u, news[t]? = some u → w.drew.cell? (A.add t) = some u) := by
  by_cases hc : cap = i + 1
  ·refine ⟨⟨g, 0, none⟩, by simp [hc], Lib.hid fun t u hu => ?_⟩
   have h0 : news.length = 0 := by rw [hnl]; omega
   rw [List.length_eq_zero_iff.1 h0] at hu
   simp at hu
  ·refine ⟨⟨g, (i + 1) * 3, none⟩, by simp [hc], Lib.hid fun t u hu => ?_⟩
   rw [Addr.add_lit]
   exact hget t u hu
 have s1 : Hid (news.length = (n - (i + 1)) * 3) := Lib.hid hnl
 have s2 : Hid (∀ u ∈ news, u.oneCell' = true) := Lib.hid fun u hu => hx u (List.mem_of_mem_drop (by rw [← hnews]; exact hu))
 have s3 : Hid (∀ t, t < news.length → (w.drew.cell? ⟨g, 0 + i * 3 + t, none⟩).isSome = true ∧ w.drew.frozen? ⟨g, 0 + i * 3 + t, none⟩ = false) := Lib.hid fun t ht => by
  rw [hnl] at ht
  have hz : i * 3 + t < cur.size := by rw [hsz]; omega
  exact ⟨by show (w.cell? _).isSome = true; rw [Nat.zero_add, kg.cell, Array.getElem?_eq_getElem hz]; rfl, kg.free _⟩
 obtain ⟨W1, hW1⟩ : ∃ W1, W1 = w.drew.setCells g (0 + i * 3) news := ⟨_, rfl⟩
 have k1 : Has W1 g 109 (putL cur (0 + i * 3) news) := by rw [hW1]; exact kg.drew.sets _ _
 have t1 : Turned (fun b => (Value.slice (some ⟨g, 0, none⟩) n cap).ownBlock = some b) w W1 := by rw [hW1]; exact Turned.setCells (F := fun b => (Value.slice (some ⟨g, 0, none⟩) n cap).ownBlock = some b) (a := w) (g := g) (.inl rfl) _ _ (Turned.refl _ _).drew
 have hp : (putL cur (0 + i * 3) news).size = cap * 3 := by rw [putL_size, hsz]
 have hcl : ∀ ty, (Builtin.clear_ #[84] ty #[.slice (some ⟨g, (i + (n - (i + 1))) * 3, none⟩) (n - (i + (n - (i + 1)))) (cap - (i + (n - (i + 1))))]).run Try.prog W1 = .ok (.tuple #[]) (W1.setCells g ((n - 1) * 3) nilGram) := fun ty => by
  rw [show n - (i + (n - (i + 1))) = 1 by omega, show i + (n - (i + 1)) = n - 1 by omega]
  exact run_clear_gram W1 ty g _ _ (fun j hj => by rw [k1.cell, Array.getElem?_eq_getElem (by rw [hp]; omega)]; rfl) (fun j hj => k1.free _)
 have hW : Hid (W1 = w.drew.setCells g (0 + i * 3) news) := Lib.hid hW1
 have K1 := Lib.hid k1
 have T1 := Lib.hid t1
 have HL : Hid ((putL cur (0 + i * 3) news).toList = cur.toList.take (i * 3) ++ news ++ cur.toList.drop ((n - 1) * 3)) := Lib.hid (by
  rw [putL_toList _ _ _ (by rw [hnl, hsz]; omega), hnl, show 0 + i * 3 = i * 3 by omega, show i * 3 + (n - (i + 1)) * 3 = (n - 1) * 3 by omega])
 have HN := Lib.hid hnews
 have HT := Lib.hid htk
 have HLN := Lib.hid hlen
 have hic : i ≤ cap := by omega
 have hjc : i + 1 ≤ cap := by omega
 have hin : i + 1 ≤ n := by omega
 have hq1 : (0 : Int) ≤ (i : Int) + 1 := by omega
 have hq2 : (i : Int) + 1 ≤ (n : Int) := by omega
 clear hW1 k1 t1 hget hnews hnl kg hh hx htk hlen
 go_enter Try.func59, Try.ntmps59
 go_wp2_with fail
 go_region_law (refine step_append_room rfl (.tmp 22) (.tmp 25) 84 rfl 109 i0 3 Try.underlying84 hi0 hz1 g 0 i cap (by simp [Act.eval, Act.put]) A (n - (i + 1)) (cap - (i + 1)) news (by simp [Act.eval, Act.put]) s1.out hsrc.out s2.out (by omega) s3.out ?_; rw [← hW.out])
 go_wp2
 go_ret
 have k2 := K1.out.sets nilGram ((n - 1) * 3)
 refine ⟨⟨_, rfl, rfl, ?_, .inr ⟨g, cap, _, by rw [show i + (n - (i + 1)) = n - 1 by omega]; rfl, hB, k2, by omega, hcm, by rw [putL_size, hp], ?_⟩⟩, Turned.setCells (F := fun b => (Value.slice (some ⟨g, 0, none⟩) n cap).ownBlock = some b) (a := w) (g := g) (.inl rfl) _ _ T1.out⟩
 ·have := HLN.out
  rw [List.length_append, List.length_take, List.length_drop]
  omega
 ·have hn1 := s1.out
  have h3 := HLN.out
  have h4 := HT.out
  rw [putL_toList _ _ _ (by rw [hp]; simp [nilGram]; omega), HL.out, List.append_assoc, List.take_append_of_le_length (by simp; omega), List.take_of_length_le (by simp; omega)]
  rw [List.take_append_of_le_length (by simp; omega), List.take_of_length_le (by simp; omega), HN.out, ← h4, List.take_take, Nat.min_eq_left (by omega)]
set_option maxHeartbeats 4000000 in
set_option maxRecDepth 100000 in
theorem clone_u8 (A : Option Addr) (n c : Nat) (l : List UInt8) (hl : l.length = n) (hn : n ≤ 1000) (hr : Reads w w.heap.size A (bytes l)) :
  Calls Try.prog 63 #[.slice A n c] w fun e w' => (∃ v', e = .returned v' ∧ w'.ownsRow w.heap.size 5 1 v' n (bytes l)) ∧ Below w.heap.size w w' := by
 obtain ⟨i0, hi0, hz0, hz1, hz2⟩ := info_parts infoU8
 have HR := Lib.hid hr
 have HL := Lib.hid hl
 have heq : (binOp .eql 36 (.slice A n c) (.slice none 0 0)).run Try.prog w = .ok (.bool A.isNone) w := Lib.run_eql_slice_nil w _ _ A n c 0 0 Try.underlying36
 cases A with
 | none =>
  have hl0 : bytes l = [] := Classical.byContradiction fun h => by obtain ⟨_, _, e, _⟩ := hr h; cases e
  have hn0 : n = 0 := by rw [← hl, ← bytes_length, hl0]; rfl
  subst hn0
  have HB := Lib.hid hl0
  clear hr hl hl0
  go_enter Try.func63, Try.ntmps63
  go_wp2
  go_ret
  rw [HB.out]
  exact ⟨⟨_, rfl, rfl, .inl ⟨rfl, rfl⟩⟩, Below.refl _ _⟩
 | some a =>
  clear hr hl
  go_enter Try.func63, Try.ntmps63
  go_wp2_with (at_builtin; go_loud (refine wpList_append_read rfl (.tmp 5) (.tmp 6) 36 rfl w.heap.size 5 i0 (.int .u8 0) 1 1 Try.underlying36 hi0 hz0 hz1 hz2 rfl (by decide) _ _ _ rfl (World.ownsRow_lit w #[] 0 (Nat.le_refl _) (Nat.zero_le _) rfl) w.heap.size (some a) n c (bytes l) rfl (fun h => by cases h) (by rw [bytes_length, HL.out, Nat.mul_one]) ?c2 (bytes_ones _) ?c3 ?c4 ?c5 ?_))
  case c2 => exact HR.out.alloc (Nat.le_refl _) _
  case c3 => unfold maxLen; omega
  case c4 => omega
  case c5 => simp
  intro v1 w1 hown1 hgrow1
  have hb1 : Below w.heap.size w w1 := ((Below.refl _ _).alloc (Nat.le_refl _) _).grown hgrow1 (by simp) (fun q hq => by simp [Value.ownBlock] at hq; omega)
  have HO1 : Hid (w1.ownsRow w.heap.size 5 1 v1 n (bytes l)) := Lib.hid (by simpa using hown1)
  have HB := Lib.hid hb1
  clear hown1 hgrow1 hb1
  go_wp2
  go_ret
  exact ⟨⟨_, rfl, HO1.out⟩, HB.out⟩
end
end Go.Proofs.Ytdhekhlmdefcnab
namespace Go.Proofs.Ytdhekhlmdefcnab
open Go.RowKit
section
variable {w : World} {B : Nat} {x : SyX} {L : Lay} {s : Sys}
def SysPost (w : World) (B : Nat) (x : SyX) (L : Lay) (v : Value) (s' : Sys) (e : Ending) (w' : World) : Prop := e = .returned v ∧ ∃ x', SyAt w' B x' L s' ∧ Moved w w' x x'
set_option maxHeartbeats 4000000 in
set_option maxRecDepth 100000 in
theorem sy_put (h : SyAt w B x L s) (hB : B ≤ w.heap.size) (hw : s.way.length ≤ 120) (hl : s.lost ≤ 10000000000) (g : Gram) (v : Value) (hv : BAt w v g.bytes) :
  Calls Try.prog 64 #[.pointer (some ⟨x.g, 0, none⟩), .agg #[I g.src, I g.dst, v]] w (SysPost w B x L (.tuple #[]) (sysPut s g)) := by
 obtain ⟨i0, hi0, hz0, hz1, hz2⟩ := info_parts infoGram
 have hgl := h.has.lt
 have hvo : v.oneCell' = true := by obtain ⟨A, c, rfl, _⟩ := hv; rfl
 have k1 := h.has.alloc (.cells #[I g.src, I g.dst, v] 109)
 have kb := Has.new w 109 #[I g.src, I g.dst, v]
 have HB1 : Hid (Below w.heap.size w (w.alloc (.cells #[I g.src, I g.dst, v] 109))) := Lib.hid ((Below.refl _ _).alloc (Nat.le_refl _) _)
 have hy1 : SyAt (w.alloc (.cells #[I g.src, I g.dst, v] 109)) B x L s := h.after HB1.out
 have HY1 := Lib.hid hy1
 have HV1 := Lib.hid (hv.after HB1.out)
 have hB1 : B ≤ (w.alloc (.cells #[I g.src, I g.dst, v] 109)).heap.size := by simp; omega
 clear hv hy1
 obtain ⟨A, cc, hvt, hcc, hlen, hA, hR⟩ := own_read h.way
 have HVT := Lib.hid hvt
 have HH := Lib.hid h
 clear hR hA hlen h
 have a7 : (w.alloc (.cells #[I g.src, I g.dst, v] 109)).cell? ⟨x.g, 7, none⟩ = some (.slice A s.way.length cc) := by rw [← hvt]; exact k1.cellv 7 x.vw rfl
 have a8 := k1.cellv 8 (I (s.lost : Int)) rfl
 have f8 := k1.free 8
 have b0 := kb.cellv 0 _ rfl
 have b1 := kb.cellv 1 _ rfl
 have b2 := kb.cellv 2 _ rfl
 have hg1 := k1.lt
 go_enter Try.func64, Try.ntmps64
 go_upto_region 1 with (fail)
 generalize w.alloc (.cells #[I g.src, I g.dst, v] 109) = w1 at *
 by_cases hfull : 120 ≤ s.way.length
 ·have HE : Hid (sysPut s g = { s with way := s.way, lost := s.lost + 1 }) := Lib.hid (by unfold sysPut; rw [if_pos hfull])
  go_wp2_with fail
  go_end0
  have hs8 := k1.set 8 (I ((s.lost : Int) + 1))
  have ht : Turned (fun b => b = x.g ∨ x.vw.ownBlock = some b) w1 (w1.setCell ⟨x.g, 8, none⟩ (I ((s.lost : Int) + 1))) := (Turned.refl _ _).setCell _ _ (.inl (.inl rfl))
  have hF : ∀ b, (b = x.g ∨ x.vw.ownBlock = some b) → Mut w1 b := fun b e => HY1.out.mut (e.elim .inl fun e => .inr (.inr (.inr e)))
  obtain ⟨h3, h4⟩ := HY1.out.setWay (vw' := x.vw) (vs' := x.vs) (way' := s.way) (lost' := s.lost + 1) ht hs8 (own_far HY1.out.way k1 (by decide) 8 _) HY1.out.len (fun b hb => .inl hb) (fun i gm v' e1 e2 => (HY1.out.bytes i gm v' e1 e2).keepT ht hF)
  refine ⟨rfl, _, ?_, (Moved.of_below HB1.out).trans h4⟩
  rw [HE.out]
  exact h3
 ·have HE : Hid (sysPut s g = { s with way := s.way ++ [g], lost := s.lost }) := Lib.hid (by unfold sysPut; rw [if_neg hfull])
  have hm1 : s.way.length + 1 ≤ maxLen := by unfold maxLen; omega
  have hm2 : (s.way.length + 1) * 40 ≤ 140737488355328 := by omega
  have hnf : ¬ (120 : Int) ≤ (s.way.length : Int) := by omega
  have HNE : Hid (some x.g ≠ (Value.slice A s.way.length cc).ownBlock) := Lib.hid (fun e => own_has_ne HY1.out.way k1 (by decide) (by rw [HVT.out]; exact e.symm))
  have ho : Hid (w1.ownsRow B 109 3 (.slice A s.way.length cc) s.way.length (wayL s.way x.vs)) := Lib.hid (by have := HY1.out.way; rw [HVT.out] at this; exact this)
  have hvv : Hid (v.oneCell' = true) := Lib.hid hvo
  clear hfull hvt hvo
  go_upto_region 3 with (fail)
  go_region_law ((refine step_append_at rfl _ _ 84 rfl B 109 i0 (.agg #[.int .i64 0, .int .i64 0, .slice none 0 0]) 3 40 Try.underlying84 hi0 hz0 hz1 hz2 rfl (by decide) _ s.way.length _ rfl (World.ownsRow.alloc ho.out _) _ 1 1 _ rfl rfl (cells_new _ _ _) (by intro u hu; simp at hu; rcases hu with rfl | rfl | rfl; rfl; rfl; exact hvv.out) hm1 hm2 (Nat.le_trans hB1 (by simp)) ?_; intro v2 w2 hown2 hgrow2 hloc2; obtain ⟨A2, c2, rfl, hc2, -⟩ := own_read hown2; have k2 : Has w2 x.g 86 (syC x L s) := (k1.alloc _).drew.grown hgrow2 HNE.out; have f27 := k2.free 7; have c27 := k2.cellv 7 x.vw rfl))
  all_goals
   have hg2 : (w1.alloc (.cells #[I g.src, I g.dst, v] 109)).drew.grownBy w2 (Value.slice A s.way.length cc).ownBlock := hgrow2
   have ho2 : Hid ((w2.setCell ⟨x.g, 7, none⟩ (.slice A2 (s.way.length + 1) c2)).ownsRow B 109 3 (.slice A2 (s.way.length + 1) c2) (s.way.length + 1) (wayL (s.way ++ [g]) (x.vs ++ [v]))) := Lib.hid (own_far (by rw [wayL_append _ _ _ _ HY1.out.len]; exact hown2) k2 (by decide) _ _)
   have hl2 : Hid (∀ b, (Value.slice A2 (s.way.length + 1) c2).ownBlock = some b → x.vw.ownBlock = some b ∨ w1.heap.size ≤ b) := Lib.hid (fun b hb => by
    rw [HVT.out]
    rcases hloc2 with h | h
    ·exact .inl (h ▸ hb)
    ·rw [h] at hb
     injection hb with hb
     exact .inr (by rw [← hb]; simp))
   have ht2 : Hid (Turned (fun b => b = x.g ∨ x.vw.ownBlock = some b) w1 (w2.setCell ⟨x.g, 7, none⟩ (.slice A2 (s.way.length + 1) c2))) := Lib.hid (((((Turned.refl _ _).alloc _).drew).grown hg2 (fun q hq => .inl (.inr (by rw [HVT.out]; exact hq)))).setCell _ _ (.inl (.inl rfl)))
   have k3 := Lib.hid (k2.set 7 (.slice A2 (s.way.length + 1) c2))
   clear hgrow2 hloc2 hown2 hg2 f27 c27 k2
   go_wp2_with fail
   go_end0
   have hF : ∀ b, (b = x.g ∨ x.vw.ownBlock = some b) → Mut w1 b := fun b e => HY1.out.mut (e.elim .inl fun e => .inr (.inr (.inr e)))
   obtain ⟨h3, h4⟩ := HY1.out.setWay (vw' := .slice A2 (s.way.length + 1) c2) (vs' := x.vs ++ [v]) (way' := s.way ++ [g]) (lost' := s.lost) ht2.out k3.out (by rw [List.length_append]; exact ho2.out) (by rw [List.length_append, List.length_append, HY1.out.len]; rfl) hl2.out (fun i gm v' e1 e2 => by
    rw [List.getElem?_append] at e1 e2
    rw [HY1.out.len] at e2
    split at e1
    ·rename_i hlt
     rw [if_pos hlt] at e2
     exact (HY1.out.bytes i gm v' e1 e2).keepT ht2.out hF
    ·rename_i hlt
     rw [if_neg hlt] at e2
     have hi : i - s.way.length = 0 := by
      have := (List.getElem?_eq_some_iff.1 e1).1
      simp at this
      omega
     rw [hi] at e1 e2
     simp at e1 e2
     subst e1 e2
     exact HV1.out.keepT ht2.out hF)
   refine ⟨rfl, _, ?_, (Moved.of_below HB1.out).trans h4⟩
   rw [HE.out]
   exact h3
theorem SysPost.before {s' : Sys} {v : Value} {w1 : World} {e : Ending} {w' : World} (h : SysPost w1 B x L v s' e w') (hb : Below w.heap.size w w1) : SysPost w B x L v s' e w' := by
 obtain ⟨h1, x', h2, h3⟩ := h
 exact ⟨h1, x', h2, (Moved.of_below hb).trans h3⟩
theorem put_way (s : Sys) (g : Gram) (h : s.way.length ≤ 120) : (sysPut s g).way.length ≤ 120 ∧ (sysPut s g).lost ≤ s.lost + 1 := by
 unfold sysPut
 split
 ·exact ⟨h, Nat.le_refl _⟩
 ·refine ⟨?_, Nat.le_succ _⟩
  show (s.way ++ [g]).length ≤ 120
  rw [List.length_append]
  simp
  omega
set_option maxHeartbeats 4000000 in
set_option maxRecDepth 100000 in
theorem sy_send (h : SyAt w B x L s) (hB : B ≤ w.heap.size) (hw : s.way.length ≤ 120) (hl : s.lost ≤ 10000000000) (a b : Nat) (f : List Int) (hf : Wf f) :
  Calls Try.prog 57 #[.pointer (some ⟨x.g, 0, none⟩), I a, I b, .agg (frC f)] w (SysPost w B x L (.tuple #[]) (sysSend s a b f)) := by
 have HF := Lib.hid hf
 have HH := Lib.hid h
 have hs1 : Hid ((Try.prog.info? 35).map (·.size) = some (frC f).size) := Lib.hid (by rw [frC_size _ HF.out.1]; exact infoFrame)
 have k0 := Has.new w 35 (frC f)
 have hb : Below w.heap.size w (w.alloc (.cells (frC f) 35)) := (Below.refl _ _).alloc (Nat.le_refl _) _
 clear hf h
 cases hm : mayB f with
 | false =>
  have HM := Lib.hid hm
  have HE : Hid (sysSend s a b f = s) := Lib.hid (by unfold sysSend; rw [hm]; rfl)
  clear hm
  go_enter Try.func57, Try.ntmps57
  go_wp2_with (first
   | (refine wpList_load_row rfl 35 (.tmp 7) rfl w.heap.size rfl 35 (frC f) (0, 0) _ k0 Try.underlying35 rfl hs1.out ?_)
   | (go_at_call 36; refine (encode_no f HF.out HM.out _).mono ?_; rintro e w1 ⟨rfl, hb1⟩))
  go_end0
  have h2 := hb.trans (hb1.mono (by simp))
  exact ⟨rfl, x, by rw [HE.out]; exact HH.out.after h2, Moved.of_below h2⟩
 | true =>
  have HM := Lib.hid hm
  have HE : Hid (sysSend s a b f = sysPut s ⟨a, b, encB f⟩) := Lib.hid (by unfold sysSend; rw [hm]; rfl)
  clear hm
  go_enter Try.func57, Try.ntmps57
  go_wp2_with (first
   | (refine wpList_load_row rfl 35 (.tmp 7) rfl w.heap.size rfl 35 (frC f) (0, 0) _ k0 Try.underlying35 rfl hs1.out ?_)
   | (go_at_call 36; refine (encode_yes f HF.out HM.out _).mono ?_; rintro e w1 ⟨⟨A, c, rfl, ho⟩, hb1⟩; have h2 := hb.trans (hb1.mono (by simp)); have HY := Lib.hid (HH.out.after h2); have HO := Lib.hid (BAt.of_own ho); clear ho)
   | (go_at_call 64; refine (sy_put HY.out (by have := h2.size; omega) hw hl ⟨a, b, encB f⟩ _ HO.out).mono ?_; rintro e w2 ⟨rfl, x2, hy2, hm2⟩; have HP := Lib.hid (And.intro hy2 hm2); clear hy2 hm2))
  go_end0
  rw [HE.out]
  exact ⟨rfl, x2, HP.out.1, (Moved.of_below h2).trans HP.out.2⟩
end
end Go.Proofs.Ytdhekhlmdefcnab
namespace Go.Proofs.Ytdhekhlmdefcnab
open Go.RowKit
section
variable {w : World}
theorem right_nat (k : Nat) (hk : k ≤ 1000) : Calls Try.prog 43 #[I k] w fun e w' => e = .returned (.bool (decide (k < 3))) ∧ w = w' := by
 by_cases h : k < 3
 ·have e : decide (k < 3) = true := by simpa using h
  have HE := Lib.hid e
  have h2 : (k : Int) < 3 := by omega
  clear h e hk
  go_enter Try.func43, Try.ntmps43
  go_wp2
  go_ret
  exact ⟨by rw [HE.out]; rfl, rfl⟩
 ·have e : decide (k < 3) = false := by simpa using h
  have HE := Lib.hid e
  have h2 : ¬ (k : Int) < 3 := by omega
  clear h e hk
  go_enter Try.func43, Try.ntmps43
  go_wp2
  go_ret
  exact ⟨by rw [HE.out]; rfl, rfl⟩
theorem oth_fn (k y : Nat) (b : Nat) (hb : w.cell? ⟨b, 0, none⟩ = some (I k)) : Calls Try.prog 73 #[I y, .pointer (some ⟨b, 0, none⟩)] w fun e w' => e = .returned (.bool (decide (y = k))) ∧ w = w' := by
 by_cases h : y = k
 ·subst h
  go_enter Try.func73, Try.ntmps73
  go_wp2
  go_ret
  exact ⟨rfl, rfl⟩
 ·have HE := Lib.hid (show decide (y = k) = false by simpa using h)
  have h2 : ((y : Int) == (k : Int)) = false := by simpa using fun e => h (by omega)
  clear h
  go_enter Try.func73, Try.ntmps73
  go_wp2
  go_ret
  exact ⟨by rw [HE.out]; rfl, rfl⟩
theorem oth_index (k : Nat) (hk : k < 3) (b g : Nat) (hb : w.cell? ⟨b, 0, none⟩ = some (I k)) (hg : Has w g 3 #[I 0, I 1, I 2]) :
  Calls Try.prog 81 #[.slice (some ⟨g, 0, none⟩) 3 3, .func (.func 73) #[] #[.pointer (some ⟨b, 0, none⟩)]] w fun e w' => e = .returned (I k) ∧ w = w' := by
 have c0 := hg.cellv 0 (I 0) rfl
 have c1 := hg.cellv 1 (I 1) rfl
 have c2 := hg.cellv 2 (I 2) rfl
 have HB := Lib.hid hb
 clear hb hg
 go_enter Try.func81, Try.ntmps81
 go_wp2_with fail
 go_loopw [8] (fun i wr => ∃ j : Nat, j ≤ k ∧ i = I j ∧ w = wr) (fun i _ => 3 - (intOf i).toNat)
 case atStart => exact ⟨0, by omega, rfl, rfl⟩
 case round =>
  obtain ⟨j, hj, rfl, rfl⟩ := hrel
  have hjc : j = 0 ∨ j = 1 ∨ j = 2 := by omega
  by_cases e : j = k
  ·have HD := Lib.hid (show decide (j = k) = true by simpa using e)
   have HK := Lib.hid e
   clear e hk hj
   rcases hjc with rfl | rfl | rfl
   all_goals
    go_wp2_with (go_at_call 73; refine (oth_fn k _ b HB.out).mono ?_; rintro e w' ⟨rfl, rfl⟩; rw [HD.out])
    go_ret
    exact ⟨by rw [← HK.out]; rfl, rfl⟩
  ·have HD := Lib.hid (show decide (j = k) = false by simpa using e)
   have HK := Lib.hid (show j + 1 ≤ k by omega)
   have hk3 := Lib.hid hk
   clear e hk hj
   rcases hjc with rfl | rfl | rfl
   all_goals
    go_wp2_with (go_at_call 73; refine (oth_fn k _ b HB.out).mono ?_; rintro e w' ⟨rfl, rfl⟩; rw [HD.out])
    go_roundw
    case rel => exact ⟨_, HK.out, by rfl, trivial⟩
    case measure => simp [intOf]
def othR (k m : Nat) : Array Value := if k = 0 then (if m = 0 then #[I 0, I 1, I 2] else if m = 1 then #[I 1, I 1, I 2] else #[I 1, I 2, I 2]) else if k = 1 then (if m = 0 then #[I 0, I 1, I 2] else #[I 0, I 2, I 2]) else #[I 0, I 1, I 2]
def othC (k : Nat) : Array Value := if k = 0 then #[I 1, I 2, I 0] else if k = 1 then #[I 0, I 2, I 0] else #[I 0, I 1, I 0]
theorem zeroInt (w : World) : (zeroValue 3).run Try.prog w = .ok (.int .i64 0) w := by kernel_rfl
theorem oth_clear {wr : World} {g : Nat} {cs : Array Value} (h : Has wr g 3 cs) (hs : cs.size = 3) (ty : TypeId) : (Builtin.clear_ #[22] ty #[.slice (some ⟨g, 2, none⟩) 1 1]).run Try.prog wr = .ok (.tuple #[]) (wr.setCell ⟨g, 2, none⟩ (I 0)) :=
 Lib.run_clear_slice wr 22 3 ty (.int .i64 0) Try.underlying22 zeroInt rfl rfl g 2 1 1 (by decide) (fun j hj => by rw [h.cell, Array.getElem?_eq_getElem (by omega)]; rfl) (fun j hj => h.free _)
set_option maxHeartbeats 2000000 in
set_option maxRecDepth 100000 in
theorem oth_delete (k : Nat) (hk : k < 3) (b g : Nat) (hb : w.cell? ⟨b, 0, none⟩ = some (I k)) (hbg : b ≠ g) (hg : Has w g 3 #[I 0, I 1, I 2]) :
  Calls Try.prog 72 #[.slice (some ⟨g, 0, none⟩) 3 3, .func (.func 73) #[] #[.pointer (some ⟨b, 0, none⟩)]] w fun e w' => (e = .returned (.slice (some ⟨g, 0, none⟩) 2 3) ∧ Has w' g 3 (othC k)) ∧ Turned (fun q => q = g) w w' := by
 have HB := Lib.hid hb
 have HG := Lib.hid hg
 have HT0 := Lib.hid (Turned.refl (fun q => q = g) w)
 have HBG := Lib.hid hbg
 clear hb hg hbg
 have hkc : k = 0 ∨ k = 1 ∨ k = 2 := by omega
 have hkk : k < 3 := hk
 clear hk
 go_enter Try.func72, Try.ntmps72
 rcases hkc with rfl | rfl | rfl
 ·go_wp2_with (go_at_call 81; refine (oth_index _ hkk b g HB.out HG.out).mono ?_; rintro e w' ⟨rfl, rfl⟩)
  go_loopw [5, 6] (fun s5 s6 wr => ∃ m : Nat, 1 + m ≤ 3 ∧ s5 = I ((0 + m : Nat) : Int) ∧ s6 = I ((1 + m : Nat) : Int) ∧ Has wr g 3 (othR 0 m) ∧ Hid (wr.cell? ⟨b, 0, none⟩ = some (I 0)) ∧ Hid (Turned (fun q => q = g) w wr)) (fun _ s6 _ => 3 - (intOf s6).toNat)
  case atStart => exact ⟨0, by omega, by rfl, by rfl, HG.out, HB, HT0⟩
  case round =>
   clear HT0
   obtain ⟨m, hm, rfl, rfl, hR, hB, hT⟩ := hrel
   have hmc : m = 0 ∨ m = 1 ∨ m = 2 := by omega
   clear hm
   rcases hmc with rfl | rfl | rfl
   ·have cj := hR.cellv 1 (I 1) rfl
    have ci := hR.cellv 0 (I 0) rfl
    have fi := hR.free 0
    have hR2 : Has (wr.setCell ⟨g, 0, none⟩ (I 1)) g 3 (othR 0 1) := hR.set 0 (I 1)
    have hB2 : Hid ((wr.setCell ⟨g, 0, none⟩ (I 1)).cell? ⟨b, 0, none⟩ = some (I 0)) := Lib.hid ((World.cell?_setCell_other _ _ _ _ (fun e => HBG.out (congrArg Addr.block e).symm)).trans hB.out)
    have hT2 : Hid (Turned (fun q => q = g) w (wr.setCell ⟨g, 0, none⟩ (I 1))) := Lib.hid (hT.out.setCell _ _ (.inl rfl))
    go_wp2_with (go_at_call 73; refine (oth_fn 0 1 b hB.out).mono ?_; rintro e w' ⟨rfl, rfl⟩)
    go_roundw
    case rel => exact ⟨1, by omega, by rfl, by rfl, hR2, hB2, hT2⟩
    case measure => simp [intOf]
   ·have cj := hR.cellv 2 (I 2) rfl
    have ci := hR.cellv 1 (I 1) rfl
    have fi := hR.free 1
    have hR2 : Has (wr.setCell ⟨g, 1, none⟩ (I 2)) g 3 (othR 0 2) := hR.set 1 (I 2)
    have hB2 : Hid ((wr.setCell ⟨g, 1, none⟩ (I 2)).cell? ⟨b, 0, none⟩ = some (I 0)) := Lib.hid ((World.cell?_setCell_other _ _ _ _ (fun e => HBG.out (congrArg Addr.block e).symm)).trans hB.out)
    have hT2 : Hid (Turned (fun q => q = g) w (wr.setCell ⟨g, 1, none⟩ (I 2))) := Lib.hid (hT.out.setCell _ _ (.inl rfl))
    go_wp2_with (go_at_call 73; refine (oth_fn 0 2 b hB.out).mono ?_; rintro e w' ⟨rfl, rfl⟩)
    go_roundw
    case rel => exact ⟨2, by omega, by rfl, by rfl, hR2, hB2, hT2⟩
    case measure => simp [intOf]
   ·have hcl := oth_clear hR rfl
    have hR2 : Has (wr.setCell ⟨g, 2, none⟩ (I 0)) g 3 (othC 0) := hR.set 2 (I 0)
    have hT2 : Hid (Turned (fun q => q = g) w (wr.setCell ⟨g, 2, none⟩ (I 0))) := Lib.hid (hT.out.setCell _ _ (.inl rfl))
    have HR2 := Lib.hid hR2
    clear hR hR2
    go_wp2
    go_ret
    exact ⟨⟨by rfl, HR2.out⟩, hT2.out⟩
 ·go_wp2_with (go_at_call 81; refine (oth_index _ hkk b g HB.out HG.out).mono ?_; rintro e w' ⟨rfl, rfl⟩)
  go_loopw [5, 6] (fun s5 s6 wr => ∃ m : Nat, 2 + m ≤ 3 ∧ s5 = I ((1 + m : Nat) : Int) ∧ s6 = I ((2 + m : Nat) : Int) ∧ Has wr g 3 (othR 1 m) ∧ Hid (wr.cell? ⟨b, 0, none⟩ = some (I 1)) ∧ Hid (Turned (fun q => q = g) w wr)) (fun _ s6 _ => 3 - (intOf s6).toNat)
  case atStart => exact ⟨0, by omega, by rfl, by rfl, HG.out, HB, HT0⟩
  case round =>
   clear HT0
   obtain ⟨m, hm, rfl, rfl, hR, hB, hT⟩ := hrel
   have hmc : m = 0 ∨ m = 1 := by omega
   clear hm
   rcases hmc with rfl | rfl
   ·have cj := hR.cellv 2 (I 2) rfl
    have ci := hR.cellv 1 (I 1) rfl
    have fi := hR.free 1
    have hR2 : Has (wr.setCell ⟨g, 1, none⟩ (I 2)) g 3 (othR 1 1) := hR.set 1 (I 2)
    have hB2 : Hid ((wr.setCell ⟨g, 1, none⟩ (I 2)).cell? ⟨b, 0, none⟩ = some (I 1)) := Lib.hid ((World.cell?_setCell_other _ _ _ _ (fun e => HBG.out (congrArg Addr.block e).symm)).trans hB.out)
    have hT2 : Hid (Turned (fun q => q = g) w (wr.setCell ⟨g, 1, none⟩ (I 2))) := Lib.hid (hT.out.setCell _ _ (.inl rfl))
    go_wp2_with (go_at_call 73; refine (oth_fn 1 2 b hB.out).mono ?_; rintro e w' ⟨rfl, rfl⟩)
    go_roundw
    case rel => exact ⟨1, by omega, by rfl, by rfl, hR2, hB2, hT2⟩
    case measure => simp [intOf]
   ·have hcl := oth_clear hR rfl
    have hR2 : Has (wr.setCell ⟨g, 2, none⟩ (I 0)) g 3 (othC 1) := hR.set 2 (I 0)
    have hT2 : Hid (Turned (fun q => q = g) w (wr.setCell ⟨g, 2, none⟩ (I 0))) := Lib.hid (hT.out.setCell _ _ (.inl rfl))
    have HR2 := Lib.hid hR2
    clear hR hR2
    go_wp2
    go_ret
    exact ⟨⟨by rfl, HR2.out⟩, hT2.out⟩
 ·go_wp2_with (go_at_call 81; refine (oth_index _ hkk b g HB.out HG.out).mono ?_; rintro e w' ⟨rfl, rfl⟩)
  go_loopw [5, 6] (fun s5 s6 wr => ∃ m : Nat, 3 + m ≤ 3 ∧ s5 = I ((2 + m : Nat) : Int) ∧ s6 = I ((3 + m : Nat) : Int) ∧ Has wr g 3 (othR 2 m) ∧ Hid (wr.cell? ⟨b, 0, none⟩ = some (I 2)) ∧ Hid (Turned (fun q => q = g) w wr)) (fun _ s6 _ => 3 - (intOf s6).toNat)
  case atStart => exact ⟨0, by omega, by rfl, by rfl, HG.out, HB, HT0⟩
  case round =>
   clear HT0
   obtain ⟨m, hm, rfl, rfl, hR, hB, hT⟩ := hrel
   have hmc : m = 0 := by omega
   clear hm
   subst hmc
   ·have hcl := oth_clear hR rfl
    have hR2 : Has (wr.setCell ⟨g, 2, none⟩ (I 0)) g 3 (othC 2) := hR.set 2 (I 0)
    have hT2 : Hid (Turned (fun q => q = g) w (wr.setCell ⟨g, 2, none⟩ (I 0))) := Lib.hid (hT.out.setCell _ _ (.inl rfl))
    have HR2 := Lib.hid hR2
    clear hR hR2
    go_wp2
    go_ret
    exact ⟨⟨by rfl, HR2.out⟩, hT2.out⟩
set_option maxHeartbeats 1000000 in
theorem others_ok (k : Nat) (hk : k < 3) : Calls Try.prog 56 #[I k] w fun e w' => (∃ g, e = .returned (.slice (some ⟨g, 0, none⟩) 2 3) ∧ Has w' g 3 (othC k)) ∧ Below w.heap.size w w' := by
 have k0 := (Has.new w 3 #[I k]).alloc (.cells #[I 0, I 1, I 2] 3)
 have k1 := Has.new (w.alloc (.cells #[I k] 3)) 3 #[I 0, I 1, I 2]
 have b0 := k0.cellv 0 (I k) rfl
 have hne : w.heap.size ≠ (w.alloc (.cells #[I k] 3)).heap.size := by simp
 have hc := oth_delete k hk w.heap.size (w.alloc (.cells #[I k] 3)).heap.size b0 hne k1
 rw [show (w.alloc (.cells #[I k] 3)).heap.size = w.heap.size + 1 by simp] at hc
 have HC := Lib.hid hc
 have hb : Below w.heap.size w ((w.alloc (.cells #[I k] 3)).alloc (.cells #[I 0, I 1, I 2] 3)) := ((Below.refl _ _).alloc (Nat.le_refl _) _).alloc (by simp) _
 have HBE := Lib.hid hb
 have hsz : (w.alloc (.cells #[I k] 3)).heap.size = w.heap.size + 1 := by simp
 have HS := Lib.hid hsz
 clear k0 k1 b0 hne hb hsz hk hc
 go_enter Try.func56, Try.ntmps56
 go_wp2_with (go_at_call 72; refine HC.out.mono ?_; rintro e w' ⟨⟨rfl, hh⟩, ht⟩)
 go_ret
 refine ⟨⟨_, rfl, hh⟩, HBE.out.trans (ht.below (fun q hq => ?_) (by simp; omega))⟩
 rw [hq]
 omega
end
end Go.Proofs.Ytdhekhlmdefcnab
namespace Go.Proofs.Ytdhekhlmdefcnab
def I64 (x : Int) : Prop := -9223372036854775808 ≤ x ∧ x ≤ 9223372036854775807
def Cm64 (c : Cm) : Prop := I64 c.1 ∧ I64 c.2.1 ∧ I64 c.2.2
structure Fine (T : Nat) (s : Sys) : Prop where
 n3 : s.rs.length = 3
 fits : ∀ k, k < 3 → (re s k).Fits T
 vo : s.v.Wf
 trace : ∀ c ∈ s.v.trace, Cm64 c
 votes : ∀ y ∈ s.v.votes, Cm64 y.1
 way : s.way.length ≤ 120
 lost : s.lost ≤ T
 gram : ∀ g ∈ s.way, g.src ≤ 3 ∧ g.dst ≤ 3 ∧ g.bytes.length ≤ 80
theorem I64.nat {n : Nat} (h : n ≤ 9223372036854775807) : I64 (n : Int) := ⟨by omega, by omega⟩
theorem cm64_zero : Cm64 Cm.zero := ⟨⟨by decide, by decide⟩, ⟨by decide, by decide⟩, by decide, by decide⟩
theorem wf_frm {k fr cy : Int} {c : Cm} (hk : I64 k) (hf : I64 fr) (hy : I64 cy) (hc : Cm64 c) : Wf (frm k fr cy c) := by
 refine ⟨rfl, fun x hx => ?_⟩
 obtain ⟨h1, h2, h3⟩ := hc
 unfold frm at hx
 rcases List.mem_append.1 hx with hx | hx
 ·simp at hx
  rcases hx with rfl | rfl | rfl | rfl | rfl | rfl <;> assumption
 ·rw [List.eq_of_mem_replicate hx]; exact ⟨by decide, by decide⟩
theorem wf_zero : Wf zeroF := ⟨rfl, by decide⟩
theorem wf_frmK {fr cy : Int} {s : St} {M : Nat} (hf : I64 fr) (hy : I64 cy) (hs : s.Fits M) (hM : M ≤ 1000000000000) : Wf (frmK fr cy s) := by
 have h8 := hs.used8
 have h9 := hs.idle8
 refine ⟨by unfold frmK; simp [zs, h8, h9], fun x hx => ?_⟩
 unfold frmK at hx
 rcases List.mem_append.1 hx with hx | hx
 ·simp at hx
  rcases hx with rfl | rfl | rfl | rfl
  ·exact ⟨by decide, by decide⟩
  ·exact hf
  ·exact hy
  ·exact ⟨by decide, by decide⟩
 ·rcases List.mem_cons.1 hx with rfl | hx
  ·have := hs.set; exact ⟨by omega, by omega⟩
  ·rcases List.mem_append.1 hx with hx | hx
   ·obtain ⟨n, hn, rfl⟩ := List.mem_map.1 hx
    have := hs.used n hn
    constructor <;> omega
   ·obtain ⟨n, hn, rfl⟩ := List.mem_map.1 hx
    have := hs.idle n hn
    constructor <;> omega
theorem wf_getD {f : List Int} (h : Wf f) (i : Nat) : I64 (f.getD i 0) := by
 rw [List.getD_eq_getElem?_getD]
 cases e : f[i]? with
 | none => exact ⟨by decide, by decide⟩
 | some x => exact h.2 x (List.mem_of_getElem? e)
theorem wf_may {f : List Int} (h : mayB f = true) : Wf f := by
 have h2 := h
 unfold mayB at h2
 simp only [Bool.and_eq_true, decide_eq_true_eq] at h2
 obtain ⟨⟨hh, ha⟩, he⟩ := h2
 refine ⟨by rw [he]; exact cpTo_length _ _, fun x hx => ?_⟩
 rw [he] at hx
 have := cp_all h _ x hx
 omega
theorem asks_wf {r : Re} {T : Nat} (h : r.Fits T) : Wf (asks r) := by
 have h1 := h.id
 have h2 := h.cycle
 exact wf_frm ⟨by decide, by decide⟩ (I64.nat (by omega)) (I64.nat (by omega)) cm64_zero
theorem tick_wf {L : Lay} (hL : L.Ok) {r : Re} {T : Nat} (h : r.Fits T) : Wf (reTick L r).2.1 ∧ Wf (reTick L r).2.2.1 := by
 have hq := tick_fits hL h
 rw [tick_is] at hq
 have h1 := hq.id
 have h2 := hq.cycle
 have h3 := hq.seen (reTicked L r).id
 have h4 := (fuseTo_small hq.seen 3).1
 have hs : Wf (frm 1 (reTicked L r).id (reTicked L r).cycle ((((reTicked L r).seen.getD (reTicked L r).id (0, 0)).1 : Nat), (((reTicked L r).seen.getD (reTicked L r).id (0, 0)).2 : Nat), 0)) :=
  wf_frm ⟨by decide, by decide⟩ (I64.nat (by omega)) (I64.nat (by omega)) ⟨I64.nat (Nat.le_trans (Nat.le_of_lt h3.1) (by decide)), I64.nat (Nat.le_trans (Nat.le_of_lt h3.2) (by decide)), (show I64 (0 : Int) from ⟨by decide, by decide⟩)⟩
 unfold reTick
 dsimp only
 split
 ·exact ⟨hs, asks_wf hq⟩
 ·split
  ·exact ⟨hs, wf_zero⟩
  ·refine ⟨hs, wf_frm ⟨by decide, by decide⟩ (I64.nat (by omega)) (I64.nat (by omega)) ⟨I64.nat ?_, I64.nat ?_, I64.nat ?_⟩⟩
   ·exact Nat.le_trans (Nat.le_of_lt h4.1) (by decide)
   ·exact Nat.le_trans (Nat.le_of_lt h4.2) (by decide)
   ·exact Nat.le_trans (Nat.le_of_lt (outTo_lt _ _ _ _ _ hL.many2)) (by decide)
theorem take_wf {L : Lay} (hL : L.Ok) {r : Re} {T : Nat} (hT : T ≤ 10000000000) (h : r.Fits T) {f : List Int} (hm : mayB f = true) : ∀ y ∈ (reTake L r f).2, Wf y := by
 have ht := take_fits hL h hm
 unfold reTake at ht ⊢
 dsimp only at ht ⊢
 intro y hy
 by_cases c1 : f.getD 0 0 = 1 ∧ other r f = true ∧ f.getD 2 0 = (r.cycle : Int)
 ·rw [if_pos c1] at hy; cases hy
 rw [if_neg c1] at hy ht
 by_cases c2 : f.getD 0 0 = 3 ∧ f.getD 1 0 = 3 ∧ (r.cycle : Int) ≤ f.getD 2 0
 ·rw [if_pos c2] at hy ht
  generalize (if f.getD 2 0 = (r.cycle : Int) then goes { r with ahead := max r.ahead (f.getD 2 0).toNat, state := (step L (f.getD 3 0) (f.getD 4 0) r.state).1 } (r.cycle + 1) else { r with ahead := max r.ahead (f.getD 2 0).toNat }) = r2 at hy ht
  change y ∈ (if r2.cycle ≤ r2.ahead then [asks r2] else []) at hy
  split at hy
  ·rw [List.mem_singleton.1 hy]; exact asks_wf ht
  ·cases hy
 rw [if_neg c2] at hy ht
 by_cases c3 : f.getD 0 0 = 4 ∧ other r f = true
 ·rw [if_pos c3] at hy
  rw [List.mem_singleton.1 hy]
  have h1 := h.id
  have h2 := h.cycle
  exact wf_frmK (I64.nat (by omega)) (I64.nat (by omega)) h.state (by omega)
 rw [if_neg c3] at hy
 split at hy
 ·cases hy
 ·cases hy
theorem done_wf {v : Vo} (h : ∀ c ∈ v.trace, Cm64 c) {k : Nat} (hk : k ≤ 1000000) : Wf (voDone v k) := by
 refine wf_frm ⟨by decide, by decide⟩ ⟨by decide, by decide⟩ (I64.nat (by omega)) ?_
 rw [List.getD_eq_getElem?_getD]
 cases e : v.trace[k]? with
 | none => exact cm64_zero
 | some c => exact h c (List.mem_of_getElem? e)
theorem cmOf64 {f : List Int} (hf : Wf f) : Cm64 (cmOf f) := ⟨wf_getD hf 3, wf_getD hf 4, wf_getD hf 5⟩
theorem commits_64 {v : Vo} (h1 : ∀ c ∈ v.trace, Cm64 c) {c : Cm} (hc : Cm64 c) : (∀ c' ∈ (voCommits v c).trace, Cm64 c') ∧ ∀ y ∈ (voCommits v c).votes, Cm64 y.1 := by
 refine ⟨fun c' h => ?_, fun y h => ?_⟩
 ·rcases List.mem_append.1 h with h | h
  ·exact h1 c' h
  ·rw [List.mem_singleton.1 h]; exact hc
 ·have e : y = (Cm.zero, false) := List.eq_of_mem_replicate (n := 3) h
  rw [e]; exact cm64_zero
theorem voTake_64 {v : Vo} (hv : v.Wf) (h1 : ∀ c ∈ v.trace, Cm64 c) (h2 : ∀ y ∈ v.votes, Cm64 y.1) {f : List Int} (hf : Wf f) :
  (∀ c ∈ (voTake v f).1.trace, Cm64 c) ∧ (∀ y ∈ (voTake v f).1.votes, Cm64 y.1) ∧ ∀ y ∈ (voTake v f).2.1, Wf y := by
 have hn := hv.many
 unfold voTake
 split
 ·exact ⟨h1, h2, fun y hy => by cases hy⟩
 split
 ·refine ⟨h1, h2, fun y hy => ?_⟩
  rw [List.mem_singleton.1 hy]
  exact done_wf h1 (by omega)
 split
 ·refine ⟨h1, h2, fun y hy => ?_⟩
  rcases List.mem_cons.1 hy with rfl | hy
  ·exact done_wf h1 (by omega)
  ·rw [List.mem_singleton.1 hy]
   exact done_wf h1 (by omega)
 split
 ·exact ⟨h1, h2, fun y hy => by cases hy⟩
 ·dsimp only
  have h3 : ∀ y ∈ v.votes.set (f.getD 1 0).toNat (cmOf f, true), Cm64 y.1 := fun y hy => by
   rcases List.mem_or_eq_of_mem_set hy with h | rfl
   ·exact h2 y h
   ·exact cmOf64 hf
  split
  ·have hc := commits_64 (v := { v with votes := v.votes.set (f.getD 1 0).toNat (cmOf f, true) }) h1 (cmOf64 hf)
   refine ⟨hc.1, hc.2, fun y hy => ?_⟩
   rw [List.mem_singleton.1 hy]
   exact done_wf hc.1 (by omega)
  ·exact ⟨h1, h3, fun y hy => by cases hy⟩
section
variable {T : Nat} {s : Sys} {L : Lay}
theorem Fine.mono {U : Nat} (h : Fine T s) (hTU : T ≤ U) : Fine U s := ⟨h.n3, fun k hk => (h.fits k hk).mono hTU, h.vo, h.trace, h.votes, h.way, Nat.le_trans h.lost hTU, h.gram⟩
theorem Fine.put (h : Fine T s) {g : Gram} (hg : g.src ≤ 3 ∧ g.dst ≤ 3 ∧ g.bytes.length ≤ 80) : Fine (T + 1) (sysPut s g) := by
 have h1 := h.mono (show T ≤ T + 1 by omega)
 unfold sysPut
 split
 ·exact ⟨h1.n3, h1.fits, h1.vo, h1.trace, h1.votes, h1.way, by have := h.lost; show s.lost + 1 ≤ _; omega, h1.gram⟩
 ·refine ⟨h1.n3, h1.fits, h1.vo, h1.trace, h1.votes, by rw [List.length_append]; simp; omega, h1.lost, fun g' hg' => ?_⟩
  rcases List.mem_append.1 hg' with h | h
  ·exact h1.gram g' h
  ·rw [List.mem_singleton.1 h]; exact hg
theorem enc_80 {f : List Int} (_hm : mayB f = true) : (encB f).length ≤ 80 := by
 have := enc_len (f := f)
 have := idx_len (f.getD 0 0)
 omega
theorem Fine.send (h : Fine T s) {a b : Nat} (f : List Int) (ha : a ≤ 3) (hb : b ≤ 3) : Fine (T + 1) (sysSend s a b f) := by
 unfold sysSend
 split
 ·rename_i hm
  exact h.put ⟨ha, hb, enc_80 hm⟩
 ·exact h.mono (by omega)
theorem Fine.setRe (h : Fine T s) {k U : Nat} (hk : k < 3) {r : Re} (hr : r.Fits U) (hTU : T ≤ U) : Fine U { s with rs := s.rs.set k r } := by
 refine ⟨by show (s.rs.set k r).length = 3; rw [List.length_set]; exact h.n3, fun j hj => ?_, h.vo, h.trace, h.votes, h.way, Nat.le_trans h.lost hTU, h.gram⟩
 rw [re_set (by rw [h.n3]; exact hk)]
 split
 ·exact hr
 ·exact (h.fits j hj).mono hTU
theorem Fine.sendAll {a : Nat} (f : List Int) (ha : a ≤ 3) : ∀ (l : List Nat) {T : Nat} {s : Sys}, (∀ b ∈ l, b ≤ 3) → Fine T s → Fine (T + l.length) (sendAll s a l f)
 | [], _, _, _, h => h
 | b :: l, T, s, hl, h => by
  have := Fine.sendAll f ha l (fun b' hb' => hl b' (List.mem_cons_of_mem _ hb')) (h.send f ha (hl b (List.mem_cons_self ..)) (b := b))
  rw [List.length_cons, show T + (l.length + 1) = T + 1 + l.length by omega]
  exact this
theorem others_two (k : Nat) : (∀ b ∈ others k, b ≤ 3) ∧ (others k).length ≤ 3 := by
 refine ⟨fun b hb => ?_, Nat.le_trans (List.length_filter_le _ _) (by decide)⟩
 have := (List.mem_filter.1 hb).1
 simp at this
 omega
theorem Fine.tickR (h : Fine T s) (hL : L.Ok) {k : Nat} (hk : k < 3) : Fine (T + 5) (tickR L s k) := by
 unfold Go.Proofs.Ytdhekhlmdefcnab.tickR
 dsimp only
 have h1 := h.setRe hk (tick_fits hL (h.fits k hk)) (by omega)
 have h2 := Fine.sendAll (reTick L (re s k)).2.1 (show k ≤ 3 by omega) (others k) (others_two k).1 h1
 have h3 := h2.mono (show _ ≤ T + 4 by have := (others_two k).2; omega)
 split
 ·exact h3.send _ (by omega) (by omega)
 ·exact h3.mono (by omega)
theorem Fine.voTick (h : Fine T s) : Fine T { s with v := voTick s.v } := by
 refine ⟨h.n3, h.fits, voTick_wf h.vo, ?_, ?_, h.way, h.lost, h.gram⟩
 ·show ∀ c ∈ (Go.Proofs.Ytdhekhlmdefcnab.voTick s.v).trace, _
  unfold Go.Proofs.Ytdhekhlmdefcnab.voTick
  split
  ·exact h.trace
  ·split <;> exact h.trace
 ·show ∀ c ∈ (Go.Proofs.Ytdhekhlmdefcnab.voTick s.v).votes, _
  unfold Go.Proofs.Ytdhekhlmdefcnab.voTick
  split
  ·exact h.votes
  ·split <;> exact h.votes
theorem Fine.tick (h : Fine T s) (hL : L.Ok) {k : Nat} (hk : k ≤ 3) : Fine (T + 5) (sysTick L s k) := by
 unfold sysTick
 split
 ·exact h.voTick.mono (by omega)
 ·exact h.tickR hL (by omega)
theorem Fine.asks (h : Fine T s) {k : Nat} (hk : k < 3) : Fine (T + 3) (sysAsks s k) :=
 (Fine.sendAll _ (show k ≤ 3 by omega) (others k) (others_two k).1 h).mono (by have := (others_two k).2; omega)
theorem Fine.see (h : Fine T s) {k : Nat} (hk : k < 3) {y : Int × Int} (hy : I64 y.1 ∧ I64 y.2) : Fine T (sysSee s k y) := by
 obtain ⟨⟨a1, a2⟩, a3, a4⟩ := hy
 have hr := h.fits k hk
 exact h.setRe hk ⟨hr.id, hr.nseen, hr.nsome, hr.ncame, hr.ntold, hr.seen, hr.came, hr.ticks, hr.cycle, hr.ahead, hr.state, hr.told, ⟨⟨a1, Int.lt_of_le_of_lt a2 (by decide)⟩, a3, Int.lt_of_le_of_lt a4 (by decide)⟩⟩ (Nat.le_refl _)
theorem Fine.crash (h : Fine T s) {k : Nat} (hk : k < 3) : Fine T (sysCrash s k) := h.setRe hk ((new_fits hk).mono (Nat.zero_le _)) (Nat.le_refl _)
theorem Fine.erase (h : Fine T s) (i : Nat) : Fine T { s with way := s.way.eraseIdx i } :=
 ⟨h.n3, h.fits, h.vo, h.trace, h.votes, Nat.le_trans (List.length_eraseIdx_le _ _) h.way, h.lost, fun g hg => h.gram g (List.mem_of_mem_eraseIdx hg)⟩
theorem Fine.lose (h : Fine T s) (i : Nat) : Fine T (sysLose s i) := h.erase i
theorem Fine.twice (h : Fine T s) (i : Nat) : Fine (T + 1) (sysTwice s i) := by
 unfold sysTwice
 split
 ·exact h.mono (by omega)
 ·rename_i g hg
  exact h.put (h.gram g (List.mem_of_getElem? hg))
theorem Fine.spoil (h : Fine T s) (i a b : Nat) : Fine T (sysSpoil s i a b) := by
 unfold sysSpoil
 split
 ·exact h
 ·rename_i g hg
  split
  ·exact h
  ·refine ⟨h.n3, h.fits, h.vo, h.trace, h.votes, by show (s.way.set i _).length ≤ 120; rw [List.length_set]; exact h.way, h.lost, fun g' hg' => ?_⟩
   have h0 := h.gram g (List.mem_of_getElem? hg)
   rcases List.mem_or_eq_of_mem_set hg' with h' | rfl
   ·exact h.gram g' h'
   ·exact ⟨h0.1, h0.2.1, by show (Crc.flips g.bytes a b 32).length ≤ 80; rw [Crc.flips_length]; exact h0.2.2⟩
theorem Fine.says (h : Fine T s) {k dst : Nat} (l : List UInt8) (hk : k ≤ 3) (hd : dst ≤ 3) : Fine (T + 1) (sysSays s k dst l) := by
 unfold sysSays
 split
 ·exact h.mono (by omega)
 ·rename_i hn
  exact h.put ⟨hk, hd, by show l.length ≤ 80; omega⟩
theorem Fine.latch (h : Fine T s) : Fine T (sysLatch s) := ⟨h.n3, h.fits, voLatch_wf h.vo, h.trace, h.votes, h.way, h.lost, h.gram⟩
theorem Fine.sends {a b : Nat} (ha : a ≤ 3) (hb : b ≤ 3) : ∀ (l : List (List Int)) {T : Nat} {s : Sys}, Fine T s → Fine (T + l.length) (l.foldl (fun s x => sysSend s a b x) s)
 | [], _, _, h => h
 | f :: l, T, s, h => by
  have := Fine.sends ha hb l (h.send f ha hb)
  rw [List.length_cons, show T + (l.length + 1) = T + 1 + l.length by omega]
  exact this
theorem Fine.toAll (h : Fine T s) (all : Bool) (b : Nat) (f : List Int) : Fine (T + 3) (toAll s all b f) := by
 have one : ∀ {U : Nat} {s : Sys} (k : Nat), k ≤ 3 → Fine U s → Fine (U + 1) (if all = true ∨ k = b then sysSend s 3 k f else s) := fun k hk h => by
  split
  ·exact h.send f (by decide) hk
  ·exact h.mono (by omega)
 unfold Go.Proofs.Ytdhekhlmdefcnab.toAll
 exact one 2 (by decide) (one 1 (by decide) (one 0 (by decide) h))
theorem Fine.toAlls (all : Bool) (b : Nat) : ∀ (l : List (List Int)) {T : Nat} {s : Sys}, Fine T s → Fine (T + l.length * 3) (l.foldl (fun s x => Go.Proofs.Ytdhekhlmdefcnab.toAll s all b x) s)
 | [], _, _, h => by simpa using h
 | f :: l, T, s, h => by
  have := Fine.toAlls all b l (h.toAll all b f)
  rw [List.length_cons, show T + (l.length + 1) * 3 = T + 3 + l.length * 3 by omega]
  exact this
theorem reTake_two (L : Lay) (r : Re) (f : List Int) : (reTake L r f).2.length ≤ 2 := by
 have two : ∀ (c : Prop) [Decidable c] (y : List Int), (if c then [y] else []).length ≤ 2 := fun c _ y => by
  split
  ·exact Nat.le_succ 1
  ·exact Nat.zero_le 2
 unfold reTake
 dsimp only
 by_cases c1 : f.getD 0 0 = 1 ∧ other r f = true ∧ f.getD 2 0 = (r.cycle : Int)
 ·rw [if_pos c1]; exact Nat.zero_le 2
 rw [if_neg c1]
 by_cases c2 : f.getD 0 0 = 3 ∧ f.getD 1 0 = 3 ∧ (r.cycle : Int) ≤ f.getD 2 0
 ·rw [if_pos c2]; exact two _ _
 rw [if_neg c2]
 by_cases c3 : f.getD 0 0 = 4 ∧ other r f = true
 ·rw [if_pos c3]; exact Nat.le_succ 1
 rw [if_neg c3]
 split
 ·exact Nat.zero_le 2
 ·exact Nat.zero_le 2
theorem voTake_two (v : Vo) (f : List Int) : (voTake v f).2.1.length ≤ 2 := by
 unfold voTake
 split
 ·simp
 split
 ·simp
 split
 ·simp
 split
 ·simp
 ·dsimp only
  split <;> simp
theorem dec_may {l : List UInt8} (h : (dec l).1 = 0) : mayB (dec l).2 = true := by
 unfold dec at h ⊢
 split
 ·rename_i hc; rw [if_pos hc] at h; cases h
 rename_i hc
 rw [if_neg hc] at h
 split
 ·rename_i hd; rw [if_pos hd] at h; cases h
 rename_i hd
 rw [if_neg hd] at h
 split
 ·rename_i he; rw [if_pos he] at h; cases h
 rename_i he
 rw [if_neg he] at h
 split
 ·rename_i hf; rw [if_pos hf] at h; cases h
 rename_i hf
 rw [if_neg hf] at h
 split
 ·assumption
 ·rename_i hm; rw [if_neg hm] at h; cases h
theorem Fine.deliver (h : Fine T s) (hL : L.Ok) (i : Nat) : Fine (T + 14) (deliver L s i) := by
 unfold Go.Proofs.Ytdhekhlmdefcnab.deliver
 split
 ·exact h.mono (by omega)
 ·rename_i g hg
  have hgr := h.gram g (List.mem_of_getElem? hg)
  dsimp only
  split
  ·rename_i hc
   have hm := dec_may hc.1
   split
   ·have hf := wf_may hm
    have h64 := voTake_64 h.vo h.trace h.votes hf
    have h1 : Fine T ({ s with way := s.way.eraseIdx i, v := (voTake s.v (dec g.bytes).2).1 } : Sys) := ⟨h.n3, h.fits, voTake_wf h.vo _, h64.1, h64.2.1, (h.erase i).way, h.lost, (h.erase i).gram⟩
    exact (Fine.toAlls _ _ _ h1).mono (by have := voTake_two s.v (dec g.bytes).2; omega)
   ·rename_i hd
    have hd3 : g.dst < 3 := by omega
    have h1 := (h.erase i).setRe hd3 (take_fits hL (h.fits g.dst hd3) hm) (by omega)
    exact (Fine.sends hgr.2.1 hgr.1 _ h1).mono (by have := reTake_two L (re s g.dst) (dec g.bytes).2; simp only [Nat.add_assoc]; show T + (8 + (reTake L (re s g.dst) (dec g.bytes).2).2.length) ≤ _; omega)
  ·exact (h.erase i).mono (by omega)
theorem Fine.flows (hL : L.Ok) : ∀ (n : Nat) {T : Nat} {s : Sys}, Fine T s → Fine (T + 14 * n) (flows L s n)
 | 0, _, _, h => h
 | n + 1, T, s, h => by
  rw [Go.Proofs.Ytdhekhlmdefcnab.flows]
  split
  ·exact h.mono (by omega)
  ·exact (Fine.flows hL n (h.deliver hL 0)).mono (by omega)
theorem Fine.half (h : Fine T s) (hL : L.Ok) (N : Nat) : Fine (T + 15 + 14 * N) (halfRound L N s) := Fine.flows hL N (((h.tickR hL (k := 0) (by decide)).tickR hL (k := 1) (by decide)).tickR hL (k := 2) (by decide))
theorem Fine.calm (hL : L.Ok) (N : Nat) : ∀ (n : Nat) {T : Nat} {s : Sys}, Fine T s → Fine (T + (30 + 42 * N) * n) (calm L N s n)
 | 0, _, _, h => h
 | n + 1, T, s, h => by
  rw [Go.Proofs.Ytdhekhlmdefcnab.calm]
  have h1 := (((Fine.flows hL N h).half hL N).half hL N).voTick
  refine (Fine.calm hL N n h1).mono ?_
  rw [Nat.mul_add, Nat.mul_one]
  omega
end
end Go.Proofs.Ytdhekhlmdefcnab
namespace Go.Proofs.Ytdhekhlmdefcnab
open Go.RowKit
section
variable {w : World} {B : Nat} {x : SyX} {L : Lay} {s : Sys}
def SysDone (w : World) (B : Nat) (x : SyX) (L : Lay) (s' : Sys) (e : Ending) (w' : World) : Prop := (∃ v, e = .returned v) ∧ ∃ x', SyAt w' B x' L s' ∧ Moved w w' x x'
theorem SyAt.notFS (h : SyAt w B x L s) {g : Nat} {t : TypeId} {cs : Array Value} (hh : Has w g t cs) (hn : mutT t = false) : ¬ FS x g := fun hf => by
 obtain ⟨t', cs', h', hm⟩ := h.mut hf
 have e : t = t' := by
  unfold Has at hh h'
  rw [hh] at h'
  injection h' with h'
  injection h' with _ ht
 rw [e, hm] at hn
 cases hn
theorem SyAt.vcell (h : SyAt w B x L s) : w.cell? ⟨x.g, 6, none⟩ = some (.pointer (some ⟨x.vb, 0, none⟩)) := h.cell 6 _ rfl
theorem SyAt.rcell (h : SyAt w B x L s) {k : Nat} (hk : k < 3) : w.cell? ⟨x.g, 3 + k, none⟩ = some (.pointer (some ⟨x.rb k, 0, none⟩)) := h.cell (3 + k) _ (by
 have : k = 0 ∨ k = 1 ∨ k = 2 := by omega
 rcases this with rfl | rfl | rfl <;> rfl)
theorem SyAt.wcell (h : SyAt w B x L s) : ∃ A c, x.vw = .slice A s.way.length c ∧ w.cell? ⟨x.g, 7, none⟩ = some (.slice A s.way.length c) := by
 obtain ⟨A, c, hv, _⟩ := own_read h.way
 exact ⟨A, c, hv, by rw [← hv]; exact h.cell 7 _ rfl⟩
theorem sy_latch (h : SyAt w B x L s) : Calls Try.prog 38 #[.pointer (some ⟨x.g, 0, none⟩)] w (SysPost w B x L (.tuple #[]) (sysLatch s)) := by
 have c6 := h.vcell
 have hg := h.has.lt
 have HH := Lib.hid h
 clear h
 go_enter Try.func38, Try.ntmps38
 go_wp2_with (go_at_call 68; refine (vo_latch HH.out.vo).mono ?_; rintro e w' ⟨rfl, hv, ht⟩)
 go_end0
 obtain ⟨h1, h2⟩ := HH.out.setVo ht hv (.inl rfl)
 exact ⟨rfl, _, h1, h2⟩
theorem sy_latched (h : SyAt w B x L s) : Calls Try.prog 13 #[.pointer (some ⟨x.g, 0, none⟩)] w fun e w' => e = .returned (.bool s.v.latched) ∧ w = w' := by
 have c6 := h.vcell
 have hg := h.has.lt
 have HH := Lib.hid h
 clear h
 go_enter Try.func13, Try.ntmps13
 go_wp2_with (go_at_call 40; refine (vo_latched HH.out.vo).mono ?_; rintro e w' ⟨rfl, rfl⟩)
 go_ret
 exact ⟨rfl, rfl⟩
theorem sy_out (h : SyAt w B x L s) : Calls Try.prog 16 #[.pointer (some ⟨x.g, 0, none⟩)] w fun e w' => e = .returned (I (s.v.out : Int)) ∧ w = w' := by
 have c6 := h.vcell
 have hg := h.has.lt
 have HH := Lib.hid h
 clear h
 go_enter Try.func16, Try.ntmps16
 go_wp2_with (go_at_call 42; refine (vo_out HH.out.vo).mono ?_; rintro e w' ⟨rfl, rfl⟩)
 go_ret
 exact ⟨rfl, rfl⟩
theorem sy_shown (h : SyAt w B x L s) (hw : s.v.trace.length ≤ 1000) : Calls Try.prog 14 #[.pointer (some ⟨x.g, 0, none⟩)] w fun e w' => e = .returned (I (voShown s.v)) ∧ ∃ q, w.drewN q = w' := by
 have c6 := h.vcell
 have hg := h.has.lt
 have HH := Lib.hid h
 clear h
 go_enter Try.func14, Try.ntmps14
 go_wp2_with (go_at_call 41; refine (vo_shown HH.out.vo hw).mono ?_; rintro e w' ⟨rfl, q, rfl⟩)
 go_ret
 exact ⟨rfl, q, rfl⟩
theorem sy_trace (h : SyAt w B x L s) (hw : s.v.trace.length ≤ 1000) : Calls Try.prog 12 #[.pointer (some ⟨x.g, 0, none⟩)] w fun e w' => (∃ vr, e = .returned vr ∧ w'.ownsRow w.heap.size 50 3 vr s.v.trace.length (cmsC s.v.trace)) ∧ Below w.heap.size w w' := by
 have c6 := h.vcell
 have hg := h.has.lt
 have HH := Lib.hid h
 clear h
 go_enter Try.func12, Try.ntmps12
 go_wp2_with (go_at_call 39; refine (vo_trace HH.out.vo hw).mono ?_; rintro e w' ⟨⟨vr, rfl, ho⟩, hb⟩)
 go_ret
 exact ⟨⟨_, rfl, ho⟩, hb⟩
theorem sy_many (h : SyAt w B x L s) : Calls Try.prog 27 #[.pointer (some ⟨x.g, 0, none⟩)] w fun e w' => e = .returned (I (s.way.length : Int)) ∧ w = w' := by
 obtain ⟨A, c, _, c7⟩ := h.wcell
 have hg := h.has.lt
 clear h
 go_enter Try.func27, Try.ntmps27
 go_wp2
 go_ret
 exact ⟨rfl, rfl⟩
theorem sy_tick3 (h : SyAt w B x L s) (hf : s.v.Wf) : Calls Try.prog 29 #[.pointer (some ⟨x.g, 0, none⟩), I 3] w (SysDone w B x L { s with v := voTick s.v }) := by
 have c6 := h.vcell
 have hg := h.has.lt
 have HH := Lib.hid h
 have HF := Lib.hid hf
 clear h hf
 go_enter Try.func29, Try.ntmps29
 go_wp2_with (go_at_call 54; refine (vo_tick HH.out.vo HF.out).mono ?_; rintro e w' ⟨rfl, hv, ht⟩)
 go_ret
 obtain ⟨h1, h2⟩ := HH.out.setVo ht hv (.inl rfl)
 exact ⟨⟨_, rfl⟩, _, h1, h2⟩
set_option maxHeartbeats 1000000 in
theorem sy_see (h : SyAt w B x L s) (k : Nat) (hk : k < 3) (a b : Int) : Calls Try.prog 21 #[.pointer (some ⟨x.g, 0, none⟩), I k, .agg #[I a, I b]] w (SysPost w B x L .nilIface (sysSee s k (a, b))) := by
 have hb : Below w.heap.size w (w.alloc (.cells #[I a, I b] 30)) := (Below.refl _ _).alloc (Nat.le_refl _) _
 have h1 : SyAt (w.alloc (.cells #[I a, I b] 30)) B x L s := h.after hb
 have ki := Has.new w 30 #[I a, I b]
 have i0 := ki.cellv 0 (I a) rfl
 have i1 := ki.cellv 1 (I b) rfl
 have ck := h1.rcell hk
 have hg := h1.has.lt
 have HH := Lib.hid h1
 have HB := Lib.hid hb
 have HK := Lib.hid hk
 have hki : (k : Int) < 3 := by omega
 have HD := Lib.hid (show decide (k < 3) = true by simpa using hk)
 clear h h1 hb ki
 go_enter Try.func21, Try.ntmps21
 go_upto_region 1 with (fail)
 generalize w.alloc (.cells #[I a, I b] 30) = w1 at *
 go_upto_region 3 with (go_at_call 43; refine (right_nat k (by omega)).mono ?_; rintro e w' ⟨rfl, rfl⟩; rw [HD.out])
 have HR := Lib.hid (HH.out.after ((Below.refl _ _).drew))
 go_cut [] (fun wx => SyAt wx B x L (sysSee s k (a, b)) ∧ Moved w1 wx x x)
 case first =>
  go_region_with (go_at_call 48; refine (re_see (HR.out.rep k HK.out) a b).mono ?_; rintro e w' ⟨rfl, hr, ht⟩)
  all_goals
   obtain ⟨h2, h3⟩ := HR.out.setRep HK.out ht hr
   go_wp2_with fail
   go_meet
   case rel => exact ⟨h2, (Moved.of_below ((Below.refl _ _).drew)).trans h3⟩
 case rest =>
  obtain ⟨h2, h3⟩ := hcut
  have H4 := Lib.hid (And.intro h2 h3)
  clear h2 h3
  go_wp2
  go_ret
  exact ⟨rfl, x, H4.out.1, (Moved.of_below HB.out).trans H4.out.2⟩
end
end Go.Proofs.Ytdhekhlmdefcnab
