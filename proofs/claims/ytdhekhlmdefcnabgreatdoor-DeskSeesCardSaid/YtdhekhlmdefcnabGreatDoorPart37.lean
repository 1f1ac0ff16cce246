/- Part 37 of the proof: DkBuild, DkStr. -/
import Derived.Test.YtdhekhlmdefcnabGreatDoorPart35
import Derived.Shelf.Strings.Builder1
namespace Go.Proofs.YtdhekhlmdefcnabGreatDoor
open Go.RowKit
theorem dk_extra : Builder.Extra Tryz.prog Tryz.lays156_ren := {
 sizeBuilder := by kernel_rfl
 liesBuilder := by kernel_rfl
 t5 := Tryz.underlying5
 a5 := Tryz.isAgg5
 z5 := Tryz.sizeOf5
 v5 := Tryz.zeroValue5
 infoByte := by kernel_rfl
 cellsByte := by kernel_rfl
 sizeByte := by kernel_rfl
 neB5 := by decide }
structure BuAt (w : World) (B b : Nat) (v : Value) (l : By) : Prop where
 has : ∃ p, (p = .pointer none ∨ p = .pointer (some ⟨b, 0, none⟩)) ∧ Has w b 52 #[p, v]
 own : w.ownsRow B 5 1 v l.length (Lib.byteCells l)
 low : B ≤ b
def FB (b : Nat) (v : Value) (k : Nat) : Prop := k = b ∨ v.ownBlock = some k
section
variable {w : World} {B b : Nat} {v : Value} {l : By}
theorem BuAt.ne (h : BuAt w B b v l) : v.ownBlock ≠ some b := fun e => by
 obtain ⟨p, _, hh⟩ := h.has
 obtain ⟨_, cur, hc⟩ := own_block h.own e
 exact hh.ne hc (by decide) rfl
theorem copy_ok (h : BuAt w B b v l) : Calls Tryz.prog 31 #[.pointer (some ⟨b, 0, none⟩)] w fun e w' => e = .returned (.tuple #[]) ∧ (Has w' b 52 #[.pointer (some ⟨b, 0, none⟩), v] ∧ w'.ownsRow B 5 1 v l.length (Lib.byteCells l)) ∧ Turned (FB b v) w w' ∧ w'.heap.size = w.heap.size := by
 obtain ⟨p, hp, hh⟩ := h.has
 have ho := h.own
 have hne := h.ne
 rcases hp with rfl | rfl
 ·refine (Any.Builder_copyCheck_fresh (L := { Tryz.lays156 with }) dk_extra.toX72 b w (hh.cellv 0 _ rfl) ?_ (hh.free 0)).mono ?_
  ·have := hh
   unfold Has at this
   simp [World.shape?, this]
   rfl
  ·rintro e w' ⟨rfl, rfl⟩
   refine ⟨rfl, ⟨hh.set 0 _, ho.kept (row := some b) ⟨rfl, rfl, rfl, by simp [World.setCell], fun k _ hk => Below.heap_setCell _ _ _ _ (fun e => hk (by simp [e]))⟩ (.inr hne)⟩, (Turned.refl _ _).setCell _ _ (.inl (.inl rfl)), by simp [World.setCell]⟩
 ·refine (Any.Builder_copyCheck_used (L := { Tryz.lays156 with }) dk_extra.toX72 b w (hh.cellv 0 _ rfl)).mono ?_
  rintro e w' ⟨rfl, rfl⟩
  exact ⟨rfl, ⟨hh, ho⟩, Turned.refl _ _, rfl⟩
theorem Turned.grownB {w w' : World} {b : Nat} {v : Value} (h : w.grownBy w' v.ownBlock) : Turned (FB b v) w w' := ⟨h.os, h.tape, h.output, h.size, fun k hk hf => h.block k hk (fun e => hf (.inr e.symm))⟩
set_option maxHeartbeats 2000000 in
set_option maxRecDepth 100000 in
theorem write_ok (h : BuAt w B b v l) (s : ByteArray) (hlen : l.length + s.size ≤ 100000000000) (hBw : B ≤ w.heap.size) : Calls Tryz.prog 16 #[.pointer (some ⟨b, 0, none⟩), .string s] w fun e w' => (∃ r, e = .returned r) ∧ ∃ v', BuAt w' B b v' (l ++ s.data.toList) ∧ Turned (FB b v) w w' := by
 obtain ⟨i0, hi, hz0, hz1, hz2⟩ := info_parts infoU8
 have HC := Lib.hid (copy_ok h)
 have HNE := Lib.hid h.ne
 have HLO := Lib.hid h.low
 clear h
 go_enter Tryz.func16, Tryz.ntmps16
 go_upto_region 2 with (go_at_call 31; refine HC.out.mono ?_; rintro e w1 ⟨rfl, ⟨hk1, hown⟩, ht1, hsz⟩)
 have c0 := hk1.cellv 0 _ rfl
 have c1 := hk1.cellv 1 v rfl
 have hlt := hk1.lt
 have HK1 := Lib.hid hk1
 have HT1 := Lib.hid ht1
 clear hk1 ht1 HC
 go_wp2_with (at_builtin; refine Lib.wpList_append_own_string _ rfl _ _ 50 9 rfl B 5 i0 Tryz.underlying50 Tryz.underlying9 hi hz0 hz1 hz2 _ _ _ rfl hown s rfl ?c3 ?c4 ?c5 ?_)
 case c3 => unfold maxLen; omega
 case c4 => omega
 case c5 => omega
 intro v' w2 hown' hgrow _
 have hk2 : Has w2 b 52 #[.pointer (some ⟨b, 0, none⟩), v] := by
  show w2.heap[b]? = _
  rw [hgrow.block b hlt (fun e => HNE.out e.symm)]
  exact HK1.out
 have d0 := hk2.cellv 0 _ rfl
 have d1 := hk2.cellv 1 v rfl
 have f1 := hk2.free 1
 have hl2 := hk2.lt
 obtain ⟨ao, n', cap, rfl⟩ : ∃ ao n' cap, v' = .slice ao n' cap := by
  rcases hown'.2 with ⟨hv, _⟩ | ⟨g, cap, cur, hv, _⟩
  ·exact ⟨_, _, _, hv⟩
  ·exact ⟨_, _, _, hv⟩
 have HG := Lib.hid (Turned.grownB (b := b) hgrow)
 have HO := Lib.hid hown'
 have HK2 := Lib.hid hk2
 clear hown' hgrow hk2 c0 c1
 go_wp2
 go_ret2
 refine ⟨⟨_, rfl⟩, .slice ao n' cap, ⟨⟨_, .inr rfl, HK2.out.set 1 _⟩, ?_, HLO.out⟩, ?_⟩
 ·have hne : Value.ownBlock (.slice ao n' cap) ≠ some b := fun e => by
   obtain ⟨_, cur, hc⟩ := own_block HO.out e
   exact HK2.out.ne hc (by decide) rfl
  have hkeep : (w2.setCell ⟨b, 1, none⟩ (.slice ao n' cap)).ownsRow B 5 1 (.slice ao n' cap) (l.length + s.size) (Lib.byteCells l ++ Lib.strCells s) := HO.out.kept (row := some b) ⟨rfl, rfl, rfl, by simp [World.setCell], fun k _ hk => Below.heap_setCell _ _ _ _ (fun e => hk (by simp [e]))⟩ (.inr hne)
  have e1 : Lib.byteCells (l ++ s.data.toList) = Lib.byteCells l ++ Lib.strCells s := by simp [Lib.byteCells, Lib.strCells]
  have e2 : (l ++ s.data.toList).length = l.length + s.size := by rw [List.length_append, Array.length_toList]; rfl
  rw [e1, e2]
  exact hkeep
 ·exact (HT1.out.trans HG.out fun k _ hk => hk).trans ((Turned.refl (FB b v) _).setCell ⟨b, 1, none⟩ _ (.inl (.inl rfl))) fun k _ hk => hk
end
end Go.Proofs.YtdhekhlmdefcnabGreatDoor
namespace Go.Proofs.YtdhekhlmdefcnabGreatDoor
open Go.RowKit
set_option maxHeartbeats 4000000 in
set_option maxRecDepth 100000 in
theorem str_ok {w : World} {B b : Nat} {v : Value} {l : By} (h : BuAt w B b v l) (h0 : l ≠ []) : Calls Tryz.prog 18 #[.pointer (some ⟨b, 0, none⟩)] w fun e w' => e = .returned (.string ⟨l.toArray⟩) ∧ ∃ g n, B ≤ g ∧ (∃ t cs, Has w g t cs) ∧ w' = w.drew.freeze ⟨g, 0, none⟩ n := by
 have hl0 : l.length ≠ 0 := by simpa using h0
 obtain ⟨p, _, hbk⟩ := h.has
 have hown := h.own
 obtain ⟨g, cap, cur, rfl, hbg, hg, hnc, hcm, hcs, htake⟩ : ∃ g cap cur, v = .slice (some ⟨g, 0, none⟩) l.length cap ∧ B ≤ g ∧ w.heap[g]? = some (.cells cur 5 (0, 0)) ∧ l.length ≤ cap ∧ cap ≤ maxLen ∧ cur.size = cap * 1 ∧ cur.toList.take (l.length * 1) = Lib.byteCells l := by
  rcases hown.2 with ⟨_, hz⟩ | ⟨g, cap, cur, hv, r⟩
  ·exact absurd hz hl0
  ·exact ⟨g, cap, cur, hv, r⟩
 have c1 : w.drew.cell? ⟨b, 1, none⟩ = some (.slice (some ⟨g, 0, none⟩) l.length cap) := hbk.cellv 1 _ rfl
 have hSD : (Builtin.unsafeSliceData_ #[50] 85 #[.slice (some ⟨g, 0, none⟩) l.length cap]).run Tryz.prog w.drew = .ok (.pointer (some ⟨g, 0, none⟩)) w.drew :=
  Lib.run_unsafeSliceData_row _ _ _ _ _ _ (by omega)
 have hUS : (Builtin.unsafeString_ #[85, 3] 9 #[.pointer (some ⟨g, 0, none⟩), .int .i64 l.length]).run Tryz.prog w.drew = .ok (.string ⟨l.toArray⟩) (w.drew.freeze ⟨g, 0, none⟩ l.length) := by
  refine Lib.run_unsafeString_row w.drew 85 3 9 5 Tryz.underlying85 dk_extra.cellsByte g cur.size (by have hg' : w.drew.heap[g]? = some (.cells cur 5 (0, 0)) := hg; simp [World.shape?, hg']) l h0 (by omega) (by unfold maxLen at hcm; omega) ?_
  intro j x hx
  have := hown.cells (g := g) rfl j (.int .u8 x.toNat) (by simp [Lib.byteCells, hx])
  exact this
 have HG : Hid (B ≤ g ∧ ∃ t cs, Has w g t cs) := Lib.hid ⟨hbg, _, _, hg⟩
 have hlb := hbk.lt
 clear h hbk hown hg htake hbg
 go_enter Tryz.func18, Tryz.ntmps18
 go_wp2
 go_region
 all_goals (go_wp2; go_ret; exact ⟨rfl, g, _, HG.out.1, HG.out.2, rfl⟩)
end Go.Proofs.YtdhekhlmdefcnabGreatDoor
