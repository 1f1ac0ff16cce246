/- Part 35 of the proof: DkMem, DkDoes, DkCmd, DkNew, DkBuild, DkStr. -/
import Derived.Test.YtdhekhlmdefcnaaGreatDoorPart28
import Derived.Test.YtdhekhlmdefcnaaGreatDoorPart34
import Derived.Test.YtdhekhlmdefcnaaGreatDoorPart14
import Derived.Test.YtdhekhlmdefcnaaGreatDoorPart22
import Derived.Test.YtdhekhlmdefcnaaGreatDoorPart31
import Derived.MapKept
import Derived.Shelf.Strings.Builder1
namespace Go.Proofs.YtdhekhlmdefcnaaGreatDoor
open Go.RowKit
def RtAt (w : World) (vr : Value) (rs : List Nat) : Prop := ∃ b o c cs, vr = .slice (some ⟨b, o, none⟩) rs.length c ∧ rs.length ≤ c ∧ Has w b 3 cs ∧ ∀ (j : Nat) (u : Value), (ints (zs rs))[j]? = some u → cs[o + j]? = some u
theorem RtAt.keep {w w' : World} {vr : Value} {rs : List Nat} (h : RtAt w vr rs) (hk : ∀ b cs, Has w b 3 cs → Has w' b 3 cs) : RtAt w' vr rs := by
 obtain ⟨b, o, c, cs, h1, h2, h3, h4⟩ := h
 exact ⟨b, o, c, cs, h1, h2, hk b cs h3, h4⟩
theorem RtAt.after {w w' : World} {vr : Value} {rs : List Nat} (h : RtAt w vr rs) (hb : Below w.heap.size w w') : RtAt w' vr rs := h.keep fun _ _ hh => hh.after hb
theorem RtAt.reads {w : World} {vr : Value} {rs : List Nat} (h : RtAt w vr rs) : ∃ A c, vr = .slice A rs.length c ∧ rs.length ≤ c ∧ Reads w w.heap.size A (ints (zs rs)) := by
 obtain ⟨b, o, c, cs, h1, h2, h3, h4⟩ := h
 exact ⟨_, c, h1, h2, fun _ => ⟨b, o, rfl, h3.lt, fun j u hu => by rw [h3.cell]; exact h4 j u hu⟩⟩
structure DkAt (w : World) (B g : Nat) (x : SyX) (vr : Value) (d : Dk) : Prop where
 has : Has w g 54 #[I d.L.secs, vr, I d.L.delay, .pointer (some ⟨x.g, 0, none⟩)]
 routes : RtAt w vr d.L.routes
 sys : SyAt w B x d.L d.s
 low : B ≤ g
 ok : d.L.Ok
 hB : B ≤ w.heap.size
def FD (g : Nat) (x : SyX) (b : Nat) : Prop := b = g ∨ FS x b
structure DMv (w w' : World) (g : Nat) (x x' : SyX) : Prop where
 turned : Turned (FD g x) w w'
 blocks : ∀ b, FD g x' b → FD g x b ∨ w.heap.size ≤ b
section
variable {w w' w1 : World} {B g : Nat} {x x' x1 : SyX} {vr : Value} {d : Dk} {s' : Sys}
theorem DMv.of_below (h : Below w.heap.size w w') : DMv w w' g x x := ⟨Turned.of_below h _, fun _ h => .inl h⟩
theorem DMv.trans (h : DMv w w1 g x x1) (h' : DMv w1 w' g x1 x') : DMv w w' g x x' := by
 refine ⟨h.turned.trans h'.turned fun k hk hf => ?_, fun b hb => ?_⟩
 ·rcases h.blocks k hf with h1 | h1
  ·exact h1
  ·omega
 ·rcases h'.blocks b hb with h1 | h1
  ·exact h.blocks b h1
  ·exact .inr (Nat.le_trans h.turned.size h1)
theorem DkAt.after (h : DkAt w B g x vr d) (hb : Below w.heap.size w w') : DkAt w' B g x vr d := ⟨h.has.after hb, h.routes.after hb, h.sys.after hb, h.low, h.ok, Nat.le_trans h.hB hb.size⟩
theorem DkAt.c3 (h : DkAt w B g x vr d) : w.cell? ⟨g, 3, none⟩ = some (.pointer (some ⟨x.g, 0, none⟩)) := h.has.cellv 3 _ rfl
theorem DMv.below (m : DMv w w' g x x') (h : DkAt w B g x vr d) : Below B w w' := m.turned.below (fun k hk => by
 rcases hk with rfl | hk
 ·exact h.low
 ·exact h.sys.ge hk) h.hB
end
def ansE : An → Ending
 | .txt t => .returned (.string ⟨t.toArray⟩)
 | .err n => .panicked (pan n)
def MPost (w : World) (B g : Nat) (x : SyX) (r : Dk × An) (e : Ending) (w' : World) : Prop := e = ansE r.2 ∧ ∃ x' vr', DkAt w' B g x' vr' r.1 ∧ DMv w w' g x x'
theorem MPost.same {w w' : World} {B g : Nat} {x : SyX} {vr : Value} {d : Dk} {a : An} {e : Ending} (h : DkAt w B g x vr d) (hb : Below w.heap.size w w') (he : e = ansE a) : MPost w B g x (d, a) e w' := ⟨he, x, vr, h.after hb, DMv.of_below hb⟩
structure Words (w : World) (A : Option Addr) (l : List ByteArray) : Prop where
 many : l.length ≤ 100000
 size : ∀ s ∈ l, s.size ≤ 100000
 reads : Reads w w.heap.size A (strs l)
theorem Words.after {w w' : World} {A : Option Addr} {l : List ByteArray} (h : Words w A l) (hb : Below w.heap.size w w') : Words w' A l := ⟨h.many, h.size, (h.reads.below hb).more hb.size⟩
theorem own_cells {w : World} {base : Nat} {e : TypeId} {v : Value} {n : Nat} {xs : List Value} (h : w.ownsRow base e 1 v n xs) (hn : 0 < n) : ∃ b c cs, v = .slice (some ⟨b, 0, none⟩) n c ∧ n ≤ c ∧ Has w b e cs ∧ ∀ (j : Nat) (u : Value), xs[j]? = some u → cs[j]? = some u := by
 rcases h.2 with ⟨_, h0⟩ | ⟨b, c, cs, rfl, _, hh, hc, _, _, ht⟩
 ·omega
 ·refine ⟨b, c, cs, rfl, hc, hh, fun j u hu => ?_⟩
  rw [← ht, List.getElem?_take] at hu
  split at hu
  ·simpa using hu
  ·cases hu
theorem dk_none {w : World} {A : Option Addr} {l : List ByteArray} (hw : Hid (Words w A l)) (c : Nat) (k : Int) (hk1 : -100 ≤ k) (hk2 : k ≤ 100) (hs : Hid (Std w)) (hr : numsOf l k = none) (hq : lenBad k l.length = false → Nums l) :
  Calls Tryz.prog 39 #[.slice A l.length c, I k] w fun e w' => e = .panicked (pan 3) ∧ Below w.heap.size w w' :=
 dk_numbers A c l k hk1 hk2 hw.out.many hw.out.size w hw.out.reads hs _ (Lib.hid hr) hq
end Go.Proofs.YtdhekhlmdefcnaaGreatDoor
namespace Go.Proofs.YtdhekhlmdefcnaaGreatDoor
open Go.RowKit
def cmdL : List (By × Cmd × Nat) := [
 ([97, 115, 107], .ask, 69),
 ([98, 101, 103, 105, 110], .begin, 14),
 ([99, 97, 108, 109], .calm, 70),
 ([99, 111, 110, 102, 108, 105, 99, 116, 115], .conflicts, 71),
 ([99, 114, 97, 115, 104], .crash, 72),
 ([100, 101, 108, 105, 118, 101, 114], .deliver, 73),
 ([104, 101, 108, 112], .help, 74),
 ([108, 97, 116, 99, 104], .latch, 75),
 ([108, 111, 115, 101], .lose, 76),
 ([109, 97, 110, 121], .many, 77),
 ([109, 111, 115, 116], .most, 78),
 ([114, 101, 112, 108, 105, 99, 97], .replica, 79),
 ([115, 101, 101], .see, 80),
 ([115, 104, 111, 119], .show, 81),
 ([116, 105, 99, 107], .tick, 82),
 ([116, 114, 97, 99, 101], .trace, 83),
 ([116, 119, 105, 99, 101], .twice, 84)]
def valE (g : Nat) (p : By × Cmd × Nat) : Value := .func (.func p.2.2) #[.pointer (some ⟨g, 0, none⟩)] #[]
def ent (g : Nat) (q : (By × Cmd × Nat) × Nat) : MapEntry := { key := .string ⟨q.1.1.toArray⟩, val := valE g q.1, born := q.2 }
def mapE (g i : Nat) : List MapEntry := (cmdL.take i).zipIdx.map (ent g)
def isNm (s : By) (p : By × Cmd × Nat) : Bool := p.1 == s
theorem same_ent (g : Nat) (s : ByteArray) (q : (By × Cmd × Nat) × Nat) : Instr.sameNow .string (.string s) (ent g q).key = some (isNm s.data.toList q.1) := by
 show some (s == (⟨q.1.1.toArray⟩ : ByteArray)) = some (q.1.1 == s.data.toList)
 congr 1
 rw [Bool.eq_iff_iff, MapKept.bytes_beq, beq_iff_eq]
 constructor
 ·rintro rfl
  simp
 ·intro h
  rw [h]
theorem find_ent (g : Nat) (s : ByteArray) : ∀ (l : List (By × Cmd × Nat)) (k j : Nat), (l.find? (isNm s.data.toList) = none → Instr.findNow .string (.string s) ((l.zipIdx k).map (ent g)) j = some none) ∧ (∀ p, l.find? (isNm s.data.toList) = some p → ∃ i, Instr.findNow .string (.string s) ((l.zipIdx k).map (ent g)) j = some (some (i, valE g p)))
 | [], k, j => ⟨fun _ => rfl, fun p h => by cases h⟩
 | q :: l, k, j => by
  have ih := find_ent g s l (k + 1) (j + 1)
  rw [List.zipIdx_cons, List.map_cons, List.find?_cons]
  unfold Instr.findNow
  rw [same_ent]
  cases hq : isNm s.data.toList q with
  | true =>
   refine ⟨fun h => (by cases h), fun p h => ?_⟩
   have h' : some q = some p := h
   injection h' with h'
   subst h'
   exact ⟨j, rfl⟩
  | false => exact ih
theorem names_apart : ∀ i, i < 17 → ∀ p, cmdL[i]? = some p → (cmdL.take i).find? (isNm p.1) = none := by decide
structure MapAt (w0 w : World) (g r i : Nat) : Prop where
 below : Below w0.heap.size w0 w
 ge : w0.heap.size ≤ r
 at_ : w.heap[r]? = some (.map (mapE g i).toArray i)
section
variable {w0 w : World} {g r i : Nat} {ops : Array Oper} {rest : List Oper} {o : Oper} {a : Act} {Q : Exit → Act → World → Prop}
theorem mapE_succ (g : Nat) {i : Nat} {p : By × Cmd × Nat} (hp : cmdL[i]? = some p) : mapE g (i + 1) = mapE g i ++ [ent g (p, i)] := by
 have hl := (List.getElem?_eq_some_iff.1 hp).1
 unfold mapE
 rw [List.take_add_one, hp, Option.toList_some, List.zipIdx_append, List.map_append]
 congr 1
 rw [List.length_take, Nat.min_eq_left (by omega), Nat.zero_add]
 rfl
theorem run_ins (hw : MapAt w0 w g r i) {p : By × Cmd × Nat} (hp : cmdL[i]? = some p) : ∃ w', (Instr.mapUpdate 133 (.map (some r)) (.string ⟨p.1.toArray⟩) (valE g p)).run Tryz.prog w = .ok () w' ∧ MapAt w0 w' g r (i + 1) := by
 have hi : i < 17 := (List.getElem?_eq_some_iff.1 hp).1
 have hf : Instr.findNow .string (.string ⟨p.1.toArray⟩) (mapE g i) 0 = some none := (find_ent g ⟨p.1.toArray⟩ _ 0 0).1 (names_apart i hi p hp)
 have hlt : r < w.heap.size := (Array.getElem?_eq_some_iff.1 hw.at_).1
 refine ⟨{ w with heap := w.heap.setIfInBounds r (.map ((mapE g i).toArray.push (ent g (p, i))) (i + 1)) }, ?_, ⟨?_, hw.ge, ?_⟩⟩
 ·simp [Instr.mapUpdate, run_underlying Tryz.underlying133, MapKept.run_getObj_map hw.at_, MapKept.run_checkKey Tryz.underlying9 (show MapKept.IsKey .string (.string ⟨p.1.toArray⟩) from trivial), MapKept.run_findKey Tryz.underlying9 hf, MapKept.run_setObj_map _ hw.at_, Result.andThen, ent]
 ·refine ⟨hw.below.os, hw.below.tape, hw.below.output, by simpa using hw.below.size, fun k hk => ?_⟩
  show (w.heap.setIfInBounds r _)[k]? = _
  rw [Array.getElem?_setIfInBounds_ne (by have := hw.ge; omega)]
  exact hw.below.block k hk
 ·show (w.heap.setIfInBounds r _)[r]? = _
  rw [mapE_succ g hp]
  simp [hlt]
theorem wpList_ins (hw : MapAt w0 w g r i) (hgd : o.guard = none) (m x v : Operand) (hop : o.op = Op.insert 133 m x v) (hm : a.eval m = .map (some r)) (p : By × Cmd × Nat) (hp : cmdL[i]? = some p) (hx : a.eval x = .string ⟨p.1.toArray⟩) (hv : a.eval v = valE g p)
  (hK : ∀ w', MapAt w0 w' g r (i + 1) → wpList Tryz.prog ops Q rest (a.put o.dst undef) w') : wpList Tryz.prog ops Q (o :: rest) a w := by
 refine wpList_plain hgd fun K' hK' => ?_
 obtain ⟨w', hrun, r1⟩ := run_ins hw hp
 unfold Oper.wp
 simp [execOp, hop, hm, hx, hv, hrun, Result.andThen]
 exact hK' _ _ (hK w' r1)
theorem infoFn : (Tryz.prog.info? 55).map (fun i => (i.zero, i.size, i.bytes)) = some (some .nilFunc, 1, 8) := by kernel_rfl
def doesV (g : Nat) (s : ByteArray) : Value := match cmdL.find? (isNm s.data.toList) with | none => .nilFunc | some p => valE g p
theorem run_look (hw : MapAt w0 w g r 17) (s : ByteArray) : (Instr.lookup 133 (.map (some r)) (.string s) false).run Tryz.prog w = .ok (doesV g s) w := by
 obtain ⟨i0, hi0, hz0, _, _⟩ := info_parts infoFn
 have hz : (zeroValue 55).run Tryz.prog w = .ok .nilFunc w := by
  simp [zeroValue, run_typeInfo w hi0, hz0, Result.andThen]
 unfold doesV
 cases hq : cmdL.find? (isNm s.data.toList) with
 | none =>
  have hf : Instr.findNow .string (.string s) (mapE g 17) 0 = some none := (find_ent g s _ 0 0).1 hq
  simp [Instr.lookup, run_underlying Tryz.underlying133, MapKept.run_getObj_map hw.at_, MapKept.run_checkKey Tryz.underlying9 (show MapKept.IsKey .string (.string s) from trivial), MapKept.run_findKey Tryz.underlying9 hf, Result.andThen, hz]
 | some p =>
  obtain ⟨i, hf⟩ := (find_ent g s (cmdL.take 17) 0 0).2 p hq
  have hf' : Instr.findNow .string (.string s) (mapE g 17) 0 = some (some (i, valE g p)) := hf
  simp [Instr.lookup, run_underlying Tryz.underlying133, MapKept.run_getObj_map hw.at_, MapKept.run_checkKey Tryz.underlying9 (show MapKept.IsKey .string (.string s) from trivial), MapKept.run_findKey Tryz.underlying9 hf', Result.andThen]
theorem wpList_mkMap (hgd : o.guard = none) (t : TypeId) (hop : o.op = Op.makeMap t none) (hK : wpList Tryz.prog ops Q rest (a.put o.dst (.map (some w.heap.size))) (w.alloc (.map #[] 0))) : wpList Tryz.prog ops Q (o :: rest) a w := by
 refine wpList_plain hgd fun K' hK' => ?_
 have hr : (Instr.makeMap t none).run Tryz.prog w = .ok (.map (some w.heap.size)) (w.alloc (.map #[] 0)) := rfl
 unfold Oper.wp
 simp [execOp, hop, hr, Result.andThen]
 exact hK' _ _ hK
theorem wpList_look (hw : MapAt w0 w g r 17) (hgd : o.guard = none) (m x : Operand) (hop : o.op = Op.lookup 133 m x false) (hm : a.eval m = .map (some r)) (s : ByteArray) (hx : a.eval x = .string s)
  (hK : wpList Tryz.prog ops Q rest (a.put o.dst (doesV g s)) w) : wpList Tryz.prog ops Q (o :: rest) a w := by
 refine wpList_plain hgd fun K' hK' => ?_
 unfold Oper.wp
 simp [execOp, hop, hm, hx, run_look hw s, Result.andThen]
 exact hK' _ _ hK
end
set_option maxHeartbeats 4000000 in
set_option maxRecDepth 100000 in
theorem desk_does (g : Nat) (s : ByteArray) (w : World) : Calls Tryz.prog 49 #[.pointer (some ⟨g, 0, none⟩), .string s] w fun e w' => e = .returned (doesV g s) ∧ Below w.heap.size w w' := by
 have hm : MapAt w (w.alloc (.map #[] 0)) g w.heap.size 0 := ⟨(Below.refl _ _).alloc (Nat.le_refl _) _, Nat.le_refl _, by show (w.heap.push _)[w.heap.size]? = _; simp; rfl⟩
 go_enter Tryz.func49, Tryz.ntmps49
 go_wp2_with (first
  |(refine wpList_ins (w0 := w) (g := g) (r := w.heap.size) hm rfl _ _ _ rfl rfl _ rfl rfl rfl ?_; clear hm; intro wm hm)
  |(refine wpList_mkMap rfl _ rfl ?_)
  |(refine wpList_mkFn rfl _ _ _ rfl (.func _ #[.pointer (some ⟨g, 0, none⟩)] #[]) rfl ?_)
  |(refine wpList_look (w0 := w) (g := g) (r := w.heap.size) hm rfl _ _ rfl rfl s rfl ?_))
 go_ret
 exact ⟨rfl, hm.below⟩
end Go.Proofs.YtdhekhlmdefcnaaGreatDoor
namespace Go.Proofs.YtdhekhlmdefcnaaGreatDoor
open Go.RowKit
section
variable {w : World} {B g : Nat} {x : SyX} {vr : Value} {d : Dk} {T : Nat} {A : Option Addr} {l : List ByteArray} {c : Nat}
end
end Go.Proofs.YtdhekhlmdefcnaaGreatDoor
namespace Go.Proofs.YtdhekhlmdefcnaaGreatDoor
open Go.RowKit
end Go.Proofs.YtdhekhlmdefcnaaGreatDoor
namespace Go.Proofs.YtdhekhlmdefcnaaGreatDoor
open Go.RowKit
theorem dk_extra : Builder.Extra Tryz.prog Tryz.lays156_ren := {
 sizeBuilder := by kernel_rfl
 liesBuilder := by kernel_rfl
 t5 := Tryz.underlying5
 a5 := Tryz.isAgg5
 z5 := Tryz.sizeOf5
 v5 := Tryz.zeroValue5
 infoByte := by kernel_rfl
 cellsByte := by kernel_rfl
 sizeByte := by kernel_rfl
 neB5 := by decide }
structure BuAt (w : World) (B b : Nat) (v : Value) (l : By) : Prop where
 has : ∃ p, (p = .pointer none ∨ p = .pointer (some ⟨b, 0, none⟩)) ∧ Has w b 58 #[p, v]
 own : w.ownsRow B 5 1 v l.length (Lib.byteCells l)
 low : B ≤ b
def FB (b : Nat) (v : Value) (k : Nat) : Prop := k = b ∨ v.ownBlock = some k
section
variable {w : World} {B b : Nat} {v : Value} {l : By}
theorem BuAt.ne (h : BuAt w B b v l) : v.ownBlock ≠ some b := fun e => by
 obtain ⟨p, _, hh⟩ := h.has
 obtain ⟨_, cur, hc⟩ := own_block h.own e
 exact hh.ne hc (by decide) rfl
theorem copy_ok (h : BuAt w B b v l) : Calls Tryz.prog 44 #[.pointer (some ⟨b, 0, none⟩)] w fun e w' => e = .returned (.tuple #[]) ∧ (Has w' b 58 #[.pointer (some ⟨b, 0, none⟩), v] ∧ w'.ownsRow B 5 1 v l.length (Lib.byteCells l)) ∧ Turned (FB b v) w w' ∧ w'.heap.size = w.heap.size := by
 obtain ⟨p, hp, hh⟩ := h.has
 have ho := h.own
 have hne := h.ne
 rcases hp with rfl | rfl
 ·refine (Any.Builder_copyCheck_fresh (L := { Tryz.lays156 with }) dk_extra.toX72 b w (hh.cellv 0 _ rfl) ?_ (hh.free 0)).mono ?_
  ·have := hh
   unfold Has at this
   simp [World.shape?, this]
   rfl
  ·rintro e w' ⟨rfl, rfl⟩
   refine ⟨rfl, ⟨hh.set 0 _, ho.kept (row := some b) ⟨rfl, rfl, rfl, by simp [World.setCell], fun k _ hk => Below.heap_setCell _ _ _ _ (fun e => hk (by simp [e]))⟩ (.inr hne)⟩, (Turned.refl _ _).setCell _ _ (.inl (.inl rfl)), by simp [World.setCell]⟩
 ·refine (Any.Builder_copyCheck_used (L := { Tryz.lays156 with }) dk_extra.toX72 b w (hh.cellv 0 _ rfl)).mono ?_
  rintro e w' ⟨rfl, rfl⟩
  exact ⟨rfl, ⟨hh, ho⟩, Turned.refl _ _, rfl⟩
theorem Turned.grownB {w w' : World} {b : Nat} {v : Value} (h : w.grownBy w' v.ownBlock) : Turned (FB b v) w w' := ⟨h.os, h.tape, h.output, h.size, fun k hk hf => h.block k hk (fun e => hf (.inr e.symm))⟩
set_option maxHeartbeats 2000000 in
set_option maxRecDepth 100000 in
theorem write_ok (h : BuAt w B b v l) (s : ByteArray) (hlen : l.length + s.size ≤ 100000000000) (hBw : B ≤ w.heap.size) : Calls Tryz.prog 17 #[.pointer (some ⟨b, 0, none⟩), .string s] w fun e w' => (∃ r, e = .returned r) ∧ ∃ v', BuAt w' B b v' (l ++ s.data.toList) ∧ Turned (FB b v) w w' := by
 obtain ⟨i0, hi, hz0, hz1, hz2⟩ := info_parts infoU8
 have HC := Lib.hid (copy_ok h)
 have HNE := Lib.hid h.ne
 have HLO := Lib.hid h.low
 clear h
 go_enter Tryz.func17, Tryz.ntmps17
 go_upto_region 2 with (go_at_call 44; refine HC.out.mono ?_; rintro e w1 ⟨rfl, ⟨hk1, hown⟩, ht1, hsz⟩)
 have c0 := hk1.cellv 0 _ rfl
 have c1 := hk1.cellv 1 v rfl
 have hlt := hk1.lt
 have HK1 := Lib.hid hk1
 have HT1 := Lib.hid ht1
 clear hk1 ht1 HC
 go_wp2_with (at_builtin; refine Lib.wpList_append_own_string _ rfl _ _ 33 9 rfl B 5 i0 Tryz.underlying33 Tryz.underlying9 hi hz0 hz1 hz2 _ _ _ rfl hown s rfl ?c3 ?c4 ?c5 ?_)
 case c3 => unfold maxLen; omega
 case c4 => omega
 case c5 => omega
 intro v' w2 hown' hgrow _
 have hk2 : Has w2 b 58 #[.pointer (some ⟨b, 0, none⟩), v] := by
  show w2.heap[b]? = _
  rw [hgrow.block b hlt (fun e => HNE.out e.symm)]
  exact HK1.out
 have d0 := hk2.cellv 0 _ rfl
 have d1 := hk2.cellv 1 v rfl
 have f1 := hk2.free 1
 have hl2 := hk2.lt
 obtain ⟨ao, n', cap, rfl⟩ : ∃ ao n' cap, v' = .slice ao n' cap := by
  rcases hown'.2 with ⟨hv, _⟩ | ⟨g, cap, cur, hv, _⟩
  ·exact ⟨_, _, _, hv⟩
  ·exact ⟨_, _, _, hv⟩
 have HG := Lib.hid (Turned.grownB (b := b) hgrow)
 have HO := Lib.hid hown'
 have HK2 := Lib.hid hk2
 clear hown' hgrow hk2 c0 c1
 go_wp2
 go_ret2
 refine ⟨⟨_, rfl⟩, .slice ao n' cap, ⟨⟨_, .inr rfl, HK2.out.set 1 _⟩, ?_, HLO.out⟩, ?_⟩
 ·have hne : Value.ownBlock (.slice ao n' cap) ≠ some b := fun e => by
   obtain ⟨_, cur, hc⟩ := own_block HO.out e
   exact HK2.out.ne hc (by decide) rfl
  have hkeep : (w2.setCell ⟨b, 1, none⟩ (.slice ao n' cap)).ownsRow B 5 1 (.slice ao n' cap) (l.length + s.size) (Lib.byteCells l ++ Lib.strCells s) := HO.out.kept (row := some b) ⟨rfl, rfl, rfl, by simp [World.setCell], fun k _ hk => Below.heap_setCell _ _ _ _ (fun e => hk (by simp [e]))⟩ (.inr hne)
  have e1 : Lib.byteCells (l ++ s.data.toList) = Lib.byteCells l ++ Lib.strCells s := by simp [Lib.byteCells, Lib.strCells]
  have e2 : (l ++ s.data.toList).length = l.length + s.size := by rw [List.length_append, Array.length_toList]; rfl
  rw [e1, e2]
  exact hkeep
 ·exact (HT1.out.trans HG.out fun k _ hk => hk).trans ((Turned.refl (FB b v) _).setCell ⟨b, 1, none⟩ _ (.inl (.inl rfl))) fun k _ hk => hk
end
end Go.Proofs.YtdhekhlmdefcnaaGreatDoor
namespace Go.Proofs.YtdhekhlmdefcnaaGreatDoor
open Go.RowKit
set_option maxHeartbeats 4000000 in
set_option maxRecDepth 100000 in
theorem str_ok {w : World} {B b : Nat} {v : Value} {l : By} (h : BuAt w B b v l) (h0 : l ≠ []) : Calls Tryz.prog 19 #[.pointer (some ⟨b, 0, none⟩)] w fun e w' => e = .returned (.string ⟨l.toArray⟩) ∧ ∃ g n, B ≤ g ∧ (∃ t cs, Has w g t cs) ∧ w' = w.drew.freeze ⟨g, 0, none⟩ n := by
 have hl0 : l.length ≠ 0 := by simpa using h0
 obtain ⟨p, _, hbk⟩ := h.has
 have hown := h.own
 obtain ⟨g, cap, cur, rfl, hbg, hg, hnc, hcm, hcs, htake⟩ : ∃ g cap cur, v = .slice (some ⟨g, 0, none⟩) l.length cap ∧ B ≤ g ∧ w.heap[g]? = some (.cells cur 5 (0, 0)) ∧ l.length ≤ cap ∧ cap ≤ maxLen ∧ cur.size = cap * 1 ∧ cur.toList.take (l.length * 1) = Lib.byteCells l := by
  rcases hown.2 with ⟨_, hz⟩ | ⟨g, cap, cur, hv, r⟩
  ·exact absurd hz hl0
  ·exact ⟨g, cap, cur, hv, r⟩
 have c1 : w.drew.cell? ⟨b, 1, none⟩ = some (.slice (some ⟨g, 0, none⟩) l.length cap) := hbk.cellv 1 _ rfl
 have hSD : (Builtin.unsafeSliceData_ #[33] 95 #[.slice (some ⟨g, 0, none⟩) l.length cap]).run Tryz.prog w.drew = .ok (.pointer (some ⟨g, 0, none⟩)) w.drew :=
  Lib.run_unsafeSliceData_row _ _ _ _ _ _ (by omega)
 have hUS : (Builtin.unsafeString_ #[95, 3] 9 #[.pointer (some ⟨g, 0, none⟩), .int .i64 l.length]).run Tryz.prog w.drew = .ok (.string ⟨l.toArray⟩) (w.drew.freeze ⟨g, 0, none⟩ l.length) := by
  refine Lib.run_unsafeString_row w.drew 95 3 9 5 Tryz.underlying95 dk_extra.cellsByte g cur.size (by have hg' : w.drew.heap[g]? = some (.cells cur 5 (0, 0)) := hg; simp [World.shape?, hg']) l h0 (by omega) (by unfold maxLen at hcm; omega) ?_
  intro j x hx
  have := hown.cells (g := g) rfl j (.int .u8 x.toNat) (by simp [Lib.byteCells, hx])
  exact this
 have HG : Hid (B ≤ g ∧ ∃ t cs, Has w g t cs) := Lib.hid ⟨hbg, _, _, hg⟩
 have hlb := hbk.lt
 clear h hbk hown hg htake hbg
 go_enter Tryz.func19, Tryz.ntmps19
 go_wp2
 go_region
 all_goals (go_wp2; go_ret; exact ⟨rfl, g, _, HG.out.1, HG.out.2, rfl⟩)
end Go.Proofs.YtdhekhlmdefcnaaGreatDoor
