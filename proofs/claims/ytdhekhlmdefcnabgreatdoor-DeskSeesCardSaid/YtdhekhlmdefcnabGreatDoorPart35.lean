/- Part 35 of the proof: DkMem, DkDoes. -/
import Derived.Test.YtdhekhlmdefcnabGreatDoorPart34
import Derived.Test.YtdhekhlmdefcnabGreatDoorPart31
import Derived.MapKept
namespace Go.Proofs.YtdhekhlmdefcnabGreatDoor
open Go.RowKit
def RtAt (w : World) (vr : Value) (rs : List Nat) : Prop := ∃ b o c cs, vr = .slice (some ⟨b, o, none⟩) rs.length c ∧ rs.length ≤ c ∧ Has w b 3 cs ∧ ∀ (j : Nat) (u : Value), (ints (zs rs))[j]? = some u → cs[o + j]? = some u
theorem RtAt.keep {w w' : World} {vr : Value} {rs : List Nat} (h : RtAt w vr rs) (hk : ∀ b cs, Has w b 3 cs → Has w' b 3 cs) : RtAt w' vr rs := by
 obtain ⟨b, o, c, cs, h1, h2, h3, h4⟩ := h
 exact ⟨b, o, c, cs, h1, h2, hk b cs h3, h4⟩
theorem RtAt.after {w w' : World} {vr : Value} {rs : List Nat} (h : RtAt w vr rs) (hb : Below w.heap.size w w') : RtAt w' vr rs := h.keep fun _ _ hh => hh.after hb
theorem RtAt.reads {w : World} {vr : Value} {rs : List Nat} (h : RtAt w vr rs) : ∃ A c, vr = .slice A rs.length c ∧ rs.length ≤ c ∧ Reads w w.heap.size A (ints (zs rs)) := by
 obtain ⟨b, o, c, cs, h1, h2, h3, h4⟩ := h
 exact ⟨_, c, h1, h2, fun _ => ⟨b, o, rfl, h3.lt, fun j u hu => by rw [h3.cell]; exact h4 j u hu⟩⟩
structure DkAt (w : World) (B g : Nat) (x : SyX) (vr : Value) (d : Dk) : Prop where
 has : Has w g 46 #[I d.L.secs, vr, I d.L.delay, .pointer (some ⟨x.g, 0, none⟩)]
 routes : RtAt w vr d.L.routes
 sys : SyAt w B x d.L d.s
 low : B ≤ g
 ok : d.L.Ok
 hB : B ≤ w.heap.size
def FD (g : Nat) (x : SyX) (b : Nat) : Prop := b = g ∨ FS x b
structure DMv (w w' : World) (g : Nat) (x x' : SyX) : Prop where
 turned : Turned (FD g x) w w'
 blocks : ∀ b, FD g x' b → FD g x b ∨ w.heap.size ≤ b
section
variable {w w' w1 : World} {B g : Nat} {x x' x1 : SyX} {vr : Value} {d : Dk} {s' : Sys}
theorem DMv.of_below (h : Below w.heap.size w w') : DMv w w' g x x := ⟨Turned.of_below h _, fun _ h => .inl h⟩
theorem DMv.of_moved (h : Moved w w' x x') : DMv w w' g x x' := ⟨h.turned.mono fun _ _ hf => .inr hf, fun b hb => by
 rcases hb with hb | hb
 ·exact .inl (.inl hb)
 ·exact (h.blocks b hb).imp .inr id⟩
theorem DMv.trans (h : DMv w w1 g x x1) (h' : DMv w1 w' g x1 x') : DMv w w' g x x' := by
 refine ⟨h.turned.trans h'.turned fun k hk hf => ?_, fun b hb => ?_⟩
 ·rcases h.blocks k hf with h1 | h1
  ·exact h1
  ·omega
 ·rcases h'.blocks b hb with h1 | h1
  ·exact h.blocks b h1
  ·exact .inr (Nat.le_trans h.turned.size h1)
theorem DkAt.after (h : DkAt w B g x vr d) (hb : Below w.heap.size w w') : DkAt w' B g x vr d := ⟨h.has.after hb, h.routes.after hb, h.sys.after hb, h.low, h.ok, Nat.le_trans h.hB hb.size⟩
theorem DkAt.c3 (h : DkAt w B g x vr d) : w.cell? ⟨g, 3, none⟩ = some (.pointer (some ⟨x.g, 0, none⟩)) := h.has.cellv 3 _ rfl
theorem DkAt.next (h : DkAt w B g x vr d) (hi : SyIn w B x d.L s' w') (hs : Stay w w') : ∃ x', DkAt w' B g x' vr { d with s := s' } ∧ DMv w w' g x x' := by
 obtain ⟨x', h1, h2, h3⟩ := hi
 refine ⟨x', ⟨?_, h.routes.keep fun b cs hh => hs _ _ _ hh (by decide), h1, h.low, h.ok, h3⟩, DMv.of_moved h2⟩
 rw [h2.same]
 exact hs _ _ _ h.has (by decide)
theorem DMv.below (m : DMv w w' g x x') (h : DkAt w B g x vr d) : Below B w w' := m.turned.below (fun k hk => by
 rcases hk with rfl | hk
 ·exact h.low
 ·exact h.sys.ge hk) h.hB
end
def ansE : An → Ending
 | .txt t => .returned (.string ⟨t.toArray⟩)
 | .err n => .panicked (pan n)
def MPost (w : World) (B g : Nat) (x : SyX) (r : Dk × An) (e : Ending) (w' : World) : Prop := e = ansE r.2 ∧ ∃ x' vr', DkAt w' B g x' vr' r.1 ∧ DMv w w' g x x'
theorem MPost.same {w w' : World} {B g : Nat} {x : SyX} {vr : Value} {d : Dk} {a : An} {e : Ending} (h : DkAt w B g x vr d) (hb : Below w.heap.size w w') (he : e = ansE a) : MPost w B g x (d, a) e w' := ⟨he, x, vr, h.after hb, DMv.of_below hb⟩
theorem MPost.next {w w1 w' : World} {B g : Nat} {x : SyX} {vr : Value} {d : Dk} {s' : Sys} {a : An} {e : Ending} (h : DkAt w B g x vr d) (hb : Below w.heap.size w w1) (hi : SyIn w1 B x d.L s' w') (hs : Stay w1 w') (he : e = ansE a) : MPost w B g x ({ d with s := s' }, a) e w' := by
 obtain ⟨x', h1, h2⟩ := (h.after hb).next hi hs
 exact ⟨he, x', vr, h1, (DMv.of_below hb).trans h2⟩
structure Words (w : World) (A : Option Addr) (l : List ByteArray) : Prop where
 many : l.length ≤ 100000
 size : ∀ s ∈ l, s.size ≤ 100000
 reads : Reads w w.heap.size A (strs l)
theorem Words.after {w w' : World} {A : Option Addr} {l : List ByteArray} (h : Words w A l) (hb : Below w.heap.size w w') : Words w' A l := ⟨h.many, h.size, (h.reads.below hb).more hb.size⟩
theorem own_cells {w : World} {base : Nat} {e : TypeId} {v : Value} {n : Nat} {xs : List Value} (h : w.ownsRow base e 1 v n xs) (hn : 0 < n) : ∃ b c cs, v = .slice (some ⟨b, 0, none⟩) n c ∧ n ≤ c ∧ Has w b e cs ∧ ∀ (j : Nat) (u : Value), xs[j]? = some u → cs[j]? = some u := by
 rcases h.2 with ⟨_, h0⟩ | ⟨b, c, cs, rfl, _, hh, hc, _, _, ht⟩
 ·omega
 ·refine ⟨b, c, cs, rfl, hc, hh, fun j u hu => ?_⟩
  rw [← ht, List.getElem?_take] at hu
  split at hu
  ·simpa using hu
  ·cases hu
theorem dk_one {w : World} {A : Option Addr} {l : List ByteArray} (hw : Hid (Words w A l)) (c : Nat) (hs : Hid (Std w)) {n : List Int} (hr : numsOf l 1 = some n) :
  Calls Tryz.prog 27 #[.slice A l.length c, I 1] w fun e w' => (∃ b c', e = .returned (.slice (some ⟨b, 0, none⟩) 1 c') ∧ b < w'.heap.size ∧ w'.cell? ⟨b, 0, none⟩ = some (I (at0 n))) ∧ Below w.heap.size w w' := by
 refine (dk_numbers A c l 1 (by decide) (by decide) hw.out.many hw.out.size w hw.out.reads hs _ (Lib.hid hr)).mono ?_
 rintro e w' ⟨⟨v, rfl, ho⟩, hb⟩
 have hl : n.length = 1 := by
  unfold numsOf at hr
  split at hr
  ·cases hr
  ·rename_i h
   rw [numsTo_length hr]
   unfold lenBad at h
   rw [if_pos (by decide)] at h
   simp at h
   omega
 obtain ⟨b, c', cs, rfl, hc, hh, hcs⟩ := own_cells ho (by omega)
 match n, hl with
 | [a], _ => exact ⟨⟨b, c', rfl, hh.lt, by rw [hh.cell]; exact hcs 0 _ rfl⟩, hb⟩
theorem dk_none {w : World} {A : Option Addr} {l : List ByteArray} (hw : Hid (Words w A l)) (c : Nat) (k : Int) (hk1 : -100 ≤ k) (hk2 : k ≤ 100) (hs : Hid (Std w)) (hr : numsOf l k = none) :
  Calls Tryz.prog 27 #[.slice A l.length c, I k] w fun e w' => e = .panicked (pan 3) ∧ Below w.heap.size w w' :=
 dk_numbers A c l k hk1 hk2 hw.out.many hw.out.size w hw.out.reads hs _ (Lib.hid hr)
end Go.Proofs.YtdhekhlmdefcnabGreatDoor
namespace Go.Proofs.YtdhekhlmdefcnabGreatDoor
open Go.RowKit
def cmdL : List (By × Cmd × Nat) := [
 ([97, 115, 107], .ask, 52),
 ([98, 101, 103, 105, 110], .begin, 13),
 ([99, 97, 108, 109], .calm, 53),
 ([99, 111, 110, 102, 108, 105, 99, 116, 115], .conflicts, 54),
 ([99, 114, 97, 115, 104], .crash, 55),
 ([100, 101, 108, 105, 118, 101, 114], .deliver, 56),
 ([104, 101, 108, 112], .help, 57),
 ([108, 97, 116, 99, 104], .latch, 58),
 ([108, 111, 115, 101], .lose, 59),
 ([109, 97, 110, 121], .many, 60),
 ([109, 111, 115, 116], .most, 61),
 ([114, 101, 112, 108, 105, 99, 97], .replica, 62),
 ([115, 101, 101], .see, 63),
 ([115, 104, 111, 119], .show, 64),
 ([116, 105, 99, 107], .tick, 65),
 ([116, 114, 97, 99, 101], .trace, 66),
 ([116, 119, 105, 99, 101], .twice, 67)]
def valE (g : Nat) (p : By × Cmd × Nat) : Value := .func (.func p.2.2) #[.pointer (some ⟨g, 0, none⟩)] #[]
def ent (g : Nat) (q : (By × Cmd × Nat) × Nat) : MapEntry := { key := .string ⟨q.1.1.toArray⟩, val := valE g q.1, born := q.2 }
def mapE (g i : Nat) : List MapEntry := (cmdL.take i).zipIdx.map (ent g)
def isNm (s : By) (p : By × Cmd × Nat) : Bool := p.1 == s
theorem same_ent (g : Nat) (s : ByteArray) (q : (By × Cmd × Nat) × Nat) : Instr.sameNow .string (.string s) (ent g q).key = some (isNm s.data.toList q.1) := by
 show some (s == (⟨q.1.1.toArray⟩ : ByteArray)) = some (q.1.1 == s.data.toList)
 congr 1
 rw [Bool.eq_iff_iff, MapKept.bytes_beq, beq_iff_eq]
 constructor
 ·rintro rfl
  simp
 ·intro h
  rw [h]
theorem find_ent (g : Nat) (s : ByteArray) : ∀ (l : List (By × Cmd × Nat)) (k j : Nat), (l.find? (isNm s.data.toList) = none → Instr.findNow .string (.string s) ((l.zipIdx k).map (ent g)) j = some none) ∧ (∀ p, l.find? (isNm s.data.toList) = some p → ∃ i, Instr.findNow .string (.string s) ((l.zipIdx k).map (ent g)) j = some (some (i, valE g p)))
 | [], k, j => ⟨fun _ => rfl, fun p h => by cases h⟩
 | q :: l, k, j => by
  have ih := find_ent g s l (k + 1) (j + 1)
  rw [List.zipIdx_cons, List.map_cons, List.find?_cons]
  unfold Instr.findNow
  rw [same_ent]
  cases hq : isNm s.data.toList q with
  | true =>
   refine ⟨fun h => (by cases h), fun p h => ?_⟩
   have h' : some q = some p := h
   injection h' with h'
   subst h'
   exact ⟨j, rfl⟩
  | false => exact ih
theorem names_apart : ∀ i, i < 17 → ∀ p, cmdL[i]? = some p → (cmdL.take i).find? (isNm p.1) = none := by decide
structure MapAt (w0 w : World) (g r i : Nat) : Prop where
 below : Below w0.heap.size w0 w
 ge : w0.heap.size ≤ r
 at_ : w.heap[r]? = some (.map (mapE g i).toArray i)
section
variable {w0 w : World} {g r i : Nat} {ops : Array Oper} {rest : List Oper} {o : Oper} {a : Act} {Q : Exit → Act → World → Prop}
theorem mapE_succ (g : Nat) {i : Nat} {p : By × Cmd × Nat} (hp : cmdL[i]? = some p) : mapE g (i + 1) = mapE g i ++ [ent g (p, i)] := by
 have hl := (List.getElem?_eq_some_iff.1 hp).1
 unfold mapE
 rw [List.take_add_one, hp, Option.toList_some, List.zipIdx_append, List.map_append]
 congr 1
 rw [List.length_take, Nat.min_eq_left (by omega), Nat.zero_add]
 rfl
theorem run_ins (hw : MapAt w0 w g r i) {p : By × Cmd × Nat} (hp : cmdL[i]? = some p) : ∃ w', (Instr.mapUpdate 125 (.map (some r)) (.string ⟨p.1.toArray⟩) (valE g p)).run Tryz.prog w = .ok () w' ∧ MapAt w0 w' g r (i + 1) := by
 have hi : i < 17 := (List.getElem?_eq_some_iff.1 hp).1
 have hf : Instr.findNow .string (.string ⟨p.1.toArray⟩) (mapE g i) 0 = some none := (find_ent g ⟨p.1.toArray⟩ _ 0 0).1 (names_apart i hi p hp)
 have hlt : r < w.heap.size := (Array.getElem?_eq_some_iff.1 hw.at_).1
 refine ⟨{ w with heap := w.heap.setIfInBounds r (.map ((mapE g i).toArray.push (ent g (p, i))) (i + 1)) }, ?_, ⟨?_, hw.ge, ?_⟩⟩
 ·simp [Instr.mapUpdate, run_underlying Tryz.underlying125, MapKept.run_getObj_map hw.at_, MapKept.run_checkKey Tryz.underlying9 (show MapKept.IsKey .string (.string ⟨p.1.toArray⟩) from trivial), MapKept.run_findKey Tryz.underlying9 hf, MapKept.run_setObj_map _ hw.at_, Result.andThen, ent]
 ·refine ⟨hw.below.os, hw.below.tape, hw.below.output, by simpa using hw.below.size, fun k hk => ?_⟩
  show (w.heap.setIfInBounds r _)[k]? = _
  rw [Array.getElem?_setIfInBounds_ne (by have := hw.ge; omega)]
  exact hw.below.block k hk
 ·show (w.heap.setIfInBounds r _)[r]? = _
  rw [mapE_succ g hp]
  simp [hlt]
theorem wpList_ins (hw : MapAt w0 w g r i) (hgd : o.guard = none) (m x v : Operand) (hop : o.op = Op.insert 125 m x v) (hm : a.eval m = .map (some r)) (p : By × Cmd × Nat) (hp : cmdL[i]? = some p) (hx : a.eval x = .string ⟨p.1.toArray⟩) (hv : a.eval v = valE g p)
  (hK : ∀ w', MapAt w0 w' g r (i + 1) → wpList Tryz.prog ops Q rest (a.put o.dst undef) w') : wpList Tryz.prog ops Q (o :: rest) a w := by
 refine wpList_plain hgd fun K' hK' => ?_
 obtain ⟨w', hrun, r1⟩ := run_ins hw hp
 unfold Oper.wp
 simp [execOp, hop, hm, hx, hv, hrun, Result.andThen]
 exact hK' _ _ (hK w' r1)
theorem infoFn : (Tryz.prog.info? 47).map (fun i => (i.zero, i.size, i.bytes)) = some (some .nilFunc, 1, 8) := by kernel_rfl
def doesV (g : Nat) (s : ByteArray) : Value := match cmdL.find? (isNm s.data.toList) with | none => .nilFunc | some p => valE g p
theorem run_look (hw : MapAt w0 w g r 17) (s : ByteArray) : (Instr.lookup 125 (.map (some r)) (.string s) false).run Tryz.prog w = .ok (doesV g s) w := by
 obtain ⟨i0, hi0, hz0, _, _⟩ := info_parts infoFn
 have hz : (zeroValue 47).run Tryz.prog w = .ok .nilFunc w := by
  simp [zeroValue, run_typeInfo w hi0, hz0, Result.andThen]
 unfold doesV
 cases hq : cmdL.find? (isNm s.data.toList) with
 | none =>
  have hf : Instr.findNow .string (.string s) (mapE g 17) 0 = some none := (find_ent g s _ 0 0).1 hq
  simp [Instr.lookup, run_underlying Tryz.underlying125, MapKept.run_getObj_map hw.at_, MapKept.run_checkKey Tryz.underlying9 (show MapKept.IsKey .string (.string s) from trivial), MapKept.run_findKey Tryz.underlying9 hf, Result.andThen, hz]
 | some p =>
  obtain ⟨i, hf⟩ := (find_ent g s (cmdL.take 17) 0 0).2 p hq
  have hf' : Instr.findNow .string (.string s) (mapE g 17) 0 = some (some (i, valE g p)) := hf
  simp [Instr.lookup, run_underlying Tryz.underlying125, MapKept.run_getObj_map hw.at_, MapKept.run_checkKey Tryz.underlying9 (show MapKept.IsKey .string (.string s) from trivial), MapKept.run_findKey Tryz.underlying9 hf', Result.andThen]
theorem wpList_mkMap (hgd : o.guard = none) (t : TypeId) (hop : o.op = Op.makeMap t none) (hK : wpList Tryz.prog ops Q rest (a.put o.dst (.map (some w.heap.size))) (w.alloc (.map #[] 0))) : wpList Tryz.prog ops Q (o :: rest) a w := by
 refine wpList_plain hgd fun K' hK' => ?_
 have hr : (Instr.makeMap t none).run Tryz.prog w = .ok (.map (some w.heap.size)) (w.alloc (.map #[] 0)) := rfl
 unfold Oper.wp
 simp [execOp, hop, hr, Result.andThen]
 exact hK' _ _ hK
theorem wpList_look (hw : MapAt w0 w g r 17) (hgd : o.guard = none) (m x : Operand) (hop : o.op = Op.lookup 125 m x false) (hm : a.eval m = .map (some r)) (s : ByteArray) (hx : a.eval x = .string s)
  (hK : wpList Tryz.prog ops Q rest (a.put o.dst (doesV g s)) w) : wpList Tryz.prog ops Q (o :: rest) a w := by
 refine wpList_plain hgd fun K' hK' => ?_
 unfold Oper.wp
 simp [execOp, hop, hm, hx, run_look hw s, Result.andThen]
 exact hK' _ _ hK
end
set_option maxHeartbeats 4000000 in
set_option maxRecDepth 100000 in
theorem desk_does (g : Nat) (s : ByteArray) (w : World) : Calls Tryz.prog 36 #[.pointer (some ⟨g, 0, none⟩), .string s] w fun e w' => e = .returned (doesV g s) ∧ Below w.heap.size w w' := by
 have hm : MapAt w (w.alloc (.map #[] 0)) g w.heap.size 0 := ⟨(Below.refl _ _).alloc (Nat.le_refl _) _, Nat.le_refl _, by show (w.heap.push _)[w.heap.size]? = _; simp; rfl⟩
 go_enter Tryz.func36, Tryz.ntmps36
 go_wp2_with (first
  | (refine wpList_ins (w0 := w) (g := g) (r := w.heap.size) hm rfl _ _ _ rfl rfl _ rfl rfl rfl ?_; clear hm; intro wm hm)
  | (refine wpList_mkMap rfl _ rfl ?_)
  | (refine wpList_mkFn rfl _ _ _ rfl (.func _ #[.pointer (some ⟨g, 0, none⟩)] #[]) rfl ?_)
  | (refine wpList_look (w0 := w) (g := g) (r := w.heap.size) hm rfl _ _ rfl rfl s rfl ?_))
 go_ret
 exact ⟨rfl, hm.below⟩
end Go.Proofs.YtdhekhlmdefcnabGreatDoor
