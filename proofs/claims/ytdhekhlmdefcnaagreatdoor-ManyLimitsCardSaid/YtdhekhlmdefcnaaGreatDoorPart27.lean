/- Part 27 of the proof: SySl, SyPut, SyOth, SyFine, SyGet, SyIn, SyTick, SyWay, ReNew, SyWay2. -/
import Derived.Test.YtdhekhlmdefcnaaGreatDoorPart22
import Derived.Test.YtdhekhlmdefcnaaGreatDoorPart18
import Derived.Test.YtdhekhlmdefcnaaGreatDoorPart26
import Derived.Test.YtdhekhlmdefcnaaGreatDoorPart24
import Derived.Test.YtdhekhlmdefcnaaGreatDoorPart20
import Derived.Lib.SliceRun
import Derived.Deep.RegionLaw
import Derived.Deep.LoopGhost
namespace Go.Proofs.YtdhekhlmdefcnaaGreatDoor
open Go.RowKit
section
variable {w : World}
end
end Go.Proofs.YtdhekhlmdefcnaaGreatDoor
namespace Go.Proofs.YtdhekhlmdefcnaaGreatDoor
open Go.RowKit
section
variable {w : World} {B : Nat} {x : SyX} {L : Lay} {s : Sys}
end
end Go.Proofs.YtdhekhlmdefcnaaGreatDoor
namespace Go.Proofs.YtdhekhlmdefcnaaGreatDoor
open Go.RowKit
section
variable {w : World}
end
end Go.Proofs.YtdhekhlmdefcnaaGreatDoor
namespace Go.Proofs.YtdhekhlmdefcnaaGreatDoor
def I64 (x : Int) : Prop := -9223372036854775808 ≤ x ∧ x ≤ 9223372036854775807
def Cm64 (c : Cm) : Prop := I64 c.1 ∧ I64 c.2.1 ∧ I64 c.2.2
structure Fine (T : Nat) (s : Sys) : Prop where
 n3 : s.rs.length = 3
 fits : ∀ k, k < 3 → (re s k).Fits T
 vo : s.v.Wf
 trace : ∀ c ∈ s.v.trace, Cm64 c
 votes : ∀ y ∈ s.v.votes, Cm64 y.1
 way : s.way.length ≤ 120
 lost : s.lost ≤ T
 gram : ∀ g ∈ s.way, g.src ≤ 3 ∧ g.dst ≤ 3 ∧ g.bytes.length ≤ 80
theorem I64.nat {n : Nat} (h : n ≤ 9223372036854775807) : I64 (n : Int) := ⟨by omega, by omega⟩
theorem cm64_zero : Cm64 Cm.zero := ⟨⟨by decide, by decide⟩, ⟨by decide, by decide⟩, by decide, by decide⟩
section
variable {T : Nat} {s : Sys} {L : Lay}
end
end Go.Proofs.YtdhekhlmdefcnaaGreatDoor
namespace Go.Proofs.YtdhekhlmdefcnaaGreatDoor
open Go.RowKit
section
variable {w : World} {B : Nat} {x : SyX} {L : Lay} {s : Sys}
theorem SyAt.vcell (h : SyAt w B x L s) : w.cell? ⟨x.g, 6, none⟩ = some (.pointer (some ⟨x.vb, 0, none⟩)) := h.cell 6 _ rfl
theorem sy_latched (h : SyAt w B x L s) : Calls Tryz.prog 111 #[.pointer (some ⟨x.g, 0, none⟩)] w fun e w' => e = .returned (.bool s.v.latched) ∧ w = w' := by
 have c6 := h.vcell
 have hg := h.has.lt
 have HH := Lib.hid h
 clear h
 go_enter Tryz.func111, Tryz.ntmps111
 go_wp2_with (go_at_call 148; refine (vo_latched HH.out.vo).mono ?_; rintro e w' ⟨rfl, rfl⟩)
 go_ret
 exact ⟨rfl, rfl⟩
theorem sy_out (h : SyAt w B x L s) : Calls Tryz.prog 109 #[.pointer (some ⟨x.g, 0, none⟩)] w fun e w' => e = .returned (I (s.v.out : Int)) ∧ w = w' := by
 have c6 := h.vcell
 have hg := h.has.lt
 have HH := Lib.hid h
 clear h
 go_enter Tryz.func109, Tryz.ntmps109
 go_wp2_with (go_at_call 146; refine (vo_out HH.out.vo).mono ?_; rintro e w' ⟨rfl, rfl⟩)
 go_ret
 exact ⟨rfl, rfl⟩
theorem sy_shown (h : SyAt w B x L s) (hw : s.v.trace.length ≤ 1000) : Calls Tryz.prog 108 #[.pointer (some ⟨x.g, 0, none⟩)] w fun e w' => e = .returned (I (voShown s.v)) ∧ ∃ q, w.drewN q = w' := by
 have c6 := h.vcell
 have hg := h.has.lt
 have HH := Lib.hid h
 clear h
 go_enter Tryz.func108, Tryz.ntmps108
 go_wp2_with (go_at_call 145; refine (vo_shown HH.out.vo hw).mono ?_; rintro e w' ⟨rfl, q, rfl⟩)
 go_ret
 exact ⟨rfl, q, rfl⟩
end
end Go.Proofs.YtdhekhlmdefcnaaGreatDoor
namespace Go.Proofs.YtdhekhlmdefcnaaGreatDoor
open Go.RowKit
section
variable {w0 w w' : World} {B : Nat} {x : SyX} {L : Lay} {s s' : Sys}
end
end Go.Proofs.YtdhekhlmdefcnaaGreatDoor
namespace Go.Proofs.YtdhekhlmdefcnaaGreatDoor
open Go.RowKit
section
variable {w0 w : World} {B : Nat} {x : SyX} {L : Lay} {s : Sys} {T : Nat}
end
end Go.Proofs.YtdhekhlmdefcnaaGreatDoor
namespace Go.Proofs.YtdhekhlmdefcnaaGreatDoor
open Go.RowKit
section
variable {w0 w w1 : World} {B : Nat} {x : SyX} {L : Lay} {s : Sys} {T : Nat}
end
end Go.Proofs.YtdhekhlmdefcnaaGreatDoor
namespace Go.Proofs.YtdhekhlmdefcnaaGreatDoor
open Go.RowKit
theorem newCells (k gc : Nat) : (#[I (k : Int), .pointer (some ⟨gc, 0, none⟩), I 0, I 0, I 0, I 0, I 0, I 0, I 0, I 0, I 0, I 0, I 0, I 0, I 0, I 0, I 0, I 0, I 0, I 0, I 0, I 0, I 0, I 0, I 0, I 0, I 0, I 0, .bool false, .bool false, .bool false, I 0, I 0, I 0, I 0, I 0, I 0, I 0, I 0, I 0, I 0, I 0, I 0, I 0, I 0, I 0, I 0, I 0, I 0, I 0, I 0, I 0, .bool false, I 0, I 0, I 0, I 0, I 0, I 0, I 0, I 0, I 0, I 0, I 0, I 0, I 0, I 0, I 0, I 0, I 0, I 0, .bool false, I 0, I 0, I 0, I 0, I 0, I 0, I 0, I 0, I 0, I 0, I 0, I 0, I 0, I 0, I 0, I 0, I 0, I 0, .bool false, I 0, I 0] : Array Value) = cellsOf 93 (reF (Re.new k) gc) := by
 unfold cellsOf
 congr 1
def MadeRep (w : World) (L : Lay) (r : Re) (e : Ending) (w' : World) : Prop :=
 (∃ g gc, w.heap.size ≤ g ∧ e = .returned (.tuple #[.pointer (some ⟨g, 0, none⟩), .nilIface]) ∧ RepAt w' g gc L r) ∧ Below w.heap.size w w'
set_option maxHeartbeats 4000000 in
set_option maxRecDepth 100000 in
theorem re_new (k : Nat) (hk : k < 3) (A : Option Addr) (n c : Nat) (L : Lay) (w : World) (hL : L.Ok) (hxn : Hid (L.routes.length = n)) (hc : n ≤ c) (hr : Reads w w.heap.size A (ints (zs L.routes))) :
  Calls Tryz.prog 62 #[I (k : Int), .agg #[I L.secs, .slice A n c, I L.delay]] w (MadeRep w L (Re.new k)) := by
 have hb1 : Below w.heap.size w (w.alloc (.cells #[I L.secs, .slice A n c, I L.delay] 51)) := (Below.refl _ _).alloc (Nat.le_refl _) _
 have k0 := Has.new w 51 #[I L.secs, .slice A n c, I L.delay]
 have hr1 := hr.below hb1
 clear hr
 go_enter Tryz.func62, Tryz.ntmps62
 go_upto_region 1 with fail
 generalize w.alloc (.cells #[I L.secs, .slice A n c, I L.delay] 51) = w1 at *
 have hl := k0.lt
 generalize hG : w.heap.size = g0 at *
 have HG := Lib.hid hG
 clear hG
 have c0 := k0.cellv 0 _ rfl
 have c1 := k0.cellv 1 _ rfl
 have c2 := k0.cellv 2 _ rfl
 have HC : Hid (Calls Tryz.prog 91 #[.agg #[I L.secs, .slice A n c, I L.delay]] w1 fun e w' => (∃ g, w1.heap.size ≤ g ∧ e = .returned (.tuple #[.pointer (some ⟨g, 0, none⟩), .nilIface]) ∧ CoreAt w' g L) ∧ Below w1.heap.size w1 w') := Lib.hid (new_ok A n c L w1 hL hxn hc (hr1.more (Nat.le_of_lt hl)))
 go_upto_region 6 with (go_at_call 91; refine HC.out.mono ?_; rintro e w2 ⟨⟨gc, hgc, rfl, hca⟩, hb2⟩)
 clear c0 c1 c2 HC
 have hb3 : Below g0 w w2 := hb1.trans (hb2.mono (by omega))
 have hg2 := hb2.size
 have HX := Lib.hid (newCells k gc)
 have HN := Has.new w2 176 #[I (k : Int), .pointer (some ⟨gc, 0, none⟩), I 0, I 0, I 0, I 0, I 0, I 0, I 0, I 0, I 0, I 0, I 0, I 0, I 0, I 0, I 0, I 0, I 0, I 0, I 0, I 0, I 0, I 0, I 0, I 0, I 0, I 0, .bool false, .bool false, .bool false, I 0, I 0, I 0, I 0, I 0, I 0, I 0, I 0, I 0, I 0, I 0, I 0, I 0, I 0, I 0, I 0, I 0, I 0, I 0, I 0, I 0, .bool false, I 0, I 0, I 0, I 0, I 0, I 0, I 0, I 0, I 0, I 0, I 0, I 0, I 0, I 0, I 0, I 0, I 0, I 0, .bool false, I 0, I 0, I 0, I 0, I 0, I 0, I 0, I 0, I 0, I 0, I 0, I 0, I 0, I 0, I 0, I 0, I 0, I 0, .bool false, I 0, I 0]
 rw [HX.out] at HN
 have hb4 : Below w2.heap.size w2 (w2.alloc (.cells #[I (k : Int), .pointer (some ⟨gc, 0, none⟩), I 0, I 0, I 0, I 0, I 0, I 0, I 0, I 0, I 0, I 0, I 0, I 0, I 0, I 0, I 0, I 0, I 0, I 0, I 0, I 0, I 0, I 0, I 0, I 0, I 0, I 0, .bool false, .bool false, .bool false, I 0, I 0, I 0, I 0, I 0, I 0, I 0, I 0, I 0, I 0, I 0, I 0, I 0, I 0, I 0, I 0, I 0, I 0, I 0, I 0, I 0, .bool false, I 0, I 0, I 0, I 0, I 0, I 0, I 0, I 0, I 0, I 0, I 0, I 0, I 0, I 0, I 0, I 0, I 0, I 0, .bool false, I 0, I 0, I 0, I 0, I 0, I 0, I 0, I 0, I 0, I 0, I 0, I 0, I 0, I 0, I 0, I 0, I 0, I 0, .bool false, I 0, I 0] 176)) := (Below.refl _ _).alloc (Nat.le_refl _) _
 have HN' := Lib.hid HN
 have hb5 := hb3.trans (hb4.mono (by omega))
 have HB5 := Lib.hid hb5
 have HCA := Lib.hid (hca.after hb4)
 clear HN hb4 hca hb5
 go_wp2_with fail
 go_ret2
 exact ⟨⟨_, gc, by rw [HG.out]; omega, rfl, HN'.out, HCA.out⟩, HG.out ▸ HB5.out⟩
end Go.Proofs.YtdhekhlmdefcnaaGreatDoor
namespace Go.Proofs.YtdhekhlmdefcnaaGreatDoor
open Go.RowKit
section
variable {w0 w w1 : World} {B : Nat} {x : SyX} {L : Lay} {s : Sys} {T : Nat}
def upd (f : Nat → Nat) (k v : Nat) (j : Nat) : Nat := if j = k then v else f j
end
end Go.Proofs.YtdhekhlmdefcnaaGreatDoor
