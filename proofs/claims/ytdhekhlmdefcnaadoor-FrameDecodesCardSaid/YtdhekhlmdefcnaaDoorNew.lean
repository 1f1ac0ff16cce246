/- Walks over package core: New. -/
import Derived.Test.YtdhekhlmdefcnaaDoorConf
namespace Go.Proofs.YtdhekhlmdefcnaaDoor
open Go.RowKit
/-- A core of a layout lies at block g. -/
def CoreAt (w : World) (g : Nat) (L : Lay) : Prop := ∃ vr vc, Has w g 162 #[I L.secs, vr, I L.delay, vc] ∧
  w.ownsRow 0 3 1 vr L.routes.length (ints (zs L.routes)) ∧ w.ownsRow 0 3 1 vc L.routes.length (ints (zs (confs L.routes)))
theorem CoreAt.after {w w' : World} {g : Nat} {L : Lay} (h : CoreAt w g L) (hb : Below w.heap.size w w') : CoreAt w' g L := by
  obtain ⟨vr, vc, h1, h2, h3⟩ := h
  exact ⟨vr, vc, h1.after hb, own_after h2 hb, own_after h3 hb⟩
theorem Lay.Ok.small {L : Lay} (h : L.Ok) : ∀ r ∈ L.routes, r < 4096 := fun r hr =>
  Nat.lt_of_lt_of_le (h.high r hr) (Nat.pow_le_pow_right (n := 2) (by decide) h.secs2)
theorem chk_lay {L : Lay} (h : L.Ok) : chk L.secs (zs L.routes) L.delay = .ok := by
  have h1 := h.secs1; have h2 := h.secs2; have h3 := h.many1; have h4 := h.many2; have h5 := h.delay
  refine chk_ok (by unfold outOf; rw [zs_length]; omega) (badRoute_none ?_) (twiceAt_none ?_)
  · intro j r _ hr
    rw [zs_get] at hr
    obtain ⟨x, hx, rfl⟩ := Option.map_eq_some_iff.1 hr
    have hm := List.mem_of_getElem? hx
    have a := h.low x hm
    have b := h.high x hm
    have : ((2 ^ L.secs : Nat) : Int) = 2 ^ ((L.secs : Int).toNat) := by simp
    omega
  · intro j hj
    rw [zs_length] at hj
    obtain ⟨x, hx⟩ := some_at L.routes j hj
    rw [twice_eq (zs_some hx), Bool.eq_false_iff]
    intro hc
    have hm : (x : Int) ∈ (zs L.routes).take j := by simpa using hc
    rw [zs, ← List.map_take, List.mem_map] at hm
    obtain ⟨y, hy, he⟩ := hm
    have hyx : y = x := by omega
    subst hyx
    obtain ⟨i, hi, hyi⟩ := List.getElem_of_mem hy
    rw [List.length_take] at hi
    rw [List.getElem_take] at hyi
    obtain ⟨_, hxj⟩ := List.getElem?_eq_some_iff.1 hx
    have := (List.getElem_inj h.apart (h₀ := by omega) (h₁ := hj)).1 (hyi.trans hxj.symm)
    omega
set_option maxHeartbeats 2000000 in
set_option maxRecDepth 100000 in
theorem new_ok (A : Option Addr) (n c : Nat) (L : Lay) (w : World) (hL : L.Ok) (hxn : Hid (L.routes.length = n)) (hc : n ≤ c) (hr : Reads w w.heap.size A (ints (zs L.routes))) :
    Calls Tryd.prog 41 #[.agg #[I L.secs, .slice A n c, I L.delay]] w fun e w' =>
      (∃ g, w.heap.size ≤ g ∧ e = .returned (.tuple #[.pointer (some ⟨g, 0, none⟩), .nilIface]) ∧ CoreAt w' g L) ∧ Below w.heap.size w w' := by
  obtain ⟨i0, hi0, hz0, hz1, hz2⟩ := info_parts infoInt
  have hn1 : 1 ≤ n := by rw [← hxn.out]; exact hL.many1
  have hn8 : n ≤ 8 := by rw [← hxn.out]; exact hL.many2
  obtain ⟨b, o, rfl, hb, hcells⟩ := hr (by intro h; have := congrArg List.length h; rw [ints_length, zs_length, hxn.out] at this; simp at this; omega)
  go_enter Tryd.func41, Tryd.ntmps41
  go_wp2_with (first | (go_at_call 14; refine (conflicts_ok _ _ _ _ _ L.routes _ hxn hn1 hn8 hc ((hr.alloc (Nat.le_refl _) _).more (by simp)) (Lib.hid hL.small) (Lib.hid (chk_lay hL))).mono ?_; rintro e w1 ⟨⟨Ac, nc, rfl, hownC⟩, hb1⟩; obtain ⟨hq, hf⟩ := bcell hb1; have hz : w.heap.size < w1.heap.size := (by have := hb1.size; simp at this; omega)) | (at_builtin; refine wpList_append_own _ rfl _ _ 22 rfl w.heap.size 3 i0 (.int .i64 0) 1 8 Tryd.underlying22 hi0 hz0 hz1 hz2 rfl (by decide) _ _ _ rfl (World.ownsRow_lit w1 #[] 0 (Nat.le_of_lt hz) (Nat.zero_le _) rfl) ⟨b, o, none⟩ n c (ints (zs L.routes)) rfl ?c1 ?c2 ?c3 ?c4 ?c5 ?c6 ?_))
  case c1 => rw [ints_length, zs_length, hxn.out, Nat.mul_one]
  case c2 => intro j u hu; rw [add_at, World.cell?_alloc_lt _ _ _ (by show b < _; omega), hq _ _ (by simp; omega), World.cell?_alloc_lt _ _ _ hb]; exact hcells j u hu
  case c3 => intro u hu; simp only [ints, List.mem_map] at hu; obtain ⟨x, _, rfl⟩ := hu; rfl
  case c4 => unfold maxLen; omega
  case c5 => omega
  case c6 => simp; omega
  intro v' w2 hown2 hg2 _
  obtain ⟨A2, d2, rfl, hnd2, -, _⟩ := own_reads hown2
  have k0 : Has w2 w.heap.size 25 #[I L.secs, .slice (some ⟨b, o, none⟩) n c, I L.delay] :=
    (((Has.new' w 25 #[I L.secs, .slice (some ⟨b, o, none⟩) n c, I L.delay] w.heap.size rfl).after hb1).alloc _).grown hg2 (by simp [Value.ownBlock]; omega)
  have hw2 : Below w1.heap.size w1 w2 := ((Below.refl _ _).alloc (Nat.le_refl _) _).grown hg2 (by simp) (fun q hq => by simp [Value.ownBlock] at hq; omega)
  have hw02 : Below w.heap.size w w2 := (((Below.refl _ _).alloc (Nat.le_refl _) _).trans (hb1.mono (by simp))).trans (hw2.mono (by omega))
  have hownC2 := own_after hownC hw2
  have c00 := k0.cellv 0 _ rfl
  have c01 := k0.cellv 1 _ rfl
  have c02 := k0.cellv 2 _ rfl
  have f01 := k0.free 1
  have hz2 : w.heap.size < w2.heap.size := k0.lt
  clear hq hf
  go_wp2_with fail
  go_ret2
  have e0 := hxn.out
  refine ⟨⟨_, ?_, rfl, .slice A2 n d2, .slice Ac n nc, Has.new' _ _ _ _ (by simp), ?_, ?_⟩, (hw02.setCell (Nat.le_refl _) _).alloc (by simp; omega) _⟩
  · exact Nat.le_of_lt hz2
  · rw [e0]; exact own_base ((own_far hown2 k0 (by decide) 1 _).alloc _) (Nat.zero_le _)
  · rw [e0]; exact own_base ((own_far hownC2 k0 (by decide) 1 _).alloc _) (Nat.zero_le _)
end Go.Proofs.YtdhekhlmdefcnaaDoor
