/- Part 43 of the proof: Mb12, Mb13. -/
import Derived.Test.YtdhekhlmdefcnaaGreatDoorPart8
import Derived.Test.YtdhekhlmdefcnaaGreatDoorPart40
import Derived.Test.YtdhekhlmdefcnaaGreatDoorPart42
namespace Go.Mx
open Go Go.Conc Go.Pr
open Go.RowKit Go.Conc.Lib Go.Proofs
open Go.Proofs.YtdhekhlmdefcnaaGreatDoor
def rn0 (B : Nat) (hB : 10 ≤ B) : Rn where
 B := B
 K g := (alw false).K g = true
 r _ _ := False
 kb := fun {x} h => by
  simp only [alw, Bool.or_eq_true, Nat.beq_eq] at h
  omega
 ok f := (alw false).ok f = true
 nm n := (alw false).nm n = true
 cd f c := ∃ fn body, (alw false).ok f = true ∧ Tryz.prog.funcs[f]? = some fn ∧ fn.body = some body ∧ c ∈ rounds body
 sp f := (alw false).sp f = true
 T g := (alw false).T g = true
 tb := fun {x} h => by
  simp only [alw, Bool.or_eq_true, Nat.beq_eq] at h
  omega
 lo h := h.elim
 fn h := h.elim
 inj h := h.elim
set_option maxRecDepth 100000 in
theorem env0 (B : Nat) (hB : 10 ≤ B) : Env Tryz.prog (rn0 B hB) slotB := by
 refine env_ok (A := alw false) ⟨fun _ => Iff.rfl, fun _ => Iff.rfl, fun _ => Iff.rfl, fun _ => Iff.rfl, fun _ => Iff.rfl, fun _ _ => Iff.rfl⟩ funF (fun f h => ?_) (fun f hs fn c h1 h2 => ?_) (metT _) zerT ⟨?_, fun g hg => ?_⟩ (xfT fun f h => ?_)
 ·rw [nFuncs]
  simp only [alw, Bool.and_eq_true] at h
  exact okF_lt h.1
 ·have key : noR f = true := by
   obtain ⟨s, hs⟩ := hs
   have hs' : slotB f s = true := hs
   unfold slotB at hs'
   split at hs' <;> first | exact noRs.1 | exact noRs.2.1 | exact noRs.2.2.1 | exact noRs.2.2.2 | cases hs'
  unfold noR at key
  rw [h1] at key
  simp only [Option.bind_some, h2] at key
  exact List.isEmpty_iff.1 key
 ·rw [nGlob]
  rfl
 ·rw [gMax] at hg
  cases hg
  rfl
 ·have h' : (alw false).ok f = true := h
  simp only [alw, Bool.and_eq_true] at h'
  exact h'.1
noncomputable def bz (g : Nat) : Option (Array Value × TypeId) := ((begin Tryz.prog (fun _ _ => 0) default).world.heap[g]?).bind Obj.row?
set_option maxRecDepth 100000 in
theorem bz0 : ∃ z, bz 0 = some (z, 101) ∧ z.size = 1 := ⟨#[.nilIface], by kernel_rfl, rfl⟩
set_option maxRecDepth 100000 in
theorem bz3 : bz 3 = some (#[.int .i64 0], 3) := by kernel_rfl
set_option maxRecDepth 100000 in
theorem bzT : ((List.range 9).all fun g => (bz g).isSome) = true := by kernel_rfl
noncomputable def row9 : Array Value := (Array.range Tryz.prog.types.size).map fun t => .int .u64 (Int.ofNat t)
set_option maxRecDepth 100000 in
theorem bz9 : (begin Tryz.prog (fun _ _ => 0) default).world.heap[9]? = some (.cells row9 0) := by kernel_rfl
set_option maxRecDepth 100000 in
theorem bzN : Nat.ble 10 (begin Tryz.prog (fun _ _ => 0) default).world.heap.size = true := by kernel_rfl
structure Laid (W : World) : Prop where
 std : Std W
 db : Lib.TabIs Tryz.prog W "math/bits.deBruijn64tab" .u8 (dbTab.map fun (x : Nat) => (x : Int))
 r0 : ∃ v, W.heap[0]? = some (.cells #[v] 101 (0, 0))
 r3 : ∃ n, W.heap[3]? = some (.cells #[.int .i64 n] 3 (0, 0))
 r9 : W.heap[9]? = some (.cells row9 0 (0, 0))
 rT : ∀ g, g < 9 → ∃ c e, W.heap[g]? = some (.cells c e (0, 0))
set_option maxRecDepth 100000 in
theorem laid_of {W : World} (h : W.ShapedOpen Tryz.prog) (hl : laidMetH Tryz.prog deskList W) : Laid W := by
 obtain ⟨s1, s2⟩ := std_of_laid hl
 have hr : ∀ g, g < 9 → ∀ z t, bz g = some (z, t) → ∃ cs, W.heap[g]? = some (.cells cs t) ∧ cs.size = z.size ∧ (Tryz.prog.buildable t = true → Row.ok Tryz.prog W .any 0 t cs) := fun g hg z t hz => h.1 g z t (by rw [nGlob]; exact hg) hz
 refine ⟨s1, s2, ?_, ?_, ?_, fun g hg => ?_⟩
 ·obtain ⟨z, h1, h2⟩ := bz0
  obtain ⟨cs, k1, k2, _⟩ := hr 0 (by decide) z 101 h1
  rw [h2] at k2
  obtain ⟨⟨⟩⟩ | ⟨v, rfl⟩ : cs = #[] ∨ ∃ v, cs = #[v] := by
   obtain ⟨l⟩ := cs
   match l, k2 with
   | [v], _ => exact .inr ⟨v, rfl⟩
  ·cases k2
  ·exact ⟨v, k1⟩
 ·obtain ⟨cs, k1, k2, k3⟩ := hr 3 (by decide) _ _ bz3
  obtain ⟨v, rfl⟩ : ∃ v, cs = #[v] := by
   obtain ⟨l⟩ := cs
   match l, k2 with
   | [v], _ => exact ⟨v, rfl⟩
  obtain ⟨ts, hts, _, hall⟩ := k3 (by kernel_rfl)
  have hc : Tryz.prog.cellTypes Tryz.prog.depth 3 = some [3] := by kernel_rfl
  rw [hc] at hts
  cases hts
  obtain ⟨u, hu', hok⟩ := hall 0 v (by simp)
  have : u = 3 := by simpa using hu'.symm
  subst this
  unfold Cell.ok at hok
  rw [Tryz.underlying3] at hok
  cases v <;> first | (simp at hok; done) | skip
  all_goals simp at hok
  obtain ⟨rfl, _⟩ := hok
  exact ⟨_, k1⟩
 ·obtain ⟨o, o0, k1, k2, k3⟩ := h.2 9 (by rw [nGlob]; decide) (by have := bzN; rw [Nat.ble_eq] at this; omega)
  rw [bz9] at k2
  cases k2
  rw [nGlob] at k3
  have : o = .cells row9 0 := by simpa [World.looseAt] using k3
  rw [k1, this]
 ·have hb := List.all_eq_true.1 bzT g (List.mem_range.2 hg)
  obtain ⟨⟨z, t⟩, hz⟩ := Option.isSome_iff_exists.1 hb
  obtain ⟨cs, k1, _⟩ := hr g hg z t hz
  exact ⟨cs, t, k1⟩
end Go.Mx
namespace Go.Mx
open Go Go.Conc Go.Pr
open Go.RowKit Go.Conc.Lib Go.Proofs
open Go.Proofs.YtdhekhlmdefcnaaGreatDoor
def fzO : Obj → Obj
 | .cells c e _ => .cells c e (0, c.size + 1)
 | o => o
def emO : Obj → Obj
 | .cells _ e _ => .cells #[] e (0, 0)
 | o => o
def lwO (i : Nat) (o : Obj) : Obj := if i = 0 ∨ i = 3 ∨ i = 9 then fzO o else if i = 1 ∨ i = 2 ∨ i = 4 ∨ i = 5 ∨ i = 7 then emO o else o
def lw (W : World) : World := { W with heap := W.heap.mapIdx lwO }
section
variable {W : World}
theorem lw_at (i : Nat) : (lw W).heap[i]? = W.heap[i]?.map (lwO i) := by simp [lw]
theorem lw_same {i : Nat} (h : i = 6 ∨ i = 8) : (lw W).heap[i]? = W.heap[i]? := by
 rw [lw_at]
 have : lwO i = id := by
  funext o
  unfold lwO
  rw [if_neg (by omega), if_neg (by omega)]
  rfl
 rw [this]
 simp
theorem lw_fz {i : Nat} (h : i = 0 ∨ i = 3 ∨ i = 9) {c : Array Value} {e : TypeId} (hw : W.heap[i]? = some (.cells c e (0, 0))) : (lw W).heap[i]? = some (.cells c e (0, c.size + 1)) := by
 rw [lw_at, hw]
 simp [lwO, h, fzO]
theorem lw_em {i : Nat} (h : i = 1 ∨ i = 2 ∨ i = 4 ∨ i = 5 ∨ i = 7) {c : Array Value} {e : TypeId} (hw : W.heap[i]? = some (.cells c e (0, 0))) : (lw W).heap[i]? = some (.cells #[] e (0, 0)) := by
 rw [lw_at, hw]
 simp only [Option.map_some, lwO]
 rw [if_neg (by omega), if_pos h]
 rfl
theorem lw_size : (lw W).heap.size = W.heap.size := by simp [lw]
theorem gPow6 : Tryz.prog.globalNamed "internal/strconv.uint64pow10" = some 6 := by kernel_rfl
theorem gDb8 : Tryz.prog.globalNamed "math/bits.deBruijn64tab" = some 8 := by kernel_rfl
theorem lw_std (h : Laid W) (T : Nat → Question → Nat) : Std (on (lw W) T) := by
 obtain ⟨v, hv⟩ := h.r0
 refine ⟨?_, ?_, fun j x hx => ?_, ?_⟩
 ·have h1 := h.std.pow
  unfold Lib.TabIs World.var? at h1 ⊢
  rw [gPow6] at h1 ⊢
  simp only [Option.bind_some] at h1 ⊢
  show (match (lw W).heap[6]? with | some (.cells cs _ _) => some cs | _ => none) = _
  rw [lw_same (.inl rfl)]
  exact h1
 ·have h1 := h.std.et
  unfold EType World.cell? at h1 ⊢
  show (match (lw W).heap[0]? with | some (.cells c _ _) => _ | _ => none) = _
  rw [lw_fz (.inl rfl) hv]
  rw [hv] at h1
  exact h1
 ·have h1 := h.std.tab j x hx
  unfold World.cell? at h1 ⊢
  show (match (lw W).heap[8]? with | some (.cells c _ _) => _ | _ => none) = _
  rw [lw_same (.inr rfl)]
  exact h1
 ·show 9 ≤ (lw W).heap.size
  rw [lw_size]
  exact h.std.size
theorem size10 (h : Laid W) : 10 ≤ W.heap.size := by
 have := (Array.getElem?_eq_some_iff.1 h.r9).1
 omega
def noBytes : Option TypeDesc → Bool
 | some (.interface _) | some (.tuple _) | some (.int .i64) => true
 | _ => false
theorem bare_no {P : Program} {e : TypeId} (h : noBytes (P.underlying e) = true) : bare P e := by
 unfold noBytes at h
 split at h
 ·rename_i h1
  exact bare_of h1 (by intro _ h; cases h) (by intro _ _ h; cases h) (by intro h; cases h)
 ·rename_i h1
  exact bare_of h1 (by intro _ h; cases h) (by intro _ _ h; cases h) (by intro h; cases h)
 ·rename_i h1
  exact bare_of h1 (by intro _ h; cases h) (by intro _ _ h; cases h) (by intro h; cases h)
 ·cases h
theorem bare3s : bare Tryz.prog 101 ∧ bare Tryz.prog 3 ∧ bare Tryz.prog 0 := ⟨bare_no (by kernel_rfl), bare_no (by kernel_rfl), bare_no (by kernel_rfl)⟩
theorem ints_pl {k : IntKind} {l : List Int} (i : Nat) (v : Value) (h : ((l.map fun z => Value.int k z).toArray)[i]? = some v) : Pl v := by
 simp only [List.getElem?_toArray, List.getElem?_map, Option.map_eq_some_iff] at h
 obtain ⟨z, _, rfl⟩ := h
 exact fun ρ => .int _ _
theorem row_of_var {name : String} {g : Nat} {cs : Array Value} (hg : Tryz.prog.globalNamed name = some g) (h : W.var? Tryz.prog name = some cs) : ∃ e fr, W.heap[g]? = some (.cells cs e fr) := by
 unfold World.var? at h
 rw [hg] at h
 simp only [Option.bind_some] at h
 split at h
 ·rename_i c e fr hh
  cases h
  exact ⟨e, fr, hh⟩
 ·cases h
set_option maxRecDepth 100000 in
theorem wr0 (h : Laid W) (T : Nat → Question → Nat) : WR Tryz.prog (rn0 W.heap.size (size10 h)) (on (lw W) T) W := by
 refine ⟨fun h => h.elim, fun x hx => ?_, fun x hx => ?_, rfl, ?_, Nat.le_refl _⟩
 ·have hx' : x = 0 ∨ x = 3 ∨ x = 9 := by
   have : (alw false).K x = true := hx
   simpa only [alw, Bool.or_eq_true, Nat.beq_eq] using this
  have key : ∀ c e, W.heap[x]? = some (.cells c e (0, 0)) → bare Tryz.prog e → AR (rn0 W.heap.size (size10 h)) c c → LowL Tryz.prog (rn0 W.heap.size (size10 h)) (on (lw W) T) W x := fun c e h1 h2 h3 =>
   ⟨c, e, c.size + 1, lw_fz hx' h1, h1, Nat.lt_succ_self _, h2, h3⟩
  rcases hx' with rfl | rfl | rfl
  ·obtain ⟨v, hv⟩ := h.r0
   have h1 := h.std.et
   unfold EType World.cell? at h1
   rw [hv] at h1
   have h1' : v = .iface 135 (.agg #[.pointer (some ⟨9, 25, none⟩)]) := by simpa using h1
   subst h1'
   refine key _ _ hv bare3s.1 ?_
   ·exact .cons (.iface _ (.agg (.cons (.ptr ⟨.inl ⟨rfl, rfl⟩, rfl, rfl⟩) .nil))) .nil
  ·obtain ⟨n, hn⟩ := h.r3
   exact key _ _ hn bare3s.2.1 (.cons (.int _ _) .nil)
  ·refine key _ _ h.r9 bare3s.2.2 ?_
   ·unfold AR row9
    rw [Array.toList_map]
    refine lr_refl fun v hv => ?_
    obtain ⟨t, _, rfl⟩ := List.mem_map.1 hv
    exact .int _ _
 ·have hx' : x = 1 ∨ x = 2 ∨ x = 4 ∨ x = 5 ∨ x = 6 ∨ x = 7 ∨ x = 8 := by
   have : (alw false).T x = true := hx
   simpa only [alw, Bool.or_eq_true, Nat.beq_eq] using this
  by_cases h6 : x = 6
  ·subst h6
   obtain ⟨e, fr, hr⟩ := row_of_var gPow6 h.std.pow
   exact ⟨_, e, fr, _, e, fr, (lw_same (W := W) (.inl rfl)).trans hr, hr, fun i v hv => ⟨hv, ints_pl i v hv⟩⟩
  by_cases h8 : x = 8
  ·subst h8
   obtain ⟨e, fr, hr⟩ := row_of_var gDb8 h.db
   exact ⟨_, e, fr, _, e, fr, (lw_same (W := W) (.inr rfl)).trans hr, hr, fun i v hv => ⟨hv, ints_pl i v hv⟩⟩
  obtain ⟨c, e, hr⟩ := h.rT x (by omega)
  exact ⟨_, e, _, _, e, _, lw_em (by omega) hr, hr, fun i v hv => by simp at hv⟩
 ·show W.heap.size ≤ (lw W).heap.size
  rw [lw_size]
  exact Nat.le_refl _
theorem low0 (h : Laid W) : Low (fun _ => False) (rn0 W.heap.size (size10 h)) (on (lw W) W.tape) W :=
 ⟨wr0 h _, fun b hb => ⟨by
  have := size10 h
  rcases hb with hb | hb
  ·have := (rn0 W.heap.size (size10 h)).kb hb
   exact this
  ·have := (rn0 W.heap.size (size10 h)).tb hb
   exact this, fun x => x⟩, fun b hb => hb.elim, fun _ _ h => h, fun f hf => by
   have : (alw false).sp f = true := hf
   simp [alw] at this, ⟨_, env0 _ _⟩⟩
theorem con0 (h : Laid W) : LCon (rn0 W.heap.size (size10 h)) (on (lw W) W.tape) := by
 have hs : ∀ T, Std (on (on (lw W) W.tape) T) := fun T => lw_std h T
 refine ⟨fun f h1 h2 h3 => ?_, fun T => ?_, fun a n h1 h2 T => ?_, fun T => ?_, fun n hn T => ?_⟩
 ·have : f = 5 ∨ f = 7 ∨ f = 8 ∨ f = 9 := by omega
  show (alw false).ok f = true
  rcases this with rfl | rfl | rfl | rfl <;> decide
 ·exact (talks_ok _ (hs T)).mono fun e w' h => ⟨_, h.1, rfl⟩
 ·exact (pick_any a n h1 h2 _).mono fun e w' h => ⟨_, h.1, rfl⟩
 ·exact (tell_errno 4 _ (Lib.hid (hs T).et)).mono fun e w' h => ⟨_, h.1, rfl⟩
 ·exact (session_xs n hn _ (hs T)).mono fun e w' h => ⟨_, h.1, rfl⟩
theorem empty0 (h : Laid W) (T : Nat → Question → Nat) : Calls Tryz.prog 8 #[.string ⟨#[]⟩] (on (on (lw W) W.tape) T) fun e _ => ∃ v, e = .returned v ∧ v = .string okA :=
 (session_empty _ (lw_std h T)).mono fun e w' h => ⟨_, h.1, rfl⟩
theorem limits_run (h : Laid W) (a0 a1 a2 : Int) {Post : Value → World → Prop} (hpost : ∀ w', Kept W w' → Post (.bool true) w') :
  ∃ N last o w' t', runNT Tryz.prog (N + 1) (solo (Conc.G (Frame.enter Tryz.prog 4 #[.int .i64 a0, .int .i64 a1, .int .i64 a2] .normal) []) W) #[] = (.ended o w', t') ∧ runN Tryz.prog N (solo (Conc.G (Frame.enter Tryz.prog 4 #[.int .i64 a0, .int .i64 a1, .int .i64 a2] .normal) []) W) = .next last ∧
   step Tryz.prog last = .ended o w' ∧ Conc.Good Tryz.prog Post last o w' t' :=
 lim_good (con0 h) (low0 h) (empty0 h) a0 a1 a2 hpost
end
end Go.Mx
