/- Part 31 of the proof: TaMem, TaLook. -/
import Derived.Test.YtdhekhlmdefcnabPart30
import Derived.Test.YtdhekhlmdefcnabPart10
namespace Go.Proofs.Ytdhekhlmdefcnab
open Go.RowKit
def taT (t : TypeId) : Bool := t == 47 || t == 80
def Own (p : TypeId → Bool) (w : World) (b : Nat) : Prop := ∃ t cs, Has w b t cs ∧ p t = true
section
variable {p : TypeId → Bool} {w w' : World} {F : Nat → Prop} {B : Nat} {L : Lay} {s : Sys}
theorem Has.apart {g : Nat} {t : TypeId} {cs : Array Value} (h : Has w g t cs) (hF : ∀ b, F b → Own p w b) (hn : p t = false) : ¬ F g := fun hf => by
 obtain ⟨t', cs', h', hm⟩ := hF g hf
 have e : t = t' := by
  unfold Has at h h'
  rw [h] at h'
  injection h' with h'
  injection h' with _ ht
 rw [e, hm] at hn
 cases hn
theorem Has.keepG {g : Nat} {t : TypeId} {cs : Array Value} (h : Has w g t cs) (ht : Turned F w w') (hF : ∀ b, F b → Own p w b) (hn : p t = false) : Has w' g t cs := h.turned ht (h.apart hF hn)
theorem own_keepG {base : Nat} {e : TypeId} {size n : Nat} {v : Value} {xs : List Value} (h : w.ownsRow base e size v n xs) (ht : Turned F w w') (hF : ∀ b, F b → Own p w b) (hn : p e = false) : w'.ownsRow base e size v n xs :=
 own_keep h fun g _ _ hh => (show w'.heap[g]? = w.heap[g]? from (hh.keepG ht hF hn).trans hh.symm)
theorem CoreAt.keepG {gc : Nat} (h : CoreAt w gc L) (ht : Turned F w w') (hF : ∀ b, F b → Own p w b) (h1 : p 93 = false) (h2 : p 3 = false) : CoreAt w' gc L := by
 obtain ⟨vr, vc, a1, a2, a3⟩ := h
 exact ⟨vr, vc, a1.keepG ht hF h1, own_keepG a2 ht hF h2, own_keepG a3 ht hF h2⟩
theorem SyAt.other {x : SyX} (h : SyAt w B x L s) (ht : Turned F w w') (hF : ∀ b, F b → Own taT w b) : SyAt w' B x L s := by
 refine ⟨h.has.keepG ht hF rfl, own_keepG h.routes ht hF rfl, h.n3, fun k hk => ⟨(h.rep k hk).has.keepG ht hF rfl, (h.rep k hk).core.keepG ht hF rfl rfl⟩, h.apart, ⟨h.vo.has.keepG ht hF rfl, own_keepG h.vo.own ht hF rfl, h.vo.low⟩, own_keepG h.way ht hF rfl, h.len, fun i gm v e1 e2 => ?_, h.low, h.lows⟩
 exact (h.bytes i gm v e1 e2).keep fun g cs hh => hh.keepG ht hF rfl
end
def sgL (y : Sight) : List Value := [I y.src, I y.cycle, .bool y.on, I y.c, I y.w]
def sgC (l : List Sight) : List Value := l.flatMap sgL
theorem sgC_length (l : List Sight) : (sgC l).length = l.length * 5 := by
 induction l with
 | nil => rfl
 | cons a l ih => unfold sgC at ih ⊢; rw [List.flatMap_cons, List.length_append, ih]; simp [sgL]; omega
theorem sgC_snoc (l : List Sight) (y : Sight) : sgC (l ++ [y]) = sgC l ++ sgL y := by unfold sgC; simp
theorem sgC_at : ∀ (l : List Sight) (i : Nat) (y : Sight), l[i]? = some y → (sgC l)[i * 5]? = some (I y.src) ∧ (sgC l)[i * 5 + 1]? = some (I y.cycle) ∧ (sgC l)[i * 5 + 2]? = some (.bool y.on) ∧ (sgC l)[i * 5 + 3]? = some (I y.c) ∧ (sgC l)[i * 5 + 4]? = some (I y.w)
 | [], i, _, h => by simp at h
 | a :: l, 0, y, h => by
  have e : a = y := by simpa using h
  subst e
  exact ⟨rfl, rfl, rfl, rfl, rfl⟩
 | a :: l, i + 1, y, h => by
  have ih := sgC_at l i y (by simpa using h)
  have e : sgC (a :: l) = sgL a ++ sgC l := rfl
  rw [e]
  have g : ∀ j, (sgL a ++ sgC l)[(i + 1) * 5 + j]? = (sgC l)[i * 5 + j]? := fun j => by
   rw [List.getElem?_append_right (by simp [sgL]; omega)]
   congr 1
   simp [sgL]
   omega
  have g0 := g 0
  rw [Nat.add_zero, Nat.add_zero] at g0
  rw [g0, g 1, g 2, g 3, g 4]
  exact ih
structure TaX where
 x : SyX
 g : Nat
 vr : Value
 sv : Value
def FA (y : TaX) (b : Nat) : Prop := FS y.x b ∨ b = y.g ∨ y.sv.ownBlock = some b
def taC (y : TaX) (L : Lay) (ℓ : Nat) (f : List (Int × Int)) : Array Value := #[.pointer (some ⟨y.x.g, 0, none⟩), I L.secs, y.vr, I L.delay, I ℓ, I (f.getD 0 (0, 0)).1, I (f.getD 0 (0, 0)).2, I (f.getD 1 (0, 0)).1, I (f.getD 1 (0, 0)).2, I (f.getD 2 (0, 0)).1, I (f.getD 2 (0, 0)).2, y.sv]
structure TaAt (w : World) (B : Nat) (y : TaX) (L : Lay) (ℓ : Nat) (Ta : Tale) : Prop where
 has : Has w y.g 47 (taC y L ℓ Ta.fields)
 sys : SyAt w B y.x L Ta.s
 routes : w.ownsRow 0 3 1 y.vr L.routes.length (ints (zs L.routes))
 seen : w.ownsRow B 80 5 y.sv Ta.seen.length (sgC Ta.seen)
 nf : Ta.fields.length = 3
 low : B ≤ y.g
 hB : B ≤ w.heap.size
structure AMoved (w w' : World) (y y' : TaX) : Prop where
 turned : Turned (FA y) w w'
 blocks : ∀ b, FA y' b → FA y b ∨ w.heap.size ≤ b
 same : y'.g = y.g
 samex : y'.x.g = y.x.g
section
variable {w w' w1 : World} {B : Nat} {y y' : TaX} {L : Lay} {ℓ : Nat} {Ta : Tale} {s' : Sys} {T : Nat}
theorem AMoved.refl (w : World) (y : TaX) : AMoved w w y y := ⟨Turned.refl _ _, fun _ h => .inl h, rfl, rfl⟩
theorem AMoved.of_below (h : Below w.heap.size w w') : AMoved w w' y y := ⟨Turned.of_below h _, fun _ h => .inl h, rfl, rfl⟩
theorem AMoved.trans {y1 y2 : TaX} (h : AMoved w w1 y y1) (h' : AMoved w1 w' y1 y2) : AMoved w w' y y2 := by
 refine ⟨h.turned.trans h'.turned ?_, fun b hb => ?_, h'.same.trans h.same, h'.samex.trans h.samex⟩
 ·intro k hk hf
  rcases h.blocks k hf with h1 | h1
  ·exact h1
  ·omega
 ·rcases h'.blocks b hb with h1 | h1
  ·exact h.blocks b h1
  ·exact .inr (Nat.le_trans h.turned.size h1)
theorem TaAt.after (h : TaAt w B y L ℓ Ta) (hb : Below w.heap.size w w') : TaAt w' B y L ℓ Ta :=
 ⟨h.has.after hb, h.sys.after hb, own_after h.routes hb, own_after h.seen hb, h.nf, h.low, Nat.le_trans h.hB hb.size⟩
theorem TaAt.ge (h : TaAt w B y L ℓ Ta) {b : Nat} (hb : FA y b) : B ≤ b := by
 rcases hb with hb | rfl | hb
 ·exact h.sys.ge hb
 ·exact h.low
 ·exact (own_block h.seen hb).1
theorem AMoved.below (m : AMoved w w' y y') (h : TaAt w B y L ℓ Ta) : Below B w w' := m.turned.below (fun _k hk => h.ge hk) h.hB
theorem AMoved.keep {c : Nat} {t : TypeId} {cs : Array Value} (m : AMoved w w' y y') (h : Has w c t cs) (hn : ¬ FA y c) : Has w' c t cs ∧ ¬ FA y' c :=
 ⟨h.turned m.turned hn, fun hf => by
  rcases m.blocks c hf with h1 | h1
  ·exact hn h1
  ·have := h.lt; omega⟩
theorem TaAt.setSys (h : TaAt w B y L ℓ Ta) {x' : SyX} (hs : SyAt w' B x' L s') (hm : Moved w w' y.x x') : TaAt w' B { y with x := x' } L ℓ { Ta with s := s' } ∧ AMoved w w' y { y with x := x' } := by
 have st := h.sys.stay hm
 have hF : ∀ b, FS y.x b → Mut w b := fun b hb => h.sys.mut hb
 refine ⟨⟨?_, hs, own_keepT h.routes hm.turned hF rfl, own_keepT h.seen hm.turned hF rfl, h.nf, h.low, Nat.le_trans h.hB hm.size⟩, ⟨hm.turned.mono fun b _ e => .inl e, fun b hf => ?_, rfl, hm.same⟩⟩
 ·have := st _ _ _ h.has rfl
  unfold taC at this ⊢
  dsimp only
  rw [hm.same]
  exact this
 ·rcases hf with hf | hf
  ·exact (hm.blocks b hf).imp .inl id
  ·exact .inl (.inr hf)
theorem TaAt.fromIn (h : TaAt w B y L ℓ Ta) (hs : SyIn w B y.x L s' w') : ∃ y', TaAt w' B y' L ℓ { Ta with s := s' } ∧ AMoved w w' y y' := by
 obtain ⟨x', h1, h2, h3⟩ := hs
 obtain ⟨h4, h5⟩ := h.setSys h1 h2
 exact ⟨_, h4, h5⟩
theorem TaAt.scell (h : TaAt w B y L ℓ Ta) : w.cell? ⟨y.g, 0, none⟩ = some (.pointer (some ⟨y.x.g, 0, none⟩)) := h.has.cellv 0 _ rfl
theorem TaAt.lcell (h : TaAt w B y L ℓ Ta) : w.cell? ⟨y.g, 4, none⟩ = some (I ℓ) := h.has.cellv 4 _ rfl
theorem TaAt.fcell (h : TaAt w B y L ℓ Ta) {k : Nat} (hk : k < 3) : w.cell? ⟨y.g, 5 + k * 2, none⟩ = some (I (fieldOf Ta k).1) ∧ w.cell? ⟨y.g, 5 + k * 2 + 1, none⟩ = some (I (fieldOf Ta k).2) := by
 have : k = 0 ∨ k = 1 ∨ k = 2 := by omega
 rcases this with rfl | rfl | rfl
 ·exact ⟨h.has.cellv 5 _ rfl, h.has.cellv 6 _ rfl⟩
 ·exact ⟨h.has.cellv 7 _ rfl, h.has.cellv 8 _ rfl⟩
 ·exact ⟨h.has.cellv 9 _ rfl, h.has.cellv 10 _ rfl⟩
theorem TaAt.slice (h : TaAt w B y L ℓ Ta) : ∃ A c, y.sv = .slice A Ta.seen.length c ∧ w.cell? ⟨y.g, 11, none⟩ = some (.slice A Ta.seen.length c) := by
 obtain ⟨A, c, hv, _⟩ := own_read h.seen
 exact ⟨A, c, hv, by rw [← hv]; exact h.has.cellv 11 _ rfl⟩
theorem TaAt.own (h : TaAt w B y L ℓ Ta) : ∀ b, (b = y.g ∨ y.sv.ownBlock = some b) → Own taT w b := fun b e => by
 rcases e with rfl | e
 ·exact ⟨_, _, h.has, rfl⟩
 ·obtain ⟨_, cur, hh⟩ := own_block h.seen e
  exact ⟨_, _, hh, rfl⟩
theorem TaAt.setOwn (h : TaAt w B y L ℓ Ta) {sv' : Value} {f' : List (Int × Int)} {seen' : List Sight} (ht : Turned (fun b => b = y.g ∨ y.sv.ownBlock = some b) w w')
  (hc : Has w' y.g 47 (taC { y with sv := sv' } L ℓ f')) (ho : w'.ownsRow B 80 5 sv' seen'.length (sgC seen')) (hf : f'.length = 3)
  (hb : ∀ b, sv'.ownBlock = some b → y.sv.ownBlock = some b ∨ w.heap.size ≤ b) : TaAt w' B { y with sv := sv' } L ℓ { Ta with fields := f', seen := seen' } ∧ AMoved w w' y { y with sv := sv' } := by
 refine ⟨⟨hc, h.sys.other ht h.own, own_keepG h.routes ht h.own rfl, ho, hf, h.low, Nat.le_trans h.hB ht.size⟩, ⟨ht.mono fun b _ e => .inr e, fun b hf' => ?_, rfl, rfl⟩⟩
 rcases hf' with e | e | e
 ·exact .inl (.inl e)
 ·exact .inl (.inr (.inl e))
 ·exact (hb b e).imp (fun e => .inr (.inr e)) id
theorem fields_3 {f : List (Int × Int)} (h : f.length = 3) : ∃ a b c, f = [a, b, c] := by
 match f, h with
 | [a, b, c], _ => exact ⟨a, b, c, rfl⟩
theorem TaAt.setField (h : TaAt w B y L ℓ Ta) {k : Nat} (hk : k < 3) (a b : Int) :
  TaAt ((w.setCell ⟨y.g, 5 + k * 2, none⟩ (I a)).setCell ⟨y.g, 5 + k * 2 + 1, none⟩ (I b)) B y L ℓ { Ta with fields := Ta.fields.set k (a, b) } ∧ AMoved w ((w.setCell ⟨y.g, 5 + k * 2, none⟩ (I a)).setCell ⟨y.g, 5 + k * 2 + 1, none⟩ (I b)) y y := by
 have ht : Turned (fun b => b = y.g ∨ y.sv.ownBlock = some b) w ((w.setCell ⟨y.g, 5 + k * 2, none⟩ (I a)).setCell ⟨y.g, 5 + k * 2 + 1, none⟩ (I b)) := ((Turned.refl _ _).setCell _ _ (.inl (.inl rfl))).setCell _ _ (.inl (.inl rfl))
 have hh := (h.has.set (5 + k * 2) (I a)).set (5 + k * 2 + 1) (I b)
 have hc : ((taC y L ℓ Ta.fields).setIfInBounds (5 + k * 2) (I a)).setIfInBounds (5 + k * 2 + 1) (I b) = taC { y with sv := y.sv } L ℓ (Ta.fields.set k (a, b)) := by
  obtain ⟨f0, f1, f2, e⟩ := fields_3 h.nf
  rw [e]
  have : k = 0 ∨ k = 1 ∨ k = 2 := by omega
  rcases this with rfl | rfl | rfl <;> rfl
 rw [hc] at hh
 have ho : ((w.setCell ⟨y.g, 5 + k * 2, none⟩ (I a)).setCell ⟨y.g, 5 + k * 2 + 1, none⟩ (I b)).ownsRow B 80 5 y.sv Ta.seen.length (sgC Ta.seen) := by
  have h1 := own_far h.seen h.has (by decide) (5 + k * 2) (I a)
  exact own_far h1 (h.has.set (5 + k * 2) (I a)) (by decide) (5 + k * 2 + 1) (I b)
 exact h.setOwn (sv' := y.sv) (f' := Ta.fields.set k (a, b)) (seen' := Ta.seen) ht hh ho (by rw [List.length_set]; exact h.nf) (fun b hb => .inl hb)
end
end Go.Proofs.Ytdhekhlmdefcnab
namespace Go.Proofs.Ytdhekhlmdefcnab
open Go.RowKit
theorem infoSight : (Try.prog.info? 80).map (fun i => (i.zero, i.size, i.bytes)) = some (some (.agg #[.int .i64 0, .int .i64 0, .bool false, .int .i64 0, .int .i64 0]), 5, 40) := by kernel_rfl
theorem zeroState : stC St.zero = #[I 0, I 0, I 0, I 0, I 0, I 0, I 0, I 0, I 0, I 0, I 0, I 0, I 0, I 0, I 0, I 0, I 0] := rfl
theorem stC_ones (st : St) : (stC st).all (·.oneCell') = true := by
 unfold stC stL
 exact all_oneCell_toArray fun v hv => by
  simp only [List.mem_cons, List.mem_append, ints, List.mem_map] at hv
  rcases hv with rfl | ⟨y, _, rfl⟩ | ⟨y, _, rfl⟩ <;> rfl
section
variable {w w' w1 : World} {B : Nat} {y y' : TaX} {L : Lay} {ℓ : Nat} {Ta : Tale} {s' : Sys} {T : Nat}
def TaPost (w : World) (B : Nat) (y : TaX) (L : Lay) (ℓ : Nat) (Ta' : Tale) (e : Ending) (w' : World) : Prop := e = .returned (.tuple #[]) ∧ ∃ y', TaAt w' B y' L ℓ Ta' ∧ AMoved w w' y y'
set_option maxHeartbeats 4000000 in
set_option maxRecDepth 100000 in
theorem ta_looks (h : TaAt w B y L ℓ Ta) (hf : Fine T Ta.s) (hn : Ta.seen.length ≤ 100000) (k : Nat) (hk : k < 3) (on : Bool) :
  Calls Try.prog 28 #[.pointer (some ⟨y.g, 0, none⟩), I k, .bool on] w (TaPost w B y L ℓ (looks Ta k on)) := by
 obtain ⟨i0, hi0, hz0, hz1, hz2⟩ := info_parts infoSight
 have c0 := h.scell
 have hg := h.has.lt
 have hs17 := stL_17 (hf.fits k hk).state
 have hi2 : (Try.prog.info? 33).map (·.size) = some (stC (re Ta.s k).state).size := by unfold stC; rw [List.size_toArray, hs17]; exact infoState
 have hz : (stC St.zero).size = (stC (re Ta.s k).state).size := by unfold stC; rw [List.size_toArray, List.size_toArray, hs17]; rfl
 have HCL := Lib.hid (sy_replica h.sys hf k hk)
 have HH := Lib.hid h
 have hki : (k : Int) < 3 := by omega
 have HK := Lib.hid hk
 clear h hs17
 go_enter Try.func28, Try.ntmps28
 go_upto_region 2 with (first
  | (go_at_call 17; refine HCL.out.mono ?_; rintro e wR ⟨rfl, hbR⟩; have HBR := Lib.hid hbR; clear hbR)
  | (rw [← zeroState]; refine wpList_store_row rfl 33 (.tmp 7) (.tmp 17) rfl wR.heap.size (stC (re Ta.s k).state) rfl rfl 33 (stC St.zero) (Has.new wR 33 (stC St.zero)) hi2 hz (stC_ones _) ?_))
 have hbS : Below w.heap.size w ((wR.alloc (.cells (stC St.zero) 33)).setRow wR.heap.size (stC (re Ta.s k).state)) := HBR.out.trans ((below_setRow ((Below.refl _ _).alloc (Nat.le_refl _) _) (Nat.le_refl _) _).mono HBR.out.size)
 generalize (wR.alloc (.cells (stC St.zero) 33)).setRow wR.heap.size (stC (re Ta.s k).state) = wS at *
 have HS := Lib.hid (HH.out.after hbS)
 have HBS := Lib.hid hbS
 generalize wR.heap.size = gR at *
 obtain ⟨A, cc, hsv, c11⟩ := HS.out.slice
 obtain ⟨fc1, fc2⟩ := HS.out.fcell HK.out
 have hgS := HS.out.has.lt
 have HSV := Lib.hid hsv
 have ho : Hid (wS.ownsRow B 80 5 (.slice A Ta.seen.length cc) Ta.seen.length (sgC Ta.seen)) := Lib.hid (by have := HS.out.seen; rw [hsv] at this; exact this)
 have hBS : B ≤ wS.heap.size := HS.out.hB
 have hm1 : Ta.seen.length + 1 ≤ maxLen := by unfold maxLen; omega
 have hm2 : (Ta.seen.length + 1) * 40 ≤ 140737488355328 := by omega
 have k1 := HS.out.has
 have HNE : Hid (some y.g ≠ (Value.slice A Ta.seen.length cc).ownBlock) := Lib.hid (fun e => own_has_ne HS.out.seen k1 (by decide) (by rw [hsv]; exact e.symm))
 clear hsv hbS hz hi2 HCL c0 hg HBR
 have HQ : Hid (looks Ta k on = { Ta with fields := Ta.fields, seen := Ta.seen ++ [⟨k, (re Ta.s k).cycle, on, (fieldOf Ta k).1, (fieldOf Ta k).2⟩] }) := Lib.hid rfl
 have HSG : Hid (sgC (Ta.seen ++ [⟨k, (re Ta.s k).cycle, on, (fieldOf Ta k).1, (fieldOf Ta k).2⟩]) = sgC Ta.seen ++ [I k, I ((re Ta.s k).cycle : Int), .bool on, I (fieldOf Ta k).1, I (fieldOf Ta k).2]) := Lib.hid (sgC_snoc _ _)
 generalize (fieldOf Ta k).1 = q1 at *
 generalize (fieldOf Ta k).2 = q2 at *
 generalize (re Ta.s k).cycle = cy at *
 go_region_law ((refine step_append_at rfl _ _ 45 rfl B 80 i0 (.agg #[.int .i64 0, .int .i64 0, .bool false, .int .i64 0, .int .i64 0]) 5 40 Try.underlying45 hi0 hz0 hz1 hz2 rfl (by decide) _ Ta.seen.length _ rfl (World.ownsRow.alloc ho.out _) _ 1 1 _ rfl rfl (cells_new _ _ _) (by intro u hu; simp at hu; rcases hu with rfl | rfl | rfl | rfl | rfl <;> rfl) hm1 hm2 (Nat.le_trans hBS (by simp)) ?_; intro v2 w2 hown2 hgrow2 hloc2; obtain ⟨A2, c2, rfl, hc2, -⟩ := own_read hown2; have k2 : Has w2 y.g 47 (taC y L ℓ Ta.fields) := (k1.alloc _).drew.grown hgrow2 HNE.out; have f27 := k2.free 11; have c27 := k2.cellv 11 y.sv rfl))
 all_goals
  have hg2 : (wS.alloc (.cells #[I k, I (cy : Int), .bool on, I q1, I q2] 80)).drew.grownBy w2 (Value.slice A Ta.seen.length cc).ownBlock := hgrow2
  have ho2 : Hid ((w2.setCell ⟨y.g, 11, none⟩ (.slice A2 (Ta.seen.length + 1) c2)).ownsRow B 80 5 (.slice A2 (Ta.seen.length + 1) c2) (Ta.seen.length + 1) (sgC (Ta.seen ++ [⟨k, cy, on, q1, q2⟩]))) := Lib.hid (own_far (by rw [HSG.out]; exact hown2) k2 (by decide) _ _)
  have hl2 : Hid (∀ b, (Value.slice A2 (Ta.seen.length + 1) c2).ownBlock = some b → y.sv.ownBlock = some b ∨ wS.heap.size ≤ b) := Lib.hid (fun b hb => by
   rw [HSV.out]
   rcases hloc2 with h | h
   ·exact .inl (h ▸ hb)
   ·rw [h] at hb
    injection hb with hb
    exact .inr (by rw [← hb]; simp))
  have ht2 : Hid (Turned (fun b => b = y.g ∨ y.sv.ownBlock = some b) wS (w2.setCell ⟨y.g, 11, none⟩ (.slice A2 (Ta.seen.length + 1) c2))) := Lib.hid (((((Turned.refl _ _).alloc _).drew).grown hg2 (fun q hq => .inl (.inr (by rw [HSV.out]; exact hq)))).setCell _ _ (.inl (.inl rfl)))
  have k3 := Lib.hid (k2.set 11 (.slice A2 (Ta.seen.length + 1) c2))
  clear hgrow2 hloc2 hown2 hg2 f27 c27 k2
  go_wp2_with fail
  go_end0
  obtain ⟨h3, h4⟩ := HS.out.setOwn (sv' := .slice A2 (Ta.seen.length + 1) c2) (f' := Ta.fields) (seen' := Ta.seen ++ [⟨k, cy, on, q1, q2⟩]) ht2.out k3.out (by rw [List.length_append]; exact ho2.out) HS.out.nf hl2.out
  exact ⟨rfl, _, by rw [HQ.out]; exact h3, (AMoved.of_below HBS.out).trans h4⟩
end
end Go.Proofs.Ytdhekhlmdefcnab
