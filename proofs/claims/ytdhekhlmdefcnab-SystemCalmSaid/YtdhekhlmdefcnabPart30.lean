/- Part 30 of the proof: SyRep, SyNew, TaMem, TaLook. -/
import Derived.Test.YtdhekhlmdefcnabPart29
import Derived.Test.YtdhekhlmdefcnabPart10
namespace Go.Proofs.Ytdhekhlmdefcnab
open Go.RowKit
theorem ret_tct {P : Program} {fn : Func} {a p u : Tmp} {ty : TypeId} (h : fn.results = #[.tmp a, .cell p ty, .tmp u]) (tmps : Array Value) (w : World) (g : Nat) (t : TypeId) (cs : Array Value) (d : TypeDesc)
  (hp : tmps.getD p undef = .pointer (some ⟨g, 0, none⟩)) (hg : Has w g t cs)
  (hu : P.underlying ty = some d) (hd : (match d with | .struct _ | .array _ _ => true | _ => false) = true) (hi : (P.info? ty).map (·.size) = some cs.size) :
  (results fn tmps).run P w = .ok (.tuple #[tmps.getD a undef, .agg cs, tmps.getD u undef]) w := by
 have hp' : tmps[p]?.getD undef = .pointer (some ⟨g, 0, none⟩) := by simpa using hp
 simp [results, h, hp', asAddr, run_loadVar_row w g t ty cs (0, 0) d hg hu hd hi]
section
variable {w0 w w' : World} {B : Nat} {x : SyX} {L : Lay} {s : Sys} {T : Nat}
theorem stL_17 {st : St} {M : Nat} (h : st.Fits M) : (stL st).length = 17 := by
 unfold stL
 simp [ints, zs, h.used8, h.idle8]
set_option maxHeartbeats 4000000 in
set_option maxRecDepth 100000 in
theorem sy_replica (h : SyAt w B x L s) (hf : Fine T s) (k : Nat) (hk' : k < 3) : Calls Try.prog 17 #[.pointer (some ⟨x.g, 0, none⟩), I k] w fun e w' => e = .returned (.tuple #[I ((re s k).cycle : Int), .agg (stC (re s k).state), .nilIface]) ∧ Below w.heap.size w w' := by
 have hs17 := stL_17 (hf.fits k hk').state
 have hb : Below w.heap.size w (w.alloc (.cells #[I 0, I 0, I 0, I 0, I 0, I 0, I 0, I 0, I 0, I 0, I 0, I 0, I 0, I 0, I 0, I 0, I 0] 33)) := (Below.refl _ _).alloc (Nat.le_refl _) _
 have k0 : Has (w.alloc (.cells #[I 0, I 0, I 0, I 0, I 0, I 0, I 0, I 0, I 0, I 0, I 0, I 0, I 0, I 0, I 0, I 0, I 0] 33)) w.heap.size 33 (stC St.zero) := Has.new w 33 #[I 0, I 0, I 0, I 0, I 0, I 0, I 0, I 0, I 0, I 0, I 0, I 0, I 0, I 0, I 0, I 0, I 0]
 have hi2 : (Try.prog.info? 33).map (·.size) = some (stC (re s k).state).size := by unfold stC; rw [List.size_toArray, hs17]; exact infoState
 have hz : (stC St.zero).size = (stC (re s k).state).size := by unfold stC; rw [List.size_toArray, List.size_toArray, hs17]; rfl
 have h1 : (stC (re s k).state).all (·.oneCell') = true := by
  unfold stC stL
  exact all_oneCell_toArray fun v hv => by
   simp only [List.mem_cons, List.mem_append, ints, List.mem_map] at hv
   rcases hv with rfl | ⟨y, _, rfl⟩ | ⟨y, _, rfl⟩ <;> rfl
 have hsy : SyAt (w.alloc (.cells #[I 0, I 0, I 0, I 0, I 0, I 0, I 0, I 0, I 0, I 0, I 0, I 0, I 0, I 0, I 0, I 0, I 0] 33)) B x L s := h.after hb
 have hg0l : Hid (w.heap.size ≤ (w.alloc (.cells #[I 0, I 0, I 0, I 0, I 0, I 0, I 0, I 0, I 0, I 0, I 0, I 0, I 0, I 0, I 0, I 0, I 0] 33)).heap.size) := Lib.hid hb.size
 have hki : (k : Int) < 3 := by omega
 have hk1 : k ≤ 1000 := by omega
 have HD := Lib.hid (show decide (k < 3) = true by simpa using hk')
 have hgx0 := h.has.lt
 clear h
 go_enter Try.func17, Try.ntmps17
 go_upto_region 1 with fail
 generalize w.alloc (.cells #[I 0, I 0, I 0, I 0, I 0, I 0, I 0, I 0, I 0, I 0, I 0, I 0, I 0, I 0, I 0, I 0, I 0] 33) = w1 at *
 have hDW := Lib.hid (hsy.after ((Below.refl _ _).drew))
 have HC1 := Lib.hid (re_cycle (hDW.out.rep k hk'))
 have HC2 := Lib.hid (re_state (hDW.out.rep k hk') hs17)
 have hgx := hsy.has.lt
 have HB := Lib.hid hb
 generalize hG : w.heap.size = g0 at *
 have HG := Lib.hid hG
 clear hG hsy hb hs17
 go_upto_region 3 with (go_at_call 43; refine (right_nat k hk1).mono ?_; rintro e w' ⟨rfl, rfl⟩; rw [HD.out])
 refine wp_region_held_drew (S := fun wx => (wx.cell? ⟨x.g, 3 + k, none⟩ = some (.pointer (some ⟨x.rb k, 0, none⟩)))) (by kernel_rfl) (hDW.out.rcell hk') (fun hHeld => ?_)
 refine wpAnyH_take (i := 0) (oi := { dst := some 12, op := Op.move (Operand.tmp 0), type := 41, pos := "system.go:244", after := #[], guard := none }) (v := .pointer (some ⟨x.g, 0, none⟩)) rfl (by kernel_rfl) (by kernel_rfl) (by kernel_rfl) (fun _ _ _ h => h) (Or.inl ⟨by rfl, ?_⟩) hHeld ?_
 ·rintro wx hs0
  go_simp
 simp only [Act.put, List.setIfInBounds_toArray, List.set_cons_zero, List.set_cons_succ]
 refine wpAnyH_take (i := 1) (oi := { dst := some 13, op := Op.move (Operand.tmp 1), type := 3, pos := "system.go:244", after := #[], guard := none }) (v := I k) rfl (by kernel_rfl) (by kernel_rfl) (by kernel_rfl) (fun _ _ _ h => h) (Or.inl ⟨by rfl, ?_⟩) hHeld ?_
 ·rintro wx hs0
  go_simp
 simp only [Act.put, List.setIfInBounds_toArray, List.set_cons_zero, List.set_cons_succ]
 refine wpAnyH_take (i := 2) (oi := { dst := some 14, op := Op.nilCheck (Operand.tmp 12), type := 0, pos := "system.go:244", after := #[{ on := 0, ground := Ground.data }], guard := none }) (v := .pointer (some ⟨x.g, 0, none⟩)) rfl (by kernel_rfl) (by kernel_rfl) (by kernel_rfl) (fun _ _ _ h => h) (Or.inl ⟨by rfl, ?_⟩) hHeld ?_
 ·rintro wx hs0
  go_simp
 simp only [Act.put, List.setIfInBounds_toArray, List.set_cons_zero, List.set_cons_succ]
 refine wpAnyH_take (i := 3) (oi := { dst := some 15, op := Op.fieldAddr 86 (Operand.tmp 14) 1, type := 0, pos := "system.go:244", after := #[{ on := 2, ground := Ground.data }], guard := none }) (v := .pointer (some ⟨x.g, 3, none⟩)) rfl (by kernel_rfl) (by kernel_rfl) (by kernel_rfl) (fun _ _ _ h => h) (Or.inl ⟨by rfl, ?_⟩) hHeld ?_
 ·rintro wx hs0
  go_simp
 simp only [Act.put, List.setIfInBounds_toArray, List.set_cons_zero, List.set_cons_succ]
 refine wpAnyH_take (i := 4) (oi := { dst := some 16, op := Op.indexAddr 82 (Operand.tmp 15) (Operand.tmp 13), type := 0, pos := "system.go:244", after := #[{ on := 3, ground := Ground.data }, { on := 1, ground := Ground.data }], guard := none }) (v := .pointer (some ⟨x.g, 3 + k, none⟩)) rfl (by kernel_rfl) (by kernel_rfl) (by kernel_rfl) (fun _ _ _ h => h) (Or.inl ⟨by rfl, ?_⟩) hHeld ?_
 ·rintro wx hs0
  go_simp
 simp only [Act.put, List.setIfInBounds_toArray, List.set_cons_zero, List.set_cons_succ]
 refine wpAnyH_take (i := 5) (oi := { dst := some 17, op := Op.load 81 (Operand.tmp 16), type := 81, pos := "system.go:244", after := #[{ on := 4, ground := Ground.data }], guard := none }) (v := .pointer (some ⟨x.rb k, 0, none⟩)) rfl (by kernel_rfl) (by kernel_rfl) (by kernel_rfl) (fun _ _ _ h => h) (Or.inl ⟨by rfl, ?_⟩) hHeld ?_
 ·rintro wx hs0
  go_simp
 simp only [Act.put, List.setIfInBounds_toArray, List.set_cons_zero, List.set_cons_succ]
 refine wpAnyH_take (i := 7) (oi := { dst := some 19, op := Op.move (Operand.tmp 0), type := 41, pos := "system.go:244", after := #[], guard := none }) (v := .pointer (some ⟨x.g, 0, none⟩)) rfl (by kernel_rfl) (by kernel_rfl) (by kernel_rfl) (fun _ _ _ h => h) (Or.inl ⟨by rfl, ?_⟩) hHeld ?_
 ·rintro wx hs0
  go_simp
 simp only [Act.put, List.setIfInBounds_toArray, List.set_cons_zero, List.set_cons_succ]
 refine wpAnyH_take (i := 8) (oi := { dst := some 20, op := Op.move (Operand.tmp 1), type := 3, pos := "system.go:244", after := #[], guard := none }) (v := I k) rfl (by kernel_rfl) (by kernel_rfl) (by kernel_rfl) (fun _ _ _ h => h) (Or.inl ⟨by rfl, ?_⟩) hHeld ?_
 ·rintro wx hs0
  go_simp
 simp only [Act.put, List.setIfInBounds_toArray, List.set_cons_zero, List.set_cons_succ]
 refine wpAnyH_take (i := 9) (oi := { dst := some 21, op := Op.nilCheck (Operand.tmp 19), type := 0, pos := "system.go:244", after := #[{ on := 7, ground := Ground.data }], guard := none }) (v := .pointer (some ⟨x.g, 0, none⟩)) rfl (by kernel_rfl) (by kernel_rfl) (by kernel_rfl) (fun _ _ _ h => h) (Or.inl ⟨by rfl, ?_⟩) hHeld ?_
 ·rintro wx hs0
  go_simp
 simp only [Act.put, List.setIfInBounds_toArray, List.set_cons_zero, List.set_cons_succ]
 refine wpAnyH_take (i := 10) (oi := { dst := some 22, op := Op.fieldAddr 86 (Operand.tmp 21) 1, type := 0, pos := "system.go:244", after := #[{ on := 9, ground := Ground.data }], guard := none }) (v := .pointer (some ⟨x.g, 3, none⟩)) rfl (by kernel_rfl) (by kernel_rfl) (by kernel_rfl) (fun _ _ _ h => h) (Or.inl ⟨by rfl, ?_⟩) hHeld ?_
 ·rintro wx hs0
  go_simp
 simp only [Act.put, List.setIfInBounds_toArray, List.set_cons_zero, List.set_cons_succ]
 refine wpAnyH_take (i := 11) (oi := { dst := some 23, op := Op.indexAddr 82 (Operand.tmp 22) (Operand.tmp 20), type := 0, pos := "system.go:244", after := #[{ on := 10, ground := Ground.data }, { on := 8, ground := Ground.data }], guard := none }) (v := .pointer (some ⟨x.g, 3 + k, none⟩)) rfl (by kernel_rfl) (by kernel_rfl) (by kernel_rfl) (fun _ _ _ h => h) (Or.inl ⟨by rfl, ?_⟩) hHeld ?_
 ·rintro wx hs0
  go_simp
 simp only [Act.put, List.setIfInBounds_toArray, List.set_cons_zero, List.set_cons_succ]
 refine wpAnyH_take (i := 12) (oi := { dst := some 24, op := Op.load 81 (Operand.tmp 23), type := 81, pos := "system.go:244", after := #[{ on := 11, ground := Ground.data }], guard := none }) (v := .pointer (some ⟨x.rb k, 0, none⟩)) rfl (by kernel_rfl) (by kernel_rfl) (by kernel_rfl) (fun _ _ _ h => h) (Or.inl ⟨by rfl, ?_⟩) hHeld ?_
 ·rintro wx hs0
  go_simp
 simp only [Act.put, List.setIfInBounds_toArray, List.set_cons_zero, List.set_cons_succ]
 refine wpAnyH_ready (rs := [6]) (by kernel_rfl) (by simp) (AllReadyH.cons (o := { dst := some 18, op := Op.call { callee := Callee.value (Operand.func 44), args := #[Operand.tmp 17], argTypes := #[81] }, type := 3, pos := "system.go:244", after := #[{ on := 5, ground := Ground.data }], guard := none }) rfl (fun K hK => ?_) AllReadyH.nil)
 go_simp
 go_at_call 44; refine HC1.out.mono ?_; rintro e wt ⟨rfl, rfl⟩
 refine hK.out _ _ hHeld (fun hHeld => ?_)
 clear hK K
 try simp only [Act.put, List.setIfInBounds_toArray, List.set_cons_zero, List.set_cons_succ]
 refine wpAnyH_ready (rs := [13]) (by kernel_rfl) (by simp) (AllReadyH.cons (o := { dst := some 25, op := Op.call { callee := Callee.value (Operand.func 45), args := #[Operand.tmp 24], argTypes := #[81] }, type := 33, pos := "system.go:244", after := #[{ on := 12, ground := Ground.data }, { on := 6, ground := Ground.chain }], guard := none }) rfl (fun K hK => ?_) AllReadyH.nil)
 go_simp
 go_at_call 45; refine HC2.out.mono ?_; rintro e wt ⟨rfl, hbt⟩; have HBT := Lib.hid hbt; have KT := Lib.hid (k0.drew.after hbt); clear hbt
 refine hK.out _ _ ((hDW.out.after HBT.out).rcell hk') (fun hHeld => ?_)
 clear hK K
 try simp only [Act.put, List.setIfInBounds_toArray, List.set_cons_zero, List.set_cons_succ]
 refine wpAnyH_take (i := 14) (oi := { dst := some 4, op := Op.assign (Operand.tmp 18), type := 3, pos := "system.go:244", after := #[{ on := 6, ground := Ground.data }, { on := 13, ground := Ground.chain }, { on := 0, ground := Ground.phase }, { on := 1, ground := Ground.phase }, { on := 2, ground := Ground.phase }, { on := 3, ground := Ground.phase }, { on := 4, ground := Ground.phase }, { on := 5, ground := Ground.phase }, { on := 6, ground := Ground.phase }, { on := 7, ground := Ground.textOnly Departure.lateStores }, { on := 8, ground := Ground.textOnly Departure.lateStores }, { on := 9, ground := Ground.textOnly Departure.lateStores }, { on := 10, ground := Ground.textOnly Departure.lateStores }, { on := 11, ground := Ground.textOnly Departure.lateStores }, { on := 12, ground := Ground.textOnly Departure.lateStores }, { on := 13, ground := Ground.textOnly Departure.lateStoresUnsure }], guard := none }) (v := I (re s k).cycle) rfl (by kernel_rfl) (by kernel_rfl) (by kernel_rfl) (fun _ _ _ h => h) (Or.inl ⟨by rfl, ?_⟩) hHeld ?_
 ·rintro wx hs0
  go_simp
 simp only [Act.put, List.setIfInBounds_toArray, List.set_cons_zero, List.set_cons_succ]
 refine wpAnyH_ready (rs := [15]) (by kernel_rfl) (by simp) (AllReadyH.cons (o := { dst := none, op := Op.store 33 (Operand.tmp 5) (Operand.tmp 25), type := 0, pos := "system.go:244", after := #[{ on := 13, ground := Ground.data }, { on := 14, ground := Ground.chain }, { on := 0, ground := Ground.phase }, { on := 1, ground := Ground.phase }, { on := 2, ground := Ground.phase }, { on := 3, ground := Ground.phase }, { on := 4, ground := Ground.phase }, { on := 5, ground := Ground.phase }, { on := 6, ground := Ground.phase }, { on := 7, ground := Ground.phase }, { on := 8, ground := Ground.phase }, { on := 9, ground := Ground.phase }, { on := 10, ground := Ground.phase }, { on := 11, ground := Ground.phase }, { on := 12, ground := Ground.phase }, { on := 13, ground := Ground.phase }, { on := 14, ground := Ground.phase }], guard := none }) rfl (fun K hK => ?_) AllReadyH.nil)
 rw [if_pos (by rfl)]
 refine wp_store_row 33 (.tmp 5) (.tmp 25) rfl g0 (stC (re s k).state) rfl rfl 33 (stC St.zero) KT.out hi2 hz h1 ?_
 refine hK.out _ _ ((World.cell?_of_block (w := wt) (a := ⟨x.g, 3 + k, none⟩) (heap_setRow_other wt g0 _ x.g (by omega))).trans ((hDW.out.after HBT.out).rcell hk')) (fun hHeld => ?_)
 clear hK K
 try simp only [Act.put]
 refine wpAnyH_take (i := 16) (oi := { dst := some 6, op := Op.assign (Operand.const Value.nilIface), type := 53, pos := "system.go:244", after := #[{ on := 15, ground := Ground.chain }, { on := 0, ground := Ground.phase }, { on := 1, ground := Ground.phase }, { on := 2, ground := Ground.phase }, { on := 3, ground := Ground.phase }, { on := 4, ground := Ground.phase }, { on := 5, ground := Ground.phase }, { on := 6, ground := Ground.phase }, { on := 7, ground := Ground.phase }, { on := 8, ground := Ground.phase }, { on := 9, ground := Ground.phase }, { on := 10, ground := Ground.phase }, { on := 11, ground := Ground.phase }, { on := 12, ground := Ground.phase }, { on := 13, ground := Ground.phase }, { on := 14, ground := Ground.phase }, { on := 15, ground := Ground.phase }], guard := none }) (v := .nilIface) rfl (by kernel_rfl) (by kernel_rfl) (by kernel_rfl) (fun _ _ _ h => h) (Or.inl ⟨by rfl, ?_⟩) hHeld ?_
 ·rintro wx hs0
  go_simp
 simp only [Act.put, List.setIfInBounds_toArray, List.set_cons_zero, List.set_cons_succ]
 refine wpAnyH_done (by kernel_rfl) ?_ _
 go_wp2_with fail
 have hbw : Below g0 w1 wt := (show Below g0 w1 w1.drew from (Below.refl _ _).drew).trans (HBT.out.mono hg0l.out)
 exact bodyPost_ret (ret_tct rfl _ _ g0 _ (stC (re s k).state) _ rfl (KT.out.setRow _) Try.underlying33 rfl hi2) rfl ⟨rfl, by rw [HG.out]; exact below_setRow (HB.out.trans hbw) (Nat.le_refl _) _⟩
end
end Go.Proofs.Ytdhekhlmdefcnab
namespace Go.Proofs.Ytdhekhlmdefcnab
open Go.RowKit
section
variable {w0 w w' : World} {B : Nat} {L : Lay}
def newC (vr : Value) (L : Lay) (vb : Nat) (rb : Nat → Nat) (k : Nat) : Array Value := #[I L.secs, vr, I L.delay, (if 0 < k then .pointer (some ⟨rb 0, 0, none⟩) else .pointer none), (if 1 < k then .pointer (some ⟨rb 1, 0, none⟩) else .pointer none), (if 2 < k then .pointer (some ⟨rb 2, 0, none⟩) else .pointer none), .pointer (some ⟨vb, 0, none⟩), .slice none 0 0, I 0]
theorem newC_at (vr : Value) (L : Lay) (vb : Nat) (rb : Nat → Nat) {k : Nat} (hk : k < 3) : (newC vr L vb rb k)[3 + k]? = some (.pointer none) := by
 have : k = 0 ∨ k = 1 ∨ k = 2 := by omega
 rcases this with rfl | rfl | rfl <;> rfl
theorem newC_set (vr : Value) (L : Lay) (vb : Nat) (rb : Nat → Nat) {k : Nat} (hk : k < 3) (g : Nat) : (newC vr L vb rb k).setIfInBounds (3 + k) (.pointer (some ⟨g, 0, none⟩)) = newC vr L vb (upd rb k g) (k + 1) := by
 have : k = 0 ∨ k = 1 ∨ k = 2 := by omega
 rcases this with rfl | rfl | rfl <;> rfl
def NewAt (w0 : World) (g2 gs vb : Nat) (vr : Value) (L : Lay) (win : Int) (k : Nat) (rb cb : Nat → Nat) (wr : World) : Prop :=
 Has wr gs 86 (newC vr L vb rb k) ∧ Has wr g2 43 #[I L.secs, vr, I L.delay] ∧ wr.ownsRow 0 3 1 vr L.routes.length (ints (zs L.routes)) ∧ VoAt wr g2 vb (.slice none 0 0) (Vo.new win) ∧
 (∀ j, j < k → RepAt wr (rb j) (cb j) L (Re.new j) ∧ g2 ≤ rb j ∧ rb j < wr.heap.size) ∧ (∀ i j, i < k → j < k → rb i = rb j → i = j) ∧ g2 ≤ gs ∧ Below g2 w0 wr
theorem newS {wx : World} {g2 n cR : Nat} {AR : Option Addr} (h : Has wx g2 43 #[I L.secs, .slice AR n cR, I L.delay]) : wx.cell? ⟨g2, 0, none⟩ = some (I L.secs) ∧ wx.cell? ⟨g2, 1, none⟩ = some (.slice AR n cR) ∧ wx.cell? ⟨g2, 2, none⟩ = some (I L.delay) :=
 ⟨h.cellv 0 _ rfl, h.cellv 1 _ rfl, h.cellv 2 _ rfl⟩
theorem NewAt.step {wr wn : World} {g2 gs vb k : Nat} {vr : Value} {win : Int} {rb cb : Nat → Nat} (h : NewAt w0 g2 gs vb vr L win k rb cb wr) (hk : k < 3) {gr gc : Nat} (hgr : wr.heap.size ≤ gr) (hr : RepAt wn gr gc L (Re.new k)) (hb : Below wr.heap.size wr wn) :
  NewAt w0 g2 gs vb vr L win (k + 1) (upd rb k gr) (upd cb k gc) (wn.setCell ⟨gs, 3 + k, none⟩ (.pointer (some ⟨gr, 0, none⟩))) := by
 obtain ⟨h1, h2, h3, h4, h5, h6, h7, h8⟩ := h
 have k1 := h1.after hb
 have ht : Turned (fun b => b = gs) wn (wn.setCell ⟨gs, 3 + k, none⟩ (.pointer (some ⟨gr, 0, none⟩))) := (Turned.refl _ _).setCell _ _ (.inl rfl)
 have hF : ∀ b, b = gs → Mut wn b := fun b e => ⟨_, _, e ▸ k1, rfl⟩
 have hsz : wn.heap.size = (wn.setCell ⟨gs, 3 + k, none⟩ (.pointer (some ⟨gr, 0, none⟩))).heap.size := by simp [World.setCell]
 have hgs := h1.lt
 refine ⟨by rw [← newC_set _ _ _ _ hk]; exact k1.set _ _, (h2.after hb).keepT ht hF (by decide), own_keepT (own_after h3 hb) ht hF (by decide), (h4.after hb).turned ht ?_, fun j hj => ?_, fun i j hi hj e => ?_, h7, (h8.trans (hb.mono (by omega))).setCell h7 _⟩
 ·rintro b (rfl | hb') e
  ·exact (h4.after hb).has.ne k1 (by decide) e
  ·simp [Value.ownBlock] at hb'
 ·unfold upd
  by_cases e : j = k
  ·subst e
   rw [if_pos rfl, if_pos rfl]
   refine ⟨hr.keepT ht hF fun e => hr.has.ne k1 (by decide) e, by omega, ?_⟩
   rw [← hsz]; exact hr.has.lt
  ·rw [if_neg e, if_neg e]
   obtain ⟨a1, a2, a3⟩ := h5 j (by omega)
   have a4 := a1.after hb
   refine ⟨a4.keepT ht hF fun e => a4.has.ne k1 (by decide) e, a2, ?_⟩
   rw [← hsz]; exact a4.has.lt
 ·unfold upd at e
  split at e
  ·split at e
   ·omega
   ·have := (h5 j (by omega)).2.2; omega
  ·split at e
   ·have := (h5 i (by omega)).2.2; omega
   ·exact h6 i j (by omega) (by omega) e
theorem NewAt.sy {wr : World} {g2 gs vb : Nat} {vr : Value} {win : Int} {rb cb : Nat → Nat} (h : NewAt w0 g2 gs vb vr L win 3 rb cb wr) : SyAt wr g2 ⟨gs, rb, cb, vb, .slice none 0 0, vr, .slice none 0 0, []⟩ L (Sys.new win) := by
 obtain ⟨h1, h2, h3, h4, h5, h6, h7, h8⟩ := h
 refine ⟨h1, h3, rfl, fun k hk => ?_, fun i j hi hj e => h6 i j hi hj e, h4, World.ownsRow_nil _ _ _ _, rfl, fun i gm v e => (by cases e), h7, fun k hk => (h5 k hk).2.1⟩
 have : k = 0 ∨ k = 1 ∨ k = 2 := by omega
 rcases this with rfl | rfl | rfl
 ·exact (h5 0 hk).1
 ·exact (h5 1 hk).1
 ·exact (h5 2 hk).1
set_option maxHeartbeats 4000000 in
set_option maxRecDepth 100000 in
theorem sy_new (A : Option Addr) (n c : Nat) (L : Lay) (w : World) (hL : L.Ok) (hxn : Hid (L.routes.length = n)) (hc : n ≤ c) (hr : Reads w w.heap.size A (ints (zs L.routes))) (win : Int) (hw1 : 1 ≤ win) (hw2 : win ≤ 20) :
  Calls Try.prog 24 #[.agg #[I L.secs, .slice A n c, I L.delay], I win] w fun e w' => (∃ x, e = .returned (.tuple #[.pointer (some ⟨x.g, 0, none⟩), .nilIface]) ∧ SyAt w' w.heap.size x L (Sys.new win)) ∧ Below w.heap.size w w' := by
 obtain ⟨i0, hi0, hz0, hz1, hz2⟩ := info_parts infoInt
 have hnn := hxn.out
 subst hnn
 have hn1 : 1 ≤ L.routes.length := hL.many1
 have hn8 : L.routes.length ≤ 8 := hL.many2
 obtain ⟨ab, ao, hA⟩ : ∃ ab ao, A = some ⟨ab, ao, none⟩ := by
  obtain ⟨b, o, e, _⟩ := hr (by intro h; have := congrArg List.length h; rw [ints_length, zs_length] at this; simp at this; rw [this] at hn1; simp at hn1)
  exact ⟨b, o, e⟩
 subst hA
 have hb1 : Below w.heap.size w (w.alloc (.cells #[I L.secs, .slice (some ⟨ab, ao, none⟩) L.routes.length c, I L.delay] 43)) := (Below.refl _ _).alloc (Nat.le_refl _) _
 have k2 := Has.new w 43 #[I L.secs, .slice (some ⟨ab, ao, none⟩) L.routes.length c, I L.delay]
 have hsz1 : (w.alloc (.cells #[I L.secs, .slice (some ⟨ab, ao, none⟩) L.routes.length c, I L.delay] 43)).heap.size = w.heap.size + 1 := by simp
 have hok := Lib.hid (chk_lay hL)
 have hxz : Hid ((zs L.routes).length = L.routes.length) := Lib.hid (zs_length _)
 go_enter Try.func24, Try.ntmps24
 go_upto_region 1 with fail
 generalize w.alloc (.cells #[I L.secs, .slice (some ⟨ab, ao, none⟩) L.routes.length c, I L.delay] 43) = w1 at *
 generalize hG : w.heap.size = g2 at *
 have HG := Lib.hid hG
 have HR1 := Lib.hid ((hr.below hb1).more (by omega : g2 ≤ w1.heap.size))
 have HB1 := Lib.hid hb1
 have a0 := k2.cellv 0 (I L.secs) rfl
 have a1 := k2.cellv 1 (.slice (some ⟨ab, ao, none⟩) L.routes.length c) rfl
 have a2 := k2.cellv 2 (I L.delay) rfl
 clear hG hr hb1
 go_upto_region 4 with (go_at_call 49; refine (check_ok _ _ _ _ _ (zs L.routes) _ w1.heap.size hxz hn8 hc (Nat.le_refl _) HR1.out hok).mono ?_; rintro e w2 ⟨rfl, hb2⟩)
 have k22 := k2.after hb2
 have HR2 := Lib.hid ((HR1.out.below hb2).more hb2.size)
 have HB2 := Lib.hid (HB1.out.trans (hb2.mono (by omega)))
 have hg22 := k22.lt
 clear k2 hb2 HR1 HB1 hsz1 a0 a1 a2
 go_upto_region 7 with (go_at_call 52; refine (vo_new win hw1 hw2 w2).mono ?_; rintro e w3 ⟨⟨rfl, hvo⟩, hb3⟩)
 have k23 := k22.after hb3
 have HR3 := Lib.hid ((HR2.out.below hb3).more hb3.size)
 have HB3 := Lib.hid (HB2.out.trans (hb3.mono (by omega)))
 have HV3 := Lib.hid hvo
 have hg23 := k23.lt
 have hvl := HV3.out.has.lt
 generalize hVB : w2.heap.size = vb at *
 have hvb : g2 < vb := hg22
 clear k22 hb3 HR2 HB2 hvo hVB hg22
 have d1 := k23.cellv 1 _ rfl
 go_upto_region 8 with (at_builtin; go_loud (refine wpList_append_read rfl (.tmp 24) (.tmp 26) 22 rfl w3.heap.size 3 i0 (.int .i64 0) 1 8 Try.underlying22 hi0 hz0 hz1 hz2 rfl (by decide) _ _ _ rfl (World.ownsRow_lit w3 #[] 0 (Nat.le_refl _) (Nat.zero_le _) rfl) w3.heap.size (some ⟨ab, ao, none⟩) L.routes.length c (ints (zs L.routes)) rfl (fun h => by cases h) (by rw [ints_length, hxz.out, Nat.mul_one]) ?c2 (ints_one _) ?c3 ?c4 ?c5 ?_))
 case c2 => exact HR3.out.alloc (Nat.le_refl _) _
 case c3 => unfold maxLen; omega
 case c4 => omega
 case c5 => simp
 intro v1 w4 hown4 hgrow4
 have hb4 : Below w3.heap.size w3 w4 := ((Below.refl _ _).alloc (Nat.le_refl _) _).grown hgrow4 (by simp) (fun q hq => by simp [Value.ownBlock] at hq; omega)
 have HO4 : Hid (w4.ownsRow 0 3 1 v1 L.routes.length (ints (zs L.routes))) := Lib.hid (by exact own_base (by simpa using hown4) (Nat.zero_le _))
 have k24 := k23.after hb4
 have d1 := k24.cellv 1 _ rfl
 have f1 := k24.free 1
 have HV4 := Lib.hid (HV3.out.after hb4)
 have HB4 := Lib.hid (HB3.out.trans (hb4.mono (by omega)))
 have hg24 := k24.lt
 have KG4 := Lib.hid k24
 clear hown4 hgrow4 HR3 HV3 HB3 k23 hb4 hg23 hvl k24
 obtain ⟨AR, cR, rfl, hcR, _, _, _⟩ := own_read HO4.out
 go_upto_region 8 with fail
 have k25 : Has (w4.setCell ⟨g2, 1, none⟩ (.slice AR L.routes.length cR)) g2 43 #[I L.secs, .slice AR L.routes.length cR, I L.delay] := KG4.out.set 1 _
 have hF : ∀ b, b = g2 → ¬ FV vb (.slice none 0 0) b := fun b e h => by
  rcases h with h | h
  ·omega
  ·simp [Value.ownBlock] at h
 have ht5 : Turned (fun b => b = g2) w4 (w4.setCell ⟨g2, 1, none⟩ (.slice AR L.routes.length cR)) := (Turned.refl _ _).setCell _ _ (.inl rfl)
 have hv5 := HV4.out.turned ht5 (fun b hb e => hF b e hb)
 have HV5 : Hid (VoAt (w4.setCell ⟨g2, 1, none⟩ (.slice AR L.routes.length cR)) g2 vb (.slice none 0 0) (Vo.new win)) := Lib.hid ⟨hv5.has, World.ownsRow_nil _ _ _ _, by omega⟩
 have HO5 : Hid ((w4.setCell ⟨g2, 1, none⟩ (.slice AR L.routes.length cR)).ownsRow 0 3 1 (.slice AR L.routes.length cR) L.routes.length (ints (zs L.routes))) := Lib.hid (own_far HO4.out KG4.out (by decide) _ _)
 have HB5 := Lib.hid (HB4.out.setCell (p := ⟨g2, 1, none⟩) (Nat.le_refl _) (.slice AR L.routes.length cR))
 clear hF ht5 hv5 HV4 HO4 HB4 d1 f1 KG4
 generalize w4.setCell ⟨g2, 1, none⟩ (.slice AR L.routes.length cR) = w5 at *
 have e0 := k25.cellv 0 _ rfl
 have e1 := k25.cellv 1 _ rfl
 have e2 := k25.cellv 2 _ rfl
 have hg5 := k25.lt
 go_upto_region 9 with fail
 have hb6 : Below w5.heap.size w5 (w5.alloc (.cells #[I L.secs, .slice AR L.routes.length cR, I L.delay, .pointer none, .pointer none, .pointer none, .pointer (some ⟨vb, 0, none⟩), .slice none 0 0, I 0] 86)) := (Below.refl _ _).alloc (Nat.le_refl _) _
 have HN0 : Hid (NewAt w g2 w5.heap.size vb (.slice AR L.routes.length cR) L win 0 (fun _ => 0) (fun _ => 0) (w5.alloc (.cells #[I L.secs, .slice AR L.routes.length cR, I L.delay, .pointer none, .pointer none, .pointer none, .pointer (some ⟨vb, 0, none⟩), .slice none 0 0, I 0] 86))) := Lib.hid ⟨Has.new w5 _ _, k25.after hb6, own_after HO5.out hb6, HV5.out.after hb6, fun j hj => by omega, fun i j hi hj => by omega, by omega, HB5.out.trans (hb6.mono (by omega))⟩
 clear hb6 e0 e1 e2 k25 HO5 HV5 HB5 hg24
 generalize w5.alloc (.cells #[I L.secs, .slice AR L.routes.length cR, I L.delay, .pointer none, .pointer none, .pointer none, .pointer (some ⟨vb, 0, none⟩), .slice none 0 0, I 0] 86) = w6 at *
 generalize w5.heap.size = gs at *
 go_wp2_with fail
 go_loopw [33] (fun iv wr => ∃ k : Nat, k ≤ 3 ∧ iv = I k ∧ ∃ rb cb, Hid (NewAt w g2 gs vb (.slice AR L.routes.length cR) L win k rb cb wr)) (fun iv _ => 3 - (intOf iv).toNat)
 case atStart => exact ⟨0, by omega, rfl, _, _, HN0⟩
 case round =>
  clear HN0
  obtain ⟨k, hk, rfl, rb, cb, hnew⟩ := hrel
  by_cases hlt : k < 3
  ·have hk3 := Lib.hid hlt
   have hki : (k : Int) < 3 := by omega
   have HSS : Hid (∀ wx, Below wr.heap.size wr wx → wx.cell? ⟨g2, 0, none⟩ = some (I L.secs) ∧ wx.cell? ⟨g2, 1, none⟩ = some (.slice AR L.routes.length cR) ∧ wx.cell? ⟨g2, 2, none⟩ = some (I L.delay)) := Lib.hid (fun wx hb => newS (hnew.out.2.1.after hb))
   have hgs := hnew.out.1.lt
   have HC := Lib.hid (re_new k hlt AR L.routes.length cR L wr.drew hL (Lib.hid rfl) hcR (by
    obtain ⟨A', c', e, _, _, _, hrd⟩ := own_read hnew.out.2.2.1
    injection e with e1 e2 e3
    rw [e1]
    exact hrd))
   clear hlt hk
   go_upto_region 12 with fail
   refine wp_region_held_drew (S := fun wx => (wx.cell? ⟨g2, 0, none⟩ = some (I L.secs)) ∧ (wx.cell? ⟨g2, 1, none⟩ = some (.slice AR L.routes.length cR)) ∧ (wx.cell? ⟨g2, 2, none⟩ = some (I L.delay))) (by kernel_rfl) (HSS.out wr.drew ((Below.refl _ _).drew)) (fun hHeld => ?_)
   refine wpAnyH_take (i := 0) (oi := { dst := some 37, op := Op.move (Operand.tmp 9), type := 41, pos := "system.go:41", after := #[], guard := none }) (v := .pointer (some ⟨gs, 0, none⟩)) rfl (by kernel_rfl) (by kernel_rfl) (by kernel_rfl) (fun _ _ _ h => h) (Or.inl ⟨by rfl, ?_⟩) hHeld ?_
   ·rintro wx ⟨hs0, hs1, hs2⟩
    go_simp
   simp only [Act.put, List.setIfInBounds_toArray, List.set_cons_zero, List.set_cons_succ]
   refine wpAnyH_take (i := 1) (oi := { dst := some 38, op := Op.move (Operand.tmp 10), type := 3, pos := "system.go:41", after := #[], guard := none }) (v := I k) rfl (by kernel_rfl) (by kernel_rfl) (by kernel_rfl) (fun _ _ _ h => h) (Or.inl ⟨by rfl, ?_⟩) hHeld ?_
   ·rintro wx ⟨hs0, hs1, hs2⟩
    go_simp
   simp only [Act.put, List.setIfInBounds_toArray, List.set_cons_zero, List.set_cons_succ]
   refine wpAnyH_take (i := 2) (oi := { dst := some 39, op := Op.move (Operand.tmp 10), type := 3, pos := "system.go:41", after := #[], guard := none }) (v := I k) rfl (by kernel_rfl) (by kernel_rfl) (by kernel_rfl) (fun _ _ _ h => h) (Or.inl ⟨by rfl, ?_⟩) hHeld ?_
   ·rintro wx ⟨hs0, hs1, hs2⟩
    go_simp
   simp only [Act.put, List.setIfInBounds_toArray, List.set_cons_zero, List.set_cons_succ]
   refine wpAnyH_take (i := 3) (oi := { dst := some 40, op := Op.load 43 (Operand.tmp 2), type := 43, pos := "system.go:41", after := #[], guard := none }) (v := .agg #[I L.secs, .slice AR L.routes.length cR, I L.delay]) rfl (by kernel_rfl) (by kernel_rfl) (by kernel_rfl) (fun _ _ _ h => h) (Or.inl ⟨by rfl, ?_⟩) hHeld ?_
   ·rintro wx ⟨hs0, hs1, hs2⟩
    go_simp
   simp only [Act.put, List.setIfInBounds_toArray, List.set_cons_zero, List.set_cons_succ]
   refine wpAnyH_take (i := 8) (oi := { dst := some 44, op := Op.nilCheck (Operand.tmp 37), type := 0, pos := "system.go:41", after := #[{ on := 0, ground := Ground.data }], guard := none }) (v := .pointer (some ⟨gs, 0, none⟩)) rfl (by kernel_rfl) (by kernel_rfl) (by kernel_rfl) (fun _ _ _ h => h) (Or.inl ⟨by rfl, ?_⟩) hHeld ?_
   ·rintro wx ⟨hs0, hs1, hs2⟩
    go_simp
   simp only [Act.put, List.setIfInBounds_toArray, List.set_cons_zero, List.set_cons_succ]
   refine wpAnyH_take (i := 9) (oi := { dst := some 45, op := Op.fieldAddr 86 (Operand.tmp 44) 1, type := 0, pos := "system.go:41", after := #[{ on := 8, ground := Ground.data }], guard := none }) (v := .pointer (some ⟨gs, 3, none⟩)) rfl (by kernel_rfl) (by kernel_rfl) (by kernel_rfl) (fun _ _ _ h => h) (Or.inl ⟨by rfl, ?_⟩) hHeld ?_
   ·rintro wx ⟨hs0, hs1, hs2⟩
    go_simp
   simp only [Act.put, List.setIfInBounds_toArray, List.set_cons_zero, List.set_cons_succ]
   refine wpAnyH_ready (rs := [4]) (by kernel_rfl) (by simp) (AllReadyH.cons (o := { dst := some 41, op := Op.call { callee := Callee.value (Operand.func 53), args := #[Operand.tmp 39, Operand.tmp 40], argTypes := #[3, 43] }, type := 101, pos := "system.go:41", after := #[{ on := 2, ground := Ground.data }, { on := 3, ground := Ground.data }], guard := none }) rfl (fun K hK => ?_) AllReadyH.nil)
   go_simp
   go_at_call 53; refine HC.out.mono ?_; rintro e wn ⟨⟨gr, gc, hgr, rfl, hr⟩, hbn0⟩; have hbn : Below wr.heap.size wr wn := (show Below wr.heap.size wr wr.drew from (Below.refl _ _).drew).trans hbn0; have HST := Lib.hid (NewAt.step hnew.out hk3.out hgr hr hbn); have HSN := Lib.hid (HSS.out wn hbn); have dk := (hnew.out.1.after hbn).cellv (3 + k) _ (newC_at _ _ _ _ hk3.out); have fk := (hnew.out.1.after hbn).free (3 + k); have HFG := Lib.hid (hnew.out.2.1.after hbn); have HFS := Lib.hid (hnew.out.1.after hbn); clear hgr hr hbn hbn0
   refine hK.out _ _ HSN.out (fun hHeld => ?_)
   clear hK K
   try simp only [Act.put, List.setIfInBounds_toArray, List.set_cons_zero, List.set_cons_succ]
   refine wpAnyH_take (i := 5) (oi := { dst := some 36, op := Op.move (Operand.tmp 41), type := 101, pos := "system.go:41", after := #[{ on := 4, ground := Ground.data }], guard := none }) (v := .tuple #[.pointer (some ⟨gr, 0, none⟩), .nilIface]) rfl (by kernel_rfl) (by kernel_rfl) (by kernel_rfl) (fun _ _ _ h => h) (Or.inl ⟨by rfl, ?_⟩) hHeld ?_
   ·rintro wx ⟨hs0, hs1, hs2⟩
    go_simp
   simp only [Act.put, List.setIfInBounds_toArray, List.set_cons_zero, List.set_cons_succ]
   refine wpAnyH_take (i := 6) (oi := { dst := some 42, op := Op.extract (Operand.tmp 36) 0, type := 81, pos := "system.go:41", after := #[{ on := 5, ground := Ground.data }], guard := none }) (v := .pointer (some ⟨gr, 0, none⟩)) rfl (by kernel_rfl) (by kernel_rfl) (by kernel_rfl) (fun _ _ _ h => h) (Or.inl ⟨by rfl, ?_⟩) hHeld ?_
   ·rintro wx ⟨hs0, hs1, hs2⟩
    go_simp
   simp only [Act.put, List.setIfInBounds_toArray, List.set_cons_zero, List.set_cons_succ]
   refine wpAnyH_take (i := 7) (oi := { dst := some 43, op := Op.extract (Operand.tmp 36) 1, type := 53, pos := "system.go:41", after := #[{ on := 5, ground := Ground.data }, { on := 11, ground := Ground.gcOnly Departure.lateStores }], guard := none }) (v := .nilIface) rfl (by kernel_rfl) (by kernel_rfl) (by kernel_rfl) (fun _ _ _ h => h) (Or.inl ⟨by rfl, ?_⟩) hHeld ?_
   ·rintro wx ⟨hs0, hs1, hs2⟩
    go_simp
   simp only [Act.put, List.setIfInBounds_toArray, List.set_cons_zero, List.set_cons_succ]
   refine wpAnyH_take (i := 10) (oi := { dst := some 46, op := Op.indexAddr 82 (Operand.tmp 45) (Operand.tmp 38), type := 0, pos := "system.go:41", after := #[{ on := 9, ground := Ground.data }, { on := 1, ground := Ground.data }, { on := 0, ground := Ground.phase }, { on := 1, ground := Ground.phase }, { on := 2, ground := Ground.phase }, { on := 3, ground := Ground.phase }, { on := 4, ground := Ground.phase }, { on := 5, ground := Ground.phase }, { on := 6, ground := Ground.phase }, { on := 7, ground := Ground.textOnly Departure.lateStores }], guard := none }) (v := .pointer (some ⟨gs, 3 + k, none⟩)) rfl (by kernel_rfl) (by kernel_rfl) (by kernel_rfl) (fun _ _ _ h => h) (Or.inl ⟨by rfl, ?_⟩) hHeld ?_
   ·rintro wx ⟨hs0, hs1, hs2⟩
    go_simp
   simp only [Act.put, List.setIfInBounds_toArray, List.set_cons_zero, List.set_cons_succ]
   refine wpAnyH_ready (rs := [11]) (by kernel_rfl) (by simp) (AllReadyH.cons (o := { dst := none, op := Op.store 81 (Operand.tmp 46) (Operand.tmp 42), type := 0, pos := "system.go:41", after := #[{ on := 10, ground := Ground.data }, { on := 6, ground := Ground.data }, { on := 4, ground := Ground.chain }, { on := 0, ground := Ground.phase }, { on := 1, ground := Ground.phase }, { on := 2, ground := Ground.phase }, { on := 3, ground := Ground.phase }, { on := 4, ground := Ground.phase }, { on := 5, ground := Ground.phase }, { on := 6, ground := Ground.phase }, { on := 7, ground := Ground.textOnly Departure.lateStores }], guard := none }) rfl (fun K hK => ?_) AllReadyH.nil)
   go_simp
   refine hK.out _ _ (newS (HFG.out.far (HFG.out.ne HFS.out (by decide)) _)) (fun hHeld => ?_)
   clear hK K
   try simp only [Act.put, List.setIfInBounds_toArray, List.set_cons_zero, List.set_cons_succ]
   refine wpAnyH_done (by kernel_rfl) ?_ _
   go_wp2_with fail
   go_roundw
   case rel => exact ⟨k + 1, hk3.out, by rfl, _, _, HST⟩
   case measure => have := hk3.out; simp [intOf]; omega
  ·have hk3 : k = 3 := by omega
   subst hk3
   go_wp2
   go_ret2
   rw [HG.out]
   exact ⟨⟨_, rfl, hnew.out.sy⟩, hnew.out.2.2.2.2.2.2.2⟩
end
end Go.Proofs.Ytdhekhlmdefcnab
namespace Go.Proofs.Ytdhekhlmdefcnab
open Go.RowKit
def taT (t : TypeId) : Bool := t == 47 || t == 80
def Own (p : TypeId → Bool) (w : World) (b : Nat) : Prop := ∃ t cs, Has w b t cs ∧ p t = true
section
variable {p : TypeId → Bool} {w w' : World} {F : Nat → Prop} {B : Nat} {L : Lay} {s : Sys}
theorem Has.apart {g : Nat} {t : TypeId} {cs : Array Value} (h : Has w g t cs) (hF : ∀ b, F b → Own p w b) (hn : p t = false) : ¬ F g := fun hf => by
 obtain ⟨t', cs', h', hm⟩ := hF g hf
 have e : t = t' := by
  unfold Has at h h'
  rw [h] at h'
  injection h' with h'
  injection h' with _ ht
 rw [e, hm] at hn
 cases hn
theorem Has.keepG {g : Nat} {t : TypeId} {cs : Array Value} (h : Has w g t cs) (ht : Turned F w w') (hF : ∀ b, F b → Own p w b) (hn : p t = false) : Has w' g t cs := h.turned ht (h.apart hF hn)
theorem own_keepG {base : Nat} {e : TypeId} {size n : Nat} {v : Value} {xs : List Value} (h : w.ownsRow base e size v n xs) (ht : Turned F w w') (hF : ∀ b, F b → Own p w b) (hn : p e = false) : w'.ownsRow base e size v n xs :=
 own_keep h fun g _ _ hh => (show w'.heap[g]? = w.heap[g]? from (hh.keepG ht hF hn).trans hh.symm)
theorem CoreAt.keepG {gc : Nat} (h : CoreAt w gc L) (ht : Turned F w w') (hF : ∀ b, F b → Own p w b) (h1 : p 93 = false) (h2 : p 3 = false) : CoreAt w' gc L := by
 obtain ⟨vr, vc, a1, a2, a3⟩ := h
 exact ⟨vr, vc, a1.keepG ht hF h1, own_keepG a2 ht hF h2, own_keepG a3 ht hF h2⟩
theorem SyAt.other {x : SyX} (h : SyAt w B x L s) (ht : Turned F w w') (hF : ∀ b, F b → Own taT w b) : SyAt w' B x L s := by
 refine ⟨h.has.keepG ht hF rfl, own_keepG h.routes ht hF rfl, h.n3, fun k hk => ⟨(h.rep k hk).has.keepG ht hF rfl, (h.rep k hk).core.keepG ht hF rfl rfl⟩, h.apart, ⟨h.vo.has.keepG ht hF rfl, own_keepG h.vo.own ht hF rfl, h.vo.low⟩, own_keepG h.way ht hF rfl, h.len, fun i gm v e1 e2 => ?_, h.low, h.lows⟩
 exact (h.bytes i gm v e1 e2).keep fun g cs hh => hh.keepG ht hF rfl
end
def sgL (y : Sight) : List Value := [I y.src, I y.cycle, .bool y.on, I y.c, I y.w]
def sgC (l : List Sight) : List Value := l.flatMap sgL
theorem sgC_length (l : List Sight) : (sgC l).length = l.length * 5 := by
 induction l with
 | nil => rfl
 | cons a l ih => unfold sgC at ih ⊢; rw [List.flatMap_cons, List.length_append, ih]; simp [sgL]; omega
theorem sgC_snoc (l : List Sight) (y : Sight) : sgC (l ++ [y]) = sgC l ++ sgL y := by unfold sgC; simp
theorem sgC_at : ∀ (l : List Sight) (i : Nat) (y : Sight), l[i]? = some y → (sgC l)[i * 5]? = some (I y.src) ∧ (sgC l)[i * 5 + 1]? = some (I y.cycle) ∧ (sgC l)[i * 5 + 2]? = some (.bool y.on) ∧ (sgC l)[i * 5 + 3]? = some (I y.c) ∧ (sgC l)[i * 5 + 4]? = some (I y.w)
 | [], i, _, h => by simp at h
 | a :: l, 0, y, h => by
  have e : a = y := by simpa using h
  subst e
  exact ⟨rfl, rfl, rfl, rfl, rfl⟩
 | a :: l, i + 1, y, h => by
  have ih := sgC_at l i y (by simpa using h)
  have e : sgC (a :: l) = sgL a ++ sgC l := rfl
  rw [e]
  have g : ∀ j, (sgL a ++ sgC l)[(i + 1) * 5 + j]? = (sgC l)[i * 5 + j]? := fun j => by
   rw [List.getElem?_append_right (by simp [sgL]; omega)]
   congr 1
   simp [sgL]
   omega
  have g0 := g 0
  rw [Nat.add_zero, Nat.add_zero] at g0
  rw [g0, g 1, g 2, g 3, g 4]
  exact ih
structure TaX where
 x : SyX
 g : Nat
 vr : Value
 sv : Value
def FA (y : TaX) (b : Nat) : Prop := FS y.x b ∨ b = y.g ∨ y.sv.ownBlock = some b
def taC (y : TaX) (L : Lay) (ℓ : Nat) (f : List (Int × Int)) : Array Value := #[.pointer (some ⟨y.x.g, 0, none⟩), I L.secs, y.vr, I L.delay, I ℓ, I (f.getD 0 (0, 0)).1, I (f.getD 0 (0, 0)).2, I (f.getD 1 (0, 0)).1, I (f.getD 1 (0, 0)).2, I (f.getD 2 (0, 0)).1, I (f.getD 2 (0, 0)).2, y.sv]
structure TaAt (w : World) (B : Nat) (y : TaX) (L : Lay) (ℓ : Nat) (Ta : Tale) : Prop where
 has : Has w y.g 47 (taC y L ℓ Ta.fields)
 sys : SyAt w B y.x L Ta.s
 routes : w.ownsRow 0 3 1 y.vr L.routes.length (ints (zs L.routes))
 seen : w.ownsRow B 80 5 y.sv Ta.seen.length (sgC Ta.seen)
 nf : Ta.fields.length = 3
 low : B ≤ y.g
 hB : B ≤ w.heap.size
structure AMoved (w w' : World) (y y' : TaX) : Prop where
 turned : Turned (FA y) w w'
 blocks : ∀ b, FA y' b → FA y b ∨ w.heap.size ≤ b
 same : y'.g = y.g
 samex : y'.x.g = y.x.g
section
variable {w w' w1 : World} {B : Nat} {y y' : TaX} {L : Lay} {ℓ : Nat} {Ta : Tale} {s' : Sys} {T : Nat}
theorem AMoved.refl (w : World) (y : TaX) : AMoved w w y y := ⟨Turned.refl _ _, fun _ h => .inl h, rfl, rfl⟩
theorem AMoved.of_below (h : Below w.heap.size w w') : AMoved w w' y y := ⟨Turned.of_below h _, fun _ h => .inl h, rfl, rfl⟩
theorem AMoved.trans {y1 y2 : TaX} (h : AMoved w w1 y y1) (h' : AMoved w1 w' y1 y2) : AMoved w w' y y2 := by
 refine ⟨h.turned.trans h'.turned ?_, fun b hb => ?_, h'.same.trans h.same, h'.samex.trans h.samex⟩
 ·intro k hk hf
  rcases h.blocks k hf with h1 | h1
  ·exact h1
  ·omega
 ·rcases h'.blocks b hb with h1 | h1
  ·exact h.blocks b h1
  ·exact .inr (Nat.le_trans h.turned.size h1)
theorem TaAt.after (h : TaAt w B y L ℓ Ta) (hb : Below w.heap.size w w') : TaAt w' B y L ℓ Ta :=
 ⟨h.has.after hb, h.sys.after hb, own_after h.routes hb, own_after h.seen hb, h.nf, h.low, Nat.le_trans h.hB hb.size⟩
theorem TaAt.ge (h : TaAt w B y L ℓ Ta) {b : Nat} (hb : FA y b) : B ≤ b := by
 rcases hb with hb | rfl | hb
 ·exact h.sys.ge hb
 ·exact h.low
 ·exact (own_block h.seen hb).1
theorem AMoved.below (m : AMoved w w' y y') (h : TaAt w B y L ℓ Ta) : Below B w w' := m.turned.below (fun _k hk => h.ge hk) h.hB
theorem AMoved.keep {c : Nat} {t : TypeId} {cs : Array Value} (m : AMoved w w' y y') (h : Has w c t cs) (hn : ¬ FA y c) : Has w' c t cs ∧ ¬ FA y' c :=
 ⟨h.turned m.turned hn, fun hf => by
  rcases m.blocks c hf with h1 | h1
  ·exact hn h1
  ·have := h.lt; omega⟩
theorem TaAt.setSys (h : TaAt w B y L ℓ Ta) {x' : SyX} (hs : SyAt w' B x' L s') (hm : Moved w w' y.x x') : TaAt w' B { y with x := x' } L ℓ { Ta with s := s' } ∧ AMoved w w' y { y with x := x' } := by
 have st := h.sys.stay hm
 have hF : ∀ b, FS y.x b → Mut w b := fun b hb => h.sys.mut hb
 refine ⟨⟨?_, hs, own_keepT h.routes hm.turned hF rfl, own_keepT h.seen hm.turned hF rfl, h.nf, h.low, Nat.le_trans h.hB hm.size⟩, ⟨hm.turned.mono fun b _ e => .inl e, fun b hf => ?_, rfl, hm.same⟩⟩
 ·have := st _ _ _ h.has rfl
  unfold taC at this ⊢
  dsimp only
  rw [hm.same]
  exact this
 ·rcases hf with hf | hf
  ·exact (hm.blocks b hf).imp .inl id
  ·exact .inl (.inr hf)
theorem TaAt.fromIn (h : TaAt w B y L ℓ Ta) (hs : SyIn w B y.x L s' w') : ∃ y', TaAt w' B y' L ℓ { Ta with s := s' } ∧ AMoved w w' y y' := by
 obtain ⟨x', h1, h2, h3⟩ := hs
 obtain ⟨h4, h5⟩ := h.setSys h1 h2
 exact ⟨_, h4, h5⟩
theorem TaAt.scell (h : TaAt w B y L ℓ Ta) : w.cell? ⟨y.g, 0, none⟩ = some (.pointer (some ⟨y.x.g, 0, none⟩)) := h.has.cellv 0 _ rfl
theorem TaAt.lcell (h : TaAt w B y L ℓ Ta) : w.cell? ⟨y.g, 4, none⟩ = some (I ℓ) := h.has.cellv 4 _ rfl
theorem TaAt.fcell (h : TaAt w B y L ℓ Ta) {k : Nat} (hk : k < 3) : w.cell? ⟨y.g, 5 + k * 2, none⟩ = some (I (fieldOf Ta k).1) ∧ w.cell? ⟨y.g, 5 + k * 2 + 1, none⟩ = some (I (fieldOf Ta k).2) := by
 have : k = 0 ∨ k = 1 ∨ k = 2 := by omega
 rcases this with rfl | rfl | rfl
 ·exact ⟨h.has.cellv 5 _ rfl, h.has.cellv 6 _ rfl⟩
 ·exact ⟨h.has.cellv 7 _ rfl, h.has.cellv 8 _ rfl⟩
 ·exact ⟨h.has.cellv 9 _ rfl, h.has.cellv 10 _ rfl⟩
theorem TaAt.slice (h : TaAt w B y L ℓ Ta) : ∃ A c, y.sv = .slice A Ta.seen.length c ∧ w.cell? ⟨y.g, 11, none⟩ = some (.slice A Ta.seen.length c) := by
 obtain ⟨A, c, hv, _⟩ := own_read h.seen
 exact ⟨A, c, hv, by rw [← hv]; exact h.has.cellv 11 _ rfl⟩
theorem TaAt.own (h : TaAt w B y L ℓ Ta) : ∀ b, (b = y.g ∨ y.sv.ownBlock = some b) → Own taT w b := fun b e => by
 rcases e with rfl | e
 ·exact ⟨_, _, h.has, rfl⟩
 ·obtain ⟨_, cur, hh⟩ := own_block h.seen e
  exact ⟨_, _, hh, rfl⟩
theorem TaAt.setOwn (h : TaAt w B y L ℓ Ta) {sv' : Value} {f' : List (Int × Int)} {seen' : List Sight} (ht : Turned (fun b => b = y.g ∨ y.sv.ownBlock = some b) w w')
  (hc : Has w' y.g 47 (taC { y with sv := sv' } L ℓ f')) (ho : w'.ownsRow B 80 5 sv' seen'.length (sgC seen')) (hf : f'.length = 3)
  (hb : ∀ b, sv'.ownBlock = some b → y.sv.ownBlock = some b ∨ w.heap.size ≤ b) : TaAt w' B { y with sv := sv' } L ℓ { Ta with fields := f', seen := seen' } ∧ AMoved w w' y { y with sv := sv' } := by
 refine ⟨⟨hc, h.sys.other ht h.own, own_keepG h.routes ht h.own rfl, ho, hf, h.low, Nat.le_trans h.hB ht.size⟩, ⟨ht.mono fun b _ e => .inr e, fun b hf' => ?_, rfl, rfl⟩⟩
 rcases hf' with e | e | e
 ·exact .inl (.inl e)
 ·exact .inl (.inr (.inl e))
 ·exact (hb b e).imp (fun e => .inr (.inr e)) id
theorem fields_3 {f : List (Int × Int)} (h : f.length = 3) : ∃ a b c, f = [a, b, c] := by
 match f, h with
 | [a, b, c], _ => exact ⟨a, b, c, rfl⟩
theorem TaAt.setField (h : TaAt w B y L ℓ Ta) {k : Nat} (hk : k < 3) (a b : Int) :
  TaAt ((w.setCell ⟨y.g, 5 + k * 2, none⟩ (I a)).setCell ⟨y.g, 5 + k * 2 + 1, none⟩ (I b)) B y L ℓ { Ta with fields := Ta.fields.set k (a, b) } ∧ AMoved w ((w.setCell ⟨y.g, 5 + k * 2, none⟩ (I a)).setCell ⟨y.g, 5 + k * 2 + 1, none⟩ (I b)) y y := by
 have ht : Turned (fun b => b = y.g ∨ y.sv.ownBlock = some b) w ((w.setCell ⟨y.g, 5 + k * 2, none⟩ (I a)).setCell ⟨y.g, 5 + k * 2 + 1, none⟩ (I b)) := ((Turned.refl _ _).setCell _ _ (.inl (.inl rfl))).setCell _ _ (.inl (.inl rfl))
 have hh := (h.has.set (5 + k * 2) (I a)).set (5 + k * 2 + 1) (I b)
 have hc : ((taC y L ℓ Ta.fields).setIfInBounds (5 + k * 2) (I a)).setIfInBounds (5 + k * 2 + 1) (I b) = taC { y with sv := y.sv } L ℓ (Ta.fields.set k (a, b)) := by
  obtain ⟨f0, f1, f2, e⟩ := fields_3 h.nf
  rw [e]
  have : k = 0 ∨ k = 1 ∨ k = 2 := by omega
  rcases this with rfl | rfl | rfl <;> rfl
 rw [hc] at hh
 have ho : ((w.setCell ⟨y.g, 5 + k * 2, none⟩ (I a)).setCell ⟨y.g, 5 + k * 2 + 1, none⟩ (I b)).ownsRow B 80 5 y.sv Ta.seen.length (sgC Ta.seen) := by
  have h1 := own_far h.seen h.has (by decide) (5 + k * 2) (I a)
  exact own_far h1 (h.has.set (5 + k * 2) (I a)) (by decide) (5 + k * 2 + 1) (I b)
 exact h.setOwn (sv' := y.sv) (f' := Ta.fields.set k (a, b)) (seen' := Ta.seen) ht hh ho (by rw [List.length_set]; exact h.nf) (fun b hb => .inl hb)
end
end Go.Proofs.Ytdhekhlmdefcnab
namespace Go.Proofs.Ytdhekhlmdefcnab
open Go.RowKit
theorem infoSight : (Try.prog.info? 80).map (fun i => (i.zero, i.size, i.bytes)) = some (some (.agg #[.int .i64 0, .int .i64 0, .bool false, .int .i64 0, .int .i64 0]), 5, 40) := by kernel_rfl
theorem zeroState : stC St.zero = #[I 0, I 0, I 0, I 0, I 0, I 0, I 0, I 0, I 0, I 0, I 0, I 0, I 0, I 0, I 0, I 0, I 0] := rfl
theorem stC_ones (st : St) : (stC st).all (·.oneCell') = true := by
 unfold stC stL
 exact all_oneCell_toArray fun v hv => by
  simp only [List.mem_cons, List.mem_append, ints, List.mem_map] at hv
  rcases hv with rfl | ⟨y, _, rfl⟩ | ⟨y, _, rfl⟩ <;> rfl
section
variable {w w' w1 : World} {B : Nat} {y y' : TaX} {L : Lay} {ℓ : Nat} {Ta : Tale} {s' : Sys} {T : Nat}
def TaPost (w : World) (B : Nat) (y : TaX) (L : Lay) (ℓ : Nat) (Ta' : Tale) (e : Ending) (w' : World) : Prop := e = .returned (.tuple #[]) ∧ ∃ y', TaAt w' B y' L ℓ Ta' ∧ AMoved w w' y y'
set_option maxHeartbeats 4000000 in
set_option maxRecDepth 100000 in
theorem ta_looks (h : TaAt w B y L ℓ Ta) (hf : Fine T Ta.s) (hn : Ta.seen.length ≤ 100000) (k : Nat) (hk : k < 3) (on : Bool) :
  Calls Try.prog 28 #[.pointer (some ⟨y.g, 0, none⟩), I k, .bool on] w (TaPost w B y L ℓ (looks Ta k on)) := by
 obtain ⟨i0, hi0, hz0, hz1, hz2⟩ := info_parts infoSight
 have c0 := h.scell
 have hg := h.has.lt
 have hs17 := stL_17 (hf.fits k hk).state
 have hi2 : (Try.prog.info? 33).map (·.size) = some (stC (re Ta.s k).state).size := by unfold stC; rw [List.size_toArray, hs17]; exact infoState
 have hz : (stC St.zero).size = (stC (re Ta.s k).state).size := by unfold stC; rw [List.size_toArray, List.size_toArray, hs17]; rfl
 have HCL := Lib.hid (sy_replica h.sys hf k hk)
 have HH := Lib.hid h
 have hki : (k : Int) < 3 := by omega
 have HK := Lib.hid hk
 clear h hs17
 go_enter Try.func28, Try.ntmps28
 go_upto_region 2 with (first
  | (go_at_call 17; refine HCL.out.mono ?_; rintro e wR ⟨rfl, hbR⟩; have HBR := Lib.hid hbR; clear hbR)
  | (rw [← zeroState]; refine wpList_store_row rfl 33 (.tmp 7) (.tmp 17) rfl wR.heap.size (stC (re Ta.s k).state) rfl rfl 33 (stC St.zero) (Has.new wR 33 (stC St.zero)) hi2 hz (stC_ones _) ?_))
 have hbS : Below w.heap.size w ((wR.alloc (.cells (stC St.zero) 33)).setRow wR.heap.size (stC (re Ta.s k).state)) := HBR.out.trans ((below_setRow ((Below.refl _ _).alloc (Nat.le_refl _) _) (Nat.le_refl _) _).mono HBR.out.size)
 generalize (wR.alloc (.cells (stC St.zero) 33)).setRow wR.heap.size (stC (re Ta.s k).state) = wS at *
 have HS := Lib.hid (HH.out.after hbS)
 have HBS := Lib.hid hbS
 generalize wR.heap.size = gR at *
 obtain ⟨A, cc, hsv, c11⟩ := HS.out.slice
 obtain ⟨fc1, fc2⟩ := HS.out.fcell HK.out
 have hgS := HS.out.has.lt
 have HSV := Lib.hid hsv
 have ho : Hid (wS.ownsRow B 80 5 (.slice A Ta.seen.length cc) Ta.seen.length (sgC Ta.seen)) := Lib.hid (by have := HS.out.seen; rw [hsv] at this; exact this)
 have hBS : B ≤ wS.heap.size := HS.out.hB
 have hm1 : Ta.seen.length + 1 ≤ maxLen := by unfold maxLen; omega
 have hm2 : (Ta.seen.length + 1) * 40 ≤ 140737488355328 := by omega
 have k1 := HS.out.has
 have HNE : Hid (some y.g ≠ (Value.slice A Ta.seen.length cc).ownBlock) := Lib.hid (fun e => own_has_ne HS.out.seen k1 (by decide) (by rw [hsv]; exact e.symm))
 clear hsv hbS hz hi2 HCL c0 hg HBR
 have HQ : Hid (looks Ta k on = { Ta with fields := Ta.fields, seen := Ta.seen ++ [⟨k, (re Ta.s k).cycle, on, (fieldOf Ta k).1, (fieldOf Ta k).2⟩] }) := Lib.hid rfl
 have HSG : Hid (sgC (Ta.seen ++ [⟨k, (re Ta.s k).cycle, on, (fieldOf Ta k).1, (fieldOf Ta k).2⟩]) = sgC Ta.seen ++ [I k, I ((re Ta.s k).cycle : Int), .bool on, I (fieldOf Ta k).1, I (fieldOf Ta k).2]) := Lib.hid (sgC_snoc _ _)
 generalize (fieldOf Ta k).1 = q1 at *
 generalize (fieldOf Ta k).2 = q2 at *
 generalize (re Ta.s k).cycle = cy at *
 go_region_law ((refine step_append_at rfl _ _ 45 rfl B 80 i0 (.agg #[.int .i64 0, .int .i64 0, .bool false, .int .i64 0, .int .i64 0]) 5 40 Try.underlying45 hi0 hz0 hz1 hz2 rfl (by decide) _ Ta.seen.length _ rfl (World.ownsRow.alloc ho.out _) _ 1 1 _ rfl rfl (cells_new _ _ _) (by intro u hu; simp at hu; rcases hu with rfl | rfl | rfl | rfl | rfl <;> rfl) hm1 hm2 (Nat.le_trans hBS (by simp)) ?_; intro v2 w2 hown2 hgrow2 hloc2; obtain ⟨A2, c2, rfl, hc2, -⟩ := own_read hown2; have k2 : Has w2 y.g 47 (taC y L ℓ Ta.fields) := (k1.alloc _).drew.grown hgrow2 HNE.out; have f27 := k2.free 11; have c27 := k2.cellv 11 y.sv rfl))
 all_goals
  have hg2 : (wS.alloc (.cells #[I k, I (cy : Int), .bool on, I q1, I q2] 80)).drew.grownBy w2 (Value.slice A Ta.seen.length cc).ownBlock := hgrow2
  have ho2 : Hid ((w2.setCell ⟨y.g, 11, none⟩ (.slice A2 (Ta.seen.length + 1) c2)).ownsRow B 80 5 (.slice A2 (Ta.seen.length + 1) c2) (Ta.seen.length + 1) (sgC (Ta.seen ++ [⟨k, cy, on, q1, q2⟩]))) := Lib.hid (own_far (by rw [HSG.out]; exact hown2) k2 (by decide) _ _)
  have hl2 : Hid (∀ b, (Value.slice A2 (Ta.seen.length + 1) c2).ownBlock = some b → y.sv.ownBlock = some b ∨ wS.heap.size ≤ b) := Lib.hid (fun b hb => by
   rw [HSV.out]
   rcases hloc2 with h | h
   ·exact .inl (h ▸ hb)
   ·rw [h] at hb
    injection hb with hb
    exact .inr (by rw [← hb]; simp))
  have ht2 : Hid (Turned (fun b => b = y.g ∨ y.sv.ownBlock = some b) wS (w2.setCell ⟨y.g, 11, none⟩ (.slice A2 (Ta.seen.length + 1) c2))) := Lib.hid (((((Turned.refl _ _).alloc _).drew).grown hg2 (fun q hq => .inl (.inr (by rw [HSV.out]; exact hq)))).setCell _ _ (.inl (.inl rfl)))
  have k3 := Lib.hid (k2.set 11 (.slice A2 (Ta.seen.length + 1) c2))
  clear hgrow2 hloc2 hown2 hg2 f27 c27 k2
  go_wp2_with fail
  go_end0
  obtain ⟨h3, h4⟩ := HS.out.setOwn (sv' := .slice A2 (Ta.seen.length + 1) c2) (f' := Ta.fields) (seen' := Ta.seen ++ [⟨k, cy, on, q1, q2⟩]) ht2.out k3.out (by rw [List.length_append]; exact ho2.out) HS.out.nf hl2.out
  exact ⟨rfl, _, by rw [HQ.out]; exact h3, (AMoved.of_below HBS.out).trans h4⟩
end
end Go.Proofs.Ytdhekhlmdefcnab
