/- Part 9 of the proof: Mx15, Mx16, Mx17. -/
import Derived.Test.YtdhekhlmdefcnaaGreatDoorPart6
import Derived.Conc.WgGenN2
import Derived.Conc.WgGenDone
import Derived.Conc.WgGenWait
namespace Go.Mx
open Go Go.Conc
open Go.RowKit Go.Conc.Lib Go.ConcR.Gen Go.ConcN.Gen
open Go.ConcN (WgLive st_flag st_waiters)
open Go.ConcR (KK wgBlock WgAt stA smA rd wr mk DC0)
section
variable {G : Geo} {P : Program} {Fin : Goroutine → Prop} {L : WgLink}
theorem EBM.walk {tag : MTag} {d n : Nat} {g : Goroutine} {w : World} (h : Conc.Goes P true (Rel G fun _ => False) DC0 (fun g w => EBM G P Fin ⟨tag, d, g, w⟩) n g w) : EBM G P Fin ⟨tag, d, g, w⟩ :=
 EBM.goes (s := ⟨tag, d, g, w⟩) (fun _ _ k => k) h
theorem live_rely {M : Nat → Prop} {w w1 : World} (h : WgLive G.ty G.Wg w) (r : Rel G M w w1) : WgLive G.ty G.Wg w1 := r.live h
theorem live_cell1 {w : World} (h : WgLive G.ty G.Wg w) : ∃ v, w.cell? ⟨G.Wg, 1, none⟩ = some v := let ⟨_, _, h⟩ := h; ⟨_, h.cellSm⟩
theorem EBM.step1 {tag : MTag} {d : Nat} {g : Goroutine} {w : World} (hs : g.status = .running) (h : (stepG P true g w).goes fun g' w' es => g'.status = .running ∧ Same w w' ∧ (∀ e ∈ es, QEv0 G e) ∧ EBM G P Fin ⟨tag, d, g', w'⟩) : ActM G P Fin (EBM G P Fin) ⟨tag, d, g, w⟩ := by
 cases e : stepG P true g w with
 | go g' w' es =>
  rw [e] at h
  exact .quiet e h.1 h.2.1 h.2.2.1 h.2.2.2
 | _ => rw [e] at h; exact h.elim
variable {b₀ : Frame} {a₀ : Act} {ops₀ : Array Oper} {i₀ : Nat} {rest₀ : List Nat} {k₀ : List Item} {cs : List Frame}
set_option maxRecDepth 100000 in
set_option maxHeartbeats 8000000 in
theorem add_M (H : WgLib P L) (hty : G.ty = L.tWg) {r : Nat}
  {F : World → Prop} (hFl : ∀ {w}, F w → WgLive G.ty G.Wg w) (hFr : ∀ {w w1}, F w → Rel G (fun _ => False) w w1 → F w1) (hFs : ∀ {w} v, F w → WgLive G.ty G.Wg (w.setCell (stA G.Wg) v) → F (w.setCell (stA G.Wg) v))
  (hT : ∀ w, F w → EBM G P Fin ⟨.sp (r + 1) true, 0, Conc.G (b₀.at (a₀.put ((ops₀[i₀]?).bind (·.dst)) (.tuple #[])) (.inRegion ops₀ rest₀ :: k₀)) cs, w⟩) (w : World) (hF : F w) :
  EBM G P Fin ⟨.sp (r + 1) false, 0, Conc.G ((base L.add).at { tmps := #[.pointer (some ⟨G.Wg, 0, none⟩), .int .i64 1] ++ Array.replicate ((addFn L).ntmps - 2) undef, defers := [] } [.code (body_add L)]) (b₀.at a₀ (.inRegion ops₀ (i₀ :: rest₀) :: k₀) :: cs), w⟩ := by
 lib_facts
 refine EBM.walk (n := 40) ?_
 simp only [body_add, addFn, Option.getD_some]
 walk_nrm
 u_c stepG_seq hFr hF
 u_cond true hFr hF
 u_c stepG_seq hFr hF
 u_c stepG_seq hFr hF
 u_reg hFr hF
 u_op hFr hF
 u_op hFr hF
 u_c stepG_region_end hFr hF
 u_cond false hFr hF
 u_c stepG_skip hFr hF
 u_c stepG_seq hFr hF
 u_reg hFr hF
 refine Goes.stop (fun w₁ h₁ => ?_)
 replace hF := hFr hF h₁
 clear h₁
 refine EBM.act rfl (fun w₂ h₂ => ?_)
 replace hF := hFr hF h₂
 clear h₂
 refine .dis (stepG_mark0 .disable (by simp) rfl rfl (by k_ne) rfl H.f_disable (x_disable_n L) (x_disable_b L) (x_disable_x L) (x_disable_f L)) rfl ?_
 refine EBM.walk (n := 80) ?_
 walk_nrm
 u_c stepG_region_end hFr hF
 u_reg hFr hF
 u_defer hFr hF
 u_c stepG_region_end hFr hF
 u_c stepG_seq hFr hF
 u_reg hFr hF
 u_op hFr hF
 u_c stepG_region_end hFr hF
 u_c stepG_seq hFr hF
 u_c stepG_seq hFr hF
 u_reg hFr hF
 u_bub hFr hF
 u_c stepG_region_end hFr hF
 u_cond false hFr hF
 u_c stepG_skip hFr hF
 u_c stepG_seq hFr hF
 u_reg hFr hF
 u_op hFr hF
 u_op hFr hF
 u_op hFr hF
 u_op hFr hF
 u_op hFr hF
 u_op hFr hF
 u_call H.f_uAdd (nm_uAdd L) uAddFn hFr hF
 u_c stepG_seq hFr hF
 u_reg hFr hF
 u_op hFr hF
 u_c stepG_region_end hFr hF
 u_c stepG_seq hFr hF
 u_reg hFr hF
 u_op hFr hF
 u_op hFr hF
 u_op hFr hF
 u_op hFr hF
 refine Goes.stop (fun w₃ h₃ => ?_)
 replace hF := hFr hF h₃
 clear h₃
 refine EBM.act rfl (fun w₄ h₄ => ?_)
 replace hF := hFr hF h₄
 clear h₄
 refine .add r rfl (fun v hv hw => ?_)
 simp only [hty] at hw
 have e3 : ((base L.add).at ⟨#[], []⟩ [] : Frame).kind = .normal := rfl
 rcases Nat.eq_zero_or_pos v with rfl | hvp
 ·replace hw : WgAt L.tWg G.Wg w₄ 0 0 := by simpa using hw
  have z : (((0 + 1 : Nat) : Int)) * KK = KK := by simp
  rw [z]
  have e0 : IntKind.u64.wrap (0 + 4294967296) = KK := by decide
  refine ⟨_, (stepG_add_atomic rfl rfl (by k_ne) rfl H.f_addU64 (x_addU64_n L) (x_addU64_b L) (x_addU64_x L) .u64 (x_addU64_f L) rfl rfl hw.cellSt (hw.thaw 0)).trans (by rw [e0]; rfl), rfl, ?_⟩
  replace hF := hFs (.int .u64 KK) hF (by rw [hty]; exact ⟨_, _, hw.setSt _⟩)
  clear hw
  simp only [KK] at hF ⊢
  refine EBM.walk (n := 120) ?_
  walk_nrm
  u_op hFr hF
  u_c stepG_region_end hFr hF
  u_c stepG_ret' hFr hF
  u_leave1 H.f_uAdd hFr hF
  u_op hFr hF
  u_c stepG_region_end hFr hF
  u_c stepG_seq hFr hF
  u_c stepG_seq hFr hF
  u_reg hFr hF
  u_op hFr hF
  u_op hFr hF
  u_op hFr hF
  u_op hFr hF
  u_skip hFr hF
  u_skip hFr hF
  u_op hFr hF
  u_c stepG_region_end hFr hF
  u_cond false hFr hF
  u_c stepG_skip hFr hF
  u_c stepG_seq hFr hF
  u_reg hFr hF
  u_op hFr hF
  u_op hFr hF
  u_op hFr hF
  u_op hFr hF
  u_c stepG_region_end hFr hF
  u_c stepG_seq hFr hF
  u_reg hFr hF
  u_op hFr hF
  u_op hFr hF
  u_op hFr hF
  u_op hFr hF
  u_c stepG_region_end hFr hF
  u_c stepG_seq hFr hF
  u_c stepG_seq hFr hF
  u_reg hFr hF
  u_op hFr hF
  u_op hFr hF
  u_op hFr hF
  u_op hFr hF
  u_op hFr hF
  u_op hFr hF
  u_op hFr hF
  u_op hFr hF
  u_op hFr hF
  u_op hFr hF
  u_c stepG_region_end hFr hF
  u_cond true hFr hF
  u_reg hFr hF
  u_op hFr hF
  u_op hFr hF
  u_op hFr hF
  u_conv H.underlying_tPU32 H.room_tU32 (live_cell1 (hFl hF)).choose_spec hFr hF
  refine Goes.stop (fun w₅ h₅ => ?_)
  replace hF := hFr hF h₅
  clear h₅
  refine EBM.act rfl (fun w₆ h₆ => ?_)
  replace hF := hFr hF h₆
  clear h₆
  refine EBM.step1 rfl ?_
  rw [stepG_markAt .read (by simp) rfl rfl (by k_ne) rfl H.f_raceRead (x_raceRead_n L) (x_raceRead_b L) (x_raceRead_x L) (x_raceRead_f L) (ad := ⟨G.Wg, 1, none⟩) (by simp [Act.eval])]
  simp only [goes_go]
  refine ⟨rfl, ⟨rfl, rfl, rfl, rfl⟩, fun e he => ?_, ?_⟩
  ·rw [Array.mem_singleton] at he
   subst he
   exact .inr ⟨_, rfl, .inl rfl⟩
  refine EBM.walk (n := 120) ?_
  walk_nrm
  u_c stepG_region_end hFr hF
  u_c stepG_seq hFr hF
  u_c stepG_seq hFr hF
  u_reg hFr hF
  u_op hFr hF
  u_op hFr hF
  u_c stepG_region_end hFr hF
  u_cond false hFr hF
  u_c stepG_skip hFr hF
  u_c stepG_seq hFr hF
  u_c stepG_seq hFr hF
  u_reg hFr hF
  u_op hFr hF
  u_op hFr hF
  u_op hFr hF
  u_skip hFr hF
  u_skip hFr hF
  u_op hFr hF
  u_op hFr hF
  u_skip hFr hF
  u_skip hFr hF
  u_skip hFr hF
  u_skip hFr hF
  u_op hFr hF
  u_c stepG_region_end hFr hF
  u_cond false hFr hF
  u_c stepG_skip hFr hF
  u_c stepG_seq hFr hF
  u_c stepG_seq hFr hF
  u_reg hFr hF
  u_op hFr hF
  u_op hFr hF
  u_op hFr hF
  u_skip hFr hF
  u_skip hFr hF
  u_op hFr hF
  u_c stepG_region_end hFr hF
  u_cond true hFr hF
  u_c stepG_ret' hFr hF
  refine Goes.stop (fun w₇ h₇ => ?_)
  replace hF := hFr hF h₇
  clear h₇
  refine EBM.act rfl (fun w₈ h₈ => ?_)
  replace hF := hFr hF h₈
  clear h₈
  refine .ena (stepG_unwind_entry (v := .tuple #[]) (evs := #[mk .enable]) rfl H.f_enable (x_enable_n L) (x_enable_b L) (x_enable_x L) (x_enable_f L) (by simp [Extern.Race.none_]) (by simp [mk]) (by simp [mk])) rfl ?_
  refine EBM.walk (n := 120) ?_
  u_leave0 H.f_add hFr hF
  exact Goes.stop (fun w₉ h₉ => hT _ (hFr hF h₉))
 ·obtain ⟨V, hV⟩ : ∃ V : Int, V = (v : Int) + 1 := ⟨_, rfl⟩
  obtain ⟨Z, hZ⟩ : ∃ Z : Int, Z = V * KK := ⟨_, rfl⟩
  have eS : IntKind.u64.wrap ((v : Int) * KK + 4294967296) = Z := by rw [IntKind.wrap_u64, hZ, hV]; simp only [KK]; omega
  rw [show ((v + 1 : Nat) : Int) * KK = Z from by rw [hZ, hV]; simp]
  have a1 : Z / 4294967296 = V := by rw [hZ]; simp only [KK]; omega
  have b1 : bits .and .u64 Z 2147483648 = 0 := by rw [hZ, hV]; have := st_flag (v + 1) 0 (by omega) (by omega); simpa [KK] using this
  have b2 : bits .and .u64 Z 2147483647 = 0 := by rw [hZ, hV]; have := st_waiters (v + 1) 0 (by omega) (by omega); simpa [KK] using this
  have c1 : IntKind.i32.wrap V = V := by rw [IntKind.wrap_i32]; omega
  have hV1 : 1 < V := by omega
  have hV2 : V < 2147483648 := by omega
  have q1 : (V == 1) = false := by simp; omega
  have q2 : decide (V = 1) = false := decide_eq_false (by omega)
  have q3 : decide (V < 0) = false := decide_eq_false (by omega)
  have q4 : decide (0 < V) = true := decide_eq_true (by omega)
  have q5 : (V == 0) = false := by simp; omega
  have q6 : decide (V = 0) = false := decide_eq_false (by omega)
  refine ⟨_, (stepG_add_atomic rfl rfl (by k_ne) rfl H.f_addU64 (x_addU64_n L) (x_addU64_b L) (x_addU64_x L) .u64 (x_addU64_f L) rfl rfl hw.cellSt (hw.thaw 0)).trans (by rw [eS]; rfl), rfl, ?_⟩
  replace hF := hFs (.int .u64 Z) hF (by rw [hty]; exact ⟨_, _, hw.setSt _⟩)
  clear hw hZ hV eS
  refine EBM.walk (n := 120) ?_
  walk_nrm
  u_op hFr hF
  u_c stepG_region_end hFr hF
  u_c stepG_ret' hFr hF
  u_leave1 H.f_uAdd hFr hF
  u_op hFr hF
  u_c stepG_region_end hFr hF
  u_c stepG_seq hFr hF
  u_c stepG_seq hFr hF
  u_reg hFr hF
  u_op hFr hF
  u_op hFr hF
  u_op hFr hF
  u_op hFr hF
  u_skip hFr hF
  u_skip hFr hF
  u_op hFr hF
  u_c stepG_region_end hFr hF
  u_cond false hFr hF
  u_c stepG_skip hFr hF
  u_c stepG_seq hFr hF
  u_reg hFr hF
  u_op hFr hF
  u_op hFr hF
  u_op hFr hF
  u_op hFr hF
  u_c stepG_region_end hFr hF
  u_c stepG_seq hFr hF
  u_reg hFr hF
  u_op hFr hF
  u_op hFr hF
  u_op hFr hF
  u_op hFr hF
  u_c stepG_region_end hFr hF
  u_c stepG_seq hFr hF
  u_c stepG_seq hFr hF
  u_reg hFr hF
  u_op hFr hF
  u_op hFr hF
  u_op hFr hF
  u_op hFr hF
  u_op hFr hF
  u_op hFr hF
  u_op hFr hF
  u_op hFr hF
  u_op hFr hF
  u_op hFr hF
  u_c stepG_region_end hFr hF
  u_cond false hFr hF
  u_c stepG_skip hFr hF
  u_c stepG_seq hFr hF
  u_c stepG_seq hFr hF
  u_reg hFr hF
  u_op hFr hF
  u_op hFr hF
  u_c stepG_region_end hFr hF
  u_cond false hFr hF
  u_c stepG_skip hFr hF
  u_c stepG_seq hFr hF
  u_c stepG_seq hFr hF
  u_reg hFr hF
  u_op hFr hF
  u_op hFr hF
  u_op hFr hF
  u_skip hFr hF
  u_skip hFr hF
  u_op hFr hF
  u_op hFr hF
  u_skip hFr hF
  u_skip hFr hF
  u_skip hFr hF
  u_skip hFr hF
  u_op hFr hF
  u_c stepG_region_end hFr hF
  u_cond false hFr hF
  u_c stepG_skip hFr hF
  u_c stepG_seq hFr hF
  u_c stepG_seq hFr hF
  u_reg hFr hF
  u_op hFr hF
  u_op hFr hF
  u_op hFr hF
  u_skip hFr hF
  u_skip hFr hF
  u_op hFr hF
  u_c stepG_region_end hFr hF
  u_cond true hFr hF
  u_c stepG_ret' hFr hF
  refine Goes.stop (fun w₇ h₇ => ?_)
  replace hF := hFr hF h₇
  clear h₇
  refine EBM.act rfl (fun w₈ h₈ => ?_)
  replace hF := hFr hF h₈
  clear h₈
  refine .ena (stepG_unwind_entry (v := .tuple #[]) (evs := #[mk .enable]) rfl H.f_enable (x_enable_n L) (x_enable_b L) (x_enable_x L) (x_enable_f L) (by simp [Extern.Race.none_]) (by simp [mk]) (by simp [mk])) rfl ?_
  refine EBM.walk (n := 120) ?_
  u_leave0 H.f_add hFr hF
  exact Goes.stop (fun w₉ h₉ => hT _ (hFr hF h₉))
--END
end
end Go.Mx
namespace Go.Mx
open Go Go.Conc
open Go.RowKit Go.Conc.Lib Go.ConcR.Gen Go.ConcN.Gen
open Go.ConcN (WgLive st_flag st_waiters)
open Go.ConcR (KK wgBlock WgAt stA smA rd wr mk DC0)
section
variable {G : Geo} {P : Program} {L : WgLink} {M H₀ X₀ : Nat → Prop} {κ : Nat}
theorem EBW.walk {p : Ph} (hp : p ≠ .out) {n : Nat} {g : Goroutine} {w : World} (h : Conc.Goes P false (Rel G M) DC0 (fun g w => EBW G P ⟨p, g, w, M, H₀, X₀, κ⟩) n g w) : EBW G P ⟨p, g, w, M, H₀, X₀, κ⟩ :=
 EBW.goes (s := ⟨p, g, w, M, H₀, X₀, κ⟩) hp (fun _ _ k => k) h
theorem live_cell0 {w : World} (h : WgLive G.ty G.Wg w) : ∃ v, w.cell? ⟨G.Wg, 0, none⟩ = some v := let ⟨_, _, h⟩ := h; ⟨_, h.cellSt⟩
theorem QuitsD.more {n d : Nat} {g : Goroutine} (h : QuitsD P n d g) : QuitsD P (n + 1) d g := by
 induction n generalizing d g with
 | zero => exact .inl h
 | succ n ih => exact h.imp id fun ⟨h1, g', es, h2, h3, h4⟩ => ⟨h1, g', es, h2, h3, ih h4⟩
theorem QuitsD.up {n d : Nat} {g : Goroutine} (h : QuitsD P n d g) : ∀ k, QuitsD P (n + k) d g
 | 0 => h
 | k + 1 => Mx.QuitsD.more (Mx.QuitsD.up h k)
set_option maxRecDepth 100000 in
set_option maxHeartbeats 16000000 in
theorem done_W (H : WgLib P L) (hty : G.ty = L.tWg) {c : Frame} {cs : List Frame} {qt : Nat} (hcm : c.mode = .returning) (hT : QuitsD P qt 0 (Conc.G c cs)) (hHX : ∀ i, H₀ i → X₀ i) (w : World) (hF : WgLive G.ty G.Wg w) :
  EBW G P ⟨.shut, Conc.G ((baseD L.done).at { tmps := #[.pointer (some ⟨G.Wg, 0, none⟩)] ++ Array.replicate ((doneFn L).ntmps - 1) undef, defers := [] } [.code (body_done L)]) (c :: cs), w, M, H₀, X₀, κ⟩ := by
 lib_facts
 refine EBW.walk (by simp) (n := 60) ?_
 simp only [body_done, body_add, doneFn, addFn, Option.getD_some]
 walk_nrm
 u_reg live_rely hF
 u_op live_rely hF
 u_in live_rely hF
 refine goes_call rfl rfl (by k_ne) rfl H.f_add (nm_add L) rfl ⟨by u_nil, ?_⟩
 walk_nrmf addFn
 u_c stepG_seq live_rely hF
 u_cond true live_rely hF
 u_c stepG_seq live_rely hF
 u_c stepG_seq live_rely hF
 u_reg live_rely hF
 u_op live_rely hF
 u_op live_rely hF
 u_c stepG_region_end live_rely hF
 u_cond true live_rely hF
 u_reg live_rely hF
 u_op live_rely hF
 u_conv H.underlying_tWgP H.room_tWg (live_cell0 hF).choose_spec live_rely hF
 refine Goes.stop (fun w₁ h₁ => ?_)
 replace hF := live_rely hF h₁
 clear h₁
 refine EBW.act rfl (fun w₂ h₂ => ?_)
 replace hF := live_rely hF h₂
 clear h₂
 refine .rel rfl hHX (stepG_markAt .releaseMerge (by simp) rfl rfl (by k_ne) rfl H.f_relMerge (x_relMerge_n L) (x_relMerge_b L) (x_relMerge_x L) (x_relMerge_f L) (by simp [Act.eval, stA])) rfl ?_
 refine EBW.walk (by simp) (n := 60) ?_
 walk_nrm
 u_c stepG_region_end live_rely hF
 u_c stepG_seq live_rely hF
 u_reg live_rely hF
 refine Goes.stop (fun w₁ h₁ => ?_)
 replace hF := live_rely hF h₁
 clear h₁
 refine EBW.act rfl (fun w₂ h₂ => ?_)
 replace hF := live_rely hF h₂
 clear h₂
 refine .dis rfl (stepG_mark0 .disable (by simp) rfl rfl (by k_ne) rfl H.f_disable (x_disable_n L) (x_disable_b L) (x_disable_x L) (x_disable_f L)) rfl ?_
 refine EBW.walk (by simp) (n := 80) ?_
 walk_nrm
 u_c stepG_region_end live_rely hF
 u_reg live_rely hF
 u_defer live_rely hF
 u_c stepG_region_end live_rely hF
 u_c stepG_seq live_rely hF
 u_reg live_rely hF
 u_op live_rely hF
 u_c stepG_region_end live_rely hF
 u_c stepG_seq live_rely hF
 u_c stepG_seq live_rely hF
 u_reg live_rely hF
 u_bub live_rely hF
 u_c stepG_region_end live_rely hF
 u_cond false live_rely hF
 u_c stepG_skip live_rely hF
 u_c stepG_seq live_rely hF
 u_reg live_rely hF
 u_op live_rely hF
 u_op live_rely hF
 u_op live_rely hF
 u_op live_rely hF
 u_op live_rely hF
 u_op live_rely hF
 u_call H.f_uAdd (nm_uAdd L) uAddFn live_rely hF
 u_c stepG_seq live_rely hF
 u_reg live_rely hF
 u_op live_rely hF
 u_c stepG_region_end live_rely hF
 u_c stepG_seq live_rely hF
 u_reg live_rely hF
 u_op live_rely hF
 u_op live_rely hF
 u_op live_rely hF
 u_op live_rely hF
 refine Goes.stop (fun w₃ h₃ => ?_)
 replace hF := live_rely hF h₃
 clear h₃
 refine EBW.act rfl (fun w₄ h₄ => ?_)
 clear h₄ hF
 refine .d1 rfl (fun v wt hwt hv hw => ?_)
 simp only [hty] at hw
 obtain ⟨Z, hZ⟩ : ∃ Z : Int, Z = (v : Int) * KK + (wt : Int) := ⟨_, rfl⟩
 have eS : IntKind.u64.wrap (((v + 1 : Nat) : Int) * KK + (wt : Int) + 18446744069414584320) = Z := by rw [IntKind.wrap_u64, hZ]; simp only [KK]; omega
 rw [← hZ]
 refine ⟨_, (stepG_add_atomic rfl rfl (by k_ne) rfl H.f_addU64 (x_addU64_n L) (x_addU64_b L) (x_addU64_x L) .u64 (x_addU64_f L) rfl rfl hw.cellSt (hw.thaw 0)).trans (by rw [eS]; rfl), fun hv1 => ⟨rfl, ?_⟩, fun hv1 => ?_⟩
 ·obtain ⟨rfl, rfl⟩ := hv1
  obtain rfl : Z = 1 := by rw [hZ]; simp
  have hF : WgLive G.ty G.Wg (w₄.setCell (stA G.Wg) (.int .u64 1)) := by rw [hty]; exact ⟨_, _, hw.setSt _⟩
  clear hw hZ eS hv hwt
  refine EBW.walk (by simp) (n := 160) ?_
  walk_nrm
  u_op live_rely hF
  u_c stepG_region_end live_rely hF
  u_c stepG_ret' live_rely hF
  u_leave1 H.f_uAdd live_rely hF
  u_op live_rely hF
  u_c stepG_region_end live_rely hF
  u_c stepG_seq live_rely hF
  u_c stepG_seq live_rely hF
  u_reg live_rely hF
  u_op live_rely hF
  u_op live_rely hF
  u_op live_rely hF
  u_op live_rely hF
  u_skip live_rely hF
  u_skip live_rely hF
  u_op live_rely hF
  u_c stepG_region_end live_rely hF
  u_cond false live_rely hF
  u_c stepG_skip live_rely hF
  u_c stepG_seq live_rely hF
  u_reg live_rely hF
  u_op live_rely hF
  u_op live_rely hF
  u_op live_rely hF
  u_op live_rely hF
  u_c stepG_region_end live_rely hF
  u_c stepG_seq live_rely hF
  u_reg live_rely hF
  u_op live_rely hF
  u_op live_rely hF
  u_op live_rely hF
  u_op live_rely hF
  u_c stepG_region_end live_rely hF
  u_c stepG_seq live_rely hF
  u_c stepG_seq live_rely hF
  u_reg live_rely hF
  u_op live_rely hF
  u_op live_rely hF
  u_op live_rely hF
  u_op live_rely hF
  u_op live_rely hF
  u_skip live_rely hF
  u_skip live_rely hF
  u_skip live_rely hF
  u_skip live_rely hF
  u_op live_rely hF
  u_c stepG_region_end live_rely hF
  u_cond false live_rely hF
  u_c stepG_skip live_rely hF
  u_c stepG_seq live_rely hF
  u_c stepG_seq live_rely hF
  u_reg live_rely hF
  u_op live_rely hF
  u_op live_rely hF
  u_c stepG_region_end live_rely hF
  u_cond false live_rely hF
  u_c stepG_skip live_rely hF
  u_c stepG_seq live_rely hF
  u_c stepG_seq live_rely hF
  u_reg live_rely hF
  u_op live_rely hF
  u_op live_rely hF
  u_op live_rely hF
  u_op live_rely hF
  u_op live_rely hF
  u_op live_rely hF
  u_op live_rely hF
  u_skip live_rely hF
  u_skip live_rely hF
  u_skip live_rely hF
  u_skip live_rely hF
  u_op live_rely hF
  u_c stepG_region_end live_rely hF
  u_cond false live_rely hF
  u_c stepG_skip live_rely hF
  u_c stepG_seq live_rely hF
  u_c stepG_seq live_rely hF
  u_reg live_rely hF
  u_op live_rely hF
  u_op live_rely hF
  u_op live_rely hF
  u_op live_rely hF
  u_op live_rely hF
  u_op live_rely hF
  u_c stepG_region_end live_rely hF
  u_cond false live_rely hF
  u_c stepG_skip live_rely hF
  u_c stepG_seq live_rely hF
  u_c stepG_seq live_rely hF
  u_reg live_rely hF
  u_op live_rely hF
  u_op live_rely hF
  u_op live_rely hF
  u_call H.f_uLoad (nm_uLoad L) uLoadFn live_rely hF
  u_c stepG_seq live_rely hF
  u_reg live_rely hF
  u_op live_rely hF
  u_c stepG_region_end live_rely hF
  u_c stepG_seq live_rely hF
  u_reg live_rely hF
  u_op live_rely hF
  u_op live_rely hF
  u_op live_rely hF
  refine Goes.stop (fun w₁ h₁ => ?_)
  replace hF := live_rely hF h₁
  clear h₁
  refine EBW.act rfl (fun w₂ h₂ => ?_)
  replace hF := live_rely hF h₂
  clear h₂
  refine .d2 rfl (fun hw => ?_)
  simp only [hty] at hw
  refine ⟨_, stepG_load_atomic (v := 1) rfl rfl (by k_ne) rfl H.f_loadU64 (x_loadU64_n L) (x_loadU64_b L) (x_loadU64_x L) .u64 (x_loadU64_f L) rfl hw.cellSt, rfl, ?_⟩
  clear hw
  refine EBW.walk (by simp) (n := 160) ?_
  walk_nrm
  u_op live_rely hF
  u_c stepG_region_end live_rely hF
  u_c stepG_ret' live_rely hF
  u_leave1 H.f_uLoad live_rely hF
  u_op live_rely hF
  u_op live_rely hF
  u_c stepG_region_end live_rely hF
  u_cond false live_rely hF
  u_c stepG_skip live_rely hF
  u_c stepG_seq live_rely hF
  u_reg live_rely hF
  u_op live_rely hF
  u_op live_rely hF
  u_op live_rely hF
  u_call H.f_uStore (nm_uStore L) uStoreFn live_rely hF
  u_reg live_rely hF
  u_op live_rely hF
  u_op live_rely hF
  u_op live_rely hF
  u_op live_rely hF
  refine Goes.stop (fun w₃ h₃ => ?_)
  replace hF := live_rely hF h₃
  clear h₃
  refine EBW.act rfl (fun w₄ h₄ => ?_)
  clear h₄ hF
  refine .d3 rfl (fun hw => ?_)
  simp only [hty] at hw
  refine ⟨_, stepG_store_atomic rfl rfl (by k_ne) rfl H.f_storeU64 (x_storeU64_n L) (x_storeU64_b L) (x_storeU64_x L) (x_storeU64_f L) rfl rfl hw.cellSt (hw.thaw 0), rfl, ?_⟩
  have hF : WgLive G.ty G.Wg (w₄.setCell (stA G.Wg) (.int .u64 0)) := by rw [hty]; exact ⟨_, _, hw.setSt _⟩
  clear hw
  refine EBW.walk (by simp) (n := 160) ?_
  walk_nrm
  u_c stepG_region_end live_rely hF
  u_c stepG_end live_rely hF
  u_leave0 H.f_uStore live_rely hF
  u_c stepG_region_end live_rely hF
  u_c stepG_seq live_rely hF
  u_c stepG_seq live_rely hF
  u_reg live_rely hF
  u_op live_rely hF
  u_c stepG_region_end live_rely hF
  u_cond false live_rely hF
  u_c stepG_skip live_rely hF
  u_c stepG_block live_rely hF
  u_c stepG_loop live_rely hF
  u_c stepG_seq live_rely hF
  u_c stepG_seq live_rely hF
  u_reg live_rely hF
  u_op live_rely hF
  u_op live_rely hF
  u_c stepG_region_end live_rely hF
  u_cond true live_rely hF
  u_c stepG_skip live_rely hF
  u_c stepG_seq live_rely hF
  u_c stepG_block live_rely hF
  u_reg live_rely hF
  u_op live_rely hF
  u_op live_rely hF
  u_op live_rely hF
  refine Goes.stop (fun w₁ h₁ => ?_)
  clear h₁ hF
  refine EBW.act rfl (fun w₂ h₂ => ?_)
  clear h₂
  refine .d4 rfl (mayWake_entry rfl rfl H.f_semrelease (x_semrelease_b L)) (fun hw => ?_)
  simp only [hty] at hw
  refine ⟨_, (stepG_semrelease (n := 0) rfl rfl (by k_ne) rfl H.f_semrelease (x_semrelease_n L) (x_semrelease_b L) (x_semrelease_x L) (x_semrelease_f L) (by simp [Act.eval, smA]) hw.cellSm (hw.thaw 1)).trans (by rfl), ?_⟩
  clear hw
  refine ⟨qt + 40, ?_⟩
  walk_nrm
  q_c stepG_region_end
  q_c stepG_inBlock
  q_reg
  (refine QuitsD.value ?_ rfl rfl (by k_ne) (fun w => ?_) (fun w => ?_) ?_; rotate_left; (go_simp; (try w_num); rfl); (simp [go_sem, *]); walk_nrm)
  (refine QuitsD.value ?_ rfl rfl (by k_ne) (fun w => ?_) (fun w => ?_) ?_; rotate_left; (go_simp; (try w_num); rfl); (simp [go_sem, *]); walk_nrm)
  (refine QuitsD.value ?_ rfl rfl (by k_ne) (fun w => ?_) (fun w => ?_) ?_; rotate_left; (go_simp; (try w_num); rfl); (simp [go_sem, *]); walk_nrm)
  q_c stepG_region_end
  q_c stepG_inLoop
  q_c stepG_seq
  q_c stepG_seq
  q_reg
  (refine QuitsD.value ?_ rfl rfl (by k_ne) (fun w => ?_) (fun w => ?_) ?_; rotate_left; (go_simp; (try w_num); rfl); (simp [go_sem, *]); walk_nrm)
  (refine QuitsD.value ?_ rfl rfl (by k_ne) (fun w => ?_) (fun w => ?_) ?_; rotate_left; (go_simp; (try w_num); rfl); (simp [go_sem, *]); walk_nrm)
  q_c stepG_region_end
  q_cond false
  q_exit
  q_c stepG_end
  q_enable
  q_leave0 H.f_add
  q_c stepG_region_end
  q_c stepG_end
  exact QuitsD.leaveD rfl rfl H.f_done rfl hcm (QuitsD.up hT _)
 ·have a1 : Z / 4294967296 = (v : Int) := by rw [hZ]; simp only [KK]; omega
  have a2 : 0 ≤ Z ∧ Z < 9223372036854775808 := by rw [hZ]; simp only [KK]; omega
  have b1 : bits .and .u64 Z 2147483648 = 0 := by rw [hZ]; have := st_flag v wt (by omega) (by omega); simpa [KK] using this
  have b2 : bits .and .u64 Z 2147483647 = (wt : Int) := by rw [hZ]; have := st_waiters v wt (by omega) (by omega); simpa [KK] using this
  clear hw eS
  refine ⟨qt + 120, ?_⟩
  rcases Nat.eq_zero_or_pos v with rfl | hvp <;> (obtain rfl | rfl : wt = 0 ∨ wt = 1 := by omega)
  ·obtain rfl : Z = 0 := by rw [hZ]; simp
   clear hZ a1 a2 b1 b2
   walk_nrm
   q_val (.int .u64 0)
   q_c stepG_region_end
   q_c stepG_ret'
   q_leave1 H.f_uAdd
   q_val (.int .u64 0)
   q_c stepG_region_end
   q_c stepG_seq
   q_c stepG_seq
   q_reg
   q_val (.int .u64 0)
   q_val (.int .u64 0)
   q_val (.bool false)
   q_val (.bool false)
   q_skip
   q_skip
   q_val (.bool false)
   q_c stepG_region_end
   q_cond false
   q_c stepG_skip
   q_c stepG_seq
   q_reg
   q_val (.int .u64 0)
   q_val (.int .u64 0)
   q_val (.int .i32 0)
   q_val (.int .i32 0)
   q_c stepG_region_end
   q_c stepG_seq
   q_reg
   q_val (.int .u64 0)
   q_val (.int .u64 0)
   q_val (.int .u32 0)
   q_val (.int .u32 0)
   q_c stepG_region_end
   q_c stepG_seq
   q_c stepG_seq
   q_reg
   q_val (.bool true)
   q_val (.int .i64 (-1))
   q_val (.bool false)
   q_val (.bool false)
   q_val (.bool false)
   q_skip
   q_skip
   q_skip
   q_skip
   q_val (.bool false)
   q_c stepG_region_end
   q_cond false
   q_c stepG_skip
   q_c stepG_seq
   q_c stepG_seq
   q_reg
   q_val (.int .i32 0)
   q_val (.bool false)
   q_c stepG_region_end
   q_cond false
   q_c stepG_skip
   q_c stepG_seq
   q_c stepG_seq
   q_reg
   q_val (.int .u32 0)
   q_val (.bool false)
   q_val (.bool false)
   q_skip
   q_skip
   q_val (.bool false)
   q_val (.bool false)
   q_skip
   q_skip
   q_skip
   q_skip
   q_val (.bool false)
   q_c stepG_region_end
   q_cond false
   q_c stepG_skip
   q_c stepG_seq
   q_c stepG_seq
   q_reg
   q_val (.int .i32 0)
   q_val (.bool false)
   q_val (.bool false)
   q_val (.int .u32 0)
   q_val (.bool true)
   q_val (.bool true)
   q_c stepG_region_end
   q_cond true
   q_c stepG_ret'
   q_enable
   q_leave0 H.f_add
   q_c stepG_region_end
   q_c stepG_end
   exact QuitsD.leaveD rfl rfl H.f_done rfl hcm (QuitsD.up hT _)
  ·exact absurd ⟨rfl, rfl⟩ hv1
  ·clear hZ
   replace b2 : bits .and .u64 Z 2147483647 = 0 := b2
   walk_nrm
   q_vn (.int .u64 Z)
   q_c stepG_region_end
   q_c stepG_ret'
   q_leave1 H.f_uAdd
   q_vn (.int .u64 Z)
   q_c stepG_region_end
   q_c stepG_seq
   q_c stepG_seq
   q_reg
   q_vn (.int .u64 Z)
   q_vn (.int .u64 0)
   q_vn (.bool false)
   q_vn (.bool false)
   q_skip
   q_skip
   q_vn (.bool false)
   q_c stepG_region_end
   q_cond false
   q_c stepG_skip
   q_c stepG_seq
   q_reg
   q_vn (.int .u64 Z)
   q_vn (.int .u64 (v : Int))
   q_vn (.int .i32 (v : Int))
   q_vn (.int .i32 (v : Int))
   q_c stepG_region_end
   q_c stepG_seq
   q_reg
   q_vn (.int .u64 Z)
   q_vn (.int .u64 0)
   q_vn (.int .u32 0)
   q_vn (.int .u32 0)
   q_c stepG_region_end
   q_c stepG_seq
   q_c stepG_seq
   q_reg
   q_vn (.bool true)
   q_vn (.int .i64 (-1))
   q_vn (.bool false)
   q_vn (.bool false)
   q_vn (.bool false)
   q_skip
   q_skip
   q_skip
   q_skip
   q_vn (.bool false)
   q_c stepG_region_end
   q_cond false
   q_c stepG_skip
   q_c stepG_seq
   q_c stepG_seq
   q_reg
   q_vn (.int .i32 (v : Int))
   q_vn (.bool false)
   q_c stepG_region_end
   q_cond false
   q_c stepG_skip
   q_c stepG_seq
   q_c stepG_seq
   q_reg
   q_vn (.int .u32 0)
   q_vn (.bool false)
   q_vn (.bool false)
   q_skip
   q_skip
   q_vn (.bool false)
   q_vn (.bool false)
   q_skip
   q_skip
   q_skip
   q_skip
   q_vn (.bool false)
   q_c stepG_region_end
   q_cond false
   q_c stepG_skip
   q_c stepG_seq
   q_c stepG_seq
   q_reg
   q_vn (.int .i32 (v : Int))
   q_vn (.bool true)
   q_vn (.bool true)
   q_skip
   q_skip
   q_vn (.bool true)
   q_c stepG_region_end
   q_cond true
   q_c stepG_ret'
   q_enable
   q_leave0 H.f_add
   q_c stepG_region_end
   q_c stepG_end
   exact QuitsD.leaveD rfl rfl H.f_done rfl hcm (QuitsD.up hT _)
  ·clear hZ
   replace b2 : bits .and .u64 Z 2147483647 = 1 := b2
   walk_nrm
   q_vn (.int .u64 Z)
   q_c stepG_region_end
   q_c stepG_ret'
   q_leave1 H.f_uAdd
   q_vn (.int .u64 Z)
   q_c stepG_region_end
   q_c stepG_seq
   q_c stepG_seq
   q_reg
   q_vn (.int .u64 Z)
   q_vn (.int .u64 0)
   q_vn (.bool false)
   q_vn (.bool false)
   q_skip
   q_skip
   q_vn (.bool false)
   q_c stepG_region_end
   q_cond false
   q_c stepG_skip
   q_c stepG_seq
   q_reg
   q_vn (.int .u64 Z)
   q_vn (.int .u64 (v : Int))
   q_vn (.int .i32 (v : Int))
   q_vn (.int .i32 (v : Int))
   q_c stepG_region_end
   q_c stepG_seq
   q_reg
   q_vn (.int .u64 Z)
   q_vn (.int .u64 1)
   q_vn (.int .u32 1)
   q_vn (.int .u32 1)
   q_c stepG_region_end
   q_c stepG_seq
   q_c stepG_seq
   q_reg
   q_vn (.bool true)
   q_vn (.int .i64 (-1))
   q_vn (.bool false)
   q_vn (.bool false)
   q_vn (.bool false)
   q_skip
   q_skip
   q_skip
   q_skip
   q_vn (.bool false)
   q_c stepG_region_end
   q_cond false
   q_c stepG_skip
   q_c stepG_seq
   q_c stepG_seq
   q_reg
   q_vn (.int .i32 (v : Int))
   q_vn (.bool false)
   q_c stepG_region_end
   q_cond false
   q_c stepG_skip
   q_c stepG_seq
   q_c stepG_seq
   q_reg
   q_vn (.int .u32 1)
   q_vn (.bool true)
   q_vn (.bool true)
   q_vn (.int .i64 (-1))
   q_vn (.bool false)
   q_vn (.bool false)
   q_vn (.bool false)
   q_skip
   q_skip
   q_skip
   q_skip
   q_vn (.bool false)
   q_c stepG_region_end
   q_cond false
   q_c stepG_skip
   q_c stepG_seq
   q_c stepG_seq
   q_reg
   q_vn (.int .i32 (v : Int))
   q_vn (.bool true)
   q_vn (.bool true)
   q_skip
   q_skip
   q_vn (.bool true)
   q_c stepG_region_end
   q_cond true
   q_c stepG_ret'
   q_enable
   q_leave0 H.f_add
   q_c stepG_region_end
   q_c stepG_end
   exact QuitsD.leaveD rfl rfl H.f_done rfl hcm (QuitsD.up hT _)
--END
end
end Go.Mx
namespace Go.Mx
open Go Go.Conc
open Go.RowKit Go.Conc.Lib Go.ConcR.Gen Go.ConcN.Gen
open Go.ConcN (WgLive st_flag st_waiters)
open Go.ConcR (KK wgBlock WgAt stA smA rd wr mk DC0)
section
variable {G : Geo} {P : Program} {Fin : Goroutine → Prop} {L : WgLink} {b₀ : Frame} {a₀ : Act} {ops₀ : Array Oper} {i₀ : Nat} {rest₀ : List Nat} {k₀ : List Item} {cs : List Frame}
def FinW (P : Program) (g1 g : Goroutine) : Prop :=
 ∀ (R : World → World → Prop) (Stop : Goroutine → World → Prop) (F : World → Prop), (∀ {w w1}, F w → R w w1 → F w1) → (∀ w, F w → Stop g1 w) → ∀ w, F w → Conc.Goes P true R DC0 Stop 40 g w
set_option maxRecDepth 100000 in
set_option maxHeartbeats 16000000 in
theorem wait_head (H : WgLib P L) (hty : G.ty = L.tWg) (hFin : ∀ g, FinW P (Conc.G (b₀.at (a₀.put ((ops₀[i₀]?).bind (·.dst)) (.tuple #[])) (.inRegion ops₀ rest₀ :: k₀)) cs) g → Fin g) : ∀ (V : Nat) (T : Array Value) (w : World), T.size = 84 → T[0]? = some (.pointer (some ⟨G.Wg, 0, none⟩)) → WgLive G.ty G.Wg w →
  EBM G P Fin ⟨.wa V, 1, Conc.G ((base L.wait).at ⟨T, []⟩ [.code (L7 L), .inLoop (L7 L), .inBlock 0]) (b₀.at a₀ (.inRegion ops₀ (i₀ :: rest₀) :: k₀) :: cs), w⟩ := by
 intro V
 induction V using Nat.strongRecOn with
 | _ V ih =>
  intro T w hT84 t0 hF
  lib_facts
  obtain ⟨v0, v1, v2, v3, v4, v5, v6, v7, v8, v9, v10, v11, v12, v13, v14, v15, v16, v17, v18, v19, v20, v21, v22, v23, v24, v25, v26, v27, v28, v29, v30, v31, v32, v33, v34, v35, v36, v37, v38, v39, v40, v41, v42, v43, v44, v45, v46, v47, v48, v49, v50, v51, v52, v53, v54, v55, v56, v57, v58, v59, v60, v61, v62, v63, v64, v65, v66, v67, v68, v69, v70, v71, v72, v73, v74, v75, v76, v77, v78, v79, v80, v81, v82, v83, rfl⟩ := array84 T hT84
  simp only [List.getElem?_toArray, List.getElem?_cons_zero, Option.some.injEq] at t0
  subst t0
  refine EBM.walk (n := 30) ?_
  simp only [L7, body_wait, waitFn, Option.getD_some]
  u_c stepG_block live_rely hF
  u_c stepG_seq live_rely hF
  u_reg live_rely hF
  u_op live_rely hF
  u_op live_rely hF
  u_op live_rely hF
  u_call H.f_uLoad (nm_uLoad L) uLoadFn live_rely hF
  u_c stepG_seq live_rely hF
  u_reg live_rely hF
  u_op live_rely hF
  u_c stepG_region_end live_rely hF
  u_c stepG_seq live_rely hF
  u_reg live_rely hF
  u_op live_rely hF
  u_op live_rely hF
  u_op live_rely hF
  refine Goes.stop (fun w₁ h₁ => ?_)
  replace hF := live_rely hF h₁
  clear h₁
  refine EBM.act rfl (fun w₂ h₂ => ?_)
  replace hF := live_rely hF h₂
  clear h₂
  refine .w1 V rfl (fun v hvV hv hw => ?_)
  simp only [hty] at hw
  rcases Nat.eq_zero_or_pos v with rfl | hvp
  ·replace hw : WgAt L.tWg G.Wg w₂ 0 0 := by simpa using hw
   refine ⟨_, stepG_load_atomic (v := 0) rfl rfl (by k_ne) rfl H.f_loadU64 (x_loadU64_n L) (x_loadU64_b L) (x_loadU64_x L) .u64 (x_loadU64_f L) rfl hw.cellSt, rfl, fun _ => ?_, fun h => absurd rfl h⟩
   clear hw ih
   refine EBM.walk (n := 90) ?_
   walk_nrm
   u_op live_rely hF
   u_c stepG_region_end live_rely hF
   u_c stepG_ret' live_rely hF
   u_leave1 H.f_uLoad live_rely hF
   u_op live_rely hF
   u_c stepG_region_end live_rely hF
   u_c stepG_seq live_rely hF
   u_reg live_rely hF
   u_op live_rely hF
   u_op live_rely hF
   u_op live_rely hF
   u_op live_rely hF
   u_c stepG_region_end live_rely hF
   u_c stepG_seq live_rely hF
   u_reg live_rely hF
   u_op live_rely hF
   u_op live_rely hF
   u_op live_rely hF
   u_op live_rely hF
   u_c stepG_region_end live_rely hF
   u_c stepG_seq live_rely hF
   u_c stepG_seq live_rely hF
   u_reg live_rely hF
   u_op live_rely hF
   u_op live_rely hF
   u_c stepG_region_end live_rely hF
   u_cond true live_rely hF
   u_c stepG_seq live_rely hF
   u_cond true live_rely hF
   u_c stepG_seq live_rely hF
   u_reg live_rely hF
   refine Goes.stop (fun w₁ h₁ => ?_)
   replace hF := live_rely hF h₁
   clear h₁
   refine EBM.act rfl (fun w₂ h₂ => ?_)
   replace hF := live_rely hF h₂
   clear h₂
   refine .ena (stepG_mark0 .enable (by simp) rfl rfl (by k_ne) rfl H.f_enable (x_enable_n L) (x_enable_b L) (x_enable_x L) (x_enable_f L)) rfl ?_
   refine EBM.walk (n := 90) ?_
   walk_nrm
   u_c stepG_region_end live_rely hF
   u_reg live_rely hF
   u_op live_rely hF
   u_conv H.underlying_tWgP H.room_tWg (live_cell0 hF).choose_spec live_rely hF
   refine Goes.stop (fun w₁ h₁ => ?_)
   replace hF := live_rely hF h₁
   clear h₁
   refine EBM.act rfl (fun w₂ h₂ => ?_)
   replace hF := live_rely hF h₂
   clear h₂
   refine .acq rfl rfl (stepG_markAt .acquire (by simp) rfl rfl (by k_ne) rfl H.f_acquire (x_acquire_n L) (x_acquire_b L) (x_acquire_x L) (x_acquire_f L) (by simp [Act.eval, stA])) rfl (hFin _ ?_)
   clear hF
   intro R Stop F hrel hS w hF
   walk_nrm
   u_c stepG_region_end hrel hF
   u_c stepG_seq hrel hF
   u_c stepG_seq hrel hF
   u_reg hrel hF
   u_op hrel hF
   u_op hrel hF
   u_op hrel hF
   u_op hrel hF
   u_op hrel hF
   u_op hrel hF
   u_op hrel hF
   u_op hrel hF
   u_skip hrel hF
   u_skip hrel hF
   u_op hrel hF
   u_c stepG_region_end hrel hF
   u_cond false hrel hF
   u_c stepG_skip hrel hF
   u_c stepG_ret' hrel hF
   u_leave0 H.f_wait hrel hF
   exact Goes.stop (fun w₁ h₁ => hS _ (hrel hF h₁))
  ·obtain ⟨S, hS⟩ : ∃ S : Int, (v : Int) * KK = S := ⟨_, rfl⟩
   have a1 : S / 4294967296 = (v : Int) := by rw [← hS]; simp only [KK]; omega
   have b1 : bits .and .u64 S 2147483648 = 0 := by rw [← hS]; have := st_flag v 0 (by omega) (by omega); simpa [KK] using this
   have b2 : bits .and .u64 S 2147483647 = 0 := by rw [← hS]; have := st_waiters v 0 (by omega) (by omega); simpa [KK] using this
   have c1 : IntKind.i32.wrap (v : Int) = (v : Int) := by rw [IntKind.wrap_i32]; omega
   have w1 : IntKind.u64.wrap (S + 1) = S + 1 := by rw [IntKind.wrap_u64, ← hS]; simp only [KK]; omega
   have q3 : decide ((v : Int) < 0) = false := decide_eq_false (by omega)
   have q4 : decide (0 < (v : Int)) = true := decide_eq_true (by omega)
   have q5 : ((v : Int) == 0) = false := by simp; omega
   have q6 : decide ((v : Int) = 0) = false := decide_eq_false (by omega)
   rw [hS] at hw
   refine ⟨_, stepG_load_atomic (v := S) rfl rfl (by k_ne) rfl H.f_loadU64 (x_loadU64_n L) (x_loadU64_b L) (x_loadU64_x L) .u64 (x_loadU64_f L) rfl hw.cellSt, rfl, fun h0 => absurd h0 (by omega), fun _ => ?_⟩
   clear hw
   refine EBM.walk (n := 90) ?_
   walk_nrm
   u_op live_rely hF
   u_c stepG_region_end live_rely hF
   u_c stepG_ret' live_rely hF
   u_leave1 H.f_uLoad live_rely hF
   u_op live_rely hF
   u_c stepG_region_end live_rely hF
   u_c stepG_seq live_rely hF
   u_reg live_rely hF
   u_op live_rely hF
   u_op live_rely hF
   u_op live_rely hF
   u_op live_rely hF
   u_c stepG_region_end live_rely hF
   u_c stepG_seq live_rely hF
   u_reg live_rely hF
   u_op live_rely hF
   u_op live_rely hF
   u_op live_rely hF
   u_op live_rely hF
   u_c stepG_region_end live_rely hF
   u_c stepG_seq live_rely hF
   u_c stepG_seq live_rely hF
   u_reg live_rely hF
   u_op live_rely hF
   u_op live_rely hF
   u_c stepG_region_end live_rely hF
   u_cnd false live_rely hF
   u_c stepG_skip live_rely hF
   u_c stepG_seq live_rely hF
   u_reg live_rely hF
   u_op live_rely hF
   u_op live_rely hF
   u_op live_rely hF
   u_op live_rely hF
   u_op live_rely hF
   u_op live_rely hF
   u_call H.f_uCas (nm_uCas L) uCasFn live_rely hF
   u_c stepG_seq live_rely hF
   u_reg live_rely hF
   u_op live_rely hF
   u_c stepG_region_end live_rely hF
   u_c stepG_seq live_rely hF
   u_reg live_rely hF
   u_op live_rely hF
   u_op live_rely hF
   u_op live_rely hF
   u_op live_rely hF
   u_op live_rely hF
   refine Goes.stop (fun w₁ h₁ => ?_)
   replace hF := live_rely hF h₁
   clear h₁
   refine EBM.act rfl (fun w₂ h₂ => ?_)
   replace hF := live_rely hF h₂
   clear h₂
   refine .w2 v rfl (fun v' hv1 hv' hw => ⟨fun e => ?_, fun e => ?_⟩)
   ·subst e
    simp only [hty] at hw
    rw [hS] at hw ⊢
    refine ⟨_, (stepG_cas_hit (v := S) (n := S + 1) rfl rfl (by k_ne) rfl H.f_casU64 (x_casU64_n L) (x_casU64_b L) (x_casU64_x L) .u64 (x_casU64_f L) rfl rfl rfl hw.cellSt (hw.thaw 0)).trans (by rfl), rfl, ?_⟩
    replace hF : WgLive G.ty G.Wg (w₂.setCell (stA G.Wg) (.int .u64 (S + 1))) := by rw [hty]; exact ⟨_, _, hw.setSt _⟩
    clear hw ih
    refine EBM.walk (n := 90) ?_
    walk_nrm
    u_op live_rely hF
    u_c stepG_region_end live_rely hF
    u_c stepG_ret' live_rely hF
    u_leave1 H.f_uCas live_rely hF
    u_c stepG_region_end live_rely hF
    u_cond true live_rely hF
    u_c stepG_seq live_rely hF
    u_c stepG_seq live_rely hF
    u_reg live_rely hF
    u_op live_rely hF
    u_op live_rely hF
    u_op live_rely hF
    u_op live_rely hF
    u_c stepG_region_end live_rely hF
    u_cond true live_rely hF
    u_reg live_rely hF
    u_op live_rely hF
    u_op live_rely hF
    u_op live_rely hF
    u_conv H.underlying_tPU32 H.room_tU32 (live_cell1 hF).choose_spec live_rely hF
    refine Goes.stop (fun w₁ h₁ => ?_)
    replace hF := live_rely hF h₁
    clear h₁
    refine EBM.act rfl (fun w₂ h₂ => ?_)
    replace hF := live_rely hF h₂
    clear h₂
    refine EBM.step1 rfl ?_
    rw [stepG_markAt .write (by simp) rfl rfl (by k_ne) rfl H.f_raceWrite (x_raceWrite_n L) (x_raceWrite_b L) (x_raceWrite_x L) (x_raceWrite_f L) (ad := ⟨G.Wg, 1, none⟩) (by simp [Act.eval] <;> rfl)]
    simp only [goes_go]
    refine ⟨rfl, ⟨rfl, rfl, rfl, rfl⟩, fun ex hex => ?_, ?_⟩
    ·rw [Array.mem_singleton] at hex
     subst hex
     exact .inr ⟨⟨G.Wg, 1, none⟩, rfl, .inr rfl⟩
    refine EBM.walk (n := 90) ?_
    walk_nrm
    u_c stepG_region_end live_rely hF
    u_c stepG_seq live_rely hF
    u_reg live_rely hF
    u_op live_rely hF
    u_c stepG_region_end live_rely hF
    u_c stepG_seq live_rely hF
    u_c stepG_seq live_rely hF
    u_reg live_rely hF
    u_op live_rely hF
    u_op live_rely hF
    u_op live_rely hF
    u_op live_rely hF
    u_skip live_rely hF
    u_op live_rely hF
    u_c stepG_region_end live_rely hF
    u_cond false live_rely hF
    u_c stepG_skip live_rely hF
    u_c stepG_seq live_rely hF
    u_reg live_rely hF
    u_op live_rely hF
    u_op live_rely hF
    u_op live_rely hF
    u_op live_rely hF
    refine Goes.stop (fun w₃ h₃ => ?_)
    replace hF := live_rely hF h₃
    clear h₃
    refine EBM.sema rfl (fun w₄ h₄ => ?_)
    replace hF := live_rely hF h₄
    clear h₄
    refine ⟨rfl, rfl, fun ⟨st, hw⟩ => stepG_semacquire_wait rfl rfl rfl H.f_semacquire (x_semacquire_n L) (x_semacquire_b L) (x_semacquire_x L) (x_semacquire_f L) (by simp [Act.eval, smA]) (hty ▸ hw).cellSm, fun hf => ?_⟩
    simp only [hty] at hf
    refine ⟨_, (stepG_semacquire (n := 1) rfl rfl (by k_ne) rfl H.f_semacquire (x_semacquire_n L) (x_semacquire_b L) (x_semacquire_x L) (x_semacquire_f L) (by simp [Act.eval, smA]) hf.cellSm (by k_ne) (hf.thaw 1)).trans (by rfl), rfl, ?_⟩
    replace hF : WgLive G.ty G.Wg (w₄.setCell (smA G.Wg) (.int .u32 0)) := by rw [hty]; exact ⟨_, _, hf.setSm 0⟩
    clear hf
    refine EBM.walk (n := 90) ?_
    walk_nrm
    u_c stepG_region_end live_rely hF
    u_c stepG_seq live_rely hF
    u_reg live_rely hF
    u_op live_rely hF
    u_op live_rely hF
    u_op live_rely hF
    u_call H.f_uLoad (nm_uLoad L) uLoadFn live_rely hF
    u_c stepG_seq live_rely hF
    u_reg live_rely hF
    u_op live_rely hF
    u_c stepG_region_end live_rely hF
    u_c stepG_seq live_rely hF
    u_reg live_rely hF
    u_op live_rely hF
    u_op live_rely hF
    u_op live_rely hF
    refine Goes.stop (fun w₁ h₁ => ?_)
    replace hF := live_rely hF h₁
    clear h₁
    refine EBM.act rfl (fun w₂ h₂ => ?_)
    replace hF := live_rely hF h₂
    clear h₂
    refine .w4 rfl (fun hw => ?_)
    simp only [hty] at hw
    refine ⟨_, stepG_load_atomic (v := 0) rfl rfl (by k_ne) rfl H.f_loadU64 (x_loadU64_n L) (x_loadU64_b L) (x_loadU64_x L) .u64 (x_loadU64_f L) rfl hw.cellSt, rfl, ?_⟩
    clear hw
    refine EBM.walk (n := 90) ?_
    walk_nrm
    u_op live_rely hF
    u_c stepG_region_end live_rely hF
    u_c stepG_ret' live_rely hF
    u_leave1 H.f_uLoad live_rely hF
    u_op live_rely hF
    u_op live_rely hF
    u_c stepG_region_end live_rely hF
    u_c stepG_seq live_rely hF
    u_cond true live_rely hF
    u_c stepG_seq live_rely hF
    u_reg live_rely hF
    refine Goes.stop (fun w₁ h₁ => ?_)
    replace hF := live_rely hF h₁
    clear h₁
    refine EBM.act rfl (fun w₂ h₂ => ?_)
    replace hF := live_rely hF h₂
    clear h₂
    refine .ena (stepG_mark0 .enable (by simp) rfl rfl (by k_ne) rfl H.f_enable (x_enable_n L) (x_enable_b L) (x_enable_x L) (x_enable_f L)) rfl ?_
    refine EBM.walk (n := 90) ?_
    walk_nrm
    u_c stepG_region_end live_rely hF
    u_reg live_rely hF
    u_op live_rely hF
    u_conv H.underlying_tWgP H.room_tWg (live_cell0 hF).choose_spec live_rely hF
    refine Goes.stop (fun w₁ h₁ => ?_)
    replace hF := live_rely hF h₁
    clear h₁
    refine EBM.act rfl (fun w₂ h₂ => ?_)
    replace hF := live_rely hF h₂
    clear h₂
    refine .acq rfl rfl (stepG_markAt .acquire (by simp) rfl rfl (by k_ne) rfl H.f_acquire (x_acquire_n L) (x_acquire_b L) (x_acquire_x L) (x_acquire_f L) (by simp [Act.eval, stA])) rfl (hFin _ ?_)
    clear hF
    intro R Stop F hrel hS w hF
    walk_nrm
    u_c stepG_region_end hrel hF
    u_c stepG_seq hrel hF
    u_c stepG_seq hrel hF
    u_reg hrel hF
    u_op hrel hF
    u_c stepG_region_end hrel hF
    u_cond false hrel hF
    u_c stepG_skip hrel hF
    u_c stepG_ret' hrel hF
    u_leave0 H.f_wait hrel hF
    exact Goes.stop (fun w₁ h₁ => hS _ (hrel hF h₁))
   ·simp only [hty] at hw
    refine ⟨_, stepG_cas_miss (v := (v' : Int) * KK) (old := S) (n := S + 1) rfl rfl (by k_ne) rfl H.f_casU64 (x_casU64_n L) (x_casU64_b L) (x_casU64_x L) .u64 (x_casU64_f L) rfl rfl rfl hw.cellSt (hw.thaw 0) (by rw [← hS]; simp only [KK]; omega), rfl, ?_⟩
    clear hw
    refine EBM.walk (n := 90) ?_
    walk_nrm
    u_op live_rely hF
    u_c stepG_region_end live_rely hF
    u_c stepG_ret' live_rely hF
    u_leave1 H.f_uCas live_rely hF
    u_c stepG_region_end live_rely hF
    u_cond false live_rely hF
    u_c stepG_skip live_rely hF
    u_c stepG_inBlock live_rely hF
    u_c stepG_inLoop live_rely hF
    refine Goes.stop (fun w₃ h₃ => ?_)
    exact ih v' (by omega) _ _ (by simp) (by simp) (live_rely hF h₃)
set_option maxRecDepth 100000 in
set_option maxHeartbeats 16000000 in
theorem wait_M (H : WgLib P L) (hty : G.ty = L.tWg) (hFin : ∀ g, FinW P (Conc.G (b₀.at (a₀.put ((ops₀[i₀]?).bind (·.dst)) (.tuple #[])) (.inRegion ops₀ rest₀ :: k₀)) cs) g → Fin g) (V : Nat) (w : World) (hF : WgLive G.ty G.Wg w) :
  EBM G P Fin ⟨.wa V, 0, Conc.G ((base L.wait).at { tmps := #[.pointer (some ⟨G.Wg, 0, none⟩)] ++ Array.replicate ((waitFn L).ntmps - 1) undef, defers := [] } [.code (body_wait L)]) (b₀.at a₀ (.inRegion ops₀ (i₀ :: rest₀) :: k₀) :: cs), w⟩ := by
 lib_facts
 refine EBM.walk (n := 30) ?_
 have hh := wait_head (b₀ := b₀) (a₀ := a₀) (ops₀ := ops₀) (i₀ := i₀) (rest₀ := rest₀) (k₀ := k₀) (cs := cs) H hty hFin V
 simp only [L7, body_wait, waitFn, Option.getD_some] at hh ⊢
 walk_nrm
 u_c stepG_seq live_rely hF
 u_cond true live_rely hF
 u_reg live_rely hF
 refine Goes.stop (fun w₁ h₁ => ?_)
 replace hF := live_rely hF h₁
 clear h₁
 refine EBM.act rfl (fun w₂ h₂ => ?_)
 replace hF := live_rely hF h₂
 clear h₂
 refine .dis (stepG_mark0 .disable (by simp) rfl rfl (by k_ne) rfl H.f_disable (x_disable_n L) (x_disable_b L) (x_disable_x L) (x_disable_f L)) rfl ?_
 refine EBM.walk (n := 90) ?_
 walk_nrm
 u_c stepG_region_end live_rely hF
 u_c stepG_block live_rely hF
 u_c stepG_loop live_rely hF
 refine Goes.stop (fun w₃ h₃ => ?_)
 exact hh _ _ (by simp) (by simp) (live_rely hF h₃)
end
end Go.Mx
