/- Part 16 of the proof: CaVote, CaFresh, CaWork, CaSeen. -/
import Derived.Test.YtdhekhlmdefcnabPart15
namespace Go.Proofs.Ytdhekhlmdefcnab
def Came3 (s : Sys) : Prop := ∀ k, k < 3 → (re s k).came.length = 3
theorem reTake_came (L : Lay) (r : Re) (f : List Int) : (reTake L r f).1.came.length = r.came.length := by
 unfold reTake
 dsimp only
 split
 ·exact List.length_set
 ·split
  ·split <;> rfl
  ·split
   ·rfl
   ·split
    ·dsimp only
     split <;> rfl
    ·rfl
theorem fuse_same {r r' : Re} : ∀ n, (∀ j, j < n → r.some.getD j false = r'.some.getD j false ∧ r.seen.getD j (0, 0) = r'.seen.getD j (0, 0)) → fuseTo r n = fuseTo r' n
 | 0, _ => rfl
 | n + 1, h => by
  obtain ⟨h1, h2⟩ := h n (by omega)
  have ih := fuse_same n fun j hj => h j (by omega)
  unfold fuseTo
  rw [h1, h2, ih]
theorem vote_of {L : Lay} {r : Re} {k : Nat} (hid : r.id = k) (hk : k < 3) (hl : r.seen.length = 3 ∧ r.some.length = 3) (x : Nat → Nat × Nat) (hx : x k = fit L r.field)
  (hg : ∀ j, j < 3 → j ≠ k → r.some.getD j false = true ∧ r.seen.getD j (0, 0) = x j ∧ r.came.getD j 0 = r.ticks) :
  (reTick L r).2.2.2 = true ∧ (reTick L r).2.2.1 = frm 2 k r.cycle (((fused ⟨0, 0, St.zero, (0, 0), [x 0, x 1, x 2], [true, true, true], [], [], 0, 0⟩).1 : Nat), ((fused ⟨0, 0, St.zero, (0, 0), [x 0, x 1, x 2], [true, true, true], [], [], 0, 0⟩).2 : Nat), ((step L (fused ⟨0, 0, St.zero, (0, 0), [x 0, x 1, x 2], [true, true, true], [], [], 0, 0⟩).1 (fused ⟨0, 0, St.zero, (0, 0), [x 0, x 1, x 2], [true, true, true], [], [], 0, 0⟩).2 r.state).2 : Nat)) := by
 have hsome : (reTicked L r).some = [true, true, true] := by
  show List.set ((List.range 3).map fun i => r.some.getD i false && decide (r.ticks + 1 < r.came.getD i 0 + 3)) r.id true = _
  rw [hid]
  have at1 : ∀ j, j < 3 → j ≠ k → (r.some.getD j false && decide (r.ticks + 1 < r.came.getD j 0 + 3)) = true := fun j hj hne => by
   obtain ⟨h1, _, h3⟩ := hg j hj hne
   rw [h1, h3]
   simp
  have hr : List.range 3 = [0, 1, 2] := rfl
  rw [hr]
  simp only [List.map_cons, List.map_nil]
  have : k = 0 ∨ k = 1 ∨ k = 2 := by omega
  rcases this with rfl | rfl | rfl
  ·rw [at1 1 (by decide) (by decide), at1 2 (by decide) (by decide)]; rfl
  ·rw [at1 0 (by decide) (by decide), at1 2 (by decide) (by decide)]; rfl
  ·rw [at1 0 (by decide) (by decide), at1 1 (by decide) (by decide)]; rfl
 have hfu : fused (reTicked L r) = fused ⟨0, 0, St.zero, (0, 0), [x 0, x 1, x 2], [true, true, true], [], [], 0, 0⟩ := by
  unfold fused
  refine congrArg _ (fuse_same 3 fun j hj => ?_)
  rw [hsome]
  refine ⟨rfl, ?_⟩
  show (List.set r.seen r.id (fit L r.field)).getD j (0, 0) = _
  have e : (List.getD [x 0, x 1, x 2] j (0, 0)) = x j := by
   have : j = 0 ∨ j = 1 ∨ j = 2 := by omega
   rcases this with rfl | rfl | rfl <;> rfl
  show _ = List.getD [x 0, x 1, x 2] j (0, 0)
  rw [e, hid]
  by_cases hjk : k = j
  ·subst hjk
   rw [getD_set_same (by omega), hx]
  ·rw [getD_set_other hjk]
   exact (hg j hj (Ne.symm hjk)).2.1
 have hm : howMany (reTicked L r).some = 3 := by rw [hsome]; rfl
 unfold reTick
 dsimp only
 rw [hm, if_neg (by omega), if_neg (by omega)]
 refine ⟨rfl, ?_⟩
 dsimp only
 rw [hfu, ← hid]
 rfl
def VIn (_cm : Cm) (_n0 j : Nat) (s : Sys) : Prop := ∃ g ∈ s.way, ∃ f, VoteIn g f ∧ g.src = j
structure Hv (L : Lay) (σ : List Sight) (n0 : Nat) (cm : Cm) (s : Sys) : Prop where
 fl : Fl L σ n0 s
 w : ∀ g ∈ s.way, ∀ f, VoteIn g f → cmOf f = cm ∧ f.getD 2 0 = (n0 : Nat)
 q : s.v.trace.length = n0 → (∀ k, k < 3 → VIn cm n0 k s) ∨ ∃ k, k < 3 ∧ s.v.votes.getD k (Cm.zero, false) = (cm, true) ∧ ∃ j, j < 3 ∧ j ≠ k ∧ VIn cm n0 j s
section
variable {L : Lay} {σ : List Sight} {s s' : Sys} {g : Gram} {q l r : List Gram} {f : List Int} {N n0 k : Nat} {x : Nat → Nat × Nat} {t0 : Nat → Nat} {cm : Cm}
theorem Came3.deliver (h : Came3 s) (h3 : s.rs.length = 3) (hx : Ex s) (i : Nat) : Came3 (deliver L s i) := by
 intro k hk
 cases hw : s.way[i]? with
 | none => rw [deliver_no hw]; exact h k hk
 | some g =>
  have hg : g ∈ s.way := List.mem_of_getElem? hw
  cases hm : msg g with
  | none => rw [deliver_noneI hw hm]; exact h k hk
  | some f =>
   obtain ⟨hs3, hd3, hne⟩ := hx.dst g hg
   by_cases hd : g.dst = 3
   ·have er : (Proofs.Ytdhekhlmdefcnab.deliver L s i).rs = s.rs := by rw [deliver_vI hw hm hd]; exact foldl_all_rs _ _ _ _
    rw [re_rs er]; exact h k hk
   ·have hk3 : g.dst < 3 := by omega
    have er : (Proofs.Ytdhekhlmdefcnab.deliver L s i).rs = s.rs.set g.dst (reTake L (re s g.dst) f).1 := by rw [deliver_rI hw hm hd]; exact foldl_send_rs _ _ _ _
    have hre : re (Proofs.Ytdhekhlmdefcnab.deliver L s i) k = if k = g.dst then (reTake L (re s g.dst) f).1 else re s k := by
     rw [← re_any s h3 hk3 (reTake L (re s g.dst) f).1 s.way k]
     exact re_rs (s' := Proofs.Ytdhekhlmdefcnab.deliver L s i) (s := { s with way := s.way, rs := s.rs.set g.dst (reTake L (re s g.dst) f).1 }) er k
    rw [hre]
    split
    ·rw [reTake_came]; exact h g.dst hk3
    ·exact h k hk
theorem Came3.tick3 (h : Came3 s) (hc : Cal L σ s) : Came3 (tick3 L s) := by
 intro k hk
 rw [re_tick3 hc hk]
 exact set3 (h k hk)
theorem Came3.flows (hL : L.Ok) {ns : Nat} (hns : ns ≤ 700) (n : Nat) (h : Came3 s) (hf : Fl L σ ns s) : Came3 (flows L s n) :=
 (flows_keep (L := L) (I := fun t => Came3 t ∧ Fl L σ ns t) (fun t ht hw => ⟨ht.1.deliver ht.2.cal.ok.three ht.2.cal.ex 0, (ht.2.deliver hL (by omega) (Nat.le_refl _) hw).1⟩) n ⟨h, hf⟩).1
theorem Came3.half (hL : L.Ok) (hn : s.v.trace.length ≤ 700) (h : Came3 s) (hc : Cal L σ s) : Came3 (halfRound L 1200 s) := Came3.flows hL hn 1200 (h.tick3 hc) (fl_tick3 hc)
theorem later_tick3 (L : Lay) (s : Sys) : Later s (tick3 L s) := ((later_tick L s 0).trans (later_tick L _ 1)).trans (later_tick L _ 2)
theorem half_got (hL : L.Ok) (h : Cal L σ s) (hw : s.way = []) (ha : AllAt s) (hn : s.v.trace.length ≤ 100) (h3 : Came3 s) (he : (halfRound L 1200 s).v.trace.length = s.v.trace.length) :
  ∀ k, k < 3 → ∀ j, j < 3 → j ≠ k → (re (halfRound L 1200 s) k).some.getD j false = true ∧ (re (halfRound L 1200 s) k).seen.getD j (0, 0) = fit L (re (halfRound L 1200 s) j).field ∧ (re (halfRound L 1200 s) k).came.getD j 0 = (re (halfRound L 1200 s) k).ticks := by
 have hv := tick3_v L s
 have h0 : Hx L σ s.v.trace.length (fun j => fit L (re s j).field) (fun k => (re s k).ticks + 1) (tick3 L s) := by
  refine ⟨fl_tick3 h, ⟨_, _, Spl.tick3 h hw⟩, fun _ k hk => ?_, fun _ g hg f hf => ?_, fun _ k hk j hj hjk => .inr ?_⟩
  ·have e := re_tick3 h hk
   exact ⟨by rw [e]; exact ha k hk, by rw [e]; rfl, by rw [e]; exact set3 (h3 k hk)⟩
  ·obtain ⟨j, hj, hg⟩ := fr_all hL h hw g hg
   obtain ⟨m1, m2⟩ := fr_mem hL h hj hg
   obtain ⟨f1, f2, f3, f4⟩ := reTick_frames L (re s j)
   rcases m2 with ⟨_, _, m3⟩ | ⟨m3, _⟩
   ·have e : f = (reTick L (re s j)).2.1 := by rw [hf.1] at m3; injection m3
    refine ⟨?_, by rw [e, f1, ha j hj]⟩
    rw [e, reTick_S, m1]
    have hid := h.ok.ids j hj
    have e2 : (reTicked L (re s j)).seen.getD (re s j).id (0, 0) = fit L (re s j).field := getD_set_same (by rw [(h.ok.lens j hj).1, hid]; exact hj) _ _
    rw [e2]
    exact fit_fit L _
   ·have := hf.2.1
    omega
  ·obtain ⟨m1, m2⟩ := fr_mem hL h hj (fr_sample (L := L) (s := s) hj hk (Ne.symm hjk))
   obtain ⟨f1, f2, f3, f4⟩ := reTick_frames L (re s j)
   rcases m2 with ⟨_, _, m3⟩ | ⟨m3, _⟩
   ·exact ⟨_, fr_sub hL h hw hj _ (fr_sample hj hk (Ne.symm hjk)), _, ⟨m3, hk, f2⟩, rfl, rfl⟩
   ·exact absurd m3 (by show ¬ k = 3; omega)
 obtain ⟨_, hw2, _⟩ := half_res hL h hw (ha.sm hn)
 have hfin := flows_keep (L := L) (I := Hx L σ s.v.trace.length (fun j => fit L (re s j).field) (fun k => (re s k).ticks + 1)) (fun t ht hw => ht.deliver hL (by omega) hw) 1200 h0
 have hlat : Later s (halfRound L 1200 s) := later_half L 1200 s
 have e : halfRound L 1200 s = flows L (tick3 L s) 1200 := rfl
 rw [e] at he hw2 hlat ⊢
 generalize flows L (tick3 L s) 1200 = t at *
 intro k hk j hj hjk
 rcases hfin.got he k hk j hj hjk with ⟨g1, g2, g3⟩ | ⟨g, hg, _⟩
 ·exact ⟨g1, by rw [g2, (hlat.2 j).2], by rw [g3, (hfin.at0 he k hk).2.1]⟩
 ·rw [hw2] at hg; cases hg
theorem Hv.deliver (hL : L.Ok) (hn0 : n0 ≤ 700) (h : Hv L σ n0 cm s) (hw : s.way ≠ []) : Hv L σ n0 cm (deliver L s 0) := by
  obtain ⟨g, q, hq⟩ : ∃ g q, s.way = g :: q := by
    cases e : s.way with
    | nil => exact absurd e hw
    | cons g q => exact ⟨g, q, rfl⟩
  have hg : g ∈ s.way := by rw [hq]; exact List.mem_cons_self ..
  have hfl := (h.fl.deliver hL (by omega) (Nat.le_refl _) hw).1
  have hc := h.fl.cal
  have hlo := h.fl.lo
  have hvt := deliver_vt L s 0
  obtain ⟨hs3, hd3, hne⟩ := hc.ex.dst g hg
  obtain ⟨add, a1, _, a3⟩ := deliver_add (L := L) hc.ok hc.ex (i := 0) (g := g) (by rw [hq]; rfl)
  rw [hq, List.eraseIdx_cons_zero] at a1
  have hvo : ∀ g' ∈ (Proofs.Ytdhekhlmdefcnab.deliver L s 0).way, ∀ f, VoteIn g' f → g' ∈ q := fun g' hg' f hf => by
    rw [a1] at hg'
    rcases List.mem_append.1 hg' with h1 | h1
    · exact h1
    · exact absurd hf (new_no_vote (a3 g' h1) f)
  have sub : ∀ y ∈ q, y ∈ (Proofs.Ytdhekhlmdefcnab.deliver L s 0).way := fun y hy => by rw [a1]; exact List.mem_append_left _ hy
  refine ⟨hfl, fun g' hg' f hf => h.w g' (by rw [hq]; exact List.mem_cons_of_mem _ (hvo g' hg' f hf)) f hf, fun e => ?_⟩
  have e0 : s.v.trace.length = n0 := by omega
  have hn : (Proofs.Ytdhekhlmdefcnab.deliver L s 0).v.trace.length = s.v.trace.length := by omega
  have keep : ∀ j, VIn cm n0 j s → (∀ f, VoteIn g f → g.src ≠ j) → VIn cm n0 j (Proofs.Ytdhekhlmdefcnab.deliver L s 0) := fun j ⟨y, hy, f, hf, hys⟩ hno => by
    rw [hq] at hy
    rcases List.mem_cons.1 hy with rfl | hy
    · exact absurd hys (hno f hf)
    · exact ⟨y, sub y hy, f, hf, hys⟩
  by_cases hvi : ∃ f, VoteIn g f
  · obtain ⟨f, hf⟩ := hvi
    obtain ⟨w1, w2⟩ := h.w g hg f hf
    obtain ⟨hm, hd, hk2⟩ := hf
    have hsrc := (msg_some hm).2.2
    have hv := hears_ok hc hg hm hd (.inl hk2)
    have hvt2 := vt_vote hv (by rw [w2, e0]) hk2 hc.ex.lat
    have hj : (f.getD 1 0).toNat = g.src := by omega
    rw [hj, w1] at hvt2
    have hs3' : g.src < 3 := by omega
    have e1 : (Proofs.Ytdhekhlmdefcnab.deliver L s 0).v = (voTake s.v f).1 := by rw [deliver_v hq hm hd, foldl_all_v]
    have hal : ¬ alike (s.v.votes.set g.src (cm, true)) g.src cm = true := fun hal => by
      rw [e1, hvt2, if_pos hal] at hn
      have : (s.v.trace ++ [cm]).length = s.v.trace.length := hn
      simp at this
    rw [if_neg hal] at hvt2
    have hvs : (Proofs.Ytdhekhlmdefcnab.deliver L s 0).v.votes = s.v.votes.set g.src (cm, true) := by rw [e1, hvt2]
    have hlen := hc.ok.voter.len
    rcases h.q e0 with hA | ⟨k, hk, hkv, j, hj3, hjk, hjv⟩
    · obtain ⟨j, hj3, hjk⟩ : ∃ j, j < 3 ∧ j ≠ g.src := by
        by_cases h0 : g.src = 0
        · exact ⟨1, by decide, by omega⟩
        · exact ⟨0, by decide, by omega⟩
      exact .inr ⟨g.src, hs3', by rw [hvs]; exact getD_set_same (by omega) _ _, j, hj3, hjk, keep j (hA j hj3) fun f _ => Ne.symm hjk⟩
    · by_cases hsj : g.src = j
      · exfalso
        refine hal ?_
        unfold alike
        rw [List.any_eq_true]
        refine ⟨k, List.mem_range.2 hk, ?_⟩
        have hne2 : k ≠ g.src := by omega
        rw [getD_set_other (Ne.symm hne2), hkv]
        simp [hne2]
      · refine .inr ⟨k, hk, ?_, j, hj3, hjk, keep j hjv fun f _ => hsj⟩
        rw [hvs]
        by_cases hsk : g.src = k
        · rw [hsk]; exact getD_set_same (by omega) _ _
        · rw [getD_set_other hsk]; exact hkv
  · have hno : ∀ f, VoteIn g f → False := fun f hf => hvi ⟨f, hf⟩
    have hvs : (Proofs.Ytdhekhlmdefcnab.deliver L s 0).v.votes = s.v.votes := by
      cases hm : msg g with
      | none => rw [deliver_none hq hm]
      | some f =>
        by_cases hd : g.dst = 3
        · have e1 : (Proofs.Ytdhekhlmdefcnab.deliver L s 0).v = (voTake s.v f).1 := by rw [deliver_v hq hm hd, foldl_all_v]
          have hcy := hc.ex.cy g hg f hm
          have hsrc := (msg_some hm).2.2
          by_cases h4 : f.getD 0 0 = 4
          · have hv := hears_ok hc hg hm hd (.inr h4)
            obtain ⟨c, hcc⟩ : ∃ c : Nat, f.getD 2 0 = c := ⟨(f.getD 2 0).toNat, by omega⟩
            by_cases hlt : c < s.v.trace.length
            · rw [e1, vt_told hv hcc hlt]
            · have hceq : c = s.v.trace.length := by omega
              rw [hceq] at hcc
              rw [e1, vt_ask hv hcc h4]
          · have hdf : voHears s.v f = false := by
              cases e : voHears s.v f with
              | false => rfl
              | true => rcases hears_kind e with h2 | h2
                        · exact absurd ⟨hm, hd, h2⟩ (hno f)
                        · exact absurd h2 h4
            rw [e1, vt_deaf hdf]
        · rw [deliver_r hq hm hd, foldl_send_v]
    rcases h.q e0 with hA | ⟨k, hk, hkv, j, hj3, hjk, hjv⟩
    · exact .inl fun k hk => keep k (hA k hk) fun f hf => (hno f hf).elim
    · exact .inr ⟨k, hk, by rw [hvs]; exact hkv, j, hj3, hjk, keep j hjv fun f hf => (hno f hf).elim⟩
theorem half_commits (hL : L.Ok) (h : Cal L σ s) (hw : s.way = []) (ha : AllAt s) (hn : s.v.trace.length ≤ 100)
  (hg : ∀ k, k < 3 → ∀ j, j < 3 → j ≠ k → (re s k).some.getD j false = true ∧ (re s k).seen.getD j (0, 0) = fit L (re s j).field ∧ (re s k).came.getD j 0 = (re s k).ticks) :
  (halfRound L 1200 s).v.trace.length = s.v.trace.length + 1 := by
 obtain ⟨_, hw2, hres⟩ := half_res hL h hw (ha.sm hn)
 rcases hres with ⟨e, _⟩ | ⟨e, _, _⟩
 ·exact e
 exfalso
 have hv := tick3_v L s
 have hvote : ∀ k, k < 3 → _ := fun k hk => vote_of (L := L) (h.ok.ids k hk) hk ⟨(h.ok.lens k hk).1, (h.ok.lens k hk).2.1⟩ (fun j => fit L (re s j).field) rfl (hg k hk)
 have hst : ∀ k, k < 3 → (re s k).state = foldN L s.v.trace s.v.trace.length := fun k hk => by rw [(h.ok.reps k hk (by omega)).state, ha k hk]
 generalize hF : fused ⟨0, 0, St.zero, (0, 0), [fit L (re s 0).field, fit L (re s 1).field, fit L (re s 2).field], [true, true, true], [], [], 0, 0⟩ = F at hvote
 have hvote' : ∀ k, k < 3 → (reTick L (re s k)).2.2.2 = true ∧ (reTick L (re s k)).2.2.1 = frm 2 k s.v.trace.length ((F.1 : Nat), (F.2 : Nat), ((step L F.1 F.2 (foldN L s.v.trace s.v.trace.length)).2 : Nat)) := fun k hk => by
  have := hvote k hk
  rw [hst k hk, ha k hk] at this
  exact this
 clear hvote
 generalize hcm : (((F.1 : Nat), (F.2 : Nat), ((step L F.1 F.2 (foldN L s.v.trace s.v.trace.length)).2 : Nat)) : Cm) = cm at hvote'
 have h0 : Hv L σ s.v.trace.length cm (tick3 L s) := by
  refine ⟨fl_tick3 h, fun g hg f hf => ?_, fun _ => .inl fun k hk => ?_⟩
  ·obtain ⟨j, hj, hg⟩ := fr_all hL h hw g hg
   obtain ⟨m1, m2⟩ := fr_mem hL h hj hg
   rcases m2 with ⟨m3, _⟩ | ⟨_, _, m3⟩
   ·have := hf.2.1; omega
   ·have e : f = (reTick L (re s j)).2.2.1 := by rw [hf.1] at m3; injection m3
    rw [e, (hvote' j hj).2]
    exact ⟨rfl, rfl⟩
  ·obtain ⟨v1, v2⟩ := hvote' k hk
   obtain ⟨m1, m2⟩ := fr_mem hL h hk (fr_vote v1)
   rcases m2 with ⟨m3, _⟩ | ⟨_, _, m3⟩
   ·exact absurd m3 (by show ¬ (3 < 3); omega)
   ·exact ⟨_, fr_sub hL h hw hk _ (fr_vote v1), _, ⟨m3, rfl, by rw [v2]; rfl⟩, rfl⟩
 have hfin := flows_keep (L := L) (I := Hv L σ s.v.trace.length cm) (fun t ht hw => ht.deliver hL (by omega) hw) 1200 h0
 have e2 : halfRound L 1200 s = flows L (tick3 L s) 1200 := rfl
 rw [e2] at e hw2
 generalize flows L (tick3 L s) 1200 = t at *
 rcases hfin.q e with hA | ⟨_, _, _, j, _, _, y, hy, _⟩
 ·obtain ⟨y, hy, _⟩ := hA 0 (by decide)
  rw [hw2] at hy; cases hy
 ·rw [hw2] at hy; cases hy
theorem two_commit (hL : L.Ok) (h : Cal L σ s) (hw : s.way = []) (ha : AllAt s) (hn : s.v.trace.length ≤ 98) (h3 : Came3 s) : s.v.trace.length + 1 ≤ (halfRound L 1200 (halfRound L 1200 s)).v.trace.length := by
 obtain ⟨c1, w1, r1⟩ := half_res hL h hw (ha.sm (by omega))
 have a1 := (ha.half hL h hw (by omega)).2
 have up := (half_up L 1200 (halfRound L 1200 s)).pre.length_le
 rcases r1 with ⟨e, _⟩ | ⟨e, _, _⟩
 ·omega
 ·have := half_commits hL c1 w1 a1 (by omega) (half_got hL h hw ha (by omega) h3 e)
  omega
end
end Go.Proofs.Ytdhekhlmdefcnab
namespace Go.Proofs.Ytdhekhlmdefcnab
theorem reTick_V2 {L : Lay} {r : Re} (h : (reTick L r).2.2.2 = true) : (reTick L r).2.2.1 = asks (reTicked L r) ∨ (reTick L r).2.2.1 = frm 2 r.id r.cycle (((fused (reTicked L r)).1 : Nat), ((fused (reTicked L r)).2 : Nat), ((step L (fused (reTicked L r)).1 (fused (reTicked L r)).2 r.state).2 : Nat)) ∧ howMany (reTicked L r).some ≠ 1 := by
 unfold reTick at h ⊢
 dsimp only at h ⊢
 split
 ·exact .inl rfl
 ·rename_i h1
  rw [if_neg h1] at h
  split
  ·rename_i h2
   rw [if_pos h2] at h
   cases h
  ·rename_i h2
   exact .inr ⟨rfl, fun e => h2 (.inl e)⟩
theorem fuse_fresh {r : Re} {k : Nat} {i : Nat × Nat} (hk : k < 3) (hl : r.some.length = 3) (ho : r.some.getD k false = true) (hm : howMany r.some ≠ 1) (h : ∀ j, j < 3 → r.some.getD j false = true → r.seen.getD j (0, 0) = i) : fused r = i := by
 obtain ⟨a, b, c, e⟩ : ∃ a b c, r.some = [a, b, c] := by
  match hr : r.some, hl with
  | [a, b, c], _ => exact ⟨a, b, c, rfl⟩
 rw [e] at ho hm h
 have h0 := h 0 (by decide)
 have h1 := h 1 (by decide)
 have h2 := h 2 (by decide)
 have ea : r.some.getD 0 false = a := by rw [e]; rfl
 have eb : r.some.getD 1 false = b := by rw [e]; rfl
 have ec : r.some.getD 2 false = c := by rw [e]; rfl
 obtain ⟨i1, i2⟩ := i
 unfold fused fuseTo fuseTo fuseTo fuseTo
 rw [ea, eb, ec]
 have hk3 : k = 0 ∨ k = 1 ∨ k = 2 := by omega
 cases a <;> cases b <;> cases c
 ·rcases hk3 with rfl | rfl | rfl <;> cases ho
 ·exact absurd rfl hm
 ·exact absurd rfl hm
 ·rw [h1 rfl, h2 rfl]; simp
 ·exact absurd rfl hm
 ·rw [h0 rfl, h2 rfl]; simp
 ·rw [h0 rfl, h1 rfl]; simp
 ·rw [h0 rfl, h1 rfl, h2 rfl]; simp
def Fresh (i : Nat × Nat) (r : Re) : Prop := ∀ j, j < 3 → r.some.getD j false = true → r.seen.getD j (0, 0) = i
structure Hs (L : Lay) (σ : List Sight) (n0 : Nat) (c : Int × Int) (s : Sys) : Prop where
 fl : Fl L σ n0 s
 st : ∃ l r, Spl l r s
 si : ∀ g ∈ s.way, ∀ f, Smp g f → fit L (f.getD 3 0, f.getD 4 0) = fit L c
 pend : ∀ k, k < 3 → ∀ j, j < 3 → ((re s k).some.getD j false = true → (re s k).seen.getD j (0, 0) = fit L c) ∨ (j ≠ k ∧ ∃ g ∈ s.way, ∃ f, Smp g f ∧ g.src = j ∧ g.dst = k ∧ f.getD 2 0 = ((re s k).cycle : Nat))
structure Hw (L : Lay) (σ : List Sight) (n0 n1 : Nat) (i : Nat × Nat) (s : Sys) : Prop where
 fl : Fl L σ n0 s
 vi : ∀ g ∈ s.way, ∀ f, VoteIn g f → (cmOf f).1 = (i.1 : Nat) ∧ (cmOf f).2.1 = (i.2 : Nat)
 li : n1 < s.v.trace.length → ∃ cm, s.v.trace.getLast? = some cm ∧ cm.1 = (i.1 : Nat) ∧ cm.2.1 = (i.2 : Nat)
section
variable {L : Lay} {σ : List Sight} {s s' : Sys} {g : Gram} {q l r : List Gram} {f : List Int} {N n0 n1 k : Nat} {c : Int × Int} {i : Nat × Nat}
theorem Hw.deliver (hL : L.Ok) (hn0 : n0 ≤ 700) (h : Hw L σ n0 n1 i s) (hw : s.way ≠ []) : Hw L σ n0 n1 i (deliver L s 0) := by
 obtain ⟨g, q, hq⟩ : ∃ g q, s.way = g :: q := by
  cases e : s.way with
  | nil => exact absurd e hw
  | cons g q => exact ⟨g, q, rfl⟩
 have hg : g ∈ s.way := by rw [hq]; exact List.mem_cons_self ..
 have hfl := (h.fl.deliver hL (by omega) (Nat.le_refl _) hw).1
 have hc := h.fl.cal
 obtain ⟨add, a1, _, a3⟩ := deliver_add (L := L) hc.ok hc.ex (i := 0) (g := g) (by rw [hq]; rfl)
 rw [hq, List.eraseIdx_cons_zero] at a1
 refine ⟨hfl, fun g' hg' f hf => ?_, fun hlt => ?_⟩
 ·rw [a1] at hg'
  rcases List.mem_append.1 hg' with h1 | h1
  ·exact h.vi g' (by rw [hq]; exact List.mem_cons_of_mem _ h1) f hf
  ·exact absurd hf (new_no_vote (a3 g' h1) f)
 ·by_cases hn : (Proofs.Ytdhekhlmdefcnab.deliver L s 0).v.trace.length = s.v.trace.length
  ·have hp := (deliver_up L s 0).pre.eq_of_length hn.symm
   rw [← hp]
   exact h.li (by omega)
  ·obtain ⟨f, hm, hd, h2, _, _, e⟩ := deliver_commit hc hq hn
   refine ⟨cmOf f, ?_, h.vi g hg f ⟨hm, hd, h2⟩⟩
   rw [e, (toAll_rest _ _ _ _).2]
   show (s.v.trace ++ [cmOf f]).getLast? = _
   simp
theorem Hs.deliver (hL : L.Ok) (hn0 : n0 ≤ 700) (h : Hs L σ n0 c s) (hw : s.way ≠ []) : Hs L σ n0 c (deliver L s 0) := by
 obtain ⟨g, q, hq⟩ : ∃ g q, s.way = g :: q := by
  cases e : s.way with
  | nil => exact absurd e hw
  | cons g q => exact ⟨g, q, rfl⟩
 have hg : g ∈ s.way := by rw [hq]; exact List.mem_cons_self ..
 have hfl := (h.fl.deliver hL (by omega) (Nat.le_refl _) hw).1
 have hc := h.fl.cal
 obtain ⟨l, r, hs⟩ := h.st
 obtain ⟨r', hs'⟩ := hs.deliver hc.ok hc.ex hq
 have hh := hs.head hq
 obtain ⟨hs3, hd3, hne⟩ := hc.ex.dst g hg
 obtain ⟨add, a1, _, a3⟩ := deliver_add (L := L) hc.ok hc.ex (i := 0) (g := g) (by rw [hq]; rfl)
 rw [hq, List.eraseIdx_cons_zero] at a1
 have hsm' : ∀ g' ∈ (Proofs.Ytdhekhlmdefcnab.deliver L s 0).way, ∀ f, Smp g' f → g' ∈ q := fun g' hg' f hf => by
  rw [a1] at hg'
  rcases List.mem_append.1 hg' with h1 | h1
  ·exact h1
  ·exact absurd hf (new_no_smp hh (a3 g' h1))
 have sub : ∀ y ∈ q, y ∈ (Proofs.Ytdhekhlmdefcnab.deliver L s 0).way := fun y hy => by rw [a1]; exact List.mem_append_left _ hy
 obtain ⟨f, hm, hkind⟩ : ∃ f, msg g = some f ∧ ((f.getD 0 0 = 1 ∧ g.src < 3 ∧ g.dst < 3 ∨ (f.getD 0 0 = 2 ∨ f.getD 0 0 = 4) ∧ g.src < 3 ∧ g.dst = 3) ∨ f.getD 0 0 = 3 ∧ g.src = 3 ∧ g.dst < 3) := by
  rcases hh with ⟨f, e, h⟩ | ⟨f, e, h⟩
  ·exact ⟨f, e, .inl h⟩
  ·refine ⟨f, e, ?_⟩
   omega
 have hsrc := (msg_some hm).2.2
 -- one whose samples stay
 have stay : ∀ k, k < 3 → (re (Proofs.Ytdhekhlmdefcnab.deliver L s 0) k).some = (re s k).some → (re (Proofs.Ytdhekhlmdefcnab.deliver L s 0) k).seen = (re s k).seen → (re (Proofs.Ytdhekhlmdefcnab.deliver L s 0) k).cycle = (re s k).cycle → ∀ j, j < 3 → (∀ f, Smp g f → g.dst = k → g.src = j → f.getD 2 0 ≠ ((re s k).cycle : Nat)) →
   ((re (Proofs.Ytdhekhlmdefcnab.deliver L s 0) k).some.getD j false = true → (re (Proofs.Ytdhekhlmdefcnab.deliver L s 0) k).seen.getD j (0, 0) = fit L c) ∨ (j ≠ k ∧ ∃ g ∈ (Proofs.Ytdhekhlmdefcnab.deliver L s 0).way, ∃ f, Smp g f ∧ g.src = j ∧ g.dst = k ∧ f.getD 2 0 = ((re (Proofs.Ytdhekhlmdefcnab.deliver L s 0) k).cycle : Nat)) := by
  intro k hk e1 e2 e3 j hj hno
  rw [e1, e2, e3]
  rcases h.pend k hk j hj with h1 | ⟨hjk, y, hy, f', hf', h2, h3, h4⟩
  ·exact .inl h1
  ·rw [hq] at hy
   rcases List.mem_cons.1 hy with rfl | hy
   ·exact absurd h4 (hno f' hf' h3 h2)
   ·exact .inr ⟨hjk, y, sub y hy, f', hf', h2, h3, h4⟩
 refine ⟨hfl, ⟨_, r', hs'⟩, fun g' hg' f hf => h.si g' (by rw [hq]; exact List.mem_cons_of_mem _ (hsm' g' hg' f hf)) f hf, fun k hk j hj => ?_⟩
 by_cases hd : g.dst = 3
 ·have er : (Proofs.Ytdhekhlmdefcnab.deliver L s 0).rs = s.rs := by rw [deliver_v hq hm hd]; exact foldl_all_rs _ _ _ _
  have e := re_rs er k
  exact stay k hk (by rw [e]) (by rw [e]) (by rw [e]) j hj fun f hf _ _ => by have := hf.2.1; omega
 ·have hk3 : g.dst < 3 := by omega
  have er : (Proofs.Ytdhekhlmdefcnab.deliver L s 0).rs = s.rs.set g.dst (reTake L (re s g.dst) f).1 := by rw [deliver_r (L := L) hq hm hd]; exact foldl_send_rs _ _ _ _
  have hre : ∀ j, re (Proofs.Ytdhekhlmdefcnab.deliver L s 0) j = if j = g.dst then (reTake L (re s g.dst) f).1 else re s j := fun j => by
   rw [← re_any s hc.ok.three hk3 (reTake L (re s g.dst) f).1 s.way j]
   exact re_rs (s' := Proofs.Ytdhekhlmdefcnab.deliver L s 0) (s := { s with way := s.way, rs := s.rs.set g.dst (reTake L (re s g.dst) f).1 }) er j
  by_cases hkd : k = g.dst
  ·have hrk : re (Proofs.Ytdhekhlmdefcnab.deliver L s 0) k = (reTake L (re s k) f).1 := by rw [hre, if_pos hkd, hkd]
   have hid := hc.ok.ids k hk
   by_cases h1 : f.getD 0 0 = 1
   ·have hot : other (re s k) f = true := by
     unfold other
     simp only [Bool.and_eq_true, decide_eq_true_eq]
     rw [hid]
     omega
    by_cases hcy : f.getD 2 0 = ((re s k).cycle : Nat)
    ·have hrt : re (Proofs.Ytdhekhlmdefcnab.deliver L s 0) k = { re s k with seen := (re s k).seen.set g.src (fit L c), some := (re s k).some.set g.src true, came := (re s k).came.set g.src (re s k).ticks } := by
      rw [hrk, rt_sample h1, if_pos ⟨hot, hcy⟩, h.si g hg f ⟨hm, hk3, h1⟩]
      have : (f.getD 1 0).toNat = g.src := by omega
      rw [this]
     have hl := hc.ok.lens k hk
     by_cases hjs : g.src = j
     ·refine .inl fun _ => ?_
      rw [hrt]
      show (List.set _ _ _).getD _ _ = _
      rw [hjs]
      exact getD_set_same (by omega) _ _
     ·rw [hrt]
      have e1 : (List.set (re s k).some g.src true).getD j false = (re s k).some.getD j false := getD_set_other hjs _ _
      have e2 : (List.set (re s k).seen g.src (fit L c)).getD j (0, 0) = (re s k).seen.getD j (0, 0) := getD_set_other hjs _ _
      show ((List.set (re s k).some g.src true).getD j false = true → (List.set (re s k).seen g.src (fit L c)).getD j (0, 0) = fit L c) ∨ (j ≠ k ∧ ∃ g' ∈ (Proofs.Ytdhekhlmdefcnab.deliver L s 0).way, ∃ f, Smp g' f ∧ g'.src = j ∧ g'.dst = k ∧ f.getD 2 0 = ((re s k).cycle : Nat))
      rw [e1, e2]
      rcases h.pend k hk j hj with h1 | ⟨hjk, y, hy, f', hf', h2, h3, h4⟩
      ·exact .inl h1
      ·rw [hq] at hy
       rcases List.mem_cons.1 hy with rfl | hy
       ·exact absurd h2 hjs
       ·exact .inr ⟨hjk, y, sub y hy, f', hf', h2, h3, h4⟩
    ·have hrt : re (Proofs.Ytdhekhlmdefcnab.deliver L s 0) k = re s k := by rw [hrk, rt_sample h1, if_neg (fun h => hcy h.2)]
     exact stay k hk (by rw [hrt]) (by rw [hrt]) (by rw [hrt]) j hj fun f' hf' _ _ => by
      have := hf'.1
      rw [hm] at this
      cases this
      exact hcy
   ·have nosm : ∀ f, ¬ Smp g f := fun f' hf' => by
     have := hf'.1
     rw [hm] at this
     cases this
     exact h1 hf'.2.2
    have h3 : f.getD 0 0 = 3 := by omega
    have hf1 : f.getD 1 0 = 3 := by omega
    have hcy := hc.ex.cy g hg f hm
    obtain ⟨c0, hc0⟩ : ∃ c : Nat, f.getD 2 0 = c := ⟨(f.getD 2 0).toNat, by omega⟩
    by_cases hlo : c0 < (re s k).cycle
    ·have hrt := rt_done_old (L := L) (r := re s k) h3 hc0 hlo
     rw [hrt] at hrk
     exact stay k hk (by rw [hrk]) (by rw [hrk]) (by rw [hrk]) j hj fun f' hf' => absurd hf' (nosm f')
    ·by_cases heq : c0 = (re s k).cycle
     ·rw [heq] at hc0
      obtain ⟨r', e1, e2, e3, e4, e5, _⟩ := rt_done_now (L := L) (r := re s k) h3 hf1 hc0
      refine .inl fun hso => ?_
      rw [hrk, e1] at hso
      have : r'.some.getD j false = true := hso
      rw [e5, noSome_flag] at this
      cases this
     ·have hrt := rt_done_ahead (L := L) (r := re s k) h3 hf1 hc0 (by omega)
      exact stay k hk (by rw [hrk, hrt]) (by rw [hrk, hrt]) (by rw [hrk, hrt]) j hj fun f' hf' => absurd hf' (nosm f')
  ·have e : re (Proofs.Ytdhekhlmdefcnab.deliver L s 0) k = re s k := by rw [hre, if_neg hkd]
   exact stay k hk (by rw [e]) (by rw [e]) (by rw [e]) j hj fun f hf h1 _ => absurd h1.symm hkd
theorem fr_smp (hL : L.Ok) (h : Cal L σ s) (hw : s.way = []) (hf : ∀ k, k < 3 → (re s k).field = c) : ∀ g ∈ (tick3 L s).way, ∀ f, Smp g f → fit L (f.getD 3 0, f.getD 4 0) = fit L c := by
 intro g hg f hsm
 obtain ⟨j, hj, hg⟩ := fr_all hL h hw g hg
 obtain ⟨m1, m2⟩ := fr_mem hL h hj hg
 rcases m2 with ⟨_, _, m3⟩ | ⟨m3, _⟩
 ·have e : f = (reTick L (re s j)).2.1 := by rw [hsm.1] at m3; injection m3
  rw [e, reTick_S]
  have hid := h.ok.ids j hj
  have e2 : (reTicked L (re s j)).seen.getD (re s j).id (0, 0) = fit L (re s j).field := getD_set_same (by rw [(h.ok.lens j hj).1, hid]; exact hj) _ _
  rw [e2, ← hf j hj]
  exact fit_fit L _
 ·have := hsm.2.1
  omega
theorem ticked_own (h : Cal L σ s) (hk : k < 3) : (reTicked L (re s k)).seen.getD k (0, 0) = fit L (re s k).field := by
 have hid := h.ok.ids k hk
 show (List.set (re s k).seen (re s k).id (fit L (re s k).field)).getD k (0, 0) = _
 rw [hid]
 exact getD_set_same (by rw [(h.ok.lens k hk).1]; exact hk) _ _
theorem ticked_other (h : Cal L σ s) (hk : k < 3) {j : Nat} (hj : j < 3) (hjk : j ≠ k) : (reTicked L (re s k)).seen.getD j (0, 0) = (re s k).seen.getD j (0, 0) ∧ ((reTicked L (re s k)).some.getD j false = true → (re s k).some.getD j false = true) := by
 have hid := h.ok.ids k hk
 constructor
 ·show (List.set (re s k).seen (re s k).id (fit L (re s k).field)).getD j (0, 0) = _
  rw [hid]
  exact getD_set_other (Ne.symm hjk) _ _
 ·intro hs
  have hs2 : (List.set ((List.range 3).map fun i => (re s k).some.getD i false && decide ((re s k).ticks + 1 < (re s k).came.getD i 0 + 3)) (re s k).id true).getD j false = true := hs
  rw [hid, getD_set_other (Ne.symm hjk)] at hs2
  have hr : List.range 3 = [0, 1, 2] := rfl
  rw [hr] at hs2
  have : j = 0 ∨ j = 1 ∨ j = 2 := by omega
  rcases this with rfl | rfl | rfl
  ·have := (Bool.and_eq_true _ _ ▸ hs2 : _ ∧ _).1; exact this
  ·have := (Bool.and_eq_true _ _ ▸ hs2 : _ ∧ _).1; exact this
  ·have := (Bool.and_eq_true _ _ ▸ hs2 : _ ∧ _).1; exact this
theorem Hs.end (h : Hs L σ n0 c s) (hw : s.way = []) : ∀ k, k < 3 → Fresh (fit L c) (re s k) := by
 intro k hk j hj
 rcases h.pend k hk j hj with h1 | ⟨_, y, hy, _⟩
 ·exact h1
 ·rw [hw] at hy; cases hy
theorem half_fresh (hL : L.Ok) (h : Cal L σ s) (hw : s.way = []) (hs : Sm s) (ha : AllAt s ∨ ∀ k, k < 3 → Fresh (fit L c) (re s k)) (hf : ∀ k, k < 3 → (re s k).field = c) : ∀ k, k < 3 → Fresh (fit L c) (re (halfRound L 1200 s) k) := by
 have hn : s.v.trace.length ≤ 100 := by rcases hs with h1 | ⟨h1, _⟩ | ⟨h1, _⟩ <;> omega
 obtain ⟨_, hw2, _⟩ := half_res hL h hw hs
 have h0 : Hs L σ s.v.trace.length c (tick3 L s) := by
  refine ⟨fl_tick3 h, ⟨_, _, Spl.tick3 h hw⟩, fr_smp hL h hw hf, fun k hk j hj => ?_⟩
  have e := re_tick3 h hk
  rw [e]
  by_cases hjk : j = k
  ·subst hjk
   exact .inl fun _ => by rw [ticked_own h hk, hf j hk]
  ·obtain ⟨o1, o2⟩ := ticked_other h hk hj hjk
   rcases ha with ha | ha
   ·refine .inr ⟨hjk, ?_⟩
    obtain ⟨m1, m2⟩ := fr_mem hL h hj (fr_sample (L := L) (s := s) hj hk (Ne.symm hjk))
    obtain ⟨f1, f2, f3, f4⟩ := reTick_frames L (re s j)
    rcases m2 with ⟨_, _, m3⟩ | ⟨m3, _⟩
    ·refine ⟨_, fr_sub hL h hw hj _ (fr_sample hj hk (Ne.symm hjk)), _, ⟨m3, hk, f2⟩, rfl, rfl, ?_⟩
     rw [f1, ha j hj]
     show _ = (((re s k).cycle : Nat) : Int)
     rw [ha k hk]
    ·exact absurd m3 (by show ¬ k = 3; omega)
   ·exact .inl fun hs => by rw [o1]; exact ha k hk j hj (o2 hs)
 have hfin := flows_keep (L := L) (I := Hs L σ s.v.trace.length c) (fun t ht hw => ht.deliver hL (by omega) hw) 1200 h0
 have e : halfRound L 1200 s = flows L (tick3 L s) 1200 := rfl
 rw [e] at hw2 ⊢
 generalize flows L (tick3 L s) 1200 = t at *
 exact hfin.end hw2
theorem half_last (hL : L.Ok) (h : Cal L σ s) (hw : s.way = []) (hn : s.v.trace.length ≤ 100) (ha : ∀ k, k < 3 → Fresh (fit L c) (re s k)) (hf : ∀ k, k < 3 → (re s k).field = c)
  (hl : n1 < s.v.trace.length → ∃ cm, s.v.trace.getLast? = some cm ∧ cm.1 = ((fit L c).1 : Nat) ∧ cm.2.1 = ((fit L c).2 : Nat)) :
  n1 < (halfRound L 1200 s).v.trace.length → ∃ cm, (halfRound L 1200 s).v.trace.getLast? = some cm ∧ cm.1 = ((fit L c).1 : Nat) ∧ cm.2.1 = ((fit L c).2 : Nat) := by
 have h0 : Hw L σ s.v.trace.length n1 (fit L c) (tick3 L s) := by
  refine ⟨fl_tick3 h, fun g hg f hv => ?_, by rw [tick3_v]; exact hl⟩
  obtain ⟨j, hj, hg⟩ := fr_all hL h hw g hg
  obtain ⟨m1, m2⟩ := fr_mem hL h hj hg
  rcases m2 with ⟨m3, _⟩ | ⟨_, m4, m3⟩
  ·have := hv.2.1; omega
  ·have e : f = (reTick L (re s j)).2.2.1 := by rw [hv.1] at m3; injection m3
   rcases reTick_V2 m4 with e2 | ⟨e2, hm⟩
   ·have h2 := hv.2.2
    rw [e, e2] at h2
    exact absurd h2 (by show ¬ ((4 : Int) = 2); decide)
   ·have hid := h.ok.ids j hj
    have hfu : fused (reTicked L (re s j)) = fit L c := by
     have hso : (reTicked L (re s j)).some.length = 3 := by
      show (List.set ((List.range 3).map _) _ _).length = 3
      simp
     refine fuse_fresh hj hso ?_ hm fun i hi hsi => ?_
     ·show (List.set ((List.range 3).map _) (re s j).id true).getD j false = true
      rw [hid]
      exact getD_set_same (by simp; exact hj) _ _
     ·by_cases hij : i = j
      ·subst hij
       rw [ticked_own h hj, hf i hj]
      ·obtain ⟨o1, o2⟩ := ticked_other h hj hi hij
       rw [o1]
       exact ha j hj i hi (o2 hsi)
    rw [e, e2, hfu]
    exact ⟨rfl, rfl⟩
 have hfin := flows_keep (L := L) (I := Hw L σ s.v.trace.length n1 (fit L c)) (fun t ht hw => ht.deliver hL (by omega) hw) 1200 h0
 have e : halfRound L 1200 s = flows L (tick3 L s) 1200 := rfl
 rw [e]
 generalize flows L (tick3 L s) 1200 = t at *
 exact hfin.li
end
end Go.Proofs.Ytdhekhlmdefcnab
namespace Go.Proofs.Ytdhekhlmdefcnab
def hh (L : Lay) (N : Nat) (s : Sys) : Sys := halfRound L N (halfRound L N s)
def blk (L : Lay) (N : Nat) (s : Sys) : Sys := flows L (vt (hh L N s)) N
def rep (f : Sys → Sys) : Nat → Sys → Sys
 | 0, s => s
 | n + 1, s => rep f n (f s)
theorem calm_one (L : Lay) (N n : Nat) (s : Sys) : calm L N s (n + 1) = calm L N (vt (hh L N (flows L s N))) n := by
 rw [calm]
 unfold vt hh
 rfl
theorem calm_blk (L : Lay) (N : Nat) : ∀ (n : Nat) (s : Sys), calm L N s (n + 1) = vt (hh L N (rep (blk L N) n (flows L s N)))
 | 0, s => by rw [calm_one, calm, rep]
 | n + 1, s => by
  rw [calm_one, calm_blk L N n, rep, blk]
theorem calm_six (L : Lay) (N : Nat) (s : Sys) : calm L N s 6 = vt (hh L N (blk L N (blk L N (blk L N (blk L N (blk L N (flows L s N))))))) := by
 rw [calm_blk L N 5 s]
 simp only [rep]
theorem calm_five (L : Lay) (N : Nat) (s : Sys) : calm L N s 5 = vt (hh L N (blk L N (blk L N (blk L N (blk L N (flows L s N)))))) := by
 rw [calm_blk L N 4 s]
 simp only [rep]
structure Cq (L : Lay) (σ : List Sight) (b : Int) (s : Sys) : Prop where
 cz : Cz L σ b s
 c3 : Came3 s
section
variable {L : Lay} {σ : List Sight} {s s' : Sys} {b : Int} {n0 n1 k B : Nat} {c : Int × Int}
theorem Cq.half (hL : L.Ok) (hb : b ≤ 20) (hn : s.v.trace.length ≤ 700) (h : Cq L σ b s) : Cq L σ b (halfRound L 1200 s) ∧ Fl L σ s.v.trace.length (halfRound L 1200 s) := by
 obtain ⟨h1, h2⟩ := h.cz.half hL hb hn
 exact ⟨⟨h1, h.c3.half hL hn h.cz.cal⟩, h2⟩
theorem Cq.flows (hL : L.Ok) (hb : b ≤ 20) {ns : Nat} (hns : ns ≤ 700) (n : Nat) (h : Cq L σ b s) (hf : Fl L σ ns s) : Cq L σ b (flows L s n) ∧ Fl L σ ns (flows L s n) := by
 obtain ⟨h1, h2⟩ := h.cz.flows hL hb hns n hf
 exact ⟨⟨h1, h.c3.flows hL hns n hf⟩, h2⟩
theorem Cq.vt (h : Cq L σ b s) (hb : 2 ≤ b) : Cq L σ (b - 1) (vt s) := ⟨h.cz.vt hb, h.c3⟩
theorem vt_trace (h : Cq L σ b s) (hb : 2 ≤ b) : (vt s).v.trace = s.v.trace := by
 have := h.cz.tm
 rw [vt_same (by omega) h.cz.cal.ex.lat]
theorem Fl.vt {ns : Nat} (h : Cq L σ b s) (hb : 2 ≤ b) (hf : Fl L σ ns s) : Fl L σ ns (vt s) :=
 ⟨(h.vt hb).cz.cal, hf.vb, by rw [vt_trace h hb]; exact hf.lo, by rw [vt_trace h hb]; exact hf.hi⟩
theorem half_work (hL : L.Ok) (h : Cq L σ b s) (hn : s.v.trace.length ≤ 19) (hw : s.way = [] ∨ U 20 s ≤ B) : (halfRound L 1200 s).way = [] ∨ Pot 20 s.v.trace.length (halfRound L 1200 s) + 833 ≤ B := by
 rcases hw with hw | hw
 ·exact .inl (half_res hL h.cz.cal hw (h.cz.sm (by omega))).2.1
 ·have hU := U_tick3 (N := 20) h.cz.cal
  have hp : Pot 20 s.v.trace.length (tick3 L s) ≤ U 20 (tick3 L s) + 181 := by
   unfold Pot
   split <;> omega
  obtain ⟨_, hpot⟩ := Fl.flows (N := 20) hL (by omega) (by omega) 1200 (fl_tick3 h.cz.cal)
  have e : halfRound L 1200 s = Proofs.Ytdhekhlmdefcnab.flows L (tick3 L s) 1200 := rfl
  rw [e]
  generalize Proofs.Ytdhekhlmdefcnab.flows L (tick3 L s) 1200 = t at *
  rcases hpot with h1 | h1
  ·exact .inl h1
  ·exact .inr (by omega)
theorem U_le_pot (N ns : Nat) (s : Sys) : U N s ≤ Pot N ns s := by unfold Pot; omega
theorem blk_work (hL : L.Ok) (h : Cq L σ b s) (hb : 2 ≤ b) (hb2 : b ≤ 20) (hn : s.v.trace.length ≤ 18) (hw : s.way = [] ∨ U 20 s ≤ B) :
  Cq L σ (b - 1) (blk L 1200 s) ∧ s.v.trace.length ≤ (blk L 1200 s).v.trace.length ∧ (blk L 1200 s).v.trace.length ≤ s.v.trace.length + 2 ∧ ((blk L 1200 s).way = [] ∨ U 20 (blk L 1200 s) + 2866 ≤ B) := by
 obtain ⟨q1, f1⟩ := h.half hL hb2 (by omega)
 have w1 := half_work hL h (by omega) hw
 have l1 := f1.lo
 have l2 := f1.hi
 have e : blk L 1200 s = Proofs.Ytdhekhlmdefcnab.flows L (Proofs.Ytdhekhlmdefcnab.vt (halfRound L 1200 (halfRound L 1200 s))) 1200 := rfl
 rw [e]
 generalize halfRound L 1200 s = s1 at *
 obtain ⟨q2, f2⟩ := q1.half hL hb2 (by omega)
 have w2 := half_work (B := B - 833) hL q1 (by omega) (w1.imp id fun h => by have := U_le_pot 20 s.v.trace.length s1; omega)
 have l3 := f2.lo
 have l4 := f2.hi
 generalize halfRound L 1200 s1 = s2 at *
 have q3 := q2.vt hb
 have f3 := f2.vt q2 hb
 have ht := vt_trace q2 hb
 have hway : (Proofs.Ytdhekhlmdefcnab.vt s2).way = s2.way := rfl
 have hpot : Pot 20 s1.v.trace.length (Proofs.Ytdhekhlmdefcnab.vt s2) = Pot 20 s1.v.trace.length s2 := by
  unfold Pot
  rw [ht]
  rfl
 have hup := flows_up L 1200 (Proofs.Ytdhekhlmdefcnab.vt s2)
 generalize Proofs.Ytdhekhlmdefcnab.vt s2 = s3 at *
 obtain ⟨q4, f4⟩ := q3.flows hL (by omega) (by omega) 1200 f3
 obtain ⟨_, p4⟩ := Fl.flows (N := 20) hL (by omega) (by omega) 1200 f3
 have l5 := f4.lo
 have l6 := f4.hi
 have hnil := flows_nil (L := L) (s := s3) (n := 1200)
 generalize Proofs.Ytdhekhlmdefcnab.flows L s3 1200 = s4 at *
 refine ⟨q4, by omega, by omega, ?_⟩
 rcases w2 with h2 | h2
 ·rw [hnil (by rw [hway]; exact h2), hway]
  exact .inl h2
 ·rcases p4 with h3 | h3
  ·exact .inl h3
  ·have := U_le_pot 20 s1.v.trace.length s4
   rcases w1 with h1 | h1
   ·refine .inr ?_
    omega
   ·exact .inr (by omega)
theorem first_work (hL : L.Ok) (h : Cq L σ b s) (hb2 : b ≤ 20) (hn : s.v.trace.length ≤ 12) :
  Cq L σ b (Proofs.Ytdhekhlmdefcnab.flows L s 1200) ∧ s.v.trace.length ≤ (Proofs.Ytdhekhlmdefcnab.flows L s 1200).v.trace.length ∧ (Proofs.Ytdhekhlmdefcnab.flows L s 1200).v.trace.length ≤ 13 ∧ ((Proofs.Ytdhekhlmdefcnab.flows L s 1200).way = [] ∨ U 20 (Proofs.Ytdhekhlmdefcnab.flows L s 1200) ≤ 8131) := by
 have f0 : Fl L σ s.v.trace.length s := ⟨h.cz.cal, fun g hg f hf => (h.cz.cal.ex.cy g hg f hf.1).2, Nat.le_refl _, Nat.le_succ _⟩
 have hc : CleanFrom 120 s := ⟨s.way, [], by simp, h.cz.cal.ex.len, fun g hg => by cases hg⟩
 have hc2 := clean_flows (N := 20) hL (by omega) (by omega) 120 f0 hc
 have e : Proofs.Ytdhekhlmdefcnab.flows L s 1200 = Proofs.Ytdhekhlmdefcnab.flows L (Proofs.Ytdhekhlmdefcnab.flows L s 120) 1080 := flows_add 120 1080 s
 obtain ⟨q1, f1⟩ := h.flows hL hb2 (by omega) 120 f0
 rw [e]
 generalize Proofs.Ytdhekhlmdefcnab.flows L s 120 = s1 at *
 have hu := U_clean (N := 20) (by decide) q1.cz.cal.ex hc2
 have t20 : tri 20 = 570 := by decide
 obtain ⟨q2, f2⟩ := q1.flows hL hb2 (by omega) 1080 f1
 obtain ⟨_, p2⟩ := Fl.flows (N := 20) hL (by omega) (by omega) 1080 f1
 have hp : Pot 20 s.v.trace.length s1 ≤ U 20 s1 + 181 := by
  unfold Pot
  split <;> omega
 have l1 := f2.lo
 have l2 := f2.hi
 generalize Proofs.Ytdhekhlmdefcnab.flows L s1 1080 = s2 at *
 refine ⟨q2, l1, by omega, ?_⟩
 rcases p2 with h3 | h3
 ·exact .inl h3
 ·have := U_le_pot 20 s.v.trace.length s2
  exact .inr (by omega)
attribute [local irreducible] Proofs.Ytdhekhlmdefcnab.flows halfRound calm tickR Proofs.Ytdhekhlmdefcnab.deliver
theorem vt_way (s : Sys) : (Proofs.Ytdhekhlmdefcnab.vt s).way = s.way := rfl
theorem blk_nil (hL : L.Ok) (h : Cq L σ b s) (hb : 2 ≤ b) (hb2 : b ≤ 20) (hn : s.v.trace.length ≤ 90) (hw : s.way = []) (hs : Sm s) (hs2 : Sm (halfRound L 1200 s)) :
  Cq L σ b (hh L 1200 s) ∧ (hh L 1200 s).way = [] ∧ Cq L σ (b - 1) (vt (hh L 1200 s)) ∧ (vt (hh L 1200 s)).v.trace = (hh L 1200 s).v.trace ∧ blk L 1200 s = vt (hh L 1200 s) ∧ s.v.trace.length ≤ (hh L 1200 s).v.trace.length ∧ (hh L 1200 s).v.trace.length ≤ s.v.trace.length + 2 := by
 obtain ⟨q1, f1⟩ := h.half hL hb2 (by omega)
 obtain ⟨_, w1, _⟩ := half_res hL h.cz.cal hw hs
 have l1 := f1.lo
 have l2 := f1.hi
 have e : blk L 1200 s = Proofs.Ytdhekhlmdefcnab.flows L (Proofs.Ytdhekhlmdefcnab.vt (hh L 1200 s)) 1200 := rfl
 rw [e]
 have e2 : hh L 1200 s = halfRound L 1200 (halfRound L 1200 s) := rfl
 rw [e2]
 generalize halfRound L 1200 s = s1 at *
 obtain ⟨q2, f2⟩ := q1.half hL hb2 (by omega)
 obtain ⟨_, w2, _⟩ := half_res hL q1.cz.cal w1 hs2
 have l3 := f2.lo
 have l4 := f2.hi
 generalize halfRound L 1200 s1 = s2 at *
 exact ⟨q2, w2, q2.vt hb, vt_trace q2 hb, flows_nil (s := Proofs.Ytdhekhlmdefcnab.vt s2) w2 1200, by omega, by omega⟩
theorem AllAt.vt (h : AllAt s) (ht : (vt s).v.trace = s.v.trace) : AllAt (vt s) := fun k hk => by rw [ht]; exact h k hk
theorem calm6 (hL : L.Ok) (h : Cq L σ 20 s) (hn : s.v.trace.length ≤ 12) :
  Cq L σ 14 (calm L 1200 s 6) ∧ (calm L 1200 s 6).way = [] ∧ AllAt (calm L 1200 s 6) ∧ s.v.trace.length < (calm L 1200 s 6).v.trace.length ∧ (calm L 1200 s 6).v.trace.length ≤ 40 := by
 have e : calm L 1200 s 6 = Proofs.Ytdhekhlmdefcnab.vt (hh L 1200 (blk L 1200 (blk L 1200 (blk L 1200 (blk L 1200 (blk L 1200 (Proofs.Ytdhekhlmdefcnab.flows L s 1200))))))) := calm_six L 1200 s
 rw [e]
 clear e
 obtain ⟨q0, l0, m0, w0⟩ := first_work hL h (by decide) hn
 generalize Proofs.Ytdhekhlmdefcnab.flows L s 1200 = s0 at *
 obtain ⟨q1, l1, m1, w1⟩ := blk_work hL q0 (by decide) (by decide) (by omega) w0
 generalize blk L 1200 s0 = s1 at *
 obtain ⟨q2, l2, m2, w2⟩ := blk_work (B := 5265) hL q1 (by decide) (by decide) (by omega) (w1.imp id fun h => by omega)
 generalize blk L 1200 s1 = s2 at *
 obtain ⟨q3, l3, m3, w3⟩ := blk_work (B := 2399) hL q2 (by decide) (by decide) (by omega) (w2.imp id fun h => by omega)
 generalize blk L 1200 s2 = s3 at *
 have w3' : s3.way = [] := by
  rcases w3 with h1 | h1
  ·exact h1
  ·omega
 -- h7, h8
 have z0 : Waits 0 s3 := fun k _ => .inr (Nat.zero_le _)
 have sm7 := q3.cz.sm (by omega)
 obtain ⟨q7, f7⟩ := q3.half hL (by decide) (by omega)
 have z7 := waits_half hL q3.cz.cal w3' sm7 z0
 have n7 := f7.hi
 obtain ⟨_, w7, _⟩ := half_res hL q3.cz.cal w3' sm7
 have sm8 : Sm (halfRound L 1200 s3) := q7.cz.sm (by omega)
 obtain ⟨q4, w4, q4v, t4, e4, l4, m4⟩ := blk_nil hL q3 (by decide) (by decide) (by omega) w3' sm7 sm8
 have z8 : AllAt (hh L 1200 s3) ∨ Waits 2 (hh L 1200 s3) := by
  rcases z7 with h1 | h1
  ·exact .inl (h1.half hL q7.cz.cal w7 (by omega)).2
  ·exact waits_half hL q7.cz.cal w7 sm8 h1
 rw [e4]
 clear e4 q7 f7 z7 n7 w7 sm8 sm7
 have z8' : AllAt (Proofs.Ytdhekhlmdefcnab.vt (hh L 1200 s3)) ∨ Waits 2 (Proofs.Ytdhekhlmdefcnab.vt (hh L 1200 s3)) := z8.imp (fun h => h.vt t4) fun h k hk => by rw [t4]; exact h k hk
 have w4' : (Proofs.Ytdhekhlmdefcnab.vt (hh L 1200 s3)).way = [] := (vt_way _).trans w4
 rw [← t4] at l4 m4
 generalize Proofs.Ytdhekhlmdefcnab.vt (hh L 1200 s3) = s4 at *
 -- h9, h10
 have sm9 : Sm s4 := q4v.cz.sm (by omega)
 obtain ⟨q9, f9⟩ := q4v.half hL (by decide) (by omega)
 obtain ⟨_, w9, _⟩ := half_res hL q4v.cz.cal w4' sm9
 have n9 := f9.hi
 have a9 : AllAt (halfRound L 1200 s4) := by
  rcases z8' with h1 | h1
  ·exact (h1.half hL q4v.cz.cal w4' (by omega)).2
  ·exact waits_two hL q4v.cz.cal w4' sm9 h1
 obtain ⟨q5, w5, q5v, t5, e5, l5, m5⟩ := blk_nil hL q4v (by decide) (by decide) (by omega) w4' sm9 (a9.sm (by omega))
 have a10 : AllAt (hh L 1200 s4) := (a9.half hL q9.cz.cal w9 (by omega)).2
 rw [e5]
 have a10' := a10.vt t5
 have w5' : (Proofs.Ytdhekhlmdefcnab.vt (hh L 1200 s4)).way = [] := (vt_way _).trans w5
 rw [← t5] at l5 m5
 clear e5 q9 f9 w9 n9 a9 a10
 generalize Proofs.Ytdhekhlmdefcnab.vt (hh L 1200 s4) = s5 at *
 -- h11, h12
 have a11 := a10'.half hL q5v.cz.cal w5' (by omega)
 have n11 := (q5v.half hL (by decide) (by omega)).2.hi
 have q11 := (q5v.half hL (by decide) (by omega)).1
 obtain ⟨q6, w6, q6v, t6, e6, l6, m6⟩ := blk_nil hL q5v (by decide) (by decide) (by omega) w5' (a10'.sm (by omega)) (a11.2.sm (by omega))
 have a12 : AllAt (hh L 1200 s5) := (a11.2.half hL q11.cz.cal a11.1 (by omega)).2
 have hcm := two_commit hL q5v.cz.cal w5' a10' (by omega) q5v.c3
 have hcm2 : s5.v.trace.length + 1 ≤ (hh L 1200 s5).v.trace.length := hcm
 exact ⟨q6v, (vt_way _).trans w6, a12.vt t6, by rw [t6]; omega, by rw [t6]; omega⟩
end
end Go.Proofs.Ytdhekhlmdefcnab
namespace Go.Proofs.Ytdhekhlmdefcnab
structure Fx (L : Lay) (σ : List Sight) (c : Int × Int) (n1 : Nat) (b : Int) (s : Sys) : Prop where
 q : Cq L σ b s
 way : s.way = []
 at_ : AllAt s
 fr : ∀ k, k < 3 → Fresh (fit L c) (re s k)
 fd : ∀ k, k < 3 → (re s k).field = c
 li : n1 < s.v.trace.length → ∃ cm, s.v.trace.getLast? = some cm ∧ cm.1 = ((fit L c).1 : Nat) ∧ cm.2.1 = ((fit L c).2 : Nat)
section
variable {L : Lay} {σ : List Sight} {s s' : Sys} {b : Int} {n0 n1 k B : Nat} {c : Int × Int}
theorem half_field (L : Lay) (s : Sys) (hf : ∀ k, k < 3 → (re s k).field = c) : ∀ k, k < 3 → (re (halfRound L 1200 s) k).field = c := fun k hk => by
 rw [((later_half L 1200 s).2 k).2]
 exact hf k hk
theorem Fx.half (hL : L.Ok) (hb : b ≤ 20) (hn : s.v.trace.length ≤ 90) (h : Fx L σ c n1 b s) : Fx L σ c n1 b (halfRound L 1200 s) ∧ s.v.trace.length ≤ (halfRound L 1200 s).v.trace.length ∧ (halfRound L 1200 s).v.trace.length ≤ s.v.trace.length + 1 := by
 obtain ⟨q1, f1⟩ := h.q.half hL hb (by omega)
 obtain ⟨w1, a1⟩ := h.at_.half hL h.q.cz.cal h.way (by omega)
 exact ⟨⟨q1, w1, a1, half_fresh hL h.q.cz.cal h.way (h.at_.sm (by omega)) (.inr h.fr) h.fd, half_field L s h.fd, half_last hL h.q.cz.cal h.way (by omega) h.fr h.fd h.li⟩, f1.lo, f1.hi⟩
attribute [local irreducible] Proofs.Ytdhekhlmdefcnab.flows halfRound calm tickR Proofs.Ytdhekhlmdefcnab.deliver
theorem Fx.vt (h : Fx L σ c n1 b s) (hb : 2 ≤ b) : Fx L σ c n1 (b - 1) (vt s) ∧ (Proofs.Ytdhekhlmdefcnab.vt s).v.trace = s.v.trace := by
 have ht := vt_trace h.q hb
 refine ⟨⟨h.q.vt hb, (vt_way s).trans h.way, h.at_.vt ht, h.fr, h.fd, ?_⟩, ht⟩
 rw [ht]
 exact h.li
theorem Fx.blk (hL : L.Ok) (hb2 : 2 ≤ b) (hb : b ≤ 20) (hn : s.v.trace.length ≤ 80) (h : Fx L σ c n1 b s) : Fx L σ c n1 (b - 1) (Proofs.Ytdhekhlmdefcnab.vt (hh L 1200 s)) ∧ s.v.trace.length + 1 ≤ (Proofs.Ytdhekhlmdefcnab.vt (hh L 1200 s)).v.trace.length ∧ (Proofs.Ytdhekhlmdefcnab.vt (hh L 1200 s)).v.trace.length ≤ s.v.trace.length + 2 ∧ Proofs.Ytdhekhlmdefcnab.blk L 1200 s = Proofs.Ytdhekhlmdefcnab.vt (hh L 1200 s) := by
 obtain ⟨h1, l1, m1⟩ := h.half hL hb (by omega)
 obtain ⟨h2, l2, m2⟩ := h1.half hL hb (by omega)
 have hcm := two_commit hL h.q.cz.cal h.way h.at_ (by omega) h.q.c3
 have e : hh L 1200 s = halfRound L 1200 (halfRound L 1200 s) := by unfold hh; rfl
 have e2 : Proofs.Ytdhekhlmdefcnab.blk L 1200 s = Proofs.Ytdhekhlmdefcnab.flows L (Proofs.Ytdhekhlmdefcnab.vt (hh L 1200 s)) 1200 := by unfold Proofs.Ytdhekhlmdefcnab.blk; rfl
 obtain ⟨h3, ht⟩ := h2.vt hb2
 rw [e2, e, ht]
 exact ⟨h3, by omega, by omega, flows_nil ((vt_way _).trans h2.way) 1200⟩
theorem calm5 (hL : L.Ok) (h : Cq L σ 14 s) (hw : s.way = []) (ha : AllAt s) (hn : s.v.trace.length ≤ 40) (hf : ∀ k, k < 3 → (re s k).field = c) :
  Cq L σ 9 (calm L 1200 s 5) ∧ AllAt (calm L 1200 s 5) ∧ (calm L 1200 s 5).v.trace.length ≤ 60 ∧ ∃ cm, (calm L 1200 s 5).v.trace.getLast? = some cm ∧ cm.1 = ((fit L c).1 : Nat) ∧ cm.2.1 = ((fit L c).2 : Nat) := by
 rw [calm_five, flows_nil hw]
 -- the first round
 have h1 : Fx L σ c (halfRound L 1200 s).v.trace.length 14 (halfRound L 1200 s) ∧ (halfRound L 1200 s).v.trace.length ≤ s.v.trace.length + 1 := by
  obtain ⟨q1, f1⟩ := h.half hL (by decide) (by omega)
  obtain ⟨w1, a1⟩ := ha.half hL h.cz.cal hw (by omega)
  exact ⟨⟨q1, w1, a1, half_fresh hL h.cz.cal hw (ha.sm (by omega)) (.inl ha) hf, half_field L s hf, fun h => by omega⟩, f1.hi⟩
 obtain ⟨h1, m1⟩ := h1
 obtain ⟨h2, l2, m2⟩ := h1.half hL (by decide) (by omega)
 have e : hh L 1200 s = halfRound L 1200 (halfRound L 1200 s) := by unfold hh; rfl
 have e2 : Proofs.Ytdhekhlmdefcnab.blk L 1200 s = Proofs.Ytdhekhlmdefcnab.flows L (Proofs.Ytdhekhlmdefcnab.vt (hh L 1200 s)) 1200 := by unfold Proofs.Ytdhekhlmdefcnab.blk; rfl
 obtain ⟨h3, t3⟩ := h2.vt (by decide)
 have e3 : Proofs.Ytdhekhlmdefcnab.blk L 1200 s = Proofs.Ytdhekhlmdefcnab.vt (halfRound L 1200 (halfRound L 1200 s)) := by
  rw [e2, e]
  exact flows_nil h3.way 1200
 rw [e3]
 have hn3 : (Proofs.Ytdhekhlmdefcnab.vt (halfRound L 1200 (halfRound L 1200 s))).v.trace.length ≤ 42 := by rw [t3]; omega
 have hl3 : (halfRound L 1200 s).v.trace.length ≤ (Proofs.Ytdhekhlmdefcnab.vt (halfRound L 1200 (halfRound L 1200 s))).v.trace.length := by rw [t3]; omega
 clear e e2 e3 t3 h2 l2 m2
 generalize (halfRound L 1200 s).v.trace.length = n1 at *
 generalize Proofs.Ytdhekhlmdefcnab.vt (halfRound L 1200 (halfRound L 1200 s)) = s1 at *
 obtain ⟨h4, l4, m4, e4⟩ := h3.blk hL (by decide) (by decide) (by omega)
 rw [e4]
 generalize Proofs.Ytdhekhlmdefcnab.vt (hh L 1200 s1) = s2 at *
 obtain ⟨h5, l5, m5, e5⟩ := h4.blk hL (by decide) (by decide) (by omega)
 rw [e5]
 generalize Proofs.Ytdhekhlmdefcnab.vt (hh L 1200 s2) = s3 at *
 obtain ⟨h6, l6, m6, e6⟩ := h5.blk hL (by decide) (by decide) (by omega)
 rw [e6]
 generalize Proofs.Ytdhekhlmdefcnab.vt (hh L 1200 s3) = s4 at *
 obtain ⟨h7, l7, m7, e7⟩ := h6.blk hL (by decide) (by decide) (by omega)
 generalize Proofs.Ytdhekhlmdefcnab.vt (hh L 1200 s4) = s5 at *
 exact ⟨h7.q, h7.at_, by omega, h7.li (by omega)⟩
end
end Go.Proofs.Ytdhekhlmdefcnab
