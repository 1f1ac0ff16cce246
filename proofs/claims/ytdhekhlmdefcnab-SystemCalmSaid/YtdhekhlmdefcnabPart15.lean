/- Part 15 of the proof: CaHalf, CaRound, CaThree, CaComm. -/
import Derived.Test.YtdhekhlmdefcnabPart14
namespace Go.Proofs.Ytdhekhlmdefcnab
section
variable {L : Lay} {σ : List Sight} {s s' : Sys} {g : Gram} {q l r : List Gram} {f : List Int} {N ns k : Nat}
theorem reTick_S (L : Lay) (r : Re) : (reTick L r).2.1 = frm 1 r.id r.cycle (((((reTicked L r).seen.getD r.id (0, 0)).1 : Nat) : Int), ((((reTicked L r).seen.getD r.id (0, 0)).2 : Nat) : Int), 0) := by
 unfold reTick
 dsimp only
 split
 ·rfl
 ·split <;> rfl
theorem reTick_V {r : Re} (h : (reTick L r).2.2.2 = true) : (reTick L r).2.2.1 = asks (reTicked L r) ∨ (reTick L r).2.2.1 = frm 2 r.id r.cycle (((fused (reTicked L r)).1 : Nat), ((fused (reTicked L r)).2 : Nat), ((step L (fused (reTicked L r)).1 (fused (reTicked L r)).2 r.state).2 : Nat)) := by
 unfold reTick at h ⊢
 dsimp only at h ⊢
 split
 ·exact .inl rfl
 ·rename_i h1
  rw [if_neg h1] at h
  split
  ·rename_i h2
   rw [if_pos h2] at h
   cases h
  ·exact .inr rfl
theorem reTick_late {r : Re} (h : 2 ≤ r.ticks) : (reTick L r).2.2.2 = true := by
 have ht : (reTicked L r).ticks = r.ticks + 1 := rfl
 unfold reTick
 dsimp only
 split
 ·rfl
 ·rename_i h1
  rw [if_neg]
  rw [ht] at h1 ⊢
  omega
theorem tick_may (hL : L.Ok) (h : Cal L σ s) (hk : k < 3) (hfew : s.v.trace.length ≤ 900) : mayB (reTick L (re s k)).2.1 = true ∧ ((reTick L (re s k)).2.2.2 = true → mayB (reTick L (re s k)).2.2.1 = true) := by
 have hid := h.ok.ids k hk
 have hre := h.ok.reps k hk (by omega)
 have hcy := hre.cycle
 obtain ⟨y, hy, e1, e2, e3⟩ := (h.cov k hk).now
 obtain ⟨hS, hV⟩ := reTick_ok hre (h.ok.lens k hk) hid hk (by omega) ⟨y, hy, by rw [hid]; exact e1, e2, e3⟩
 obtain ⟨f1, f2, f3, f4⟩ := reTick_frames L (re s k)
 constructor
 ·obtain ⟨cy, x, _, g1, g2, y, hy, _, _, ex⟩ := hS.sample f2
  have eS := reTick_S L (re s k)
  generalize (reTick L (re s k)).2.1 = S at *
  subst eS
  have h1 : ((((reTicked L (re s k)).seen.getD (re s k).id (0, 0)).1 : Nat) : Int) = ((x.1 : Nat) : Int) := g1
  have h2 : ((((reTicked L (re s k)).seen.getD (re s k).id (0, 0)).2 : Nat) : Int) = ((x.2 : Nat) : Int) := g2
  rw [h1, h2, ex]
  have b1 : (fit L (y.c, y.w)).1 < 4096 := Nat.lt_of_lt_of_le (msk_lt _ _) (show 2 ^ L.secs ≤ 2 ^ 12 from Nat.pow_le_pow_right (by decide) hL.secs2)
  have b2 : (fit L (y.c, y.w)).2 < 256 := Nat.lt_of_lt_of_le (msk_lt _ _) (show 2 ^ L.routes.length ≤ 2 ^ 8 from Nat.pow_le_pow_right (by decide) hL.many2)
  exact may_frm1 (by omega) (by omega) (by omega) (by omega)
 ·intro hfl
  rcases reTick_V hfl with e | e
  ·rw [e]
   exact ask_may (by show (re s k).id ≤ 3; omega) (by show (re s k).cycle ≤ _; omega)
  ·have hV' := hV hfl
   rw [e] at hV' ⊢
   obtain ⟨cy, _, _, hg⟩ := hV'.vote rfl
   obtain ⟨x, y, z, ec, b1, b2, b3⟩ := good_small hL hg
   have e1 : cmOf (frm 2 (re s k).id (re s k).cycle (((fused (reTicked L (re s k))).1 : Nat), ((fused (reTicked L (re s k))).2 : Nat), ((step L (fused (reTicked L (re s k))).1 (fused (reTicked L (re s k))).2 (re s k).state).2 : Nat))) = ((((fused (reTicked L (re s k))).1 : Nat), ((fused (reTicked L (re s k))).2 : Nat), ((step L (fused (reTicked L (re s k))).1 (fused (reTicked L (re s k))).2 (re s k).state).2 : Nat)) : Cm) := rfl
   rw [e1] at ec
   rw [ec]
   exact may_frm2 (by omega) (by omega) (by omega) (by omega) (by omega)
theorem tick_form (hL : L.Ok) (h : Cal L σ s) (hk : k < 3) (hlen : s.way.length ≤ 100) :
  ∃ a b, others k = [a, b] ∧ (tickR L s k).way = s.way ++ ([⟨k, a, encB (reTick L (re s k)).2.1⟩, ⟨k, b, encB (reTick L (re s k)).2.1⟩] ++ if (reTick L (re s k)).2.2.2 = true then [⟨k, 3, encB (reTick L (re s k)).2.2.1⟩] else []) := by
 obtain ⟨m1, m2⟩ := tick_may hL h hk h.ex.few
 obtain ⟨a, b, ho, _⟩ := oth_two hk
 refine ⟨a, b, ho, ?_⟩
 unfold tickR
 dsimp only
 rw [ho]
 have e : ∀ (t : Sys) (x : List Int), sendAll t k [a, b] x = sysSend (sysSend t k a x) k b x := fun t x => rfl
 rw [e]
 have w1 := send_fits (s := { s with rs := s.rs.set k (reTick L (re s k)).1 }) (a := k) (b := a) m1 (by show s.way.length < 120; omega)
 have w2 := send_fits (s := sysSend { s with rs := s.rs.set k (reTick L (re s k)).1 } k a (reTick L (re s k)).2.1) (a := k) (b := b) m1 (by rw [w1]; simp; omega)
 have w12 : (sysSend (sysSend { s with rs := s.rs.set k (reTick L (re s k)).1 } k a (reTick L (re s k)).2.1) k b (reTick L (re s k)).2.1).way = s.way ++ [⟨k, a, encB (reTick L (re s k)).2.1⟩, ⟨k, b, encB (reTick L (re s k)).2.1⟩] := by
  rw [w2, w1]
  simp
 split
 ·rename_i hc
  rw [send_fits (m2 hc) (by rw [w12]; simp; omega), w12]
  simp
 ·rw [w12]
  simp
def Ini (g : Gram) : Prop := ∃ f, msg g = some f ∧ (f.getD 0 0 = 1 ∧ g.src < 3 ∧ g.dst < 3 ∨ (f.getD 0 0 = 2 ∨ f.getD 0 0 = 4) ∧ g.src < 3 ∧ g.dst = 3)
def Rep (g : Gram) : Prop := ∃ f, msg g = some f ∧ (f.getD 0 0 = 3 ∧ g.src = 3 ∧ g.dst < 3 ∨ f.getD 0 0 = 4 ∧ g.src < 3 ∧ g.dst = 3)
theorem tick_ini (hk : k < 3) (hid : (re s k).id = k) (h : g ∈ (tickR L s k).way) : g ∈ s.way ∨ Ini g := by
 rcases tick_mem hk hid h with h | ⟨x, b, rfl, hm, hb, hne, h1, _, h3⟩
 ·exact .inl h
 ·obtain ⟨f1, f2, f3, f4⟩ := reTick_frames L (re s k)
  refine .inr ⟨x, msg_enc hm h1, ?_⟩
  rcases h3 with ⟨h4, h5⟩ | ⟨h4, h5, h6⟩
  ·exact .inl ⟨by rw [h5]; exact f2, hk, h4⟩
  ·exact .inr ⟨by rw [h6]; exact (f4 h5).2.1, hk, h4⟩
theorem tick_len3 (hk : k < 3) : (tickR L s k).way.length ≤ s.way.length + 3 := by
 obtain ⟨a, b, ho, _⟩ := oth_two hk
 unfold tickR
 dsimp only
 rw [ho]
 have e : ∀ (t : Sys) (x : List Int), sendAll t k [a, b] x = sysSend (sysSend t k a x) k b x := fun t x => rfl
 rw [e]
 have l1 := (send_len { s with rs := s.rs.set k (reTick L (re s k)).1 } k a (reTick L (re s k)).2.1).1
 have l2 := (send_len (sysSend { s with rs := s.rs.set k (reTick L (re s k)).1 } k a (reTick L (re s k)).2.1) k b (reTick L (re s k)).2.1).1
 have l0 : ({ s with rs := s.rs.set k (reTick L (re s k)).1 } : Sys).way.length = s.way.length := rfl
 split
 ·have l3 := (send_len (sysSend (sysSend { s with rs := s.rs.set k (reTick L (re s k)).1 } k a (reTick L (re s k)).2.1) k b (reTick L (re s k)).2.1) k 3 (reTick L (re s k)).2.2.1).1
  omega
 ·omega
structure Spl (l r : List Gram) (s : Sys) : Prop where
 way : s.way = l ++ r
 few : l = [] ∨ s.way.length + 2 * l.length ≤ 27
 ini : ∀ g ∈ l, Ini g
 rep : ∀ g ∈ r, Rep g
theorem Spl.tick3 (h : Cal L σ s) (hw : s.way = []) : Spl (tick3 L s).way [] (tick3 L s) := by
 have h1 := h.tick (k := 0) (by decide)
 have h2 := h1.tick (k := 1) (by decide)
 have l0 := tick_len3 (L := L) (s := s) (k := 0) (by decide)
 have l1 := tick_len3 (L := L) (s := tickR L s 0) (k := 1) (by decide)
 have l2 := tick_len3 (L := L) (s := tickR L (tickR L s 0) 1) (k := 2) (by decide)
 have l9 : (Proofs.Ytdhekhlmdefcnab.tick3 L s).way.length ≤ 9 := by
  unfold Proofs.Ytdhekhlmdefcnab.tick3
  rw [hw] at l0
  simp at l0
  omega
 refine ⟨by simp, .inr (by omega), fun g hg => ?_, fun g hg => by cases hg⟩
 rcases tick_ini (k := 2) (by decide) (h2.ok.ids 2 (by decide)) hg with hg | h
 ·rcases tick_ini (k := 1) (by decide) (h1.ok.ids 1 (by decide)) hg with hg | h
  ·rcases tick_ini (k := 0) (by decide) (h.ok.ids 0 (by decide)) hg with hg | h
   ·rw [hw] at hg; cases hg
   ·exact h
  ·exact h
 ·exact h
theorem Spl.head (h : Spl l r s) (hq : s.way = g :: q) : Ini g ∨ Rep g := by
 have hg : g ∈ l ++ r := by rw [← h.way, hq]; exact List.mem_cons_self ..
 rcases List.mem_append.1 hg with h1 | h1
 ·exact .inl (h.ini g h1)
 ·exact .inr (h.rep g h1)
theorem head_kind (h : Ini g ∨ Rep g) (hm : msg g = some f) (hd : g.dst ≠ 3) : f.getD 0 0 ≠ 4 ∧ f.getD 0 0 ≠ 5 := by
 rcases h with ⟨f', e, h⟩ | ⟨f', e, h⟩ <;> (rw [hm] at e; cases e; omega)
theorem new_rep {g' : Gram} (h : Ini g ∨ Rep g) (hn : NewG g s g') : Rep g' := by
 obtain ⟨f, e, hn⟩ := hn
 rcases hn with h1 | ⟨h1, h2, h3, _⟩ | ⟨_, _, _, fh, e2, h4, h5⟩
 ·exact ⟨f, e, .inl h1⟩
 ·exact ⟨f, e, .inr ⟨h1, h2, h3⟩⟩
 ·exact absurd h4 (head_kind h e2 h5).1
theorem Spl.deliver (h : SysOk L 3 σ s) (hx : Ex s) (hs : Spl l r s) (hq : s.way = g :: q) : ∃ r', Spl l.tail r' (deliver L s 0) := by
 obtain ⟨add, a1, a2, a3⟩ := deliver_add (L := L) h hx (i := 0) (g := g) (by rw [hq]; rfl)
 have hh := hs.head hq
 rw [hq, List.eraseIdx_cons_zero] at a1
 have e := hs.way
 rw [hq] at e
 cases l with
 | nil =>
  have e2 : r = g :: q := by simpa using e.symm
  refine ⟨q ++ add, by rw [a1]; rfl, .inl rfl, (fun g hg => by cases hg), fun g' hg' => ?_⟩
  rcases List.mem_append.1 hg' with h1 | h1
  ·exact hs.rep g' (by rw [e2]; exact List.mem_cons_of_mem _ h1)
  ·exact new_rep hh (a3 g' h1)
 | cons o l =>
  have e2 : q = l ++ r := by
   have : g :: q = o :: (l ++ r) := e
   injection this
  refine ⟨r ++ add, by rw [a1, e2]; simp, .inr ?_, fun g' hg' => hs.ini g' (List.mem_cons_of_mem _ hg'), fun g' hg' => ?_⟩
  ·rcases hs.few with h1 | h1
   ·cases h1
   ·rw [hq, e2] at h1
    rw [a1, e2]
    simp at h1 ⊢
    omega
  ·rcases List.mem_append.1 hg' with h1 | h1
   ·exact hs.rep g' h1
   ·exact new_rep hh (a3 g' h1)
theorem deliver_told (h : Cal L σ s) (hq : s.way = g :: q) (hm : msg g = some f) (hd : g.dst = 3) (hk : f.getD 0 0 = 2 ∨ f.getD 0 0 = 4) {c : Nat} (hc : f.getD 2 0 = c) (hlt : c < s.v.trace.length) :
  deliver L s 0 = (if c + 1 = s.v.trace.length then [voDone s.v c] else [voDone s.v c, voDone s.v (s.v.trace.length - 1)]).foldl (fun s x => sysSend s 3 g.src x) { s with way := q } := by
 have hg : g ∈ s.way := by rw [hq]; exact List.mem_cons_self ..
 obtain ⟨hs3, hd3, hne⟩ := h.ex.dst g hg
 have hone : ∀ (l : List (List Int)) (b : Sys), l.foldl (fun s' x => toAll s' false g.src x) b = l.foldl (fun s' x => sysSend s' 3 g.src x) b := by
  intro l
  induction l with
  | nil => intro b; rfl
  | cons x l ih => intro b; rw [List.foldl_cons, List.foldl_cons, toAll_false _ _ (by omega), ih]
 rw [deliver_v hq hm hd, vt_told (hears_ok h hg hm hd hk) hc hlt]
 dsimp only
 rw [hone]
theorem told_last (hL : L.Ok) (h : Cal L σ s) (hq : s.way = g :: q) (hm : msg g = some f) (hd : g.dst = 3) (hk : f.getD 0 0 = 2 ∨ f.getD 0 0 = 4) {c : Nat} (hc : f.getD 2 0 = c) (hlt : c < s.v.trace.length) (hlen : s.way.length ≤ 100) :
  JB g.src (deliver L s 0) := by
 have hg : g ∈ s.way := by rw [hq]; exact List.mem_cons_self ..
 have e := deliver_told h hq hm hd hk hc hlt
 have hql : q.length ≤ 99 := by rw [hq] at hlen; simp at hlen; omega
 have hv : (deliver L s 0).v = s.v := by rw [e, foldl_send_v]
 have hmay : mayB (voDone s.v (s.v.trace.length - 1)) = true := done_may hL h.ok.voter (by omega) (by have := h.ex.few; omega)
 have hin : (⟨3, g.src, encB (voDone s.v (s.v.trace.length - 1))⟩ : Gram) ∈ (deliver L s 0).way := by
  rw [e]
  split
  ·rename_i h1
   have : c = s.v.trace.length - 1 := by omega
   rw [this, List.foldl_cons, List.foldl_nil, send_fits hmay (by show q.length < 120; omega)]
   simp
  ·have hl2 : (sysSend { s with way := q } 3 g.src (voDone s.v c)).way.length ≤ q.length + 1 := (send_len { s with way := q } 3 g.src (voDone s.v c)).1
   rw [List.foldl_cons, List.foldl_cons, List.foldl_nil, send_fits hmay (by omega)]
   simp
 refine .inr (.inl ⟨_, hin, s.v.trace.length - 1, ?_, by rw [hv]; omega⟩)
 exact dones_of (g := ⟨3, g.src, encB _⟩) (msg_enc hmay rfl) rfl rfl
theorem quiet_step (h : Cal L σ s) (hq : s.way = g :: q) (hh : Ini g ∨ Rep g) (hk : k < 3) (hn : (deliver L s 0).v.trace.length = s.v.trace.length)
  (hdk : dones k g = none) (hck : ∀ c, calls k g = some c → s.v.trace.length ≤ c) :
  ((re (deliver L s 0) k).cycle = (re s k).cycle ∧ (re (deliver L s 0) k).ticks = (re s k).ticks) ∧
  ∀ g' ∈ (deliver L s 0).way, g' ∈ q ∨ (dones k g' = none ∧ calls k g' = none) := by
 have hg : g ∈ s.way := by rw [hq]; exact List.mem_cons_self ..
 obtain ⟨hs3, hd3, hne⟩ := h.ex.dst g hg
 obtain ⟨f, hm, hkind⟩ : ∃ f, msg g = some f ∧ ((f.getD 0 0 = 1 ∧ g.src < 3 ∧ g.dst < 3 ∨ (f.getD 0 0 = 2 ∨ f.getD 0 0 = 4) ∧ g.src < 3 ∧ g.dst = 3) ∨ f.getD 0 0 = 3 ∧ g.src = 3 ∧ g.dst < 3) := by
  rcases hh with ⟨f, e, h⟩ | ⟨f, e, h⟩
  ·exact ⟨f, e, .inl h⟩
  ·refine ⟨f, e, ?_⟩
   omega
 have hsrc := (msg_some hm).2.2
 have hcy := h.ex.cy g hg f hm
 by_cases hd : g.dst = 3
 ·have hk2 : f.getD 0 0 = 2 ∨ f.getD 0 0 = 4 := by omega
  have er : (deliver L s 0).rs = s.rs := by rw [deliver_v hq hm hd]; exact foldl_all_rs _ _ _ _
  refine ⟨by rw [re_rs er]; exact ⟨rfl, rfl⟩, ?_⟩
  obtain ⟨c, hc⟩ : ∃ c : Nat, f.getD 2 0 = c := ⟨(f.getD 2 0).toNat, by omega⟩
  by_cases hlt : c < s.v.trace.length
  ·have hne2 : g.src ≠ k := fun e => by
    have h1 := calls_of hm hd hk2
    rw [e] at h1
    have := hck _ h1
    omega
   have e := deliver_told h hq hm hd hk2 hc hlt
   intro g' hg'
   rw [e] at hg'
   rcases fold_send_mem _ _ _ _ _ hg' with h1 | ⟨x, _, rfl, _⟩
   ·exact .inl h1
   ·exact .inr ⟨dones_not fun _ _ h => hne2 h.1, calls_not fun _ _ h => by have : 3 = k := h.1; omega⟩
  ·have hceq : c = s.v.trace.length := by omega
   rw [hceq] at hc
   have hv := hears_ok h hg hm hd hk2
   intro g' hg'
   rw [deliver_v hq hm hd] at hg'
   rcases hk2 with h2 | h4
   ·have hvt := vt_vote hv hc h2 h.ex.lat
    by_cases hal : alike (s.v.votes.set (f.getD 1 0).toNat (cmOf f, true)) (f.getD 1 0).toNat (cmOf f) = true
    ·exfalso
     have e1 : (deliver L s 0).v = (voTake s.v f).1 := by rw [deliver_v hq hm hd, foldl_all_v]
     rw [e1, hvt, if_pos hal] at hn
     have : (s.v.trace ++ [cmOf f]).length = s.v.trace.length := hn
     simp at this
    ·rw [hvt, if_neg hal] at hg'
     exact .inl hg'
   ·rw [vt_ask hv hc h4] at hg'
    exact .inl hg'
 ·have hk3 : g.dst < 3 := by omega
  have e := deliver_r (L := L) hq hm hd
  have er : (deliver L s 0).rs = s.rs.set g.dst (reTake L (re s g.dst) f).1 := by rw [e]; exact foldl_send_rs _ _ _ _
  have hre : ∀ j, re (deliver L s 0) j = if j = g.dst then (reTake L (re s g.dst) f).1 else re s j := fun j => by
   rw [← re_any s h.ok.three hk3 (reTake L (re s g.dst) f).1 s.way j]
   exact re_rs (s' := deliver L s 0) (s := { s with way := s.way, rs := s.rs.set g.dst (reTake L (re s g.dst) f).1 }) er j
  by_cases hkd : k = g.dst
  ·have h1 : f.getD 0 0 = 1 := by
    rcases hkind with h1 | ⟨h1, h2, h3⟩
    ·omega
    ·have := dones_of hm h2 h1
     rw [← hkd, hdk] at this
     cases this
   refine ⟨?_, fun g' hg' => ?_⟩
   ·rw [hre, if_pos hkd, hkd, rt_sample h1]
    split <;> exact ⟨rfl, rfl⟩
   ·rw [e, rt_sample h1] at hg'
    split at hg' <;> exact .inl hg'
  ·refine ⟨by rw [hre, if_neg hkd]; exact ⟨rfl, rfl⟩, fun g' hg' => ?_⟩
   rw [e] at hg'
   rcases fold_send_mem _ _ _ _ _ hg' with h1 | ⟨x, _, rfl, _⟩
   ·exact .inl h1
   ·exact .inr ⟨dones_not fun _ _ h => hd h.2.1, calls_not fun _ _ h => hkd h.1.symm⟩
end
end Go.Proofs.Ytdhekhlmdefcnab
namespace Go.Proofs.Ytdhekhlmdefcnab
def fr (L : Lay) (s : Sys) (k : Nat) : List Gram := ((others k).map fun b => (⟨k, b, encB (reTick L (re s k)).2.1⟩ : Gram)) ++ if (reTick L (re s k)).2.2.2 = true then [⟨k, 3, encB (reTick L (re s k)).2.2.1⟩] else []
def JA (l : List Gram) (k : Nat) (s : Sys) : Prop := JB k s ∨ ((∀ g ∈ s.way, dones k g = none) ∧ ∃ g ∈ l, calls k g = some (re s k).cycle)
def UN (k c t : Nat) (s : Sys) : Prop := (∀ g ∈ s.way, dones k g = none ∧ calls k g = none) ∧ (re s k).cycle = c ∧ (re s k).ticks = t
section
variable {L : Lay} {σ : List Sight} {s s' : Sys} {g : Gram} {q l r : List Gram} {f : List Int} {N n0 k : Nat} {C : Nat → Prop} {c0 t0 : Nat → Nat}
theorem re_tick3 (h : Cal L σ s) (hk : k < 3) : re (tick3 L s) k = reTicked L (re s k) := by
 have h1 := h.tick (k := 0) (by decide)
 have h2 := h1.tick (k := 1) (by decide)
 unfold tick3
 have : k = 0 ∨ k = 1 ∨ k = 2 := by omega
 rcases this with rfl | rfl | rfl
 ·rw [re_tickR L _ h2.ok.three (by decide), if_neg (by decide), re_tickR L _ h1.ok.three (by decide), if_neg (by decide), re_tickR L _ h.ok.three (by decide), if_pos rfl]
 ·rw [re_tickR L _ h2.ok.three (by decide), if_neg (by decide), re_tickR L _ h1.ok.three (by decide), if_pos rfl, re_tickR L _ h.ok.three (by decide), if_neg (by decide)]
 ·rw [re_tickR L _ h2.ok.three (by decide), if_pos rfl, re_tickR L _ h1.ok.three (by decide), if_neg (by decide), re_tickR L _ h.ok.three (by decide), if_neg (by decide)]
theorem tick_fr (hL : L.Ok) (h : Cal L σ s) (hk : k < 3) (hlen : s.way.length ≤ 100) : (tickR L s k).way = s.way ++ fr L s k := by
 obtain ⟨a, b, ho, e⟩ := tick_form hL h hk hlen
 rw [e]
 unfold fr
 rw [ho]
 rfl
theorem fr_of (e : re s' k = re s k) : fr L s' k = fr L s k := by unfold fr; rw [e]
theorem tick3_form (hL : L.Ok) (h : Cal L σ s) (hw : s.way = []) : (tick3 L s).way = fr L s 0 ++ (fr L s 1 ++ fr L s 2) := by
 have h1 := h.tick (k := 0) (by decide)
 have h2 := h1.tick (k := 1) (by decide)
 have l0 := tick_len3 (L := L) (s := s) (k := 0) (by decide)
 have l1 := tick_len3 (L := L) (s := tickR L s 0) (k := 1) (by decide)
 rw [hw] at l0
 simp at l0
 unfold tick3
 rw [tick_fr hL h2 (by decide) (by omega), tick_fr hL h1 (by decide) (by omega), tick_fr hL h (by decide) (by rw [hw]; simp), hw]
 have e1 : re (tickR L s 0) 1 = re s 1 := by rw [re_tickR L _ h.ok.three (by decide), if_neg (by decide)]
 have e2 : re (tickR L (tickR L s 0) 1) 2 = re s 2 := by rw [re_tickR L _ h1.ok.three (by decide), if_neg (by decide), re_tickR L _ h.ok.three (by decide), if_neg (by decide)]
 rw [fr_of e1, fr_of e2]
 simp
theorem fr_sub (hL : L.Ok) (h : Cal L σ s) (hw : s.way = []) (hk : k < 3) : ∀ g ∈ fr L s k, g ∈ (tick3 L s).way := by
 intro g hg
 rw [tick3_form hL h hw]
 have : k = 0 ∨ k = 1 ∨ k = 2 := by omega
 rcases this with rfl | rfl | rfl
 ·exact List.mem_append_left _ hg
 ·exact List.mem_append_right _ (List.mem_append_left _ hg)
 ·exact List.mem_append_right _ (List.mem_append_right _ hg)
theorem fr_all (hL : L.Ok) (h : Cal L σ s) (hw : s.way = []) : ∀ g ∈ (tick3 L s).way, ∃ k, k < 3 ∧ g ∈ fr L s k := by
 intro g hg
 rw [tick3_form hL h hw] at hg
 rcases List.mem_append.1 hg with hg | hg
 ·exact ⟨0, by decide, hg⟩
 ·rcases List.mem_append.1 hg with hg | hg
  ·exact ⟨1, by decide, hg⟩
  ·exact ⟨2, by decide, hg⟩
theorem fr_mem (hL : L.Ok) (h : Cal L σ s) (hk : k < 3) (hg : g ∈ fr L s k) : g.src = k ∧ ((g.dst < 3 ∧ g.dst ≠ k ∧ msg g = some (reTick L (re s k)).2.1) ∨ (g.dst = 3 ∧ (reTick L (re s k)).2.2.2 = true ∧ msg g = some (reTick L (re s k)).2.2.1)) := by
 obtain ⟨m1, m2⟩ := tick_may hL h hk h.ex.few
 obtain ⟨f1, f2, f3, f4⟩ := reTick_frames L (re s k)
 rw [h.ok.ids k hk] at f3 f4
 unfold fr at hg
 rcases List.mem_append.1 hg with hg | hg
 ·obtain ⟨b, hb, rfl⟩ := List.mem_map.1 hg
  obtain ⟨b1, b2⟩ := others_ne k b hb
  exact ⟨rfl, .inl ⟨b1, b2, msg_enc m1 f3⟩⟩
 ·split at hg
  ·rename_i hc
   rw [List.mem_singleton.1 hg]
   exact ⟨rfl, .inr ⟨rfl, hc, msg_enc (m2 hc) (f4 hc).2.2⟩⟩
  ·cases hg
theorem fr_sample (hk : k < 3) {b : Nat} (hb : b < 3) (hne : b ≠ k) : (⟨k, b, encB (reTick L (re s k)).2.1⟩ : Gram) ∈ fr L s k := by
 unfold fr
 refine List.mem_append_left _ (List.mem_map.2 ⟨b, ?_, rfl⟩)
 have h1 : k = 0 ∨ k = 1 ∨ k = 2 := by omega
 have h2 : b = 0 ∨ b = 1 ∨ b = 2 := by omega
 rcases h1 with rfl | rfl | rfl <;> rcases h2 with rfl | rfl | rfl <;> first | exact absurd rfl hne | decide
theorem fr_vote (hc : (reTick L (re s k)).2.2.2 = true) : (⟨k, 3, encB (reTick L (re s k)).2.2.1⟩ : Gram) ∈ fr L s k := by
 unfold fr
 rw [if_pos hc]
 exact List.mem_append_right _ (List.mem_singleton.2 rfl)
structure Hf (L : Lay) (σ : List Sight) (n0 : Nat) (C : Nat → Prop) (c0 t0 : Nat → Nat) (s : Sys) : Prop where
 fl : Fl L σ n0 s
 st : ∃ l r, Spl l r s ∧ ∀ k, k < 3 → s.v.trace.length = n0 → C k → JA l k s
 un : ∀ k, k < 3 → s.v.trace.length = n0 → ¬ C k → UN k (c0 k) (t0 k) s
 co : ∀ k, k < 3 → s.v.trace.length = n0 + 1 → JB k s
theorem Hf.deliver (hL : L.Ok) (hn0 : n0 ≤ 700) (h : Hf L σ n0 C c0 t0 s) (hw : s.way ≠ []) : Hf L σ n0 C c0 t0 (deliver L s 0) := by
 obtain ⟨g, q, hq⟩ : ∃ g q, s.way = g :: q := by
  cases e : s.way with
  | nil => exact absurd e hw
  | cons g q => exact ⟨g, q, rfl⟩
 have hfl := (h.fl.deliver hL (by omega) (Nat.le_refl _) hw).1
 have hc := h.fl.cal
 obtain ⟨l, r, hs, hja⟩ := h.st
 obtain ⟨r', hs'⟩ := hs.deliver hc.ok hc.ex hq
 have hh := hs.head hq
 have hlo := h.fl.lo
 have hhi := h.fl.hi
 have hlo' := hfl.lo
 have hhi' := hfl.hi
 have hvt := deliver_vt L s 0
 have hfew : s.v.trace.length ≤ 800 := by omega
 by_cases hn : (Proofs.Ytdhekhlmdefcnab.deliver L s 0).v.trace.length = s.v.trace.length
 ·have step : ∀ k, k < 3 → JB k s → JB k (Proofs.Ytdhekhlmdefcnab.deliver L s 0) := fun k hk hj => JB_step hL hc hq hk (fun f hm hd => head_kind hh hm hd) hfew hn hj
  refine ⟨hfl, ⟨l.tail, r', hs', fun k hk e hC => ?_⟩, fun k hk e hC => ?_, fun k hk e => step k hk (h.co k hk (by omega))⟩
  ·rcases hja k hk (by omega) hC with hj | ⟨hd, x, hx, hcx⟩
   ·exact .inl (step k hk hj)
   ·have hlen : s.way.length ≤ 100 := by
     rcases hs.few with h1 | h1
     ·rw [h1] at hx; cases hx
     ·omega
    have hdk : dones k g = none := hd g (by rw [hq]; exact List.mem_cons_self ..)
    by_cases hcl : ∃ c, calls k g = some c ∧ c < s.v.trace.length
    ·obtain ⟨c, hc1, hc2⟩ := hcl
     obtain ⟨f, m1, m2, m3, m4, m5⟩ := calls_some hc1
     have hcy := hc.ex.cy g (by rw [hq]; exact List.mem_cons_self ..) f m1
     rw [← m2]
     exact .inl (told_last hL hc hq m1 m3 m4 (c := c) (by omega) hc2 hlen)
    ·have hck : ∀ c, calls k g = some c → s.v.trace.length ≤ c := fun c h1 => by
      refine Decidable.byContradiction fun h2 => hcl ⟨c, h1, by omega⟩
     obtain ⟨⟨q1, q2⟩, q3⟩ := quiet_step hc hq hh hk hn hdk hck
     by_cases hfin : (re s k).cycle = s.v.trace.length
     ·exact .inl (.inl (by omega))
     ·refine .inr ⟨fun g' hg' => ?_, x, ?_, by rw [q1]; exact hcx⟩
      ·rcases q3 g' hg' with h1 | h1
       ·exact hd g' (by rw [hq]; exact List.mem_cons_of_mem _ h1)
       ·exact h1.1
      ·have e2 := hs.way
       rw [hq] at e2
       cases l with
       | nil => cases hx
       | cons o l =>
        have : g = o := by
         have : g :: q = o :: (l ++ r) := e2
         injection this
        rcases List.mem_cons.1 hx with h1 | h1
        ·rw [h1, ← this] at hcx
         have := hck _ hcx
         have := (hc.ok.reps k hk (by omega)).cycle
         omega
        ·exact h1
  ·obtain ⟨u1, u2, u3⟩ := h.un k hk (by omega) hC
   have hg := u1 g (by rw [hq]; exact List.mem_cons_self ..)
   obtain ⟨⟨q1, q2⟩, q3⟩ := quiet_step hc hq hh hk hn hg.1 (fun c h1 => by rw [hg.2] at h1; cases h1)
   refine ⟨fun g' hg' => ?_, q1.trans u2, q2.trans u3⟩
   rcases q3 g' hg' with h1 | h1
   ·exact u1 g' (by rw [hq]; exact List.mem_cons_of_mem _ h1)
   ·exact h1
 ·refine ⟨hfl, ⟨l.tail, r', hs', fun k hk e hC => by omega⟩, fun k hk e hC => by omega, fun k hk e => ?_⟩
  obtain ⟨f, hm, hd, h2, _⟩ := deliver_commit hc hq hn
  have hlen : s.way.length ≤ 100 := by
   rcases hs.few with h1 | h1
   ·have e2 := hs.way
    rw [hq, h1] at e2
    obtain ⟨f', m1, m2⟩ := hs.rep g (by rw [show r = g :: q from by simpa using e2.symm]; exact List.mem_cons_self ..)
    rw [hm] at m1
    cases m1
    omega
   ·omega
  exact JB_commit hL hc hq hn hlen hfew hk
def Sm (s : Sys) : Prop := s.v.trace.length ≤ 13 ∨ (s.v.trace.length ≤ 22 ∧ ∃ i j, i < 3 ∧ j < 3 ∧ i ≠ j ∧ s.v.trace.length ≤ (re s i).cycle + 1 ∧ s.v.trace.length ≤ (re s j).cycle + 1) ∨ (s.v.trace.length ≤ 100 ∧ ∀ k, k < 3 → (re s k).cycle = s.v.trace.length)
theorem Sm.pot (h : Cal L σ s) (hw : s.way = []) (hs : Sm s) : Pot (s.v.trace.length + 1) s.v.trace.length (tick3 L s) < 1200 := by
 have hU := U_tick3 (N := s.v.trace.length + 1) h
 have e : U (s.v.trace.length + 1) s = tri (s.v.trace.length + 1 - (re s 0).cycle) + tri (s.v.trace.length + 1 - (re s 1).cycle) + tri (s.v.trace.length + 1 - (re s 2).cycle) := by
  unfold U
  rw [hw]
  rfl
 have hp : Pot (s.v.trace.length + 1) s.v.trace.length (tick3 L s) ≤ U (s.v.trace.length + 1) (tick3 L s) + (9 * (s.v.trace.length + 1) + 1) := by
  unfold Pot
  split <;> omega
 have c0 := (h.ok.reps 0 (by decide) (by decide)).cycle
 have c1 := (h.ok.reps 1 (by decide) (by decide)).cycle
 have c2 := (h.ok.reps 2 (by decide) (by decide)).cycle
 have t14 : tri 14 = 273 := by decide
 have t23 : tri 23 = 759 := by decide
 have t2 : tri 2 = 3 := by decide
 have t1 : tri 1 = 0 := by decide
 have tm : ∀ {a b : Nat}, a ≤ b → tri a ≤ tri b := tri_mono
 rcases hs with h1 | ⟨h1, i, j, hi, hj, hij, h2, h3⟩ | ⟨h1, h2⟩
 ·have a0 := tm (show s.v.trace.length + 1 - (re s 0).cycle ≤ 14 by omega)
  have a1 := tm (show s.v.trace.length + 1 - (re s 1).cycle ≤ 14 by omega)
  have a2 := tm (show s.v.trace.length + 1 - (re s 2).cycle ≤ 14 by omega)
  omega
 ·have near : ∀ k, s.v.trace.length ≤ (re s k).cycle + 1 → tri (s.v.trace.length + 1 - (re s k).cycle) ≤ 3 := fun k hk => by rw [← t2]; exact tm (by omega)
  have far : ∀ k, tri (s.v.trace.length + 1 - (re s k).cycle) ≤ 759 := fun k => by rw [← t23]; exact tm (by omega)
  have f0 := far 0
  have f1 := far 1
  have f2 := far 2
  have ni := near i h2
  have nj := near j h3
  have hi' : i = 0 ∨ i = 1 ∨ i = 2 := by omega
  have hj' : j = 0 ∨ j = 1 ∨ j = 2 := by omega
  rcases hi' with rfl | rfl | rfl <;> rcases hj' with rfl | rfl | rfl <;> first | exact absurd rfl hij | omega
 ·have at1 : ∀ k, k < 3 → tri (s.v.trace.length + 1 - (re s k).cycle) ≤ 0 := fun k hk => by rw [← t1, h2 k hk]; exact tm (by omega)
  have a0 := at1 0 (by decide)
  have a1 := at1 1 (by decide)
  have a2 := at1 2 (by decide)
  have b0 := h2 0 (by decide)
  have b1 := h2 1 (by decide)
  have b2 := h2 2 (by decide)
  omega
def Calls1 (L : Lay) (s : Sys) (k : Nat) : Prop := (re s k).cycle = s.v.trace.length ∨ (reTick L (re s k)).2.2.2 = true
theorem half_start (hL : L.Ok) (h : Cal L σ s) (hw : s.way = []) : Hf L σ s.v.trace.length (Calls1 L s) (fun k => (re s k).cycle) (fun k => (re s k).ticks + 1) (tick3 L s) := by
 have hs := Spl.tick3 h hw
 have hv : (tick3 L s).v = s.v := tick3_v L s
 have hnod : ∀ k, ∀ g ∈ (tick3 L s).way, dones k g = none := fun k g hg => dones_not fun f hm h1 => by
  obtain ⟨f', e, h2⟩ := hs.ini g hg
  rw [hm] at e
  cases e
  omega
 refine ⟨fl_tick3 h, ⟨_, _, hs, fun k hk _ hC => ?_⟩, fun k hk _ hC => ?_, fun k hk e => by rw [hv] at e; omega⟩
 ·rcases hC with h1 | h1
  ·exact .inl (.inl (by rw [hv, re_tick3 h hk]; exact h1))
  ·refine .inr ⟨hnod k, _, fr_sub hL h hw hk _ (fr_vote h1), ?_⟩
   obtain ⟨f1, f2, f3, f4⟩ := reTick_frames L (re s k)
   obtain ⟨g1, g2, g3⟩ := f4 h1
   obtain ⟨m1, m2⟩ := fr_mem hL h hk (fr_vote h1)
   rcases m2 with ⟨m3, _⟩ | ⟨_, _, m4⟩
   ·exact absurd m3 (by show ¬ (3 < 3); omega)
   ·have := calls_of m4 rfl g2
    rw [g1] at this
    rw [re_tick3 h hk]
    exact this
 ·refine ⟨fun g hg => ⟨hnod k g hg, calls_not fun f hm h1 => ?_⟩, ?_, ?_⟩
  ·obtain ⟨j, hj, hg⟩ := fr_all hL h hw g hg
   obtain ⟨m1, m2⟩ := fr_mem hL h hj hg
   rcases m2 with ⟨m3, _⟩ | ⟨_, m4, _⟩
   ·omega
   ·have : j = k := by omega
    subst this
    exact hC (.inr m4)
  ·rw [re_tick3 h hk]; rfl
  ·rw [re_tick3 h hk]; rfl
theorem half_res (hL : L.Ok) (h : Cal L σ s) (hw : s.way = []) (hs : Sm s) :
    Cal L σ (halfRound L 1200 s) ∧ (halfRound L 1200 s).way = [] ∧
    ((halfRound L 1200 s).v.trace.length = s.v.trace.length + 1 ∧ (∀ k, k < 3 → (re (halfRound L 1200 s) k).cycle = s.v.trace.length + 1) ∨
     (halfRound L 1200 s).v.trace.length = s.v.trace.length ∧ (∀ k, k < 3 → Calls1 L s k → (re (halfRound L 1200 s) k).cycle = s.v.trace.length) ∧
      ∀ k, k < 3 → ¬ Calls1 L s k → (re (halfRound L 1200 s) k).cycle = (re s k).cycle ∧ (re (halfRound L 1200 s) k).ticks = (re s k).ticks + 1) := by
  have hn : s.v.trace.length ≤ 100 := by rcases hs with h1 | ⟨h1, _⟩ | ⟨h1, _⟩ <;> omega
  have e : halfRound L 1200 s = flows L (tick3 L s) 1200 := rfl
  have h0 := half_start hL h hw
  have hf := flows_keep (L := L) (I := Hf L σ s.v.trace.length (Calls1 L s) (fun k => (re s k).cycle) (fun k => (re s k).ticks + 1)) (fun t ht hw => ht.deliver hL (by omega) hw) 1200 h0
  obtain ⟨hfl, hpot⟩ := Fl.flows (N := s.v.trace.length + 1) hL (by omega) (Nat.le_refl _) 1200 (fl_tick3 h)
  rw [e]
  have hw2 : (flows L (tick3 L s) 1200).way = [] := by
    rcases hpot with h1 | h1
    · exact h1
    · have := Sm.pot h hw hs
      omega
  generalize flows L (tick3 L s) 1200 = t at *
  have jb : ∀ k, JB k t → (re t k).cycle = t.v.trace.length := fun k hj => by
    rcases hj with h1 | ⟨g, hg, _⟩ | ⟨_, g, hg, _⟩
    · exact h1
    · rw [hw2] at hg; cases hg
    · rw [hw2] at hg; cases hg
  refine ⟨hfl.cal, hw2, ?_⟩
  have hlo := hfl.lo
  have hhi := hfl.hi
  by_cases hc : t.v.trace.length = s.v.trace.length
  · refine .inr ⟨hc, fun k hk hC => ?_, fun k hk hC => ?_⟩
    · obtain ⟨l, r, hsp, hja⟩ := hf.st
      rcases hja k hk hc hC with h1 | ⟨_, g, hg, _⟩
      · rw [← hc]; exact jb k h1
      · have := hsp.way
        rw [hw2] at this
        have : l = [] := (List.append_eq_nil_iff.1 this.symm).1
        rw [this] at hg
        cases hg
    · obtain ⟨_, u2, u3⟩ := hf.un k hk hc hC
      exact ⟨u2, u3⟩
  · have hc1 : t.v.trace.length = s.v.trace.length + 1 := by omega
    refine .inl ⟨hc1, fun k hk => ?_⟩
    rw [← hc1]
    exact jb k (hf.co k hk hc1)
end
end Go.Proofs.Ytdhekhlmdefcnab
namespace Go.Proofs.Ytdhekhlmdefcnab
structure Cz (L : Lay) (σ : List Sight) (b : Int) (s : Sys) : Prop where
 cal : Cal L σ s
 lag : Lag s
 tm : b ≤ s.v.time
def vt (s : Sys) : Sys := { s with v := voTick s.v }
def AllAt (s : Sys) : Prop := ∀ k, k < 3 → (re s k).cycle = s.v.trace.length
def Waits (m : Nat) (s : Sys) : Prop := ∀ k, k < 3 → (re s k).cycle = s.v.trace.length ∨ m ≤ (re s k).ticks
section
variable {L : Lay} {σ : List Sight} {s s' : Sys} {g : Gram} {f : List Int} {b : Int} {m : Nat}
theorem voTake_time (v : Vo) (f : List Int) : (voTake v f).1.time = v.time ∨ (voTake v f).1.time = v.window := by
 unfold voTake
 split
 ·exact .inl rfl
 split
 ·exact .inl rfl
 split
 ·exact .inl rfl
 split
 ·exact .inl rfl
 ·dsimp only
  split
  ·exact .inr rfl
  ·exact .inl rfl
theorem deliver_time (h : Cal L σ s) (hb : b ≤ 20) (ht : b ≤ s.v.time) (i : Nat) : b ≤ (deliver L s i).v.time := by
 cases hw : s.way[i]? with
 | none => rw [deliver_no hw]; exact ht
 | some g =>
  cases hm : msg g with
  | none => rw [deliver_noneI hw hm]; exact ht
  | some f =>
   by_cases hd : g.dst = 3
   ·rw [deliver_vI hw hm hd, foldl_all_v]
    rcases voTake_time s.v f with e | e
    ·show b ≤ (voTake s.v f).1.time; rw [e]; exact ht
    ·show b ≤ (voTake s.v f).1.time; rw [e, h.ex.win]; exact hb
   ·rw [deliver_rI hw hm hd, foldl_send_v]; exact ht
theorem Cz.deliver (hL : L.Ok) (hb : b ≤ 20) (h : Cz L σ b s) (hfew : s.v.trace.length + 1 ≤ 900) (i : Nat) : Cz L σ b (deliver L s i) :=
 ⟨h.cal.deliver hL hfew i, h.lag.deliver h.cal.ok h.cal.ex i, deliver_time h.cal hb h.tm i⟩
theorem Cz.tick3 (h : Cz L σ b s) : Cz L σ b (tick3 L s) := ⟨h.cal.tick3, h.lag.tick3 h.cal, by rw [tick3_v]; exact h.tm⟩
theorem Cz.flows (hL : L.Ok) (hb : b ≤ 20) {ns : Nat} (hns : ns ≤ 700) (n : Nat) (h : Cz L σ b s) (hf : Fl L σ ns s) : Cz L σ b (flows L s n) ∧ Fl L σ ns (flows L s n) :=
 flows_keep (L := L) (I := fun t => Cz L σ b t ∧ Fl L σ ns t) (fun t ht hw => ⟨ht.1.deliver hL hb (by have := ht.2.hi; omega) 0, (ht.2.deliver hL (by omega) (Nat.le_refl _) hw).1⟩) n ⟨h, hf⟩
theorem Cz.half (hL : L.Ok) (hb : b ≤ 20) (hn : s.v.trace.length ≤ 700) (h : Cz L σ b s) : Cz L σ b (halfRound L 1200 s) ∧ Fl L σ s.v.trace.length (halfRound L 1200 s) :=
 Cz.flows hL hb hn 1200 h.tick3 (fl_tick3 h.cal)
theorem vt_rest (hb : 2 ≤ s.v.time) (hl : s.v.latched = false) : voTick s.v = { s.v with time := s.v.time - 1 } := by
 unfold voTick
 rw [if_neg (by rw [hl]; decide), if_neg (by omega)]
theorem vt_same (hb : 2 ≤ s.v.time) (hl : s.v.latched = false) : vt s = { s with v := { s.v with time := s.v.time - 1 } } := by
 unfold vt
 rw [vt_rest hb hl]
theorem Cz.vt (h : Cz L σ b s) (hb : 2 ≤ b) : Cz L σ (b - 1) (vt s) := by
 have htm := h.tm
 have e := vt_same (s := s) (by omega) h.cal.ex.lat
 have hok : SysOk L 3 σ (Proofs.Ytdhekhlmdefcnab.vt s) := h.cal.ok.voTick
 rw [e] at hok ⊢
 exact ⟨⟨hok, fun k hk => (h.cal.cov k hk).later (Later.of_rs rfl), ⟨h.cal.ex.len, h.cal.ex.cy, h.cal.ex.dst, h.cal.ex.ahead, h.cal.ex.lat, h.cal.ex.win, h.cal.ex.few⟩⟩, ⟨h.lag.vw, h.lag.vs, h.lag.q⟩, by show b - 1 ≤ s.v.time - 1; omega⟩
theorem Cz.sm (h : Cz L σ b s) (hn : s.v.trace.length ≤ 22) : Sm s := by
 rcases h.lag.q with h1 | h1
 ·exact .inl h1
 ·exact .inr (.inl ⟨hn, h1⟩)
theorem AllAt.sm (h : AllAt s) (hn : s.v.trace.length ≤ 100) : Sm s := .inr (.inr ⟨hn, h⟩)
theorem AllAt.half (hL : L.Ok) (h : Cal L σ s) (hw : s.way = []) (ha : AllAt s) (hn : s.v.trace.length ≤ 100) : (halfRound L 1200 s).way = [] ∧ AllAt (halfRound L 1200 s) := by
 obtain ⟨_, h2, h3⟩ := half_res hL h hw (ha.sm hn)
 refine ⟨h2, fun k hk => ?_⟩
 rcases h3 with ⟨e, h4⟩ | ⟨e, h4, _⟩
 ·rw [h4 k hk, e]
 ·rw [h4 k hk (.inl (ha k hk)), e]
theorem waits_half (hL : L.Ok) (h : Cal L σ s) (hw : s.way = []) (hs : Sm s) (ha : Waits m s) : AllAt (halfRound L 1200 s) ∨ Waits (m + 1) (halfRound L 1200 s) := by
 obtain ⟨_, h2, h3⟩ := half_res hL h hw hs
 rcases h3 with ⟨e, h4⟩ | ⟨e, h4, h5⟩
 ·exact .inl fun k hk => by rw [h4 k hk, e]
 ·refine .inr fun k hk => ?_
  by_cases hC : Calls1 L s k
  ·exact .inl (by rw [h4 k hk hC, e])
  ·obtain ⟨_, e2⟩ := h5 k hk hC
   rcases ha k hk with h6 | h6
   ·exact absurd (.inl h6) hC
   ·exact .inr (by omega)
theorem waits_two (hL : L.Ok) (h : Cal L σ s) (hw : s.way = []) (hs : Sm s) (ha : Waits 2 s) : AllAt (halfRound L 1200 s) := by
 obtain ⟨_, h2, h3⟩ := half_res hL h hw hs
 intro k hk
 have hC : Calls1 L s k := by
  rcases ha k hk with h6 | h6
  ·exact .inl h6
  ·exact .inr (reTick_late h6)
 rcases h3 with ⟨e, h4⟩ | ⟨e, h4, h5⟩
 ·rw [h4 k hk, e]
 ·rw [h4 k hk hC, e]
end
end Go.Proofs.Ytdhekhlmdefcnab
namespace Go.Proofs.Ytdhekhlmdefcnab
def Got (x : Nat → Nat × Nat) (t0 : Nat) (k : Nat) (r : Re) : Prop := ∀ j, j < 3 → j ≠ k → r.some.getD j false = true ∧ r.seen.getD j (0, 0) = x j ∧ r.came.getD j 0 = t0
def Smp (g : Gram) (f : List Int) : Prop := msg g = some f ∧ g.dst < 3 ∧ f.getD 0 0 = 1
structure Hx (L : Lay) (σ : List Sight) (n0 : Nat) (x : Nat → Nat × Nat) (t0 : Nat → Nat) (s : Sys) : Prop where
 fl : Fl L σ n0 s
 st : ∃ l r, Spl l r s
 at0 : s.v.trace.length = n0 → ∀ k, k < 3 → (re s k).cycle = n0 ∧ (re s k).ticks = t0 k ∧ (re s k).came.length = 3
 sm : s.v.trace.length = n0 → ∀ g ∈ s.way, ∀ f, Smp g f → fit L (f.getD 3 0, f.getD 4 0) = x g.src ∧ f.getD 2 0 = n0
 got : s.v.trace.length = n0 → ∀ k, k < 3 → ∀ j, j < 3 → j ≠ k → ((re s k).some.getD j false = true ∧ (re s k).seen.getD j (0, 0) = x j ∧ (re s k).came.getD j 0 = t0 k) ∨ ∃ g ∈ s.way, ∃ f, Smp g f ∧ g.src = j ∧ g.dst = k
section
variable {L : Lay} {σ : List Sight} {s s' : Sys} {g : Gram} {q l r : List Gram} {f : List Int} {N n0 k : Nat} {x : Nat → Nat × Nat} {t0 : Nat → Nat}
theorem rep_no_smp (h : Rep g) : ¬ Smp g f := by
 rintro ⟨h1, h2, h3⟩
 obtain ⟨f', e, h4⟩ := h
 rw [h1] at e
 cases e
 omega
theorem new_no_smp (hh : Ini g ∨ Rep g) {g' : Gram} (h : NewG g s g') : ¬ Smp g' f := rep_no_smp (new_rep hh h)
theorem set3 {α : Type} {l : List α} {i : Nat} {a : α} {n : Nat} (h : l.length = n) : (l.set i a).length = n := by rw [List.length_set]; exact h
theorem Hx.deliver (hL : L.Ok) (hn0 : n0 ≤ 700) (h : Hx L σ n0 x t0 s) (hw : s.way ≠ []) : Hx L σ n0 x t0 (deliver L s 0) := by
 obtain ⟨g, q, hq⟩ : ∃ g q, s.way = g :: q := by
  cases e : s.way with
  | nil => exact absurd e hw
  | cons g q => exact ⟨g, q, rfl⟩
 have hg : g ∈ s.way := by rw [hq]; exact List.mem_cons_self ..
 have hfl := (h.fl.deliver hL (by omega) (Nat.le_refl _) hw).1
 have hc := h.fl.cal
 obtain ⟨l, r, hs⟩ := h.st
 obtain ⟨r', hs'⟩ := hs.deliver hc.ok hc.ex hq
 have hh := hs.head hq
 have hlo := h.fl.lo
 have hvt := deliver_vt L s 0
 obtain ⟨hs3, hd3, hne⟩ := hc.ex.dst g hg
 obtain ⟨add, a1, _, a3⟩ := deliver_add (L := L) hc.ok hc.ex (i := 0) (g := g) (by rw [hq]; rfl)
 rw [hq, List.eraseIdx_cons_zero] at a1
 have hsm' : ∀ g' ∈ (Proofs.Ytdhekhlmdefcnab.deliver L s 0).way, ∀ f, Smp g' f → g' ∈ q := fun g' hg' f hf => by
  rw [a1] at hg'
  rcases List.mem_append.1 hg' with h1 | h1
  ·exact h1
  ·exact absurd hf (new_no_smp hh (a3 g' h1))
 have sub : ∀ y ∈ q, y ∈ (Proofs.Ytdhekhlmdefcnab.deliver L s 0).way := fun y hy => by rw [a1]; exact List.mem_append_left _ hy
 have old : (Proofs.Ytdhekhlmdefcnab.deliver L s 0).v.trace.length = n0 → s.v.trace.length = n0 := fun e => by omega
 -- what it does to replicas
 have turn : s.v.trace.length = n0 → (∀ k, k < 3 → re (Proofs.Ytdhekhlmdefcnab.deliver L s 0) k = re s k) ∧ (∀ f, ¬ Smp g f) ∨ ∃ f, Smp g f ∧ (∀ k, k < 3 → k ≠ g.dst → re (Proofs.Ytdhekhlmdefcnab.deliver L s 0) k = re s k) ∧ g.src < 3 ∧
   re (Proofs.Ytdhekhlmdefcnab.deliver L s 0) g.dst = { re s g.dst with seen := (re s g.dst).seen.set g.src (x g.src), some := (re s g.dst).some.set g.src true, came := (re s g.dst).came.set g.src (re s g.dst).ticks } := by
  intro e0
  obtain ⟨f, hm, hkind⟩ : ∃ f, msg g = some f ∧ ((f.getD 0 0 = 1 ∧ g.src < 3 ∧ g.dst < 3 ∨ (f.getD 0 0 = 2 ∨ f.getD 0 0 = 4) ∧ g.src < 3 ∧ g.dst = 3) ∨ f.getD 0 0 = 3 ∧ g.src = 3 ∧ g.dst < 3) := by
   rcases hh with ⟨f, e, h⟩ | ⟨f, e, h⟩
   ·exact ⟨f, e, .inl h⟩
   ·refine ⟨f, e, ?_⟩
    omega
  have hsrc := (msg_some hm).2.2
  by_cases hd : g.dst = 3
  ·have er : (Proofs.Ytdhekhlmdefcnab.deliver L s 0).rs = s.rs := by rw [deliver_v hq hm hd]; exact foldl_all_rs _ _ _ _
   exact .inl ⟨fun k _ => re_rs er k, fun f hf => by have := hf.2.1; omega⟩
  ·have hk3 : g.dst < 3 := by omega
   have e := deliver_r (L := L) hq hm hd
   have er : (Proofs.Ytdhekhlmdefcnab.deliver L s 0).rs = s.rs.set g.dst (reTake L (re s g.dst) f).1 := by rw [e]; exact foldl_send_rs _ _ _ _
   have hre : ∀ j, re (Proofs.Ytdhekhlmdefcnab.deliver L s 0) j = if j = g.dst then (reTake L (re s g.dst) f).1 else re s j := fun j => by
    rw [← re_any s hc.ok.three hk3 (reTake L (re s g.dst) f).1 s.way j]
    exact re_rs (s' := Proofs.Ytdhekhlmdefcnab.deliver L s 0) (s := { s with way := s.way, rs := s.rs.set g.dst (reTake L (re s g.dst) f).1 }) er j
   have hcyc := (h.at0 e0 g.dst hk3).1
   by_cases h1 : f.getD 0 0 = 1
   ·have hsmp : Smp g f := ⟨hm, hk3, h1⟩
    obtain ⟨f1, f2⟩ := h.sm e0 g hg f hsmp
    have hid := hc.ok.ids g.dst hk3
    have hot : other (re s g.dst) f = true := by
     unfold other
     simp only [Bool.and_eq_true, decide_eq_true_eq]
     rw [hid]
     omega
    refine .inr ⟨f, hsmp, fun k hk hne => by rw [hre, if_neg hne], by omega, ?_⟩
    rw [hre, if_pos rfl, rt_sample h1, if_pos ⟨hot, by rw [f2, hcyc]⟩, f1]
    have : (f.getD 1 0).toNat = g.src := by omega
    rw [this]
   ·have h3 : f.getD 0 0 = 3 := by omega
    obtain ⟨hf, _⟩ := gram_ok hc.ok hg hm
    obtain ⟨c, e3, e4⟩ := hf.done h3
    have hlt := (List.getElem?_eq_some_iff.1 e4).1
    have hrt := rt_done_old (L := L) (r := re s g.dst) h3 e3 (by omega)
    refine .inl ⟨fun k hk => ?_, fun f' hf' => ?_⟩
    ·rw [hre]
     split
     ·rename_i e5; rw [hrt, e5]
     ·rfl
    ·have := hf'.1
     rw [hm] at this
     cases this
     exact h1 hf'.2.2
 refine ⟨hfl, ⟨_, r', hs'⟩, fun e k hk => ?_, fun e g' hg' f hf => ?_, fun e k hk j hj hjk => ?_⟩
 ·have h0 := h.at0 (old e) k hk
  rcases turn (old e) with ⟨h1, _⟩ | ⟨f, hf, h1, h2, h3⟩
  ·rw [h1 k hk]; exact h0
  ·by_cases hkd : k = g.dst
   ·rw [hkd] at h0 ⊢
    rw [h3]
    exact ⟨h0.1, h0.2.1, set3 h0.2.2⟩
   ·rw [h1 k hk hkd]; exact h0
 ·exact h.sm (old e) g' (by rw [hq]; exact List.mem_cons_of_mem _ (hsm' g' hg' f hf)) f hf
 ·have h0 := h.got (old e) k hk j hj hjk
  have hlens := hc.ok.lens k hk
  have ha0 := h.at0 (old e) k hk
  rcases turn (old e) with ⟨h1, hno⟩ | ⟨f, hf, h1, h2, h3⟩
  ·rw [h1 k hk]
   rcases h0 with h0 | ⟨y, hy, f, hf, hy2⟩
   ·exact .inl h0
   ·rw [hq] at hy
    rcases List.mem_cons.1 hy with rfl | hy
    ·exact absurd hf (hno f)
    ·exact .inr ⟨y, sub y hy, f, hf, hy2⟩
  ·by_cases hkd : k = g.dst
   ·by_cases hjs : j = g.src
    ·refine .inl ?_
     rw [hkd] at hlens ha0 ⊢
     rw [h3, hjs]
     exact ⟨getD_set_same (by omega) _ _, getD_set_same (by omega) _ _, (getD_set_same (by omega) _ _).trans ha0.2.1⟩
    ·rcases h0 with h0 | ⟨y, hy, f', hf', hy2⟩
     ·refine .inl ?_
      rw [hkd] at h0 ⊢
      rw [h3]
      exact ⟨(getD_set_other (Ne.symm hjs) _ _).trans h0.1, (getD_set_other (Ne.symm hjs) _ _).trans h0.2.1, (getD_set_other (Ne.symm hjs) _ _).trans h0.2.2⟩
     ·rw [hq] at hy
      rcases List.mem_cons.1 hy with rfl | hy
      ·exact absurd hy2.1.symm hjs
      ·exact .inr ⟨y, sub y hy, f', hf', hy2⟩
   ·rw [h1 k hk hkd]
    rcases h0 with h0 | ⟨y, hy, f', hf', hy2⟩
    ·exact .inl h0
    ·rw [hq] at hy
     rcases List.mem_cons.1 hy with rfl | hy
     ·exact absurd hy2.2.symm hkd
     ·exact .inr ⟨y, sub y hy, f', hf', hy2⟩
end
end Go.Proofs.Ytdhekhlmdefcnab
