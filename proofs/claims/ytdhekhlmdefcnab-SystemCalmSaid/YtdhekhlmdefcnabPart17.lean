/- Part 17 of the proof: CaCredit, CaTale, CaLaw. -/
import Derived.Test.YtdhekhlmdefcnabPart16
namespace Go.Proofs.Ytdhekhlmdefcnab
def vway (s : Sys) (k : Nat) : Bool := s.way.any fun g => match msg g with
 | some f => decide (g.dst = 3 ∧ f.getD 0 0 = 2 ∧ g.src = k ∧ f.getD 2 0 = (s.v.trace.length : Int))
 | none => false
def o1 (b : Bool) : Nat := if b then 1 else 0
def oth (r : Re) (k : Nat) : Nat := o1 (decide (0 ≠ k) && r.some.getD 0 false) + o1 (decide (1 ≠ k) && r.some.getD 1 false) + o1 (decide (2 ≠ k) && r.some.getD 2 false)
def pw (s : Sys) (k : Nat) : Nat := if (s.v.votes.getD k (Cm.zero, false)).2 = true then 5 else if vway s k = true then 4 else if (re s k).cycle = s.v.trace.length then 1 + min 2 (oth (re s k) k + (re s k).ticks) else 0
section
variable {L : Lay} {σ : List Sight} {s s' : Sys} {g : Gram} {f : List Int} {k i j d : Nat} {r r' : Re}
theorem vway_iff : vway s k = true ↔ ∃ g ∈ s.way, ∃ f, VoteIn g f ∧ g.src = k ∧ f.getD 2 0 = (s.v.trace.length : Int) := by
 unfold vway
 rw [List.any_eq_true]
 constructor
 ·rintro ⟨g, hg, h⟩
  cases hm : msg g with
  | none => rw [hm] at h; cases h
  | some f =>
   rw [hm] at h
   have h2 := of_decide_eq_true h
   exact ⟨g, hg, f, ⟨hm, h2.1, h2.2.1⟩, h2.2.2⟩
 ·rintro ⟨g, hg, f, ⟨h1, h2, h3⟩, h4, h5⟩
  refine ⟨g, hg, ?_⟩
  rw [h1]
  exact decide_eq_true ⟨h2, h3, h4, h5⟩
theorem oth_mono (h : ∀ j, j < 3 → j ≠ k → r'.some.getD j false = true → r.some.getD j false = true) : oth r' k ≤ oth r k := by
 have key : ∀ j, j < 3 → o1 (decide (j ≠ k) && r'.some.getD j false) ≤ o1 (decide (j ≠ k) && r.some.getD j false) := fun j hj => by
  by_cases e : j = k
  ·rw [decide_eq_false (by simpa using e)]; exact Nat.le_refl _
  ·rw [decide_eq_true e, Bool.true_and, Bool.true_and]
   have := h j hj e
   cases h1 : r'.some.getD j false with
   | false => exact Nat.zero_le _
   | true => rw [this h1]; exact Nat.le_refl _
 have := key 0 (by decide)
 have := key 1 (by decide)
 have := key 2 (by decide)
 unfold oth
 omega
theorem o1_le (b : Bool) : o1 b ≤ 1 := by cases b <;> decide
theorem oth_set (h : ∀ j, j ≠ i → r'.some.getD j false = r.some.getD j false) : oth r' k ≤ oth r k + 1 := by
 unfold oth
 have a0 := o1_le (decide (0 ≠ k) && r'.some.getD 0 false)
 have a1 := o1_le (decide (1 ≠ k) && r'.some.getD 1 false)
 have a2 := o1_le (decide (2 ≠ k) && r'.some.getD 2 false)
 by_cases h0 : 0 = i
 ·rw [h 1 (by omega), h 2 (by omega)]; omega
 ·by_cases h1 : 1 = i
  ·rw [h 0 (by omega), h 2 (by omega)]; omega
  ·rw [h 0 (by omega), h 1 (by omega)]; omega
theorem oth_none (h : r.some = noSome) : oth r k = 0 := by
 unfold oth
 rw [h, noSome_flag, noSome_flag, noSome_flag]
 simp [o1]
theorem pw_le (hn : s'.v.trace.length = s.v.trace.length) (h1 : (s'.v.votes.getD k (Cm.zero, false)).2 = true → (s.v.votes.getD k (Cm.zero, false)).2 = true ∨ vway s k = true ∧ d = 1)
  (h2 : vway s' k = true → vway s k = true ∨ (d = 1 ∧ (re s k).cycle = s.v.trace.length ∧ 2 ≤ oth (re s k) k + (re s k).ticks))
  (h3 : (re s' k).cycle = s.v.trace.length → ((re s k).cycle = s.v.trace.length ∧ oth (re s' k) k + (re s' k).ticks ≤ oth (re s k) k + (re s k).ticks + d) ∨ (d = 1 ∧ oth (re s' k) k + (re s' k).ticks = 0)) : pw s' k ≤ pw s k + d := by
 unfold pw
 rw [hn]
 by_cases a : (s'.v.votes.getD k (Cm.zero, false)).2 = true
 ·rw [if_pos a]
  rcases h1 a with b | ⟨b, rfl⟩
  ·rw [if_pos b]; omega
  ·by_cases b2 : (s.v.votes.getD k (Cm.zero, false)).2 = true
   ·rw [if_pos b2]; omega
   ·rw [if_neg b2, if_pos b]; omega
 ·rw [if_neg a]
  by_cases b2 : (s.v.votes.getD k (Cm.zero, false)).2 = true
  ·rw [if_pos b2]
   split
   ·omega
   ·split <;> omega
  ·rw [if_neg b2]
   by_cases c : vway s k = true
   ·rw [if_pos c]
    split
    ·omega
    ·split <;> omega
   ·rw [if_neg c]
    by_cases c' : vway s' k = true
    ·rw [if_pos c']
     rcases h2 c' with e | ⟨rfl, e1, e2⟩
     ·exact absurd e c
     ·rw [if_pos e1]; omega
    ·rw [if_neg c']
     by_cases e : (re s' k).cycle = s.v.trace.length
     ·rw [if_pos e]
      rcases h3 e with ⟨e1, e2⟩ | ⟨rfl, e2⟩
      ·rw [if_pos e1]; omega
      ·split <;> omega
     ·rw [if_neg e]; omega
theorem pw_same (hv : s'.v.trace.length = s.v.trace.length) (hvo : s'.v.votes = s.v.votes) (hw : vway s' k = true → vway s k = true) (h1 : (re s' k).cycle = (re s k).cycle) (h2 : (re s' k).some = (re s k).some) (h3 : (re s' k).ticks = (re s k).ticks) : pw s' k ≤ pw s k := by
 refine pw_le (d := 0) hv (fun h => .inl (by rw [← hvo]; exact h)) (fun h => .inl (hw h)) (fun h => .inl ⟨by rw [← h1]; exact h, ?_⟩)
 have : oth (re s' k) k = oth (re s k) k := by unfold oth; rw [h2]
 omega
theorem vway_sub (hv : s'.v.trace.length = s.v.trace.length) (h : ∀ g ∈ s'.way, ∀ f, VoteIn g f → g ∈ s.way) : vway s' k = true → vway s k = true := by
 rw [vway_iff, vway_iff]
 rintro ⟨g, hg, f, hf, h4, h5⟩
 exact ⟨g, h g hg f hf, f, hf, h4, by rw [← hv]; exact h5⟩
theorem vo_cases {v : Vo} (hl : v.latched = false) : (voTake v f).1 = v ∨ (f.getD 0 0 = 2 ∧ f.getD 2 0 = (v.trace.length : Int) ∧
  ((voTake v f).1 = { v with votes := v.votes.set (f.getD 1 0).toNat (cmOf f, true) } ∨ alike (v.votes.set (f.getD 1 0).toNat (cmOf f, true)) (f.getD 1 0).toNat (cmOf f) = true ∧ (voTake v f).1 = voCommits { v with votes := v.votes.set (f.getD 1 0).toNat (cmOf f, true) } (cmOf f))) := by
 cases hh : voHears v f with
 | false => exact .inl (by rw [vt_deaf hh])
 | true =>
  have hk := hears_kind hh
  have h0 : 0 ≤ f.getD 2 0 := by
   unfold voHears at hh
   simp only [Bool.and_eq_true, decide_eq_true_eq] at hh
   exact hh.1.2
  obtain ⟨c, hc⟩ : ∃ c : Nat, f.getD 2 0 = c := ⟨(f.getD 2 0).toNat, by omega⟩
  by_cases hlt : c < v.trace.length
  ·exact .inl (by rw [vt_told hh hc hlt])
  ·by_cases hgt : v.trace.length < c
   ·refine .inl ?_
    unfold voTake
    rw [if_neg (by rw [hh]; decide), if_neg (by omega), if_neg (by omega), if_pos (.inl (by omega))]
   ·have hceq : c = v.trace.length := by omega
    rw [hceq] at hc
    rcases hk with h2 | h4
    ·have hvt := vt_vote hh hc h2 hl
     refine .inr ⟨h2, hc, ?_⟩
     by_cases hal : alike (v.votes.set (f.getD 1 0).toNat (cmOf f, true)) (f.getD 1 0).toNat (cmOf f) = true
     ·exact .inr ⟨hal, by rw [hvt, if_pos hal]⟩
     ·exact .inl (by rw [hvt, if_neg hal])
    ·exact .inl (by rw [vt_ask hh hc h4])
theorem reTake_p (L : Lay) (r : Re) (f : List Int) : ((reTake L r f).1.cycle = r.cycle ∧ (reTake L r f).1.ticks = r.ticks ∧ ((reTake L r f).1.some = r.some ∨ ∃ j, (reTake L r f).1.some = r.some.set j true)) ∨ ((reTake L r f).1.some = noSome ∧ (reTake L r f).1.ticks = 0) := by
 unfold reTake
 dsimp only
 split
 ·exact .inl ⟨rfl, rfl, .inr ⟨_, rfl⟩⟩
 ·split
  ·by_cases hc : f.getD 2 0 = (r.cycle : Int)
   ·rw [if_pos hc]; exact .inr ⟨rfl, rfl⟩
   ·rw [if_neg hc]; exact .inl ⟨rfl, rfl, .inl rfl⟩
  ·split
   ·exact .inl ⟨rfl, rfl, .inl rfl⟩
   ·split
    ·dsimp only
     split
     ·exact .inr ⟨rfl, rfl⟩
     ·exact .inl ⟨rfl, rfl, .inl rfl⟩
    ·exact .inl ⟨rfl, rfl, .inl rfl⟩
theorem vote_waits {k : Nat} (hid : r.id = k) (hk : k < 3) (hf : (reTick L r).2.2.2 = true) (h2 : (reTick L r).2.2.1.getD 0 0 = 2) : 2 ≤ oth r k + r.ticks := by
 have hm : (howMany (reTicked L r).some = 1 ∧ 3 ≤ r.ticks + 1) ∨ ¬ (howMany (reTicked L r).some = 1 ∨ howMany (reTicked L r).some = 2 ∧ r.ticks + 1 < 3) := by
  unfold reTick at hf
  dsimp only at hf
  split at hf
  ·rename_i h; exact .inl h
  ·split at hf
   ·cases hf
   ·rename_i h; exact .inr h
 have ht : howMany (reTicked L r).some = 1 → False := fun e => by
  unfold reTick at h2 hf
  dsimp only at h2 hf
  by_cases h : howMany (reTicked L r).some = 1 ∧ 3 ≤ (reTicked L r).ticks
  ·rw [if_pos h] at h2
   have : (4 : Int) = 2 := h2
   omega
  ·rw [if_neg h, if_pos (.inl e)] at hf
   cases hf
 have hso : (reTicked L r).some = ((List.range 3).map fun i => r.some.getD i false && decide (r.ticks + 1 < r.came.getD i 0 + 3)).set k true := by rw [← hid]; rfl
 have hr : List.range 3 = [0, 1, 2] := rfl
 rw [hr] at hso
 simp only [List.map_cons, List.map_nil] at hso
 rw [hso] at hm ht
 unfold oth
 generalize r.some.getD 0 false = b0 at *
 generalize r.some.getD 1 false = b1 at *
 generalize r.some.getD 2 false = b2 at *
 generalize decide (r.ticks + 1 < r.came.getD 0 0 + 3) = d0 at *
 generalize decide (r.ticks + 1 < r.came.getD 1 0 + 3) = d1 at *
 generalize decide (r.ticks + 1 < r.came.getD 2 0 + 3) = d2 at *
 clear hso hf h2 hr
 have : k = 0 ∨ k = 1 ∨ k = 2 := by omega
 rcases this with rfl | rfl | rfl <;> cases b0 <;> cases b1 <;> cases b2 <;> cases d0 <;> cases d1 <;> cases d2 <;> simp [howMany, o1] at hm ht ⊢ <;> omega
end
end Go.Proofs.Ytdhekhlmdefcnab
namespace Go.Proofs.Ytdhekhlmdefcnab
structure Gd (s : Sys) (m : Nat) : Prop where
 ex : Ex s
 c3 : Came3 s
 tm : 20 ≤ s.v.time
 cr : 10 * s.v.trace.length + (pw s 0 + pw s 1 + pw s 2) ≤ 3 + m
section
variable {L : Lay} {σ : List Sight} {s s' : Sys} {g : Gram} {f : List Int} {k i j d m : Nat} {r r' : Re}
theorem Gd.few (h : Gd s m) (hm : m ≤ 120) : s.v.trace.length ≤ 12 := by have := h.cr; omega
theorem Gd.more (h : Gd s m) : Gd s (m + 1) := ⟨h.ex, h.c3, h.tm, by have := h.cr; omega⟩
theorem sum_one (k0 : Nat) (h : ∀ k, k < 3 → pw s' k ≤ pw s k + if k = k0 then 1 else 0) : pw s' 0 + pw s' 1 + pw s' 2 ≤ pw s 0 + pw s 1 + pw s 2 + 1 := by
 have h0 := h 0 (by decide)
 have h1 := h 1 (by decide)
 have h2 := h 2 (by decide)
 by_cases e0 : 0 = k0
 ·rw [if_pos e0] at h0; rw [if_neg (by omega)] at h1 h2; omega
 ·by_cases e1 : 1 = k0
  ·rw [if_neg e0] at h0; rw [if_pos e1] at h1; rw [if_neg (by omega)] at h2; omega
  ·rw [if_neg e0] at h0; rw [if_neg e1] at h1
   split at h2 <;> omega
theorem deliver_time2 (hx : Ex s) (ht : 20 ≤ s.v.time) (i : Nat) : 20 ≤ (deliver L s i).v.time := by
 cases hw : s.way[i]? with
 | none => rw [deliver_no hw]; exact ht
 | some g =>
  cases hm : msg g with
  | none => rw [deliver_noneI hw hm]; exact ht
  | some f =>
   by_cases hd : g.dst = 3
   ·rw [deliver_vI hw hm hd, foldl_all_v]
    rcases voTake_time s.v f with e | e
    ·show 20 ≤ (voTake s.v f).1.time; rw [e]; exact ht
    ·show 20 ≤ (voTake s.v f).1.time; rw [e, hx.win]; exact Int.le_refl _
   ·rw [deliver_rI hw hm hd, foldl_send_v]; exact ht
theorem cycle_le (h : SysOk L 3 σ s) (hk : k < 3) : (re s k).cycle ≤ s.v.trace.length := (h.reps k hk (by omega)).cycle
theorem Gd.deliver (hL : L.Ok) (h : SysOk L 3 σ s) (hg : Gd s m) (hm : m ≤ 119) (i : Nat) : Gd (deliver L s i) (m + 1) := by
 have hfew := hg.few (by omega)
 refine ⟨hg.ex.deliver hL h (by omega) i, hg.c3.deliver h.three hg.ex i, deliver_time2 hg.ex hg.tm i, ?_⟩
 have hcr := hg.cr
 cases hw : s.way[i]? with
 | none => rw [deliver_no hw]; omega
 | some g =>
  have hgm : g ∈ s.way := List.mem_of_getElem? hw
  obtain ⟨hs3, hd3, hne⟩ := hg.ex.dst g hgm
  obtain ⟨add, a1, _, a3⟩ := deliver_add (L := L) h hg.ex hw
  have hvo : ∀ g' ∈ (Proofs.Ytdhekhlmdefcnab.deliver L s i).way, ∀ f, VoteIn g' f → g' ∈ s.way := fun g' hg' f hf => by
   rw [a1] at hg'
   rcases List.mem_append.1 hg' with h1 | h1
   ·exact List.mem_of_mem_eraseIdx h1
   ·exact absurd hf (new_no_vote (a3 g' h1) f)
  -- nothing but the way
  have quiet : (Proofs.Ytdhekhlmdefcnab.deliver L s i).v.trace = s.v.trace → (Proofs.Ytdhekhlmdefcnab.deliver L s i).v.votes = s.v.votes → (Proofs.Ytdhekhlmdefcnab.deliver L s i).rs = s.rs → 10 * (Proofs.Ytdhekhlmdefcnab.deliver L s i).v.trace.length + (pw (Proofs.Ytdhekhlmdefcnab.deliver L s i) 0 + pw (Proofs.Ytdhekhlmdefcnab.deliver L s i) 1 + pw (Proofs.Ytdhekhlmdefcnab.deliver L s i) 2) ≤ 3 + (m + 1) := fun e1 e2 e3 => by
   have key : ∀ k, pw (Proofs.Ytdhekhlmdefcnab.deliver L s i) k ≤ pw s k := fun k => pw_same (by rw [e1]) e2 (vway_sub (by rw [e1]) hvo) (by rw [re_rs e3]) (by rw [re_rs e3]) (by rw [re_rs e3])
   have := key 0
   have := key 1
   have := key 2
   rw [e1]
   omega
  cases hmg : msg g with
  | none => exact quiet (by rw [deliver_noneI hw hmg]) (by rw [deliver_noneI hw hmg]) (by rw [deliver_noneI hw hmg])
  | some f =>
   have hsrc := (msg_some hmg).2.2
   by_cases hd : g.dst = 3
   ·have ev : (Proofs.Ytdhekhlmdefcnab.deliver L s i).v = (voTake s.v f).1 := by rw [deliver_vI (L := L) hw hmg hd, foldl_all_v]
    have er : (Proofs.Ytdhekhlmdefcnab.deliver L s i).rs = s.rs := by rw [deliver_vI (L := L) hw hmg hd]; exact foldl_all_rs _ _ _ _
    have hj : (f.getD 1 0).toNat = g.src := by omega
    have hs3' : g.src < 3 := by omega
    have hlen := h.voter.len
    rcases vo_cases (f := f) hg.ex.lat with e | ⟨h2, hc, h5⟩
    ·exact quiet (by rw [ev, e]) (by rw [ev, e]) er
    ·have hvw : vway s g.src = true := vway_iff.2 ⟨g, hgm, f, ⟨hmg, hd, h2⟩, rfl, hc⟩
     rw [hj] at h5
     rcases h5 with e | ⟨hal, e⟩
     ·have et : (Proofs.Ytdhekhlmdefcnab.deliver L s i).v.trace = s.v.trace := by rw [ev, e]
      have evs : (Proofs.Ytdhekhlmdefcnab.deliver L s i).v.votes = s.v.votes.set g.src (cmOf f, true) := by rw [ev, e]
      have := sum_one (s' := Proofs.Ytdhekhlmdefcnab.deliver L s i) (s := s) g.src (fun k hk => by
       refine pw_le (by rw [et]) (fun hv => ?_) (fun hv => .inl (vway_sub (by rw [et]) hvo hv)) (fun hv => .inl ?_)
       ·by_cases hks : k = g.src
        ·subst hks
         exact .inr ⟨hvw, by rw [if_pos rfl]⟩
        ·rw [evs, getD_set_other (Ne.symm hks)] at hv
         exact .inl hv
       ·rw [re_rs er] at hv ⊢
        exact ⟨hv, by omega⟩)
      rw [et]
      omega
     ·-- a commit
      have et : (Proofs.Ytdhekhlmdefcnab.deliver L s i).v.trace.length = s.v.trace.length + 1 := by
       rw [ev, e]
       show (s.v.trace ++ [cmOf f]).length = _
       simp
      have zero : ∀ k, k < 3 → pw (Proofs.Ytdhekhlmdefcnab.deliver L s i) k = 0 := fun k hk => by
       have v0 : ¬ ((Proofs.Ytdhekhlmdefcnab.deliver L s i).v.votes.getD k (Cm.zero, false)).2 = true := by
        rw [ev, e]
        show ¬ (noVotes.getD k (Cm.zero, false)).2 = true
        rw [noVotes_flag]
        decide
       have w0 : ¬ vway (Proofs.Ytdhekhlmdefcnab.deliver L s i) k = true := by
        rw [vway_iff]
        rintro ⟨y, hy, f', hf', _, h6⟩
        have := (hg.ex.cy y (hvo y hy f' hf') f' hf'.1).2
        omega
       have c0 : ¬ (re (Proofs.Ytdhekhlmdefcnab.deliver L s i) k).cycle = (Proofs.Ytdhekhlmdefcnab.deliver L s i).v.trace.length := by
        rw [re_rs er]
        have := cycle_le h hk
        omega
       unfold pw
       rw [if_neg v0, if_neg w0, if_neg c0]
      unfold alike at hal
      rw [List.any_eq_true] at hal
      obtain ⟨r, hr, hal⟩ := hal
      simp only [Bool.and_eq_true, decide_eq_true_eq] at hal
      obtain ⟨⟨hra, hrf⟩, _⟩ := hal
      have hr3 : r < 3 := List.mem_range.1 hr
      rw [getD_set_other (fun e => hra e.symm)] at hrf
      have p1 : pw s r = 5 := by unfold pw; rw [if_pos hrf]
      have p2 : 4 ≤ pw s g.src := by
       unfold pw
       by_cases hv5 : (s.v.votes.getD g.src (Cm.zero, false)).2 = true
       ·rw [if_pos hv5]; omega
       ·rw [if_neg hv5, if_pos hvw]; exact Nat.le_refl _
      rw [zero 0 (by decide), zero 1 (by decide), zero 2 (by decide), et]
      have hr' : r = 0 ∨ r = 1 ∨ r = 2 := by omega
      have hs' : g.src = 0 ∨ g.src = 1 ∨ g.src = 2 := by omega
      rcases hs' with e | e | e <;> rw [e] at p2 hra <;> rcases hr' with rfl | rfl | rfl <;> first | exact absurd rfl hra | omega
   ·have hk3 : g.dst < 3 := by omega
    have ev : (Proofs.Ytdhekhlmdefcnab.deliver L s i).v = s.v := by rw [deliver_rI (L := L) hw hmg hd, foldl_send_v]
    have er : (Proofs.Ytdhekhlmdefcnab.deliver L s i).rs = s.rs.set g.dst (reTake L (re s g.dst) f).1 := by rw [deliver_rI (L := L) hw hmg hd]; exact foldl_send_rs _ _ _ _
    have hre : ∀ j, re (Proofs.Ytdhekhlmdefcnab.deliver L s i) j = if j = g.dst then (reTake L (re s g.dst) f).1 else re s j := fun j => by
     rw [← re_any s h.three hk3 (reTake L (re s g.dst) f).1 s.way j]
     exact re_rs (s' := Proofs.Ytdhekhlmdefcnab.deliver L s i) (s := { s with way := s.way, rs := s.rs.set g.dst (reTake L (re s g.dst) f).1 }) er j
    have := sum_one (s' := Proofs.Ytdhekhlmdefcnab.deliver L s i) (s := s) g.dst (fun k hk => by
     refine pw_le (by rw [ev]) (fun hv => .inl (by rw [ev] at hv; exact hv)) (fun hv => .inl (vway_sub (by rw [ev]) hvo hv)) (fun hv => ?_)
     rw [hre] at hv ⊢
     by_cases hks : k = g.dst
     ·rw [if_pos hks] at hv ⊢
      rw [if_pos hks, hks]
      rcases reTake_p L (re s g.dst) f with ⟨p1, p2, p3⟩ | ⟨p1, p2⟩
      ·refine .inl ⟨by rw [p1] at hv; exact hv, ?_⟩
       rw [p2]
       rcases p3 with p3 | ⟨j, p3⟩
       ·have : oth (reTake L (re s g.dst) f).1 g.dst = oth (re s g.dst) g.dst := by unfold oth; rw [p3]
        omega
       ·have := oth_set (r' := (reTake L (re s g.dst) f).1) (r := re s g.dst) (k := g.dst) (i := j) (fun a ha => by rw [p3]; exact getD_set_other (Ne.symm ha) _ _)
        omega
      ·refine .inr ⟨rfl, ?_⟩
       rw [p2, oth_none p1]
     ·rw [if_neg hks] at hv ⊢
      exact .inl ⟨hv, by omega⟩)
    rw [ev]
    omega
theorem Gd.tick (h : SysOk L 3 σ s) (hg : Gd s m) (hk : k < 3) : Gd (tickR L s k) (m + 1) := by
 have hv := tickR_v L s k
 have hid := h.ids k hk
 refine ⟨hg.ex.tick h hk, fun j hj => ?_, by rw [hv]; exact hg.tm, ?_⟩
 ·rw [re_tickR L s h.three hk]
  split
  ·rename_i e; subst e; exact set3 (hg.c3 j hj)
  ·exact hg.c3 j hj
 have hcr := hg.cr
 have := sum_one (s' := tickR L s k) (s := s) k (fun j hj => by
  refine pw_le (by rw [hv]) (fun hs => .inl (by rw [hv] at hs; exact hs)) (fun hs => ?_) (fun hs => ?_)
  ·rw [vway_iff] at hs
   obtain ⟨g, hgm, f, hf, h4, h5⟩ := hs
   rw [hv] at h5
   rcases tick_mem hk hid hgm with h1 | ⟨x, b, rfl, hm2, _, _, h1, h2, h3⟩
   ·exact .inl (vway_iff.2 ⟨g, h1, f, hf, h4, h5⟩)
   ·obtain ⟨e1, e2, e3⟩ := hf
    rw [msg_enc hm2 h1] at e1
    injection e1 with e1
    subst e1
    have hjk : k = j := h4
    subst hjk
    rcases h3 with ⟨h6, _⟩ | ⟨_, h7, h8⟩
    ·have : b = 3 := e2
     omega
    ·refine .inr ⟨by rw [if_pos rfl], by omega, ?_⟩
     rw [h8] at e3
     exact vote_waits hid hk h7 e3
  ·rw [re_tickR L s h.three hk] at hs ⊢
   refine .inl ?_
   by_cases e : j = k
   ·subst e
    rw [if_pos rfl] at hs ⊢
    rw [if_pos rfl]
    refine ⟨hs, ?_⟩
    have h1 : (reTicked L (re s j)).ticks = (re s j).ticks + 1 := rfl
    have h2 : oth (reTicked L (re s j)) j ≤ oth (re s j) j := oth_mono fun a ha hne hs2 => by
     have hs3 : (List.set ((List.range 3).map fun i => (re s j).some.getD i false && decide ((re s j).ticks + 1 < (re s j).came.getD i 0 + 3)) (re s j).id true).getD a false = true := hs2
     rw [hid, getD_set_other (Ne.symm hne)] at hs3
     have hr : List.range 3 = [0, 1, 2] := rfl
     rw [hr] at hs3
     have : a = 0 ∨ a = 1 ∨ a = 2 := by omega
     rcases this with rfl | rfl | rfl
     ·have := (Bool.and_eq_true _ _ ▸ hs3 : _ ∧ _).1; exact this
     ·have := (Bool.and_eq_true _ _ ▸ hs3 : _ ∧ _).1; exact this
     ·have := (Bool.and_eq_true _ _ ▸ hs3 : _ ∧ _).1; exact this
    omega
   ·rw [if_neg e] at hs ⊢
    exact ⟨hs, by omega⟩)
 rw [hv]
 omega
theorem Gd.quiet (hg : Gd s m) (ev : s'.v = s.v) (er : s'.rs = s.rs) (hlen : s'.way.length ≤ 120) (hm : ∀ g ∈ s'.way, g ∈ s.way ∨ ((g.src ≤ 3 ∧ g.dst ≤ 3 ∧ g.dst ≠ g.src) ∧ ∀ f, msg g = some f → 0 ≤ f.getD 2 0 ∧ f.getD 2 0 ≤ (s.v.trace.length : Int) ∧ f.getD 0 0 ≠ 2)) : Gd s' (m + 1) := by
 refine ⟨⟨hlen, fun g hgm f hf => ?_, fun g hgm => ?_, fun k hk => by rw [re_rs er, ev]; exact hg.ex.ahead k hk, by rw [ev]; exact hg.ex.lat, by rw [ev]; exact hg.ex.win, by rw [ev]; exact hg.ex.few⟩, fun k hk => by rw [re_rs er]; exact hg.c3 k hk, by rw [ev]; exact hg.tm, ?_⟩
 ·rw [ev]
  rcases hm g hgm with h1 | ⟨_, h1⟩
  ·exact hg.ex.cy g h1 f hf
  ·exact ⟨(h1 f hf).1, (h1 f hf).2.1⟩
 ·rcases hm g hgm with h1 | ⟨h1, _⟩
  ·exact hg.ex.dst g h1
  ·exact h1
 ·have key : ∀ k, pw s' k ≤ pw s k := fun k => pw_same (by rw [ev]) (by rw [ev]) (vway_sub (by rw [ev]) fun g hgm f hf => by
   rcases hm g hgm with h1 | ⟨_, h1⟩
   ·exact h1
   ·exact absurd hf.2.2 (h1 f hf.1).2.2) (by rw [re_rs er]) (by rw [re_rs er]) (by rw [re_rs er])
  have := key 0
  have := key 1
  have := key 2
  have := hg.cr
  rw [ev]
  omega
theorem Gd.asks (h : SysOk L 3 σ s) (hg : Gd s m) (hk : k < 3) : Gd (sysAsks s k) (m + 1) := by
 refine hg.quiet (sendAll_rest _ _ _ _).2 (sendAll_rest _ _ _ _).1 (sendAll_len _ _ _ _ hg.ex.len) fun g hgm => ?_
 rcases sendAll_mem _ _ _ _ _ hgm with h1 | ⟨b, hb, rfl, hmay⟩
 ·exact .inl h1
 ·obtain ⟨b1, b2⟩ := others_ne k b hb
  refine .inr ⟨⟨by show k ≤ 3; omega, by show b ≤ 3; omega, b2⟩, fun f hf => ?_⟩
  have hid := h.ids k hk
  rw [msg_enc hmay (by show (((re s k).id : Nat) : Int) = _; rw [hid])] at hf
  injection hf with hf
  subst hf
  have := cycle_le h hk
  refine ⟨by show (0 : Int) ≤ ((re s k).cycle : Nat); omega, by show (((re s k).cycle : Nat) : Int) ≤ _; omega, by show ¬ ((4 : Int) = 2); decide⟩
theorem Gd.lose (hg : Gd s m) (i : Nat) : Gd (sysLose s i) (m + 1) :=
 hg.quiet rfl rfl (Nat.le_trans (List.length_eraseIdx_le ..) hg.ex.len) fun _ h => .inl (List.mem_of_mem_eraseIdx h)
theorem Gd.twice (hg : Gd s m) (i : Nat) : Gd (sysTwice s i) (m + 1) := by
 unfold sysTwice
 split
 ·exact hg.more
 ·rename_i g hw
  have hgm : g ∈ s.way := List.mem_of_getElem? hw
  refine hg.quiet (put_rest _ _).2 (put_rest _ _).1 ?_ fun x hx => .inl ?_
  ·unfold sysPut
   split
   ·exact hg.ex.len
   ·simp; omega
  ·unfold sysPut at hx
   split at hx
   ·exact hx
   ·rcases List.mem_append.1 hx with h1 | h1
    ·exact h1
    ·rw [List.mem_singleton.1 h1]; exact hgm
theorem Gd.spoil (h : SysOk L 3 σ s) (hg : Gd s m) (i at_ what : Nat) (hw : what < 2 ^ 32) : Gd (sysSpoil s i at_ what) (m + 1) := by
 unfold sysSpoil
 split
 ·exact hg.more
 ·rename_i g hgw
  have hgm : g ∈ s.way := List.mem_of_getElem? hgw
  split
  ·exact hg.more
  ·rename_i hc
   have hc1 : ¬ 8 * g.bytes.length ≤ at_ := fun h => hc (.inl h)
   have hc2 : ¬ what = 0 := fun h => hc (.inr (.inl h))
   have hc3 : ¬ within g.bytes.length at_ what = false := fun h => hc (.inr (.inr (.inl h)))
   have hc4 : ¬ (dec g.bytes).1 ≠ 0 := fun h => hc (.inr (.inr (.inr h)))
   obtain ⟨d1, d2, d3⟩ := hg.ex.dst g hgm
   refine hg.quiet rfl rfl (by show (s.way.set i _).length ≤ 120; rw [List.length_set]; exact hg.ex.len) fun x hx => ?_
   rcases List.mem_or_eq_of_mem_set hx with hx | rfl
   ·exact .inl hx
   ·refine .inr ⟨⟨d1, d2, d3⟩, fun f hf => ?_⟩
    exfalso
    have e0 : (dec (Crc.flips g.bytes at_ what 32)).1 = 0 := (msg_some hf).1
    rcases (h.way g hgm).2 (by unfold Hon; omega) with ⟨f', hm, hb, _⟩ | hbad
    ·have hs := burst_some hc2 hw (by simpa using hc3)
     rw [hb] at hs hc1 e0
     rw [burst_dec at_ what (by omega) hs] at e0
     exact absurd e0 (by decide)
    ·exact hbad (by simpa using hc4)
theorem Gd.crash (h : SysOk L 3 σ s) (hg : Gd s m) (hk : k < 3) : Gd (sysCrash s k) (m + 1) := by
 have hre : ∀ j, re (sysCrash s k) j = if j = k then Re.new k else re s j := fun j => re_set (by rw [h.three]; exact hk) _ j
 refine ⟨⟨hg.ex.len, hg.ex.cy, hg.ex.dst, fun j hj => ?_, hg.ex.lat, hg.ex.win, hg.ex.few⟩, fun j hj => ?_, hg.tm, ?_⟩
 ·rw [hre]
  split
  ·exact .inl rfl
  ·exact hg.ex.ahead j hj
 ·rw [hre]
  split
  ·rfl
  ·exact hg.c3 j hj
 ·have := sum_one (s' := sysCrash s k) (s := s) k (fun j hj => by
   refine pw_le rfl (fun hs => .inl hs) (fun hs => .inl hs) (fun hs => ?_)
   rw [hre] at hs ⊢
   by_cases e : j = k
   ·subst e
    rw [if_pos rfl, if_pos rfl]
    exact .inr ⟨rfl, by rw [oth_none rfl]; rfl⟩
   ·rw [if_neg e] at hs ⊢
    exact .inl ⟨hs, by omega⟩)
  have := hg.cr
  have e : (sysCrash s k).v = s.v := rfl
  rw [e]
  omega
theorem re_sees (h3 : s.rs.length = 3) (hk : k < 3) (c : Int × Int) (j : Nat) : re (sysSee s k c) j = if j = k then { re s k with field := c } else re s j := re_set (by rw [h3]; exact hk) _ j
theorem Ex.see (h3 : s.rs.length = 3) (hk : k < 3) (c : Int × Int) (hx : Ex s) : Ex (sysSee s k c) :=
 ⟨hx.len, hx.cy, hx.dst, fun j hj => by
  rw [re_sees h3 hk]
  split
  ·rename_i e; subst e; exact hx.ahead j hj
  ·exact hx.ahead j hj, hx.lat, hx.win, hx.few⟩
theorem Came3.see (h3 : s.rs.length = 3) (hk : k < 3) (c : Int × Int) (hx : Came3 s) : Came3 (sysSee s k c) := fun j hj => by
 rw [re_sees h3 hk]
 split
 ·rename_i e; subst e; exact hx j hj
 ·exact hx j hj
theorem Gd.see (h : SysOk L 3 σ s) (hg : Gd s m) (hk : k < 3) (c : Int × Int) : Gd (sysSee s k c) (m + 1) := by
 refine ⟨hg.ex.see h.three hk c, hg.c3.see h.three hk c, hg.tm, ?_⟩
 have key : ∀ j, pw (sysSee s k c) j ≤ pw s j := fun j => by
  have e : (re (sysSee s k c) j).cycle = (re s j).cycle ∧ (re (sysSee s k c) j).some = (re s j).some ∧ (re (sysSee s k c) j).ticks = (re s j).ticks := by
   rw [re_sees h.three hk]
   split
   ·rename_i e; subst e; exact ⟨rfl, rfl, rfl⟩
   ·exact ⟨rfl, rfl, rfl⟩
  exact pw_same rfl rfl (fun h => h) e.1 e.2.1 e.2.2
 have := key 0
 have := key 1
 have := key 2
 have := hg.cr
 have e : (sysSee s k c).v = s.v := rfl
 rw [e]
 omega
theorem Gd.does {T : Tale} (hL : L.Ok) (h : TaleOk L 3 T) (hg : Gd T.s m) (hm : m ≤ 119) (N : Nat) (x : Stp) (hx : x.what < 10) : Gd (does L 3 N T x).s (m + 1) := by
 have hk : pkN x.k 3 < 3 := pkN_lt _ (by decide)
 have hb32 : burstOf x.c < 2 ^ 32 := Nat.or_lt_two_pow (msk_lt _ _) (by decide)
 unfold Proofs.Ytdhekhlmdefcnab.does
 dsimp only
 generalize pkN x.k 3 = k at hk
 generalize hi : (if 0 < T.s.way.length then pkN x.n T.s.way.length else 0) = i
 by_cases e0 : x.what = 0
 ·rw [if_pos e0]; exact hg.see h.sys hk _
 rw [if_neg e0]
 by_cases e1 : x.what = 1
 ·rw [if_pos e1]; exact hg.tick h.sys hk
 rw [if_neg e1]
 by_cases e2 : x.what = 2
 ·rw [if_pos e2]; exact hg.asks h.sys hk
 rw [if_neg e2]
 by_cases e3 : x.what = 3
 ·rw [if_pos e3]; exact hg.deliver hL h.sys hm i
 rw [if_neg e3]
 by_cases e4 : x.what = 4
 ·rw [if_pos e4]; exact hg.lose i
 rw [if_neg e4]
 by_cases e5 : x.what = 5
 ·rw [if_pos e5]; exact hg.twice i
 rw [if_neg e5]
 by_cases e6 : x.what = 6
 ·rw [if_pos e6]; exact hg.spoil h.sys i _ _ hb32
 rw [if_neg e6]
 by_cases e7 : x.what = 7
 ·rw [if_pos e7]; exact hg.crash h.sys hk
 rw [if_neg e7]
 by_cases e8 : x.what = 8
 ·rw [if_pos e8, if_neg (fun h => absurd h.1 (by decide))]; exact hg.more
 rw [if_neg e8]
 by_cases e9 : x.what = 9
 ·rw [if_pos e9, if_neg (by decide)]; exact hg.more
 rw [if_neg e9, if_neg (by omega), if_neg (by omega), if_neg (by omega)]
 exact hg.more
theorem Gd.start : Gd (Sys.new 20) 0 := by
 refine ⟨⟨by decide, (fun g hg => by cases hg), (fun g hg => by cases hg), fun k hk => .inl ?_, rfl, rfl, by decide⟩, fun k hk => ?_, by decide, by decide⟩
 ·have : k = 0 ∨ k = 1 ∨ k = 2 := by omega
  rcases this with rfl | rfl | rfl <;> rfl
 ·have : k = 0 ∨ k = 1 ∨ k = 2 := by omega
  rcases this with rfl | rfl | rfl <;> rfl
end
end Go.Proofs.Ytdhekhlmdefcnab
namespace Go.Proofs.Ytdhekhlmdefcnab
section
variable {L : Lay} {σ : List Sight} {s s6 s7 s8 : Sys} {k m : Nat} {b : Int}
theorem Cq.see (h : Cq L σ b s) (hk : k < 3) (c : Int × Int) : Cq L (σ ++ [⟨k, (re s k).cycle, true, c.1, c.2⟩]) b (sysSee s k c) := by
 have h3 := h.cz.cal.ok.three
 have hre := re_sees h3 hk c
 have hsub : ∀ y ∈ σ, y ∈ σ ++ [⟨k, (re s k).cycle, true, c.1, c.2⟩] := fun y hy => List.mem_append_left _ hy
 have hcy : ∀ j, (re (sysSee s k c) j).cycle = (re s j).cycle := fun j => by
  rw [hre]
  split
  ·rename_i e; subst e; rfl
  ·rfl
 refine ⟨⟨⟨(h.cz.cal.ok.more hsub).see hk c, fun j hj => ?_, h.cz.cal.ex.see h3 hk c⟩, ⟨fun g hg f hf => ?_, fun j hj hv => ?_, ?_⟩, h.cz.tm⟩, h.c3.see h3 hk c⟩
 ·by_cases e : j = k
  ·subst e
   refine ⟨_, List.mem_append_right _ (List.mem_singleton.2 rfl), rfl, rfl, ?_, ?_⟩
   ·rw [hcy]; exact Nat.le_refl _
   ·rw [hre, if_pos rfl]
  ·obtain ⟨y, hy, r1, r2, r3, r4⟩ := h.cz.cal.cov j hj
   refine ⟨y, hsub y hy, r1, r2, by rw [hcy]; exact r3, ?_⟩
   rw [hre, if_neg e]
   exact r4
 ·rw [hcy]; exact h.cz.lag.vw g hg f hf
 ·rw [hcy]; exact h.cz.lag.vs j hj hv
 ·have := h.cz.lag.q
  simp only [hcy]
  exact this
theorem see_field (h3 : s.rs.length = 3) (hk : k < 3) (c : Int × Int) (j : Nat) : (re (sysSee s k c) j).field = if j = k then c else (re s j).field := by
 rw [re_sees h3 hk]
 split <;> rfl
theorem see_cycle (h3 : s.rs.length = 3) (hk : k < 3) (c : Int × Int) (j : Nat) : (re (sysSee s k c) j).cycle = (re s j).cycle := by
 rw [re_sees h3 hk]
 split
 ·rename_i e; subst e; rfl
 ·rfl
theorem out_zero {v : Vo} (h : VoOk L 3 σ v) : v.out = 0 := Nat.eq_of_testBit_eq fun j => by
 rw [Nat.zero_testBit]
 cases e : v.out.testBit j with
 | false => rfl
 | true => have := h.out j e; omega
theorem calm_start {T : Tale} (hT : TaleOk L 3 T) (hg : Gd T.s m) (hm : m ≤ 120) : ∃ σ, Cq L σ 20 T.s := by
 have hm2 : ∀ y ∈ T.seen, y ∈ (looks (looks (looks T 0 true) 1 true) 2 true).seen := fun y hy => List.mem_append_left _ (List.mem_append_left _ (List.mem_append_left _ hy))
 have hcov : ∀ j, j < 3 → CoveredOn (looks (looks (looks T 0 true) 1 true) 2 true).seen T.s j := by
  intro j hj
  have : j = 0 ∨ j = 1 ∨ j = 2 := by omega
  rcases this with rfl | rfl | rfl
  ·exact ⟨⟨0, (re T.s 0).cycle, true, (fieldOf T 0).1, (fieldOf T 0).2⟩, List.mem_append_left _ (List.mem_append_left _ (List.mem_append_right _ (List.mem_singleton.2 rfl))), rfl, rfl, Nat.le_refl _, (hT.fields 0 hj).symm⟩
  ·exact ⟨⟨1, (re T.s 1).cycle, true, (fieldOf T 1).1, (fieldOf T 1).2⟩, List.mem_append_left _ (List.mem_append_right _ (List.mem_singleton.2 rfl)), rfl, rfl, Nat.le_refl _, (hT.fields 1 hj).symm⟩
  ·exact ⟨⟨2, (re T.s 2).cycle, true, (fieldOf T 2).1, (fieldOf T 2).2⟩, List.mem_append_right _ (List.mem_singleton.2 rfl), rfl, rfl, Nat.le_refl _, (hT.fields 2 hj).symm⟩
 have hn := hg.few hm
 exact ⟨_, ⟨⟨hT.sys.more hm2, hcov, hg.ex⟩, ⟨fun g hg2 f hf => .inr (by have := hg.ex.cy g hg2 f hf.1; omega), fun _ _ _ => .inr hn, .inl (by omega)⟩, hg.tm⟩, hg.c3⟩
structure CalmSaid (L : Lay) (c : Int × Int) (was : Nat) (s6 s8 : Sys) : Prop where
 lat6 : s6.v.latched = false
 more : was < s6.v.trace.length
 few6 : s6.v.trace.length ≤ 40
 out6 : s6.v.out = 0
 lat8 : s8.v.latched = false
 few8 : s8.v.trace.length ≤ 60
 pos8 : 0 < s8.v.trace.length
 all8 : ∀ k, k < 3 → (re s8 k).cycle = s8.v.trace.length
 last : ∃ z : Nat, s8.v.trace[s8.v.trace.length - 1]? = some ((((fit L c).1 : Nat) : Int), (((fit L c).2 : Nat) : Int), ((z : Nat) : Int)) ∧ voShown s8.v = z ∧ z < 2 ^ L.routes.length
theorem calm_law {T : Tale} (hL : L.Ok) (hT : TaleOk L 3 T) (hg : Gd T.s m) (hm : m ≤ 120) (c : Int × Int) {N : Nat} (hN : N = 1200) (h6 : s6 = calm L N T.s 6) (h7 : s7 = sysSee (sysSee (sysSee s6 0 c) 1 c) 2 c) (h8 : s8 = calm L N s7 5) : CalmSaid L c T.s.v.trace.length s6 s8 := by
 subst hN
 obtain ⟨σ, hq⟩ := calm_start hT hg hm
 obtain ⟨q6, w6, a6, l6, n6⟩ := calm6 hL hq (hg.few hm)
 rw [← h6] at q6 w6 a6 l6 n6
 have q7a := q6.see (k := 0) (by decide) c
 have q7b := q7a.see (k := 1) (by decide) c
 have q7c := q7b.see (k := 2) (by decide) c
 rw [← h7] at q7c
 have h3a := q6.cz.cal.ok.three
 have h3b := q7a.cz.cal.ok.three
 have h3c := q7b.cz.cal.ok.three
 have w7 : s7.way = [] := by rw [h7]; exact w6
 have v7 : s7.v = s6.v := by rw [h7]; rfl
 have a7 : AllAt s7 := fun k hk => by
  rw [v7, h7, see_cycle h3c (by decide), see_cycle h3b (by decide), see_cycle h3a (by decide)]
  exact a6 k hk
 have f7 : ∀ k, k < 3 → (re s7 k).field = c := fun k hk => by
  rw [h7, see_field h3c (by decide), see_field h3b (by decide), see_field h3a (by decide)]
  have : k = 0 ∨ k = 1 ∨ k = 2 := by omega
  rcases this with rfl | rfl | rfl <;> rfl
 obtain ⟨q8, a8, n8, cm, e8, e9, e10⟩ := calm5 hL q7c w7 a7 (by rw [v7]; exact n6) f7
 rw [← h8] at q8 a8 n8 e8
 have hok := q8.cz.cal.ok.voter
 have hpos : 0 < s8.v.trace.length := by
  cases h : s8.v.trace with
  | nil => rw [h] at e8; cases e8
  | cons a l => simp
 have e11 : s8.v.trace[s8.v.trace.length - 1]? = some cm := by rw [← List.getLast?_eq_getElem?]; exact e8
 have e12 := (hok.trace _ _ e11).out
 have e13 : voShown s8.v = cm.2.2 := by
  rw [shown_good hok q8.cz.cal.ex.lat e11, e12]
 refine ⟨q6.cz.cal.ex.lat, l6, n6, out_zero q6.cz.cal.ok.voter, q8.cz.cal.ex.lat, n8, hpos, a8, (step L cm.1 cm.2.1 (foldN L s8.v.trace (s8.v.trace.length - 1))).2, ?_, by rw [e13]; exact e12, outTo_pow _ _ _ _ _⟩
 rw [e11, ← e9, ← e10, ← e12]
theorem good_run (hL : L.Ok) (N : Nat) : ∀ (l : List Stp) {T : Tale} {m : Nat}, TaleOk L 3 T → Gd T.s m → m + l.length ≤ 120 → (∀ x ∈ l, x.what < 10) → Gd (l.foldl (does L 3 N) T).s (m + l.length)
 | [], T, m, _, hg, _, _ => hg
 | x :: l, T, m, hT, hg, hm, hl => by
  rw [List.length_cons] at hm
  have h1 := hg.does hL hT (by omega) N x (hl x (List.mem_cons_self ..))
  have h2 := does_ok hL hT N x
  have := good_run hL N l h2 h1 (by omega) fun y hy => hl y (List.mem_cons_of_mem _ hy)
  rw [List.foldl_cons, List.length_cons, show m + (l.length + 1) = m + 1 + l.length by omega]
  exact this
end
end Go.Proofs.Ytdhekhlmdefcnab
