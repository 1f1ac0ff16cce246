/- Part 14 of the proof: CaDrain, CaClean, CaCatch. -/
import Derived.Test.YtdhekhlmdefcnabPart13
namespace Go.Proofs.Ytdhekhlmdefcnab
def NewG (h : Gram) (s : Sys) (g : Gram) : Prop := ∃ f, msg g = some f ∧ (f.getD 0 0 = 3 ∧ g.src = 3 ∧ g.dst < 3 ∨ f.getD 0 0 = 4 ∧ g.src < 3 ∧ g.dst = 3 ∧ f.getD 2 0 = ((re s g.src).cycle : Nat) ∨ f.getD 0 0 = 5 ∧ g.src < 3 ∧ g.dst < 3 ∧ ∃ fh, msg h = some fh ∧ fh.getD 0 0 = 4 ∧ h.dst ≠ 3)
theorem fold_send_app (a b : Nat) : ∀ (l : List (List Int)) (s : Sys), ∃ add, (l.foldl (fun s x => sysSend s a b x) s).way = s.way ++ add ∧ add.length ≤ l.length ∧ ∀ g ∈ add, ∃ x ∈ l, g = ⟨a, b, encB x⟩ ∧ mayB x = true
 | [], s => ⟨[], by simp, by simp, fun g hg => by cases hg⟩
 | x :: l, s => by
  obtain ⟨add, h1, h2, h3⟩ := fold_send_app a b l (sysSend s a b x)
  rcases send_way s a b x with e | ⟨hm, e⟩
  ·exact ⟨add, by rw [List.foldl_cons, h1, e], by simp; omega, fun g hg => by obtain ⟨y, hy, r⟩ := h3 g hg; exact ⟨y, List.mem_cons_of_mem _ hy, r⟩⟩
  ·refine ⟨⟨a, b, encB x⟩ :: add, by rw [List.foldl_cons, h1, e]; simp, by simp; omega, fun g hg => ?_⟩
   rcases List.mem_cons.1 hg with rfl | hg
   ·exact ⟨x, List.mem_cons_self .., rfl, hm⟩
   ·obtain ⟨y, hy, r⟩ := h3 g hg; exact ⟨y, List.mem_cons_of_mem _ hy, r⟩
theorem toAll_app (s : Sys) (all : Bool) (b : Nat) (x : List Int) : ∃ add, (toAll s all b x).way = s.way ++ add ∧ add.length ≤ 3 ∧ ∀ g ∈ add, ∃ k, k < 3 ∧ g = ⟨3, k, encB x⟩ ∧ mayB x = true := by
 unfold toAll
 have key : ∀ (l : List Nat), (∀ k ∈ l, k < 3) → ∀ s : Sys, ∃ add, (l.foldl (fun s k => if all = true ∨ k = b then sysSend s 3 k x else s) s).way = s.way ++ add ∧ add.length ≤ l.length ∧ ∀ g ∈ add, ∃ k, k < 3 ∧ g = ⟨3, k, encB x⟩ ∧ mayB x = true := by
  intro l
  induction l with
  | nil => intro _ s; exact ⟨[], by simp, by simp, fun g hg => by cases hg⟩
  | cons k l ih =>
   intro hl s
   rw [List.foldl_cons]
   obtain ⟨add, h1, h2, h3⟩ := ih (fun j hj => hl j (List.mem_cons_of_mem _ hj)) (if all = true ∨ k = b then sysSend s 3 k x else s)
   split at h1
   ·rename_i hc
    rw [if_pos hc]
    rcases send_way s 3 k x with e | ⟨hm, e⟩
    ·exact ⟨add, by rw [h1, e], by simp; omega, h3⟩
    ·refine ⟨⟨3, k, encB x⟩ :: add, by rw [h1, e]; simp, by simp; omega, fun g hg => ?_⟩
     rcases List.mem_cons.1 hg with rfl | hg
     ·exact ⟨k, hl k (List.mem_cons_self ..), rfl, hm⟩
     ·exact h3 g hg
   ·rename_i hc
    rw [if_neg hc]
    exact ⟨add, h1, by simp; omega, h3⟩
 exact key (List.range 3) (fun k hk => List.mem_range.1 hk) s
section
variable {L : Lay} {σ : List Sight} {s s' : Sys} {g : Gram} {f : List Int} {N ns : Nat}
theorem deliver_add (h : SysOk L 3 σ s) (hx : Ex s) {i : Nat} (hw : s.way[i]? = some g) : ∃ add, (deliver L s i).way = s.way.eraseIdx i ++ add ∧ add.length ≤ 3 ∧ ∀ g' ∈ add, NewG g (deliver L s i) g' := by
 have hg : g ∈ s.way := List.mem_of_getElem? hw
 obtain ⟨hs3, hd3, hne⟩ := hx.dst g hg
 cases hm : msg g with
 | none => rw [deliver_noneI hw hm]; exact ⟨[], by simp, by simp, fun g hg => by cases hg⟩
 | some f =>
  obtain ⟨hf, _⟩ := gram_ok h hg hm
  have hsrc := (msg_some hm).2.2
  have hcy := hx.cy g hg f hm
  by_cases hd : g.dst = 3
  ·have e := deliver_vI (L := L) hw hm hd
   have mk : ∀ add : List Gram, (∀ g' ∈ add, ∃ x ∈ (voTake s.v f).2.1, ∃ k, k < 3 ∧ g' = ⟨3, k, encB x⟩ ∧ mayB x = true) → ∀ g' ∈ add, NewG g (deliver L s i) g' := fun add h g' hg' => by
    obtain ⟨x, hx1, k, hk, rfl, hxm⟩ := h g' hg'
    obtain ⟨c, e1, e2, e3, e4⟩ := voTake_reply s.v f hcy.1 x hx1
    exact ⟨x, msg_enc hxm (by rw [e4]; rfl), .inl ⟨e3, rfl, hk⟩⟩
   cases hh : voHears s.v f with
   | false =>
    rw [vt_deaf hh] at e
    rw [e]
    exact ⟨[], by simp, by simp, fun g hg => by cases hg⟩
   | true =>
    obtain ⟨c, hc⟩ : ∃ c : Nat, f.getD 2 0 = c := ⟨(f.getD 2 0).toNat, by omega⟩
    have h3s : g.src < 3 := by omega
    by_cases hlt : c < s.v.trace.length
    ·have ev := vt_told hh hc hlt
     rw [ev] at e mk
     have hone : ∀ (l : List (List Int)) (b : Sys), l.foldl (fun s' x => toAll s' false g.src x) b = l.foldl (fun s' x => sysSend s' 3 g.src x) b := by
      intro l
      induction l with
      | nil => intro b; rfl
      | cons x l ih => intro b; rw [List.foldl_cons, List.foldl_cons, toAll_false _ _ h3s, ih]
     dsimp only at e
     rw [hone] at e
     obtain ⟨add, h1, h2, h3⟩ := fold_send_app 3 g.src (if c + 1 = s.v.trace.length then [voDone s.v c] else [voDone s.v c, voDone s.v (s.v.trace.length - 1)]) { s with way := s.way.eraseIdx i, v := s.v }
     refine ⟨add, by rw [e]; exact h1, ?_, mk add fun g' hg' => ?_⟩
     ·split at h2
      ·simp at h2; omega
      ·simp at h2; omega
     ·obtain ⟨x, hx1, r1, r2⟩ := h3 g' hg'
      exact ⟨x, hx1, g.src, h3s, r1, r2⟩
    ·have hceq : c = s.v.trace.length := by omega
     rw [hceq] at hc
     by_cases h4 : f.getD 0 0 = 4
     ·rw [vt_ask hh hc h4] at e
      rw [e]
      exact ⟨[], by simp, by simp, fun g hg => by cases hg⟩
     ·have h2 : f.getD 0 0 = 2 := by have := hears_kind hh; omega
      rw [vt_vote hh hc h2 hx.lat] at e mk
      by_cases hal : alike (s.v.votes.set (f.getD 1 0).toNat (cmOf f, true)) (f.getD 1 0).toNat (cmOf f) = true
      ·rw [if_pos hal] at e mk
       simp only [List.foldl_cons, List.foldl_nil] at e
       obtain ⟨add, h1, h2, h3⟩ := toAll_app { s with way := s.way.eraseIdx i, v := voCommits { s.v with votes := s.v.votes.set (f.getD 1 0).toNat (cmOf f, true) } (cmOf f) } true g.src (voDone (voCommits { s.v with votes := s.v.votes.set (f.getD 1 0).toNat (cmOf f, true) } (cmOf f)) s.v.trace.length)
       refine ⟨add, by rw [e]; exact h1, h2, mk add fun g' hg' => ?_⟩
       obtain ⟨k, r⟩ := h3 g' hg'
       exact ⟨_, List.mem_singleton.2 rfl, k, r⟩
      ·rw [if_neg hal] at e
       rw [e]
       exact ⟨[], by simp, by simp, fun g hg => by cases hg⟩
  ·have hk3 : g.dst < 3 := by omega
   have e := deliver_rI (L := L) hw hm hd
   have er : (Proofs.Ytdhekhlmdefcnab.deliver L s i).rs = s.rs.set g.dst (reTake L (re s g.dst) f).1 := by rw [e]; exact foldl_send_rs _ _ _ _
   have hre : re (Proofs.Ytdhekhlmdefcnab.deliver L s i) g.dst = (reTake L (re s g.dst) f).1 := by
    have h1 := re_any s h.three hk3 (reTake L (re s g.dst) f).1 s.way g.dst
    rw [if_pos rfl] at h1
    rw [← h1]
    exact re_rs (s' := Proofs.Ytdhekhlmdefcnab.deliver L s i) (s := { s with way := s.way, rs := s.rs.set g.dst (reTake L (re s g.dst) f).1 }) er g.dst
   obtain ⟨add, h1, h2, h3⟩ := fold_send_app g.dst g.src (reTake L (re s g.dst) f).2 { s with way := s.way.eraseIdx i, rs := s.rs.set g.dst (reTake L (re s g.dst) f).1 }
   have hl1 : (reTake L (re s g.dst) f).2.length ≤ 1 := reTake_one L (re s g.dst) f
   refine ⟨add, by rw [e]; exact h1, by omega, fun g' hg' => ?_⟩
   obtain ⟨x, hx1, rfl, hxm⟩ := h3 g' hg'
   refine ⟨x, msg_enc hxm (by rw [reTake_src L (re s g.dst) f x hx1, h.ids g.dst hk3]), ?_⟩
   have hr := reTake_reply L (re s g.dst) f x hx1
   rw [← hre] at hr
   rcases reTake_kinds L (re s g.dst) f x hx1 with ⟨h4, h3⟩ | ⟨h5, h4⟩
   ·have : g.src = 3 := by omega
    exact .inr (.inl ⟨h4, hk3, this, hr⟩)
   ·have : g.src ≠ 3 := fun e => by have := hf.kind e; omega
    exact .inr (.inr ⟨h5, hk3, by show g.src < 3; omega, f, hm, h4, hd⟩)
theorem new_no_vote {g0 : Gram} (h : NewG g0 s g) (f : List Int) : ¬ VoteIn g f := by
 rintro ⟨h1, h2, h3⟩
 obtain ⟨f', e, h⟩ := h
 rw [h1] at e
 cases e
 rcases h with ⟨h, _⟩ | ⟨h, _⟩ | ⟨h, _⟩ <;> omega
def VB (ns : Nat) (s : Sys) : Prop := ∀ g ∈ s.way, ∀ f, VoteIn g f → f.getD 2 0 ≤ (ns : Int)
structure Fl (L : Lay) (σ : List Sight) (ns : Nat) (s : Sys) : Prop where
 cal : Cal L σ s
 vb : VB ns s
 lo : ns ≤ s.v.trace.length
 hi : s.v.trace.length ≤ ns + 1
def Pot (N ns : Nat) (s : Sys) : Nat := U N s + if s.v.trace.length ≤ ns then 9 * N + 1 else 0
theorem Fl.deliver (hL : L.Ok) (hns : ns + 2 ≤ 900) (hN : ns + 1 ≤ N) (h : Fl L σ ns s) (hw : s.way ≠ []) : Fl L σ ns (deliver L s 0) ∧ Pot N ns (deliver L s 0) + 1 ≤ Pot N ns s := by
 obtain ⟨g, q, hq⟩ : ∃ g q, s.way = g :: q := by
  cases e : s.way with
  | nil => exact absurd e hw
  | cons g q => exact ⟨g, q, rfl⟩
 have hw0 : s.way[0]? = some g := by rw [hq]; rfl
 have hv : VB ns (Proofs.Ytdhekhlmdefcnab.deliver L s 0) := by
  obtain ⟨add, h1, _, h3⟩ := deliver_add h.cal.ok h.cal.ex hw0
  intro g' hg' f hf
  rw [h1] at hg'
  rcases List.mem_append.1 hg' with h4 | h4
  ·exact h.vb g' (List.mem_of_mem_eraseIdx h4) f hf
  ·exact absurd hf (new_no_vote (h3 g' h4) f)
 have hc := h.cal.deliver hL (by have := h.hi; omega) 0
 rcases U_deliver (N := N) hL h.cal.ok h.cal.ex (by have := h.hi; omega) hq with ⟨h1, h2⟩ | ⟨h1, f, c, e1, e2, e3, e4, e5⟩
 ·refine ⟨⟨hc, hv, by rw [h2]; exact h.lo, by rw [h2]; exact h.hi⟩, ?_⟩
  unfold Pot
  rw [h2]
  omega
 ·have hvb := h.vb g (by rw [hq]; exact List.mem_cons_self ..) f ⟨e1, e2, e3⟩
  have hlo := h.lo
  have hlen : (Proofs.Ytdhekhlmdefcnab.deliver L s 0).v.trace.length = s.v.trace.length + 1 := by rw [e5]; simp
  refine ⟨⟨hc, hv, by omega, by omega⟩, ?_⟩
  unfold Pot
  rw [if_neg (by omega), if_pos (by omega)]
  omega
theorem Fl.flows (hL : L.Ok) (hns : ns + 2 ≤ 900) (hN : ns + 1 ≤ N) : ∀ (n : Nat) {s : Sys}, Fl L σ ns s → Fl L σ ns (flows L s n) ∧ ((flows L s n).way = [] ∨ Pot N ns (flows L s n) + n ≤ Pot N ns s)
 | 0, s, h => ⟨h, .inr (Nat.le_refl _)⟩
 | n + 1, s, h => by
  rw [Proofs.Ytdhekhlmdefcnab.flows]
  split
  ·rename_i e
   exact ⟨h, .inl (List.eq_nil_of_length_eq_zero e)⟩
  ·rename_i e
   obtain ⟨h1, h2⟩ := h.deliver hL hns hN (fun e2 => e (by rw [e2]; rfl))
   obtain ⟨h3, h4⟩ := Fl.flows hL hns hN n h1
   exact ⟨h3, h4.imp id (fun h => by omega)⟩
theorem flows_keep {I : Sys → Prop} (hI : ∀ s, I s → s.way ≠ [] → I (deliver L s 0)) : ∀ (n : Nat) {s : Sys}, I s → I (flows L s n)
 | 0, _, h => h
 | n + 1, s, h => by
  rw [Proofs.Ytdhekhlmdefcnab.flows]
  split
  ·exact h
  ·rename_i e
   exact flows_keep hI n (hI s h fun e2 => e (by rw [e2]; rfl))
theorem flows_nil (h : s.way = []) (n : Nat) : flows L s n = s := by
 cases n with
 | zero => rfl
 | succ n => rw [flows, if_pos (by rw [h]; rfl)]
theorem flows_add (a b : Nat) (s : Sys) : flows L s (a + b) = flows L (flows L s a) b := by
 induction a generalizing s with
 | zero => rw [Nat.zero_add]; rfl
 | succ a ih =>
  rw [show a + 1 + b = (a + b) + 1 by omega, flows, flows]
  split
  ·rename_i e
   rw [flows_nil (List.eq_nil_of_length_eq_zero e)]
  ·exact ih _
structure Lag (s : Sys) : Prop where
 vw : ∀ g ∈ s.way, ∀ f, VoteIn g f → f.getD 2 0 ≤ ((re s g.src).cycle : Int) ∨ f.getD 2 0 ≤ 12
 vs : ∀ j, j < 3 → (s.v.votes.getD j (Cm.zero, false)).2 = true → s.v.trace.length ≤ (re s j).cycle ∨ s.v.trace.length ≤ 12
 q : s.v.trace.length ≤ 13 ∨ ∃ i j, i < 3 ∧ j < 3 ∧ i ≠ j ∧ s.v.trace.length ≤ (re s i).cycle + 1 ∧ s.v.trace.length ≤ (re s j).cycle + 1
theorem Lag.deliver (h : SysOk L 3 σ s) (hx : Ex s) (hl : Lag s) (i : Nat) : Lag (deliver L s i) := by
 have hmono : ∀ k, (re s k).cycle ≤ (re (Proofs.Ytdhekhlmdefcnab.deliver L s i) k).cycle := fun k => ((later_deliver L s i).2 k).1
 cases hw : s.way[i]? with
 | none => rw [deliver_no hw]; exact hl
 | some g =>
  have hg : g ∈ s.way := List.mem_of_getElem? hw
  obtain ⟨add, a1, _, a3⟩ := deliver_add (L := L) h hx hw
  have hvw : ∀ g' ∈ (Proofs.Ytdhekhlmdefcnab.deliver L s i).way, ∀ f, VoteIn g' f → f.getD 2 0 ≤ ((re (Proofs.Ytdhekhlmdefcnab.deliver L s i) g'.src).cycle : Int) ∨ f.getD 2 0 ≤ 12 := fun g' hg' f hf => by
   rw [a1] at hg'
   rcases List.mem_append.1 hg' with h4 | h4
   ·rcases hl.vw g' (List.mem_of_mem_eraseIdx h4) f hf with h5 | h5
    ·have := hmono g'.src
     exact .inl (by omega)
    ·exact .inr h5
   ·exact absurd hf (new_no_vote (a3 g' h4) f)
  have same : (Proofs.Ytdhekhlmdefcnab.deliver L s i).v.trace = s.v.trace → (∀ j, j < 3 → ((Proofs.Ytdhekhlmdefcnab.deliver L s i).v.votes.getD j (Cm.zero, false)).2 = true → (s.v.votes.getD j (Cm.zero, false)).2 = true ∨ s.v.trace.length ≤ (re s j).cycle ∨ s.v.trace.length ≤ 12) → Lag (Proofs.Ytdhekhlmdefcnab.deliver L s i) := fun e1 e2 => by
   refine ⟨hvw, fun j hj hv => ?_, ?_⟩
   ·rw [e1]
    have := hmono j
    rcases e2 j hj hv with h5 | h5
    ·rcases hl.vs j hj h5 with h6 | h6
     ·exact .inl (by omega)
     ·exact .inr h6
    ·rcases h5 with h6 | h6
     ·exact .inl (by omega)
     ·exact .inr h6
   ·rw [e1]
    rcases hl.q with h5 | ⟨a, b, ha, hb, hne, h6, h7⟩
    ·exact .inl h5
    ·have := hmono a
     have := hmono b
     exact .inr ⟨a, b, ha, hb, hne, by omega, by omega⟩
  cases hm : msg g with
  | none =>
   refine same ?_ ?_
   ·rw [deliver_noneI hw hm]
   ·rw [deliver_noneI hw hm]; exact fun j _ hv => .inl hv
  | some f =>
   obtain ⟨hs3, hd3, hne⟩ := hx.dst g hg
   have hsrc := (msg_some hm).2.2
   have hcy := hx.cy g hg f hm
   by_cases hd : g.dst = 3
   ·have ev : (Proofs.Ytdhekhlmdefcnab.deliver L s i).v = (voTake s.v f).1 := by rw [deliver_vI (L := L) hw hm hd, foldl_all_v]
    have keepv : (voTake s.v f).1 = s.v → Lag (Proofs.Ytdhekhlmdefcnab.deliver L s i) := fun e => same (by rw [ev, e]) (fun j _ hv => by rw [ev, e] at hv; exact .inl hv)
    cases hh : voHears s.v f with
    | false => exact keepv (by rw [vt_deaf hh])
    | true =>
     obtain ⟨c, hc⟩ : ∃ c : Nat, f.getD 2 0 = c := ⟨(f.getD 2 0).toNat, by omega⟩
     by_cases hlt : c < s.v.trace.length
     ·exact keepv (by rw [vt_told hh hc hlt])
     ·have hceq : c = s.v.trace.length := by omega
      rw [hceq] at hc
      by_cases h4 : f.getD 0 0 = 4
      ·exact keepv (by rw [vt_ask hh hc h4])
      ·have h2 : f.getD 0 0 = 2 := by have := hears_kind hh; omega
       have hvt := vt_vote hh hc h2 hx.lat
       have hj : (f.getD 1 0).toNat = g.src := by omega
       rw [hj] at hvt
       have hsl : g.src < s.v.votes.length := by rw [h.voter.len]; omega
       have hmy := hl.vw g hg f ⟨hm, hd, h2⟩
       rw [hc] at hmy
       by_cases hal : alike (s.v.votes.set g.src (cmOf f, true)) g.src (cmOf f) = true
       ·rw [if_pos hal] at hvt
        have et : (Proofs.Ytdhekhlmdefcnab.deliver L s i).v.trace.length = s.v.trace.length + 1 := by
         rw [ev, hvt]
         show (s.v.trace ++ [cmOf f]).length = _
         simp
        refine ⟨hvw, fun j hj hv => ?_, ?_⟩
        ·rw [ev, hvt] at hv
         have hv' : (noVotes.getD j (Cm.zero, false)).2 = true := hv
         rw [noVotes_flag] at hv'
         cases hv'
        ·rw [et]
         by_cases h12 : s.v.trace.length ≤ 12
         ·exact .inl (by omega)
         ·unfold alike at hal
          rw [List.any_eq_true] at hal
          obtain ⟨r, hr, hal⟩ := hal
          simp only [Bool.and_eq_true, decide_eq_true_eq] at hal
          obtain ⟨⟨hra, hrf⟩, _⟩ := hal
          have hr3 : r < 3 := List.mem_range.1 hr
          rw [getD_set_other (fun e => hra e.symm)] at hrf
          have h5 := hl.vs r hr3 hrf
          have := hmono g.src
          have := hmono r
          exact .inr ⟨g.src, r, by omega, hr3, fun e => hra e.symm, by omega, by omega⟩
       ·rw [if_neg hal] at hvt
        refine same (by rw [ev, hvt]) (fun j hj3 hv => ?_)
        rw [ev, hvt] at hv
        by_cases e : j = g.src
        ·subst e
         refine .inr ?_
         omega
        ·have hv' : ((s.v.votes.set g.src (cmOf f, true)).getD j (Cm.zero, false)).2 = true := hv
         rw [getD_set_other (fun e2 => e e2.symm)] at hv'
         exact .inl hv'
   ·have ev : (Proofs.Ytdhekhlmdefcnab.deliver L s i).v = s.v := by rw [deliver_rI (L := L) hw hm hd, foldl_send_v]
    exact same (by rw [ev]) (fun j _ hv => by rw [ev] at hv; exact .inl hv)
theorem Lag.tick (h : SysOk L 3 σ s) (hl : Lag s) {k : Nat} (hk : k < 3) : Lag (tickR L s k) := by
 have hcy : ∀ j, (re (tickR L s k) j).cycle = (re s j).cycle := fun j => by
  rw [re_tickR L s h.three hk]
  split
  ·rename_i e; subst e; rfl
  ·rfl
 have hv := tickR_v L s k
 refine ⟨fun g hg f hf => ?_, fun j hj hvv => ?_, ?_⟩
 ·rw [hcy]
  rcases tick_mem hk (h.ids k hk) hg with h1 | ⟨x, b, rfl, hm2, _, _, h1, h2, _⟩
  ·exact hl.vw g h1 f hf
  ·obtain ⟨e1, _, _⟩ := hf
   rw [msg_enc hm2 h1] at e1
   injection e1 with e1
   subst e1
   exact .inl (by rw [h2]; exact Int.le_refl _)
 ·rw [hv] at hvv ⊢
  rw [hcy]
  exact hl.vs j hj hvv
 ·rw [hv]
  simp only [hcy]
  exact hl.q
end
end Go.Proofs.Ytdhekhlmdefcnab
namespace Go.Proofs.Ytdhekhlmdefcnab
def Clean (s : Sys) (g : Gram) : Prop := ∀ k c, k < 3 → calls k g = some c → c ≤ (re s k).cycle
def CleanFrom (i : Nat) (s : Sys) : Prop := ∃ old new, s.way = old ++ new ∧ old.length ≤ i ∧ ∀ g ∈ new, Clean s g
section
variable {L : Lay} {σ : List Sight} {s s' : Sys} {g : Gram} {f : List Int} {N ns : Nat}
theorem calls_some {k c : Nat} (h : calls k g = some c) : ∃ f, msg g = some f ∧ g.src = k ∧ g.dst = 3 ∧ (f.getD 0 0 = 2 ∨ f.getD 0 0 = 4) ∧ c = (f.getD 2 0).toNat := by
 unfold calls at h
 cases hm : msg g with
 | none => rw [hm] at h; cases h
 | some f =>
  rw [hm] at h
  dsimp only at h
  split at h
  ·rename_i hc
   injection h with h
   exact ⟨f, rfl, hc.1, hc.2.1, hc.2.2, h.symm⟩
  ·cases h
theorem new_clean {g0 : Gram} (h : NewG g0 s g) : Clean s g := by
 intro k c _ hc
 obtain ⟨f, e, h1, h2, h3, h4⟩ := calls_some hc
 obtain ⟨f', e', h⟩ := h
 rw [e] at e'
 cases e'
 rcases h with ⟨h5, _⟩ | ⟨_, _, _, h5⟩ | ⟨h5, _⟩
 ·omega
 ·rw [h1] at h5
  omega
 ·omega
theorem Clean.mono (h : Clean s g) (hm : ∀ k, (re s k).cycle ≤ (re s' k).cycle) : Clean s' g := fun k c hk hc => Nat.le_trans (h k c hk hc) (hm k)
theorem CleanFrom.deliver (h : SysOk L 3 σ s) (hx : Ex s) {i : Nat} (hc : CleanFrom (i + 1) s) (hw : s.way ≠ []) : CleanFrom i (deliver L s 0) := by
 obtain ⟨old, new, e, hl, hn⟩ := hc
 have hmono : ∀ k, (re s k).cycle ≤ (re (Proofs.Ytdhekhlmdefcnab.deliver L s 0) k).cycle := fun k => ((later_deliver L s 0).2 k).1
 obtain ⟨g, q, hq⟩ : ∃ g q, s.way = g :: q := by
  cases e : s.way with
  | nil => exact absurd e hw
  | cons g q => exact ⟨g, q, rfl⟩
 obtain ⟨add, a1, _, a3⟩ := deliver_add (L := L) h hx (i := 0) (g := g) (by rw [hq]; rfl)
 rw [hq, List.eraseIdx_cons_zero] at a1
 rw [hq] at e
 cases old with
 | nil =>
  refine ⟨[], q ++ add, by rw [a1]; rfl, by simp, fun g' hg' => ?_⟩
  rcases List.mem_append.1 hg' with h1 | h1
  ·refine (hn g' ?_).mono hmono
   have : new = g :: q := by simpa using e.symm
   rw [this]
   exact List.mem_cons_of_mem _ h1
  ·exact new_clean (a3 g' h1)
 | cons o old =>
  have e2 : q = old ++ new := by
   have : g :: q = o :: (old ++ new) := e
   injection this
  refine ⟨old, new ++ add, by rw [a1, e2]; simp, by simp at hl; omega, fun g' hg' => ?_⟩
  rcases List.mem_append.1 hg' with h1 | h1
  ·exact (hn g' h1).mono hmono
  ·exact new_clean (a3 g' h1)
theorem clean_flows (hL : L.Ok) (hns : ns + 2 ≤ 900) (hN : ns + 1 ≤ N) : ∀ (n : Nat) {s : Sys}, Fl L σ ns s → CleanFrom n s → CleanFrom 0 (flows L s n)
 | 0, s, _, h => h
 | n + 1, s, hf, h => by
  rw [flows]
  split
  ·rename_i e
   refine ⟨[], [], ?_, by simp, fun g hg => by cases hg⟩
   simpa using List.eq_nil_of_length_eq_zero e
  ·rename_i e
   have hw : s.way ≠ [] := fun e2 => e (by rw [e2]; rfl)
   exact clean_flows hL hns hN n (hf.deliver hL hns hN hw).1 (h.deliver hf.cal.ok hf.cal.ex hw)
def cst (N k : Nat) (g : Gram) : Nat := match dones k g with
 | some _ => 3 * N + 1
 | none => match calls k g with
  | some _ => 3 * N
  | none => 0
theorem scan_le (hN : 1 ≤ N) (k : Nat) : ∀ (q : List Gram) (m : Nat), (∀ g ∈ q, ∀ c, calls k g = some c → c ≤ m) → scan N k q m ≤ (q.map (cst N k)).sum + tri N
 | [], m, _ => by
  have := tri_mono (show N - m ≤ N by omega)
  show tri (N - m) ≤ 0 + tri N
  omega
 | g :: q, m, h => by
  have i0 := scan_le hN k q m (fun g' hg' => h g' (List.mem_cons_of_mem _ hg'))
  have i1 := scan_le hN k q (m + 1) (fun g' hg' c hc => Nat.le_succ_of_le (h g' (List.mem_cons_of_mem _ hg') c hc))
  rw [List.map_cons, List.sum_cons]
  cases hd : dones k g with
  | some cy =>
   have e : cst N k g = 3 * N + 1 := by unfold cst; rw [hd]
   rw [scan_done hd, e]
   split
   ·omega
   ·split <;> omega
  | none =>
   cases hc : calls k g with
   | some c =>
    have e : cst N k g = 3 * N := by unfold cst; rw [hd, hc]
    rw [scan_call hd hc, e]
    have := h g (List.mem_cons_self ..) c hc
    have hw : wt N m c ≤ 3 * N := by unfold wt; rw [if_pos this]; omega
    omega
   | none =>
    have e : cst N k g = 0 := by unfold cst; rw [hd, hc]
    rw [scan_none hd hc, e]
    omega
theorem cst_zero {k : Nat} (h1 : dones k g = none) (h2 : calls k g = none) : cst N k g = 0 := by unfold cst; rw [h1, h2]
theorem cst_le (N k : Nat) (g : Gram) : cst N k g ≤ 3 * N + 1 := by
 unfold cst
 split
 ·omega
 ·split <;> omega
theorem one_of {a b c d X : Nat} {k : Nat} (hk : k < 3) (hd : d = 0) (h0 : k ≠ 0 → a = 0) (h1 : k ≠ 1 → b = 0) (h2 : k ≠ 2 → c = 0) (ha : a ≤ X) (hb : b ≤ X) (hc : c ≤ X) : a + b + c + d ≤ X := by
 have : k = 0 ∨ k = 1 ∨ k = 2 := by omega
 rcases this with rfl | rfl | rfl
 ·have := h1 (by decide); have := h2 (by decide); omega
 ·have := h0 (by decide); have := h2 (by decide); omega
 ·have := h0 (by decide); have := h1 (by decide); omega
theorem gram_cost (hN : 1 ≤ N) (hs : g.src ≤ 3) (hd : g.dst ≤ 3) (hne : g.dst ≠ g.src) : cst N 0 g + cst N 1 g + cst N 2 g + own1 g ≤ 3 * N + 1 := by
 by_cases hc : ∃ f, msg g = some f ∧ g.dst = 3 ∧ (f.getD 0 0 = 2 ∨ f.getD 0 0 = 4)
 ·obtain ⟨f, hm, h1, h2⟩ := hc
  have hz : ∀ j, j < 3 → j ≠ g.src → cst N j g = 0 := fun j hj hj2 => cst_zero (dones_not fun f _ h => by omega) (calls_not fun f _ h => hj2 h.1.symm)
  have ho : own1 g = 0 := by unfold own1; rw [hm]; dsimp only; rw [if_pos ⟨h1, h2⟩]
  exact one_of (k := g.src) (by omega) ho (fun e => hz 0 (by decide) (Ne.symm e)) (fun e => hz 1 (by decide) (Ne.symm e)) (fun e => hz 2 (by decide) (Ne.symm e)) (cst_le ..) (cst_le ..) (cst_le ..)
 ·by_cases hdn : ∃ f, msg g = some f ∧ g.src = 3 ∧ f.getD 0 0 = 3
  ·obtain ⟨f, hm, h1, h2⟩ := hdn
   have hz : ∀ j, j < 3 → j ≠ g.dst → cst N j g = 0 := fun j hj hj2 => cst_zero (dones_not fun f _ h => hj2 h.1.symm) (calls_not fun f _ h => by omega)
   have ho : own1 g = 0 := by unfold own1; rw [hm]; dsimp only; rw [if_neg (fun h => by omega), if_pos ⟨h1, h2⟩]
   exact one_of (k := g.dst) (by omega) ho (fun e => hz 0 (by decide) (Ne.symm e)) (fun e => hz 1 (by decide) (Ne.symm e)) (fun e => hz 2 (by decide) (Ne.symm e)) (cst_le ..) (cst_le ..) (cst_le ..)
  ·have hz : ∀ j, cst N j g = 0 := fun j => cst_zero (dones_not fun f hm h => hdn ⟨f, hm, h.2.1, h.2.2⟩) (calls_not fun f hm h => hc ⟨f, hm, h.2.1, h.2.2⟩)
   have := own_le g
   rw [hz, hz, hz]
   omega
theorem sum_le {X : Nat} : ∀ (q : List Gram), (∀ g ∈ q, cst N 0 g + cst N 1 g + cst N 2 g + own1 g ≤ X) → (q.map (cst N 0)).sum + (q.map (cst N 1)).sum + (q.map (cst N 2)).sum + ownS q ≤ q.length * X
 | [], _ => by simp [ownS]
 | g :: q, h => by
  have i0 := sum_le q (fun g' hg' => h g' (List.mem_cons_of_mem _ hg'))
  have h1 := h g (List.mem_cons_self ..)
  rw [List.map_cons, List.map_cons, List.map_cons, List.sum_cons, List.sum_cons, List.sum_cons, ownS_cons, List.length_cons, Nat.succ_mul]
  omega
theorem U_clean (hN : 1 ≤ N) (hx : Ex s) (hc : CleanFrom 0 s) : U N s ≤ 120 * (3 * N + 1) + 3 * tri N := by
 obtain ⟨old, new, e, hl, hn⟩ := hc
 have ho : old = [] := List.eq_nil_of_length_eq_zero (by omega)
 subst ho
 rw [List.nil_append] at e
 rw [← e] at hn
 have a0 := scan_le (N := N) hN 0 s.way (re s 0).cycle (fun g hg c h => hn g hg 0 c (by decide) h)
 have a1 := scan_le (N := N) hN 1 s.way (re s 1).cycle (fun g hg c h => hn g hg 1 c (by decide) h)
 have a2 := scan_le (N := N) hN 2 s.way (re s 2).cycle (fun g hg c h => hn g hg 2 c (by decide) h)
 have hs := sum_le (N := N) (X := 3 * N + 1) s.way (fun g hg => by obtain ⟨x1, x2, x3⟩ := hx.dst g hg; exact gram_cost hN x1 x2 x3)
 have h120 : s.way.length * (3 * N + 1) ≤ 120 * (3 * N + 1) := Nat.mul_le_mul_right _ hx.len
 unfold U
 omega
def tick3 (L : Lay) (s : Sys) : Sys := tickR L (tickR L (tickR L s 0) 1) 2
theorem Cal.tick3 (h : Cal L σ s) : Cal L σ (tick3 L s) := ((h.tick (by decide)).tick (by decide)).tick (by decide)
theorem tick3_v (L : Lay) (s : Sys) : (tick3 L s).v = s.v := by unfold tick3; rw [tickR_v, tickR_v, tickR_v]
theorem Lag.tick3 (h : Cal L σ s) (hl : Lag s) : Lag (tick3 L s) :=
 Lag.tick ((h.tick (by decide)).tick (by decide)).ok (Lag.tick (h.tick (by decide)).ok (Lag.tick h.ok hl (by decide)) (by decide)) (by decide)
theorem tick_cycle (L : Lay) (h3 : s.rs.length = 3) {k : Nat} (hk : k < 3) (j : Nat) : (re (tickR L s k) j).cycle = (re s j).cycle := by
 rw [re_tickR L s h3 hk]
 split
 ·rename_i e; subst e; rfl
 ·rfl
theorem tick3_cycle (h : Cal L σ s) (j : Nat) : (re (Proofs.Ytdhekhlmdefcnab.tick3 L s) j).cycle = (re s j).cycle := by
 unfold Proofs.Ytdhekhlmdefcnab.tick3
 rw [tick_cycle L ((h.tick (by decide)).tick (by decide)).ok.three (by decide), tick_cycle L (h.tick (by decide)).ok.three (by decide), tick_cycle L h.ok.three (by decide)]
theorem U_tick3 (h : Cal L σ s) : U N (Proofs.Ytdhekhlmdefcnab.tick3 L s) ≤ U N s + (15 + 3 * (N - ((re s 0).cycle + 1)) + 3 * (N - ((re s 1).cycle + 1)) + 3 * (N - ((re s 2).cycle + 1))) := by
 have h1 := h.tick (k := 0) (by decide)
 have h2 := h1.tick (k := 1) (by decide)
 have u0 := U_tick (N := N) (L := L) h.ok.three (k := 0) (by decide) (h.ok.ids 0 (by decide))
 have u1 := U_tick (N := N) (L := L) h1.ok.three (k := 1) (by decide) (h1.ok.ids 1 (by decide))
 have u2 := U_tick (N := N) (L := L) h2.ok.three (k := 2) (by decide) (h2.ok.ids 2 (by decide))
 rw [tick_cycle L h.ok.three (by decide)] at u1
 rw [tick_cycle L h1.ok.three (by decide), tick_cycle L h.ok.three (by decide)] at u2
 unfold Proofs.Ytdhekhlmdefcnab.tick3
 omega
theorem fl_tick3 (h : Cal L σ s) : Fl L σ s.v.trace.length (Proofs.Ytdhekhlmdefcnab.tick3 L s) := by
 have ht := h.tick3
 refine ⟨ht, fun g hg f hf => ?_, by rw [tick3_v]; exact Nat.le_refl _, by rw [tick3_v]; omega⟩
 have := (ht.ex.cy g hg f hf.1).2
 rw [tick3_v] at this
 exact this
theorem Fl.vtick {v' : Vo} (h : Fl L σ ns s) (hv : SysOk L 3 σ { s with v := v' }) (e1 : v'.trace = s.v.trace) (e2 : v'.latched = false) (e3 : v'.window = 20) : Fl L σ ns { s with v := v' } :=
 ⟨⟨hv, fun k hk => (h.cal.cov k hk).later (Later.of_rs rfl), ⟨h.cal.ex.len, fun g hg f hm => by show _ ∧ _ ≤ ((v'.trace.length : Nat) : Int); rw [e1]; exact h.cal.ex.cy g hg f hm, h.cal.ex.dst, fun k hk => by show _ ∨ _ < v'.trace.length; rw [e1]; exact h.cal.ex.ahead k hk, e2, e3, by show v'.trace.length ≤ 900; rw [e1]; exact h.cal.ex.few⟩⟩, h.vb, by show ns ≤ v'.trace.length; rw [e1]; exact h.lo, by show v'.trace.length ≤ ns + 1; rw [e1]; exact h.hi⟩
end
end Go.Proofs.Ytdhekhlmdefcnab
namespace Go.Proofs.Ytdhekhlmdefcnab
section
variable {L : Lay} {σ : List Sight} {s s' : Sys} {g : Gram} {q : List Gram} {f : List Int} {N ns k : Nat}
theorem send_sub (s : Sys) (a b : Nat) (x : List Int) {g : Gram} (h : g ∈ s.way) : g ∈ (sysSend s a b x).way := by
 rcases send_way s a b x with e | ⟨_, e⟩
 ·rw [e]; exact h
 ·rw [e]; exact List.mem_append_left _ h
theorem fold_send_sub (a b : Nat) : ∀ (l : List (List Int)) (s : Sys) {g : Gram}, g ∈ s.way → g ∈ (l.foldl (fun s x => sysSend s a b x) s).way
 | [], _, _, h => h
 | x :: l, s, _g, h => fold_send_sub a b l _ (send_sub s a b x h)
theorem hears_ok (h : Cal L σ s) (hg : g ∈ s.way) (hm : msg g = some f) (hd : g.dst = 3) (hk : f.getD 0 0 = 2 ∨ f.getD 0 0 = 4) : voHears s.v f = true := by
 have hsrc := (msg_some hm).2.2
 obtain ⟨h1, h2, h3⟩ := h.ex.dst g hg
 have hcy := h.ex.cy g hg f hm
 have ho : s.v.out.testBit (f.getD 1 0).toNat = false := by
  cases e : s.v.out.testBit (f.getD 1 0).toNat with
  | false => rfl
  | true => have := h.ok.voter.out _ e; omega
 unfold voHears
 rw [ho]
 simp only [Bool.and_eq_true, Bool.or_eq_true, decide_eq_true_eq, Bool.not_false, and_true]
 exact ⟨⟨⟨hk, by omega⟩, by omega⟩, hcy.1⟩
theorem deliver_commit (h : Cal L σ s) (hq : s.way = g :: q) (hne : (deliver L s 0).v.trace.length ≠ s.v.trace.length) :
  ∃ f, msg g = some f ∧ g.dst = 3 ∧ f.getD 0 0 = 2 ∧ f.getD 2 0 = (s.v.trace.length : Nat) ∧ alike (s.v.votes.set g.src (cmOf f, true)) g.src (cmOf f) = true ∧
   deliver L s 0 = toAll { s with way := q, v := voCommits { s.v with votes := s.v.votes.set g.src (cmOf f, true) } (cmOf f) } true g.src (voDone (voCommits { s.v with votes := s.v.votes.set g.src (cmOf f, true) } (cmOf f)) s.v.trace.length) := by
 have hg : g ∈ s.way := by rw [hq]; exact List.mem_cons_self ..
 cases hm : msg g with
 | none => exact absurd (by rw [deliver_none hq hm]) hne
 | some f =>
  have hsrc := (msg_some hm).2.2
  have hcy := h.ex.cy g hg f hm
  obtain ⟨h1, h2, h3⟩ := h.ex.dst g hg
  by_cases hd : g.dst = 3
  ·have ev : (deliver L s 0).v = (voTake s.v f).1 := by rw [deliver_v hq hm hd, foldl_all_v]
   have keepv : (voTake s.v f).1 = s.v → False := fun e => hne (by rw [ev, e])
   by_cases hk : f.getD 0 0 = 2 ∨ f.getD 0 0 = 4
   ·have hh := hears_ok h hg hm hd hk
    obtain ⟨c, hc⟩ : ∃ c : Nat, f.getD 2 0 = c := ⟨(f.getD 2 0).toNat, by omega⟩
    by_cases hlt : c < s.v.trace.length
    ·exact (keepv (by rw [vt_told hh hc hlt])).elim
    ·have hceq : c = s.v.trace.length := by omega
     rw [hceq] at hc
     by_cases h4 : f.getD 0 0 = 4
     ·exact (keepv (by rw [vt_ask hh hc h4])).elim
     ·have h2' : f.getD 0 0 = 2 := by omega
      have hvt := vt_vote hh hc h2' h.ex.lat
      have hj : (f.getD 1 0).toNat = g.src := by omega
      rw [hj] at hvt
      by_cases hal : alike (s.v.votes.set g.src (cmOf f, true)) g.src (cmOf f) = true
      ·refine ⟨f, rfl, hd, h2', hc, hal, ?_⟩
       rw [deliver_v hq hm hd, hvt, if_pos hal]
       rfl
      ·rw [if_neg hal] at hvt
       exact absurd (by rw [ev, hvt]) hne
   ·have hdf : voHears s.v f = false := by
     cases e : voHears s.v f with
     | false => rfl
     | true => exact absurd (hears_kind e) hk
    exact (keepv (by rw [vt_deaf hdf])).elim
  ·exact absurd (by rw [deliver_r hq hm hd, foldl_send_v]) hne
def JB (k : Nat) (s : Sys) : Prop := (re s k).cycle = s.v.trace.length ∨ (∃ g ∈ s.way, ∃ e, dones k g = some e ∧ e + 1 = s.v.trace.length) ∨
 (s.v.trace.length ≤ (re s k).ahead + 1 ∧ ∃ g ∈ s.way, calls k g = some (re s k).cycle ∨ dones k g = some (re s k).cycle)
theorem dones_some {e : Nat} (h : dones k g = some e) : ∃ f, msg g = some f ∧ g.dst = k ∧ g.src = 3 ∧ f.getD 0 0 = 3 ∧ e = (f.getD 2 0).toNat := by
 unfold dones at h
 cases hm : msg g with
 | none => rw [hm] at h; cases h
 | some f =>
  rw [hm] at h
  dsimp only at h
  split at h
  ·rename_i hc
   injection h with h
   exact ⟨f, rfl, hc.1, hc.2.1, hc.2.2, h.symm⟩
  ·cases h
theorem JB_commit (hL : L.Ok) (h : Cal L σ s) (hq : s.way = g :: q) (hne : (deliver L s 0).v.trace.length ≠ s.v.trace.length) (hlen : s.way.length ≤ 100) (hfew : s.v.trace.length ≤ 800) (hk : k < 3) : JB k (deliver L s 0) := by
 have hok := h.ok.deliver hL 0
 obtain ⟨f, hm, hd, h2, hc, hal, e⟩ := deliver_commit h hq hne
 have ev : (deliver L s 0).v = voCommits { s.v with votes := s.v.votes.set g.src (cmOf f, true) } (cmOf f) := by rw [e, (toAll_rest _ _ _ _).2]
 have et : (deliver L s 0).v.trace.length = s.v.trace.length + 1 := by
  rw [ev]
  show (s.v.trace ++ [cmOf f]).length = _
  simp
 have hmay : mayB (voDone (voCommits { s.v with votes := s.v.votes.set g.src (cmOf f, true) } (cmOf f)) s.v.trace.length) = true := by
  rw [← ev]
  exact done_may hL hok.voter (by omega) (by omega)
 refine .inr (.inl ⟨⟨3, k, encB (voDone (voCommits { s.v with votes := s.v.votes.set g.src (cmOf f, true) } (cmOf f)) s.v.trace.length)⟩, ?_, s.v.trace.length, ?_, by rw [et]⟩)
 ·rw [e, toAll_true]
  generalize voDone (voCommits { s.v with votes := s.v.votes.set g.src (cmOf f, true) } (cmOf f)) s.v.trace.length = x at *
  have hql : q.length ≤ 99 := by rw [hq] at hlen; simp at hlen; omega
  have l0 : ({ s with way := q, v := voCommits { s.v with votes := s.v.votes.set g.src (cmOf f, true) } (cmOf f) } : Sys).way.length ≤ 99 := hql
  generalize ({ s with way := q, v := voCommits { s.v with votes := s.v.votes.set g.src (cmOf f, true) } (cmOf f) } : Sys) = b at *
  have e0 := send_fits (s := b) (a := 3) (b := 0) hmay (by omega)
  have e1 := send_fits (s := sysSend b 3 0 x) (a := 3) (b := 1) hmay (by rw [e0]; simp; omega)
  have e2 := send_fits (s := sysSend (sysSend b 3 0 x) 3 1 x) (a := 3) (b := 2) hmay (by rw [e1, e0]; simp; omega)
  rw [e2, e1, e0]
  have : k = 0 ∨ k = 1 ∨ k = 2 := by omega
  rcases this with rfl | rfl | rfl <;> simp
 ·exact dones_of (g := ⟨3, k, encB _⟩) (msg_enc hmay rfl) rfl rfl
set_option maxHeartbeats 2000000 in
theorem JB_step (hL : L.Ok) (h : Cal L σ s) (hq : s.way = g :: q) (hk : k < 3) (hh : ∀ f, msg g = some f → g.dst ≠ 3 → f.getD 0 0 ≠ 4 ∧ f.getD 0 0 ≠ 5) (hfew : s.v.trace.length ≤ 800) (hn : (deliver L s 0).v.trace.length = s.v.trace.length) (hj : JB k s) : JB k (deliver L s 0) := by
 have hg : g ∈ s.way := by rw [hq]; exact List.mem_cons_self ..
 obtain ⟨hs3, hd3, hne⟩ := h.ex.dst g hg
 have hok := h.ok.deliver hL 0
 obtain ⟨add, a1, _, _⟩ := deliver_add (L := L) h.ok h.ex (i := 0) (g := g) (by rw [hq]; rfl)
 rw [hq, List.eraseIdx_cons_zero] at a1
 have hql : q.length < 120 := by have := h.ex.len; rw [hq] at this; simp at this; omega
 have sub : ∀ x ∈ q, x ∈ (deliver L s 0).way := fun x hx => by rw [a1]; exact List.mem_append_left _ hx
 have hc1 := (hok.reps k hk (by omega)).cycle
 have hc0 := (h.ok.reps k hk (by omega)).cycle
 have hmono := ((later_deliver L s 0).2 k).1
 by_cases hfin : (re s k).cycle = s.v.trace.length
 ·exact .inl (by omega)
 -- when k itself does not turn, and g is not its token
 have keep : (re (deliver L s 0) k).cycle = (re s k).cycle → (re (deliver L s 0) k).ahead = (re s k).ahead → (∀ e, dones k g = some e → e + 1 ≠ s.v.trace.length ∧ e ≠ (re s k).cycle) → (calls k g = some (re s k).cycle → JB k (deliver L s 0)) → JB k (deliver L s 0) := by
  intro e1 e2 hd hc
  rcases hj with h1 | ⟨x, hx, e, h1, h2⟩ | ⟨h0, x, hx, h1⟩
  ·exact .inl (by rw [e1, hn]; exact h1)
  ·rw [hq] at hx
   rcases List.mem_cons.1 hx with rfl | hx
   ·exact absurd h2 (hd e h1).1
   ·exact .inr (.inl ⟨x, sub x hx, e, h1, by rw [hn]; exact h2⟩)
  ·rw [hq] at hx
   rcases List.mem_cons.1 hx with rfl | hx
   ·rcases h1 with h1 | h1
    ·exact hc h1
    ·exact absurd rfl (hd _ h1).2
   ·exact .inr (.inr ⟨by rw [hn, e2]; exact h0, x, sub x hx, by rw [e1]; exact h1⟩)
 cases hm : msg g with
 | none =>
  have e : deliver L s 0 = { s with way := q } := deliver_none hq hm
  refine keep (by rw [e]; rfl) (by rw [e]; rfl) (fun e h => ?_) (fun h => ?_)
  ·obtain ⟨f, h1, _⟩ := dones_some h; rw [hm] at h1; cases h1
  ·obtain ⟨f, h1, _⟩ := calls_some h; rw [hm] at h1; cases h1
 | some f =>
  have hsrc := (msg_some hm).2.2
  have hcy := h.ex.cy g hg f hm
  by_cases hd : g.dst = 3
  ·have e := deliver_v (L := L) hq hm hd
   have er : (deliver L s 0).rs = s.rs := by rw [e]; exact foldl_all_rs _ _ _ _
   refine keep (by rw [re_rs er]) (by rw [re_rs er]) (fun e h => ?_) (fun hc => ?_)
   ·obtain ⟨_, _, h1, _⟩ := dones_some h; omega
   ·obtain ⟨f', e1, e2, e3, e4, e5⟩ := calls_some hc
    rw [hm] at e1
    cases e1
    by_cases hcn : (re s k).cycle = s.v.trace.length
    ·exact .inl (by rw [re_rs er, hn]; exact hcn)
    ·have hlt : (re s k).cycle < s.v.trace.length := by omega
     have hc2 : f.getD 2 0 = ((re s k).cycle : Nat) := by omega
     have hvt := vt_told (hears_ok h hg hm hd e4) hc2 hlt
     have hmay := done_may hL h.ok.voter hlt (by omega)
     have hin : (⟨3, k, encB (voDone s.v (re s k).cycle)⟩ : Gram) ∈ (deliver L s 0).way := by
      rw [e, hvt]
      have hone : ∀ (l : List (List Int)) (b : Sys), l.foldl (fun s' x => toAll s' false g.src x) b = l.foldl (fun s' x => sysSend s' 3 g.src x) b := by
       intro l
       induction l with
       | nil => intro b; rfl
       | cons x l ih => intro b; rw [List.foldl_cons, List.foldl_cons, toAll_false _ _ (by omega), ih]
      dsimp only
      rw [hone, e2]
      have first : (⟨3, k, encB (voDone s.v (re s k).cycle)⟩ : Gram) ∈ (sysSend { s with way := q, v := s.v } 3 k (voDone s.v (re s k).cycle)).way := by
       rw [send_fits (s := { s with way := q, v := s.v }) hmay hql]
       simp
      split
      ·rw [List.foldl_cons, List.foldl_nil]
       exact first
      ·rw [List.foldl_cons]
       exact fold_send_sub 3 k [voDone s.v (s.v.trace.length - 1)] _ first
     have hdn : dones k ⟨3, k, encB (voDone s.v (re s k).cycle)⟩ = some (re s k).cycle := dones_of (g := ⟨3, k, encB _⟩) (msg_enc hmay rfl) rfl rfl
     rcases hj with h1 | ⟨x, hx, e', h1, h2⟩ | ⟨h0, _⟩
     ·exact absurd h1 hcn
     ·rw [hq] at hx
      rcases List.mem_cons.1 hx with rfl | hx
      ·obtain ⟨_, _, h3, _⟩ := dones_some h1; omega
      ·exact .inr (.inl ⟨x, sub x hx, e', h1, by rw [hn]; exact h2⟩)
     ·exact .inr (.inr ⟨by rw [hn, re_rs er]; exact h0, _, hin, .inr (by rw [re_rs er]; exact hdn)⟩)
  ·have hk3 : g.dst < 3 := by omega
   have e := deliver_r (L := L) hq hm hd
   have er : (deliver L s 0).rs = s.rs.set g.dst (reTake L (re s g.dst) f).1 := by rw [e]; exact foldl_send_rs _ _ _ _
   have hre : ∀ j, re (deliver L s 0) j = if j = g.dst then (reTake L (re s g.dst) f).1 else re s j := fun j => by
    rw [← re_any s h.ok.three hk3 (reTake L (re s g.dst) f).1 s.way j]
    exact re_rs (s' := deliver L s 0) (s := { s with way := s.way, rs := s.rs.set g.dst (reTake L (re s g.dst) f).1 }) er j
   have hcno : calls k g ≠ some (re s k).cycle := fun h => by obtain ⟨_, _, _, h1, _⟩ := calls_some h; exact hd h1
   by_cases hkd : k = g.dst
   ·obtain ⟨n4, n5⟩ := hh f hm hd
    have hrk : re (deliver L s 0) k = (reTake L (re s k) f).1 := by rw [hre, if_pos hkd, hkd]
    cases hdk : dones k g with
    | none =>
     have quiet : (reTake L (re s k) f).1.cycle = (re s k).cycle ∧ (reTake L (re s k) f).1.ahead = (re s k).ahead := by
      by_cases h3 : f.getD 0 0 = 3
      ·have : g.src ≠ 3 := fun e => by
        have := dones_of hm e h3
        rw [← hkd, hdk] at this
        cases this
       rw [rt_other3 h3 (by omega)]
       exact ⟨rfl, rfl⟩
      ·by_cases h1 : f.getD 0 0 = 1
       ·rw [rt_sample h1]; split <;> exact ⟨rfl, rfl⟩
       ·rw [rt_else h1 h3 n4 n5]; exact ⟨rfl, rfl⟩
     exact keep (by rw [hrk]; exact quiet.1) (by rw [hrk]; exact quiet.2) (fun e h => by rw [hdk] at h; cases h) (fun h => absurd h hcno)
    | some e0 =>
     obtain ⟨f', m1, m2, m3, m4, m5⟩ := dones_some hdk
     rw [hm] at m1
     cases m1
     have hf1 : f.getD 1 0 = 3 := by omega
     have hlt : e0 < s.v.trace.length := by
      obtain ⟨hf, _⟩ := gram_ok h.ok hg hm
      obtain ⟨cy, e3, e4⟩ := hf.done m4
      have := (List.getElem?_eq_some_iff.1 e4).1
      omega
     have hc2 : f.getD 2 0 = (e0 : Nat) := by omega
     have hid : (re s k).id = k := h.ok.ids k hk
     by_cases hlo : e0 < (re s k).cycle
     ·have hrt := rt_done_old (L := L) (r := re s k) m4 hc2 hlo
      refine keep (by rw [hrk, hrt]) (by rw [hrk, hrt]) (fun e h => ?_) (fun h => absurd h hcno)
      rw [hdk] at h
      injection h with h
      subst h
      exact ⟨by omega, by omega⟩
     ·by_cases heq : e0 = (re s k).cycle
      ·rw [heq] at hc2
       obtain ⟨r', e1, e2, e3, e4, _, _⟩ := rt_done_now (L := L) (r := re s k) m4 hf1 hc2
       have hcy2 : (re (deliver L s 0) k).cycle = (re s k).cycle + 1 := by rw [hrk, e1]; exact e2
       have hah2 : (re (deliver L s 0) k).ahead = max (re s k).ahead (re s k).cycle := by rw [hrk, e1]; exact e4
       by_cases hend : (re s k).cycle + 1 = s.v.trace.length
       ·exact .inl (by rw [hcy2, hn]; exact hend)
       ·rcases hj with h1 | ⟨x, hx, e', h1, h2⟩ | ⟨h0, _⟩
        ·omega
        ·rw [hq] at hx
         rcases List.mem_cons.1 hx with rfl | hx
         ·rw [hdk] at h1
          injection h1 with h1
          omega
         ·exact .inr (.inl ⟨x, sub x hx, e', h1, by rw [hn]; exact h2⟩)
        ·have hle : (re s k).cycle + 1 ≤ max (re s k).ahead (re s k).cycle := by omega
         have hmay : mayB (asks r') = true := ask_may (by omega) (by omega)
         refine .inr (.inr ⟨by rw [hn, hah2]; omega, ⟨k, 3, encB (asks r')⟩, ?_, .inl ?_⟩)
         ·rw [e, ← hkd, e1, if_pos hle]
          simp only [List.foldl_cons, List.foldl_nil]
          rw [m3, send_fits (s := { s with way := q, rs := s.rs.set k r' }) hmay hql]
          simp
         ·rw [hcy2, ← e2]
          have hmg : msg ⟨k, 3, encB (asks r')⟩ = some (asks r') := msg_enc hmay (by show ((r'.id : Nat) : Int) = _; rw [e3, hid])
          have := calls_of (g := ⟨k, 3, encB (asks r')⟩) hmg rfl (.inr rfl)
          exact this
      ·have hgt : (re s k).cycle < e0 := by omega
       have hrt := rt_done_ahead (L := L) (r := re s k) m4 hf1 hc2 hgt
       have hcy2 : (re (deliver L s 0) k).cycle = (re s k).cycle := by rw [hrk, hrt]
       have hah2 : (re (deliver L s 0) k).ahead = max (re s k).ahead e0 := by rw [hrk, hrt]
       have hmay : mayB (asks { re s k with ahead := max (re s k).ahead e0 }) = true := ask_may (by show (re s k).id ≤ 3; omega) (by show (re s k).cycle ≤ _; omega)
       have hin : (⟨k, 3, encB (asks { re s k with ahead := max (re s k).ahead e0 })⟩ : Gram) ∈ (deliver L s 0).way := by
        rw [e, ← hkd, hrt]
        simp only [List.foldl_cons, List.foldl_nil]
        rw [m3, send_fits (s := { s with way := q, rs := s.rs.set k { re s k with ahead := max (re s k).ahead e0 } }) hmay hql]
        simp
       have hcall : calls k ⟨k, 3, encB (asks { re s k with ahead := max (re s k).ahead e0 })⟩ = some (re s k).cycle :=
        calls_of (g := ⟨k, 3, encB (asks { re s k with ahead := max (re s k).ahead e0 })⟩) (msg_enc hmay (by show ((((re s k).id : Nat)) : Int) = _; rw [hid])) rfl (.inr rfl)
       rcases hj with h1 | ⟨x, hx, e', h1, h2⟩ | ⟨h0, x, hx, h1⟩
       ·omega
       ·rw [hq] at hx
        rcases List.mem_cons.1 hx with rfl | hx
        ·rw [hdk] at h1
         injection h1 with h1
         exact .inr (.inr ⟨by rw [hn, hah2]; omega, _, hin, .inl (by rw [hcy2]; exact hcall)⟩)
        ·exact .inr (.inl ⟨x, sub x hx, e', h1, by rw [hn]; exact h2⟩)
       ·exact .inr (.inr ⟨by rw [hn, hah2]; omega, _, hin, .inl (by rw [hcy2]; exact hcall)⟩)
   ·have hrk : re (deliver L s 0) k = re s k := by rw [hre, if_neg hkd]
    exact keep (by rw [hrk]) (by rw [hrk]) (fun e h => by obtain ⟨_, _, h1, _⟩ := dones_some h; exact absurd h1.symm hkd) (fun h => absurd h hcno)
end
end Go.Proofs.Ytdhekhlmdefcnab
