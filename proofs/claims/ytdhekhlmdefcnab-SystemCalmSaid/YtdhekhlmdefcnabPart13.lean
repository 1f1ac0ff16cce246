/- Part 13 of the proof: CaDel, CaKeep, CaFlow. -/
import Derived.Test.YtdhekhlmdefcnabPart12
namespace Go.Proofs.Ytdhekhlmdefcnab
structure Ex (s : Sys) : Prop where
 len : s.way.length ≤ 120
 cy : ∀ g ∈ s.way, ∀ f, msg g = some f → 0 ≤ f.getD 2 0 ∧ f.getD 2 0 ≤ (s.v.trace.length : Int)
 dst : ∀ g ∈ s.way, g.src ≤ 3 ∧ g.dst ≤ 3 ∧ g.dst ≠ g.src
 ahead : ∀ k, k < 3 → (re s k).ahead = 0 ∨ (re s k).ahead < s.v.trace.length
 lat : s.v.latched = false
 win : s.v.window = 20
 few : s.v.trace.length ≤ 900
def U (N : Nat) (s : Sys) : Nat := scan N 0 s.way (re s 0).cycle + scan N 1 s.way (re s 1).cycle + scan N 2 s.way (re s 2).cycle + ownS s.way
section
variable {L : Lay} {σ : List Sight} {s : Sys} {g : Gram} {q : List Gram} {f : List Int} {N : Nat}
theorem dones_of (hm : msg g = some f) (hs : g.src = 3) (hk : f.getD 0 0 = 3) : dones g.dst g = some (f.getD 2 0).toNat := by
 unfold dones
 rw [hm]
 dsimp only
 rw [if_pos ⟨rfl, hs, hk⟩]
theorem dones_not {k : Nat} (h : ∀ f, msg g = some f → ¬ (g.dst = k ∧ g.src = 3 ∧ f.getD 0 0 = 3)) : dones k g = none := by
 unfold dones
 cases hm : msg g with
 | none => rfl
 | some f => dsimp only; rw [if_neg (h f hm)]
theorem calls_of (hm : msg g = some f) (hd : g.dst = 3) (hk : f.getD 0 0 = 2 ∨ f.getD 0 0 = 4) : calls g.src g = some (f.getD 2 0).toNat := by
 unfold calls
 rw [hm]
 dsimp only
 rw [if_pos ⟨rfl, hd, hk⟩]
theorem calls_not {k : Nat} (h : ∀ f, msg g = some f → ¬ (g.src = k ∧ g.dst = 3 ∧ (f.getD 0 0 = 2 ∨ f.getD 0 0 = 4))) : calls k g = none := by
 unfold calls
 cases hm : msg g with
 | none => rfl
 | some f => dsimp only; rw [if_neg (h f hm)]
theorem own_le (g : Gram) : own1 g ≤ 2 := by
 unfold own1
 split
 ·split
  ·omega
  ·split
   ·omega
   ·split <;> omega
 ·omega
theorem U_done (s : Sys) {k : Nat} (hk : k < 3) {x : List Int} (h1 : x.getD 1 0 = 3) (h0 : x.getD 0 0 = 3) : U N (sysSend s 3 k x) ≤ U N s + (1 + 3 * N) ∧ (sysSend s 3 k x).rs = s.rs := by
 refine ⟨?_, (send_rest _ _ _ _).1⟩
 have hre : ∀ j, re (sysSend s 3 k x) j = re s j := fun j => re_rs (send_rest _ _ _ _).1 j
 unfold U
 rw [hre, hre, hre]
 rcases send_way s 3 k x with e | ⟨hm, e⟩
 ·rw [e]; omega
 ·rw [e]
  have hmg : msg ⟨3, k, encB x⟩ = some x := msg_enc hm (by rw [h1]; rfl)
  have hd : dones k ⟨3, k, encB x⟩ = some (x.getD 2 0).toNat := dones_of (g := ⟨3, k, encB x⟩) hmg rfl h0
  have hdn : ∀ j, j ≠ k → dones j ⟨3, k, encB x⟩ = none := fun j hj => dones_not fun f _ h => hj h.1.symm
  have hcn : ∀ j, j < 3 → calls j ⟨3, k, encB x⟩ = none := fun j hj => calls_not fun f _ h => by have : 3 = j := h.1; omega
  have ho : own1 ⟨3, k, encB x⟩ = 0 := by
   unfold own1
   rw [hmg]
   dsimp only
   rw [if_neg (by omega), if_pos ⟨rfl, h0⟩]
  rw [ownS_app]
  have ho2 : ownS [⟨3, k, encB x⟩] = 0 := by rw [ownS_cons, ho]; rfl
  have key : ∀ j, j < 3 → scan N j (s.way ++ [⟨3, k, encB x⟩]) (re s j).cycle ≤ scan N j s.way (re s j).cycle + (if j = k then 1 + 3 * N else 0) := fun j hj => by
   by_cases e : j = k
   ·subst e
    rw [if_pos rfl]
    have := scan_done_app (N := N) hd s.way (re s j).cycle
    omega
   ·rw [if_neg e, scan_none_app (hdn j e) (hcn j hj)]
    omega
  have k0 := key 0 (by decide)
  have k1 := key 1 (by decide)
  have k2 := key 2 (by decide)
  have : k = 0 ∨ k = 1 ∨ k = 2 := by omega
  rcases this with rfl | rfl | rfl
  ·rw [if_pos rfl] at k0; rw [if_neg (by decide)] at k1 k2; omega
  ·rw [if_pos rfl] at k1; rw [if_neg (by decide)] at k0 k2; omega
  ·rw [if_pos rfl] at k2; rw [if_neg (by decide)] at k0 k1; omega
theorem U_all (s : Sys) (j : Nat) {x : List Int} (h1 : x.getD 1 0 = 3) (h0 : x.getD 0 0 = 3) : U N (toAll s true j x) ≤ U N s + (3 + 9 * N) := by
 rw [toAll_true]
 have u0 := (U_done (N := N) s (k := 0) (by decide) h1 h0).1
 have u1 := (U_done (N := N) (sysSend s 3 0 x) (k := 1) (by decide) h1 h0).1
 have u2 := (U_done (N := N) (sysSend (sysSend s 3 0 x) 3 1 x) (k := 2) (by decide) h1 h0).1
 omega
theorem add3 {a u n : Nat} (h : a + 3 ≤ u) : a + (3 + 9 * n) ≤ u + 9 * n := by omega
theorem scan3 {a b : Sys} {X : Nat} {k : Nat} (hk : k < 3) (h : ∀ j, j < 3 → j ≠ k → scan N j b.way (re b j).cycle ≤ scan N j a.way (re a j).cycle) (h2 : scan N k b.way (re b k).cycle + ownS b.way + X ≤ scan N k a.way (re a k).cycle + ownS a.way) : U N b + X ≤ U N a := by
 unfold U
 have : k = 0 ∨ k = 1 ∨ k = 2 := by omega
 rcases this with rfl | rfl | rfl
 ·have h1 := h 1 (by decide) (by decide)
  have h3 := h 2 (by decide) (by decide)
  omega
 ·have h1 := h 0 (by decide) (by decide)
  have h3 := h 2 (by decide) (by decide)
  omega
 ·have h1 := h 0 (by decide) (by decide)
  have h3 := h 1 (by decide) (by decide)
  omega
theorem U_head {k : Nat} (hk : k < 3) (hw : s.way = g :: q) {b : Sys} (hd : ∀ j, j < 3 → j ≠ k → dones j g = none ∧ calls j g = none) (hb : ∀ j, j < 3 → j ≠ k → scan N j b.way (re b j).cycle ≤ scan N j q (re s j).cycle)
  {X : Nat} (h2 : scan N k b.way (re b k).cycle + ownS b.way + X ≤ scan N k (g :: q) (re s k).cycle + (own1 g + ownS q)) : U N b + X ≤ U N s := by
 refine scan3 hk (fun j hj hne => ?_) ?_
 ·rw [hw, scan_none (hd j hj hne).1 (hd j hj hne).2]
  exact hb j hj hne
 ·rw [hw, ownS_cons]
  exact h2
theorem re_turn (h3 : s.rs.length = 3) {k : Nat} (hk : k < 3) (r : Re) (q : List Gram) (j : Nat) : re { s with way := q, rs := s.rs.set k r } j = if j = k then r else re s j := re_set (s := { s with way := q }) (by rw [show ({ s with way := q } : Sys).rs = s.rs from rfl, h3]; exact hk) r j
theorem U_deliver (hL : L.Ok) (h : SysOk L 3 σ s) (hx : Ex s) (hN : s.v.trace.length ≤ N) (hw : s.way = g :: q) :
  (U N (deliver L s 0) + 1 ≤ U N s ∧ (deliver L s 0).v.trace = s.v.trace) ∨
  (U N (deliver L s 0) ≤ U N s + 9 * N ∧ ∃ f c, msg g = some f ∧ g.dst = 3 ∧ f.getD 0 0 = 2 ∧ f.getD 2 0 = (s.v.trace.length : Nat) ∧ (deliver L s 0).v.trace = s.v.trace ++ [c]) := by
 have hg : g ∈ s.way := by rw [hw]; exact List.mem_cons_self ..
 obtain ⟨hs3, hd3, hne⟩ := hx.dst g hg
 have h3 := h.three
 cases hm : msg g with
 | none =>
  refine .inl ?_
  rw [deliver_none hw hm]
  refine ⟨U_head (k := 0) (by decide) hw (fun j _ _ => ⟨dones_not (by rw [hm]; intro f h; cases h), calls_not (by rw [hm]; intro f h; cases h)⟩) (fun j _ _ => Nat.le_refl _) ?_, rfl⟩
  rw [scan_none (dones_not (by rw [hm]; intro f h; cases h)) (calls_not (by rw [hm]; intro f h; cases h))]
  have : own1 g = 1 := by unfold own1; rw [hm]
  rw [this]
  show scan N 0 q (re s 0).cycle + ownS q + 1 ≤ _
  omega
 | some f =>
  obtain ⟨hf, hmay⟩ := gram_ok h hg hm
  have hsrc := (msg_some hm).2.2
  obtain ⟨hcy0, hcy1⟩ := hx.cy g hg f hm
  obtain ⟨c, hc⟩ : ∃ c : Nat, f.getD 2 0 = c := ⟨(f.getD 2 0).toNat, by omega⟩
  have hcn : (f.getD 2 0).toNat = c := by omega
  have hcl : c ≤ s.v.trace.length := by omega
  by_cases hd : g.dst = 3
  ·have hj : g.src < 3 := by omega
   have hdn : ∀ j, j < 3 → dones j g = none := fun j hj => dones_not fun f _ h => by omega
   by_cases hk : f.getD 0 0 = 2 ∨ f.getD 0 0 = 4
   ·have hcl2 : calls g.src g = some c := by rw [calls_of hm hd hk, hcn]
    have hcno : ∀ j, j < 3 → j ≠ g.src → dones j g = none ∧ calls j g = none := fun j hj hne => ⟨hdn j hj, calls_not fun f _ h => hne h.1.symm⟩
    have hown : own1 g = 0 := by unfold own1; rw [hm]; dsimp only; rw [if_pos ⟨hd, hk⟩]
    have keep : ∀ b : Sys, b.way = q → b.rs = s.rs → U N b + 3 ≤ U N s := fun b e1 e2 => by
     refine U_head hj hw hcno (fun j _ _ => by rw [e1, re_rs e2]; exact Nat.le_refl _) ?_
     rw [e1, re_rs e2, scan_call (hdn _ hj) hcl2, hown]
     have := wt_ge N (re s g.src).cycle c
     omega
    cases hh : voHears s.v f with
    | false =>
     refine .inl ?_
     rw [deliver_v hw hm hd, vt_deaf hh]
     have := keep { s with way := q, v := s.v } rfl rfl
     exact ⟨by show U N { s with way := q, v := s.v } + 1 ≤ _; omega, rfl⟩
    | true =>
     by_cases hlt : c < s.v.trace.length
     ·refine .inl ?_
      rw [deliver_v hw hm hd, vt_told hh hc hlt]
      dsimp only
      have hm1 := done_may hL h.voter hlt (by have := hx.few; omega)
      have hv : ∀ x, (toAll { s with way := q, v := s.v } false g.src x) = sysSend { s with way := q, v := s.v } 3 g.src x := fun x => toAll_false _ _ hj x
      have hd1 : ∀ e : Nat, mayB (voDone s.v e) = true → dones g.src ⟨3, g.src, encB (voDone s.v e)⟩ = some e := fun e hme => dones_of (g := ⟨3, g.src, encB (voDone s.v e)⟩) (msg_enc hme rfl) rfl rfl
      have hdo : ∀ e : Nat, mayB (voDone s.v e) = true → own1 ⟨3, g.src, encB (voDone s.v e)⟩ = 0 := fun e hme => by
       unfold own1
       rw [msg_enc hme rfl]
       dsimp only
       rw [if_neg (by omega), if_pos ⟨rfl, rfl⟩]
      have hdj : ∀ e j : Nat, j < 3 → j ≠ g.src → dones j ⟨3, g.src, encB (voDone s.v e)⟩ = none ∧ calls j ⟨3, g.src, encB (voDone s.v e)⟩ = none := fun e j hj hne => ⟨dones_not fun f _ h => hne h.1.symm, calls_not fun f _ h => by have h1 : 3 = j := h.1; omega⟩
      have res : ∀ b : Sys, b.rs = s.rs → (b.way = q ∨ b.way = q ++ [⟨3, g.src, encB (voDone s.v c)⟩] ∨ (mayB (voDone s.v (s.v.trace.length - 1)) = true ∧ b.way = q ++ [⟨3, g.src, encB (voDone s.v c)⟩, ⟨3, g.src, encB (voDone s.v (s.v.trace.length - 1))⟩])) → U N b + 1 ≤ U N s := by
       intro b e2 e1
       rcases e1 with e1 | e1 | ⟨hm2, e1⟩
       ·have := keep b e1 e2; omega
       ·refine U_head hj hw hcno (fun j hj hne => ?_) ?_
        ·rw [e1, re_rs e2, scan_none_app (hdj c j hj hne).1 (hdj c j hj hne).2]; exact Nat.le_refl _
        ·rw [e1, re_rs e2, scan_call (hdn _ hj) hcl2, hown, ownS_app, ownS_cons, hdo c hm1]
         have := scan_single (N := N) (hd1 c hm1) q (re s g.src).cycle
         have h0 : ownS [] = 0 := rfl
         omega
       ·refine U_head hj hw hcno (fun j hj hne => ?_) ?_
        ·have e4 : q ++ [⟨3, g.src, encB (voDone s.v c)⟩, ⟨3, g.src, encB (voDone s.v (s.v.trace.length - 1))⟩] = (q ++ [⟨3, g.src, encB (voDone s.v c)⟩]) ++ [⟨3, g.src, encB (voDone s.v (s.v.trace.length - 1))⟩] := by simp
         rw [e1, re_rs e2, e4, scan_none_app (hdj _ j hj hne).1 (hdj _ j hj hne).2, scan_none_app (hdj c j hj hne).1 (hdj c j hj hne).2]; exact Nat.le_refl _
        ·rw [e1, re_rs e2, scan_call (hdn _ hj) hcl2, hown, ownS_app, ownS_cons, ownS_cons, hdo c hm1, hdo _ hm2]
         have := scan_pair (N := N) (hd1 c hm1) (hd1 _ hm2) q (re s g.src).cycle
         have h0 : ownS [] = 0 := rfl
         omega
      by_cases e1 : c + 1 = s.v.trace.length
      ·rw [if_pos e1]
       simp only [List.foldl_cons, List.foldl_nil]
       rw [toAll_false _ _ hj]
       refine ⟨res _ (send_rest _ _ _ _).1 ?_, by rw [(send_rest _ _ _ _).2]⟩
       rcases send_way { s with way := q, v := s.v } 3 g.src (voDone s.v c) with e | ⟨_, e⟩
       ·exact .inl e
       ·exact .inr (.inl e)
      ·rw [if_neg e1]
       simp only [List.foldl_cons, List.foldl_nil]
       rw [toAll_false _ _ hj, toAll_false _ _ hj]
       refine ⟨res _ ((send_rest _ _ _ _).1.trans (send_rest _ _ _ _).1) ?_, by rw [(send_rest _ _ _ _).2, (send_rest _ _ _ _).2]⟩
       by_cases hfull : q.length < 120
       ·have e2 := send_fits (s := { s with way := q, v := s.v }) (a := 3) (b := g.src) hm1 hfull
        rcases send_way (sysSend { s with way := q, v := s.v } 3 g.src (voDone s.v c)) 3 g.src (voDone s.v (s.v.trace.length - 1)) with e | ⟨hm2, e⟩
        ·exact .inr (.inl (e.trans e2))
        ·refine .inr (.inr ⟨hm2, ?_⟩)
         rw [e, e2]
         simp
       ·have e2 := hx.len
        rw [hw] at e2
        simp at e2
        omega
     ·have hceq : c = s.v.trace.length := by omega
      rw [hceq] at hc
      by_cases h4 : f.getD 0 0 = 4
      ·refine .inl ?_
       rw [deliver_v hw hm hd, vt_ask hh hc h4]
       have := keep { s with way := q, v := s.v } rfl rfl
       exact ⟨by show U N { s with way := q, v := s.v } + 1 ≤ _; omega, rfl⟩
      ·have h2 : f.getD 0 0 = 2 := by omega
       rw [deliver_v hw hm hd, vt_vote hh hc h2 hx.lat]
       split
       ·refine .inr ⟨?_, f, cmOf f, rfl, hd, h2, hc, ?_⟩
        ·simp only [List.foldl_cons, List.foldl_nil]
         exact Nat.le_trans (U_all _ _ rfl rfl) (add3 (keep _ rfl rfl))
        ·simp only [List.foldl_cons, List.foldl_nil]
         rw [(toAll_rest _ _ _ _).2]
         rfl
       ·refine .inl ?_
        have := keep { s with way := q, v := { s.v with votes := s.v.votes.set (f.getD 1 0).toNat (cmOf f, true) } } rfl rfl
        exact ⟨by show U N { s with way := q, v := { s.v with votes := s.v.votes.set (f.getD 1 0).toNat (cmOf f, true) } } + 1 ≤ _; omega, rfl⟩
   ·refine .inl ?_
    have hdf : voHears s.v f = false := by
     cases e : voHears s.v f with
     | false => rfl
     | true => exact absurd (hears_kind e) hk
    rw [deliver_v hw hm hd, vt_deaf hdf]
    have hno : ∀ j, j < 3 → dones j g = none ∧ calls j g = none := fun j hj => ⟨hdn j hj, calls_not fun f' hm' h => by rw [hm] at hm'; cases hm'; exact hk h.2.2⟩
    refine ⟨?_, rfl⟩
    show U N { s with way := q, v := s.v } + 1 ≤ _
    refine U_head (k := 0) (by decide) hw (fun j hj _ => hno j hj) (fun j _ _ => Nat.le_refl _) ?_
    rw [scan_none (hno 0 (by decide)).1 (hno 0 (by decide)).2]
    have : own1 g = 1 := by unfold own1; rw [hm]; dsimp only; rw [if_neg (fun h => hk h.2), if_neg (fun h => by omega), if_neg (fun h => h.1 hd)]
    rw [this]
    show scan N 0 q (re s 0).cycle + ownS q + 1 ≤ _
    omega
  ·refine .inl ?_
   have hk3 : g.dst < 3 := by omega
   have hcno : ∀ j, calls j g = none := fun j => calls_not fun f _ h => hd h.2.1
   have hid := h.ids g.dst hk3
   have quiet : ∀ r', g.dst < 3 → r'.cycle ≥ (re s g.dst).cycle → dones g.dst g = none → (∀ j, j ≠ g.dst → dones j g = none) → ∀ x, U N { s with way := q, rs := s.rs.set g.dst r' } + own1 g + x ≤ U N s + x := by
    intro r' _ hr hdk hdj x
    have := U_head (N := N) (k := g.dst) hk3 hw (b := { s with way := q, rs := s.rs.set g.dst r' }) (fun j _ hne => ⟨hdj j hne, hcno j⟩) (fun j _ hne => by rw [re_turn h3 hk3, if_neg hne]; exact Nat.le_refl _) (X := own1 g) (by
     rw [re_turn h3 hk3, if_pos rfl, scan_none hdk (hcno _)]
     have := scan_anti (N := N) (k := g.dst) q hr
     show scan N g.dst q r'.cycle + ownS q + own1 g ≤ _
     omega)
    omega
   have hdj : ∀ j, j ≠ g.dst → dones j g = none := fun j hne => dones_not fun f _ h => hne h.1.symm
   rw [deliver_r hw hm hd]
   have trace : ∀ (l : List (List Int)) (b : Sys), (l.foldl (fun s x => sysSend s g.dst g.src x) b).v = b.v := fun l b => foldl_send_v _ _ l b
   rw [trace]
   refine ⟨?_, rfl⟩
   by_cases hk : f.getD 0 0 = 3
   ·by_cases hs : g.src = 3
    ·have h1 : f.getD 1 0 = 3 := by rw [hsrc, hs]; rfl
     have hlt : c < s.v.trace.length := by
      obtain ⟨cy, e1, e2⟩ := hf.done hk
      have := (List.getElem?_eq_some_iff.1 e2).1
      omega
     have hdk : dones g.dst g = some c := by rw [dones_of hm hs hk, hcn]
     have hown : own1 g = 0 := by unfold own1; rw [hm]; dsimp only; rw [if_neg (fun h => hd h.1), if_pos ⟨hs, hk⟩]
     have key : ∀ (r' : Re) (b : Sys), b.rs = s.rs.set g.dst r' → r'.id = g.dst → (b.way = q ∨ (b.way = q ++ [⟨g.dst, g.src, encB (asks r')⟩] ∧ mayB (asks r') = true ∧ r'.cycle < s.v.trace.length)) →
       1 + 3 * (N - r'.cycle) + scan N g.dst q r'.cycle ≤ scan N g.dst (g :: q) (re s g.dst).cycle ∨ (b.way = q ∧ 1 + scan N g.dst q r'.cycle ≤ scan N g.dst (g :: q) (re s g.dst).cycle) → U N b + 1 ≤ U N s := by
      intro r' b e1 e3 e2 hsc
      have hre : ∀ j, re b j = if j = g.dst then r' else re s j := fun j => by
       have := re_turn h3 hk3 r' q j
       rw [← this]
       exact re_rs (s' := b) (s := { s with way := q, rs := s.rs.set g.dst r' }) e1 j
      rcases e2 with e2 | ⟨e2, hma, hcl3⟩
      ·refine U_head hk3 hw (fun j _ hne => ⟨hdj j hne, hcno j⟩) (fun j _ hne => by rw [hre, if_neg hne, e2]; exact Nat.le_refl _) ?_
       rw [hre, if_pos rfl, e2, hown]
       rcases hsc with h | ⟨_, h⟩ <;> omega
      ·have hmg : msg ⟨g.dst, g.src, encB (asks r')⟩ = some (asks r') := msg_enc hma (by rw [← e3]; rfl)
       have hcc : calls g.dst ⟨g.dst, g.src, encB (asks r')⟩ = some r'.cycle := by
        have := calls_of (g := ⟨g.dst, g.src, encB (asks r')⟩) hmg hs (.inr rfl)
        rw [this]
        rfl
       have hcd : ∀ j, j < 3 → dones j ⟨g.dst, g.src, encB (asks r')⟩ = none := fun j hj => dones_not fun f _ h => by have h1 : g.dst = 3 := h.2.1; exact hd h1
       have hcj : ∀ j, j ≠ g.dst → calls j ⟨g.dst, g.src, encB (asks r')⟩ = none := fun j hne => calls_not fun f _ h => hne h.1.symm
       have hoo : own1 ⟨g.dst, g.src, encB (asks r')⟩ = 0 := by unfold own1; rw [hmg]; dsimp only; rw [if_pos ⟨hs, .inr rfl⟩]
       refine U_head hk3 hw (fun j _ hne => ⟨hdj j hne, hcno j⟩) (fun j hj hne => by rw [hre, if_neg hne, e2, scan_none_app (hcd j hj) (hcj j hne)]; exact Nat.le_refl _) ?_
       rw [hre, if_pos rfl, e2, hown, ownS_app, ownS_cons, hoo]
       have h0 : ownS [] = 0 := rfl
       have ha := scan_call_app (N := N) (hcd _ hk3) hcc q (m := r'.cycle) (Nat.le_refl _)
       rcases hsc with h | ⟨h, _⟩
       ·omega
       ·rw [e2] at h
        exact absurd h (by simp)
     by_cases hlo : c < (re s g.dst).cycle
     ·rw [rt_done_old hk hc hlo]
      refine key (re s g.dst) _ rfl hid (.inl rfl) (.inr ⟨rfl, ?_⟩)
      rw [scan_done hdk, if_neg (by omega), if_neg (by omega)]
      omega
     ·by_cases heq : c = (re s g.dst).cycle
      ·rw [heq] at hc
       obtain ⟨r', e, e1, e2, e3, _, _⟩ := rt_done_now (L := L) hk h1 hc
       rw [e]
       have hsc : 1 + 3 * (N - r'.cycle) + scan N g.dst q r'.cycle ≤ scan N g.dst (g :: q) (re s g.dst).cycle := by
        rw [scan_done hdk, if_pos heq, e1]
        exact Nat.le_refl _
       have hah := hx.ahead g.dst hk3
       split
       ·rename_i hle
        simp only [List.foldl_cons, List.foldl_nil]
        have hcl3 : r'.cycle < s.v.trace.length := by omega
        refine key r' _ (send_rest _ _ _ _).1 (e2.trans hid) ?_ (.inl hsc)
        rcases send_way { s with way := q, rs := s.rs.set g.dst r' } g.dst g.src (asks r') with e | ⟨hma, e⟩
        ·exact .inl e
        ·exact .inr ⟨e, hma, hcl3⟩
       ·exact key r' _ rfl (e2.trans hid) (.inl rfl) (.inl hsc)
      ·rw [rt_done_ahead hk h1 hc (by omega)]
       simp only [List.foldl_cons, List.foldl_nil]
       refine key _ _ (send_rest _ _ _ _).1 hid ?_ (.inl ?_)
       ·rcases send_way { s with way := q, rs := s.rs.set g.dst { re s g.dst with ahead := max (re s g.dst).ahead c } } g.dst g.src (asks { re s g.dst with ahead := max (re s g.dst).ahead c }) with e | ⟨hma, e⟩
        ·exact .inl e
        ·exact .inr ⟨e, hma, by show (re s g.dst).cycle < _; omega⟩
       ·rw [scan_done hdk, if_neg heq, if_pos (by omega)]
        exact Nat.le_refl _
    ·rw [rt_other3 hk (by rw [hsrc]; omega)]
     have hown : own1 g = 1 := by unfold own1; rw [hm]; dsimp only; rw [if_neg (fun h => hd h.1), if_neg (fun h => hs h.1), if_neg (fun h => by omega)]
     have := quiet (re s g.dst) hk3 (Nat.le_refl _) (dones_not fun f _ h => hs h.2.1) hdj 0
     rw [hown] at this
     exact this
   ·have hdk : dones g.dst g = none := dones_not fun f' hm' h => by rw [hm] at hm'; cases hm'; exact hk h.2.2
    by_cases h4 : f.getD 0 0 = 4
    ·have hs : g.src ≠ 3 := fun e => by have := hf.kind e; omega
     have hown : own1 g = 2 := by unfold own1; rw [hm]; dsimp only; rw [if_neg (fun h => hd h.1), if_neg (fun h => hs h.1), if_pos ⟨hd, h4⟩]
     have hq := quiet (re s g.dst) hk3 (Nat.le_refl _) hdk hdj 0
     rw [hown] at hq
     rcases rt_ask (L := L) (r := re s g.dst) h4 with e | e
     ·rw [e]
      simp only [List.foldl_cons, List.foldl_nil]
      have hu : U N (sysSend { s with way := q, rs := s.rs.set g.dst (re s g.dst) } g.dst g.src (frmK (re s g.dst).id (re s g.dst).cycle (re s g.dst).state)) ≤ U N { s with way := q, rs := s.rs.set g.dst (re s g.dst) } + 1 := by
       have hre : ∀ j, re (sysSend { s with way := q, rs := s.rs.set g.dst (re s g.dst) } g.dst g.src (frmK (re s g.dst).id (re s g.dst).cycle (re s g.dst).state)) j = re { s with way := q, rs := s.rs.set g.dst (re s g.dst) } j := fun j => re_rs (send_rest _ _ _ _).1 j
       unfold U
       rw [hre, hre, hre]
       rcases send_way { s with way := q, rs := s.rs.set g.dst (re s g.dst) } g.dst g.src (frmK (re s g.dst).id (re s g.dst).cycle (re s g.dst).state) with e | ⟨hma, e⟩
       ·rw [e]; omega
       ·rw [e]
        have hmg : msg ⟨g.dst, g.src, encB (frmK (re s g.dst).id (re s g.dst).cycle (re s g.dst).state)⟩ = some (frmK (re s g.dst).id (re s g.dst).cycle (re s g.dst).state) := msg_enc hma (by rw [hid]; rfl)
        have hn : ∀ j, dones j ⟨g.dst, g.src, encB (frmK (re s g.dst).id (re s g.dst).cycle (re s g.dst).state)⟩ = none ∧ calls j ⟨g.dst, g.src, encB (frmK (re s g.dst).id (re s g.dst).cycle (re s g.dst).state)⟩ = none := fun j => ⟨dones_not fun f _ h => hd h.2.1, calls_not fun f _ h => hs h.2.1⟩
        have ho : own1 ⟨g.dst, g.src, encB (frmK (re s g.dst).id (re s g.dst).cycle (re s g.dst).state)⟩ = 1 := by
         unfold own1
         rw [hmg]
         dsimp only
         rw [if_neg (fun h => hs h.1), if_neg (fun h => hd h.1), if_neg (fun h => by have h2 : (5 : Int) = 4 := h.2; omega)]
        rw [scan_none_app (hn 0).1 (hn 0).2, scan_none_app (hn 1).1 (hn 1).2, scan_none_app (hn 2).1 (hn 2).2, ownS_app, ownS_cons, ho]
        have h0 : ownS [] = 0 := rfl
        omega
      omega
     ·rw [e]
      show U N { s with way := q, rs := s.rs.set g.dst (re s g.dst) } + 1 ≤ _
      omega
    ·have hown : own1 g = 1 := by unfold own1; rw [hm]; dsimp only; rw [if_neg (fun h => hd h.1), if_neg (fun h => hk h.2), if_neg (fun h => h4 h.2)]
     have fin : (reTake L (re s g.dst) f).2 = [] → (re s g.dst).cycle ≤ (reTake L (re s g.dst) f).1.cycle → U N ((reTake L (re s g.dst) f).2.foldl (fun s x => sysSend s g.dst g.src x) { s with way := q, rs := s.rs.set g.dst (reTake L (re s g.dst) f).1 }) + 1 ≤ U N s := fun e1 e2 => by
      rw [e1]
      have := quiet (reTake L (re s g.dst) f).1 hk3 e2 hdk hdj 0
      rw [hown] at this
      exact this
     by_cases h5 : f.getD 0 0 = 5
     ·obtain ⟨e1, e2⟩ := rt_known (L := L) (r := re s g.dst) h5
      exact fin e1 e2
     ·by_cases h1 : f.getD 0 0 = 1
      ·refine fin ?_ ?_
       ·rw [rt_sample h1]; split <;> rfl
       ·rw [rt_sample h1]; split <;> exact Nat.le_refl _
      ·refine fin ?_ ?_
       ·rw [rt_else h1 hk h4 h5]
       ·rw [rt_else h1 hk h4 h5]; exact Nat.le_refl _
end
end Go.Proofs.Ytdhekhlmdefcnab
namespace Go.Proofs.Ytdhekhlmdefcnab
section
variable {L : Lay} {σ : List Sight} {s : Sys} {g : Gram} {f : List Int} {i : Nat}
theorem deliver_no (hw : s.way[i]? = none) : deliver L s i = s := by unfold deliver; rw [hw]
theorem deliver_noneI (hw : s.way[i]? = some g) (h : msg g = none) : deliver L s i = { s with way := s.way.eraseIdx i } := by
 unfold deliver
 rw [hw]
 dsimp only
 unfold msg at h
 split at h
 ·cases h
 ·rename_i hc
  rw [if_neg hc]
theorem deliver_vI (hw : s.way[i]? = some g) (h : msg g = some f) (hd : g.dst = 3) :
  deliver L s i = (voTake s.v f).2.1.foldl (fun s' x => toAll s' (voTake s.v f).2.2 g.src x) { s with way := s.way.eraseIdx i, v := (voTake s.v f).1 } := by
 unfold msg at h
 split at h
 ·rename_i hc
  injection h with h
  unfold deliver
  rw [hw]
  dsimp only
  rw [if_pos hc, if_pos hd, h]
 ·cases h
theorem deliver_rI (hw : s.way[i]? = some g) (h : msg g = some f) (hd : g.dst ≠ 3) :
  deliver L s i = (reTake L (re s g.dst) f).2.foldl (fun s x => sysSend s g.dst g.src x) { s with way := s.way.eraseIdx i, rs := s.rs.set g.dst (reTake L (re s g.dst) f).1 } := by
 unfold msg at h
 split at h
 ·rename_i hc
  injection h with h
  unfold deliver
  rw [hw]
  dsimp only
  rw [if_pos hc, if_neg hd, h]
  rfl
 ·cases h
theorem send_mem {s : Sys} {a b : Nat} {x : List Int} {g : Gram} (h : g ∈ (sysSend s a b x).way) : g ∈ s.way ∨ g = ⟨a, b, encB x⟩ ∧ mayB x = true := by
 rcases send_way s a b x with e | ⟨hm, e⟩
 ·rw [e] at h; exact .inl h
 ·rw [e] at h
  rcases List.mem_append.1 h with h | h
  ·exact .inl h
  ·exact .inr ⟨List.mem_singleton.1 h, hm⟩
theorem fold_send_mem (a b : Nat) : ∀ (l : List (List Int)) (s : Sys) (g : Gram), g ∈ (l.foldl (fun s x => sysSend s a b x) s).way → g ∈ s.way ∨ ∃ x ∈ l, g = ⟨a, b, encB x⟩ ∧ mayB x = true
 | [], s, g, h => .inl h
 | x :: l, s, g, h => by
  rcases fold_send_mem a b l _ g h with h | ⟨y, hy, e⟩
  ·rcases send_mem h with h | h
   ·exact .inl h
   ·exact .inr ⟨x, List.mem_cons_self .., h⟩
  ·exact .inr ⟨y, List.mem_cons_of_mem _ hy, e⟩
theorem fold_send_len (a b : Nat) : ∀ (l : List (List Int)) (s : Sys), s.way.length ≤ 120 → (l.foldl (fun s x => sysSend s a b x) s).way.length ≤ 120
 | [], _s, h => h
 | x :: l, s, h => fold_send_len a b l _ ((send_len s a b x).2.1 h)
theorem toAll_mem {s : Sys} {all : Bool} {b : Nat} {x : List Int} {g : Gram} (h : g ∈ (toAll s all b x).way) : g ∈ s.way ∨ ∃ k, k < 3 ∧ g = ⟨3, k, encB x⟩ ∧ mayB x = true := by
 unfold toAll at h
 have key : ∀ (l : List Nat), (∀ k ∈ l, k < 3) → ∀ s : Sys, g ∈ (l.foldl (fun s k => if all = true ∨ k = b then sysSend s 3 k x else s) s).way → g ∈ s.way ∨ ∃ k, k < 3 ∧ g = ⟨3, k, encB x⟩ ∧ mayB x = true := by
  intro l
  induction l with
  | nil => intro _ s h; exact .inl h
  | cons k l ih =>
   intro hl s h
   rw [List.foldl_cons] at h
   rcases ih (fun j hj => hl j (List.mem_cons_of_mem _ hj)) _ h with h | h
   ·split at h
    ·rcases send_mem h with h | h
     ·exact .inl h
     ·exact .inr ⟨k, hl k (List.mem_cons_self ..), h⟩
    ·exact .inl h
   ·exact .inr h
 exact key (List.range 3) (fun k hk => List.mem_range.1 hk) s h
theorem fold_all_mem (all : Bool) (b : Nat) : ∀ (l : List (List Int)) (s : Sys) (g : Gram), g ∈ (l.foldl (fun s x => toAll s all b x) s).way → g ∈ s.way ∨ ∃ x ∈ l, ∃ k, k < 3 ∧ g = ⟨3, k, encB x⟩ ∧ mayB x = true
 | [], s, g, h => .inl h
 | x :: l, s, g, h => by
  rcases fold_all_mem all b l _ g h with h | ⟨y, hy, e⟩
  ·rcases toAll_mem h with h | ⟨k, hk, h⟩
   ·exact .inl h
   ·exact .inr ⟨x, List.mem_cons_self .., k, hk, h⟩
  ·exact .inr ⟨y, List.mem_cons_of_mem _ hy, e⟩
theorem toAll_len (s : Sys) (all : Bool) (b : Nat) (x : List Int) (h : s.way.length ≤ 120) : (toAll s all b x).way.length ≤ 120 := by
 unfold toAll
 generalize List.range 3 = l
 induction l generalizing s with
 | nil => exact h
 | cons k l ih =>
  rw [List.foldl_cons]
  refine ih _ ?_
  split
  ·exact (send_len s 3 k x).2.1 h
  ·exact h
theorem fold_all_len (all : Bool) (b : Nat) : ∀ (l : List (List Int)) (s : Sys), s.way.length ≤ 120 → (l.foldl (fun s x => toAll s all b x) s).way.length ≤ 120
 | [], _s, h => h
 | x :: l, s, h => fold_all_len all b l _ (toAll_len s all b x h)
theorem asks_aux {x : List Int} (r2 : Re) (h : x ∈ (if r2.cycle ≤ r2.ahead then [asks r2] else [])) : x.getD 2 0 = ((r2.cycle : Nat) : Int) := by
 split at h
 ·rw [List.mem_singleton.1 h]; rfl
 ·cases h
theorem reTake_reply (L : Lay) (r : Re) (f : List Int) : ∀ x ∈ (reTake L r f).2, x.getD 2 0 = (((reTake L r f).1.cycle : Nat) : Int) := by
 unfold reTake
 dsimp only
 split
 ·intro x hx; cases hx
 ·split
  ·intro x hx
   exact asks_aux _ hx
  ·split
   ·intro x hx
    rw [List.mem_singleton.1 hx]; rfl
   ·split
    ·intro x hx; cases hx
    ·intro x hx; cases hx
theorem asks_aux2 {x : List Int} (r2 : Re) (h : x ∈ (if r2.cycle ≤ r2.ahead then [asks r2] else [])) : x = asks r2 := by
 split at h
 ·exact List.mem_singleton.1 h
 ·cases h
theorem reTake_src (L : Lay) (r : Re) (f : List Int) : ∀ x ∈ (reTake L r f).2, x.getD 1 0 = ((r.id : Nat) : Int) := by
 unfold reTake
 dsimp only
 split
 ·intro x hx; cases hx
 ·split
  ·intro x hx
   have e := asks_aux2 _ hx
   rw [e]
   by_cases hc : f.getD 2 0 = (r.cycle : Int)
   ·rw [if_pos hc]; rfl
   ·rw [if_neg hc]; rfl
  ·split
   ·intro x hx
    rw [List.mem_singleton.1 hx]; rfl
   ·split
    ·intro x hx; cases hx
    ·intro x hx; cases hx
theorem reTake_one (L : Lay) (r : Re) (f : List Int) : (reTake L r f).2.length ≤ 1 := by
 have aux : ∀ r2 : Re, (if r2.cycle ≤ r2.ahead then [asks r2] else []).length ≤ 1 := fun r2 => by split <;> simp
 unfold reTake
 dsimp only
 split
 ·simp
 ·split
  ·exact aux _
  ·split
   ·simp
   ·split
    ·simp
    ·simp
theorem reTake_kinds (L : Lay) (r : Re) (f : List Int) : ∀ x ∈ (reTake L r f).2, x.getD 0 0 = 4 ∧ f.getD 1 0 = 3 ∨ x.getD 0 0 = 5 ∧ f.getD 0 0 = 4 := by
 unfold reTake
 dsimp only
 split
 ·intro x hx; cases hx
 ·split
  ·rename_i h
   intro x hx
   have e := asks_aux2 _ hx
   rw [e]
   exact .inl ⟨rfl, h.2.1⟩
  ·split
   ·rename_i h
    intro x hx
    rw [List.mem_singleton.1 hx]; exact .inr ⟨rfl, h.1⟩
   ·split
    ·intro x hx; cases hx
    ·intro x hx; cases hx
theorem reTake_ahead (L : Lay) (r : Re) (f : List Int) : (reTake L r f).1.ahead = r.ahead ∨ f.getD 0 0 = 3 ∧ f.getD 1 0 = 3 ∧ (reTake L r f).1.ahead = max r.ahead (f.getD 2 0).toNat := by
 unfold reTake
 dsimp only
 split
 ·exact .inl rfl
 ·split
  ·rename_i h
   refine .inr ⟨h.1, h.2.1, ?_⟩
   split <;> rfl
  ·split
   ·exact .inl rfl
   ·split
    ·dsimp only
     split <;> exact .inl rfl
    ·exact .inl rfl
theorem voTake_win (v : Vo) (f : List Int) : (voTake v f).1.window = v.window ∧ v.trace.length ≤ (voTake v f).1.trace.length ∧ (voTake v f).1.trace.length ≤ v.trace.length + 1 := by
 unfold voTake
 split
 ·exact ⟨rfl, Nat.le_refl _, Nat.le_succ _⟩
 split
 ·exact ⟨rfl, Nat.le_refl _, Nat.le_succ _⟩
 split
 ·exact ⟨rfl, Nat.le_refl _, Nat.le_succ _⟩
 split
 ·exact ⟨rfl, Nat.le_refl _, Nat.le_succ _⟩
 ·dsimp only
  split
  ·refine ⟨rfl, ?_, ?_⟩
   ·show _ ≤ (v.trace ++ [cmOf f]).length; simp
   ·show (v.trace ++ [cmOf f]).length ≤ _; simp
  ·exact ⟨rfl, Nat.le_refl _, Nat.le_succ _⟩
theorem voTake_lat {v : Vo} {f : List Int} (h : v.latched = false) (hf : v.trace.length ≤ 900) (ho : ∀ j, (voTake v f).1.out.testBit j = false) : (voTake v f).1.latched = false := by
 unfold voTake at ho ⊢
 split
 ·exact h
 split
 ·exact h
 split
 ·exact h
 split
 ·exact h
 ·rename_i h1 h2 h3 h4
  rw [if_neg h1, if_neg h2, if_neg h3, if_neg h4] at ho
  dsimp only at ho ⊢
  split
  ·rename_i hal
   rw [if_pos hal] at ho
   have hz : (voCommits { v with votes := v.votes.set (f.getD 1 0).toNat (cmOf f, true) } (cmOf f)).out = 0 := Nat.eq_of_testBit_eq fun j => by rw [ho j, Nat.zero_testBit]
   have hz2 : voOut (v.votes.set (f.getD 1 0).toNat (cmOf f, true)) (cmOf f) v.out 3 = 0 := hz
   show (v.latched || manyOut (voOut (v.votes.set (f.getD 1 0).toNat (cmOf f, true)) (cmOf f) v.out 3) || decide (1000 ≤ v.trace.length + 1)) = false
   rw [hz2, h, decide_eq_false (by omega)]
   rfl
  ·exact h
theorem voTake_reply (v : Vo) (f : List Int) (h0 : 0 ≤ f.getD 2 0) : ∀ x ∈ (voTake v f).2.1, ∃ c : Nat, x.getD 2 0 = c ∧ c < (voTake v f).1.trace.length ∧ x.getD 0 0 = 3 ∧ x.getD 1 0 = 3 := by
 unfold voTake
 split
 ·intro x hx; cases hx
 split
 ·intro x hx
  rw [List.mem_singleton.1 hx]
  exact ⟨_, rfl, (by show _ < v.trace.length; omega), rfl, rfl⟩
 split
 ·intro x hx
  simp only [List.mem_cons, List.not_mem_nil, or_false] at hx
  rcases hx with rfl | rfl
  ·exact ⟨_, rfl, (by show _ < v.trace.length; omega), rfl, rfl⟩
  ·exact ⟨_, rfl, (by show _ < v.trace.length; omega), rfl, rfl⟩
 split
 ·intro x hx; cases hx
 ·dsimp only
  split
  ·intro x hx
   rw [List.mem_singleton.1 hx]
   refine ⟨_, rfl, ?_, rfl, rfl⟩
   show _ < (v.trace ++ [cmOf f]).length
   simp
  ·intro x hx; cases hx
theorem re_any (s : Sys) (h3 : s.rs.length = 3) {k : Nat} (hk : k < 3) (r : Re) (w : List Gram) (j : Nat) : re { s with way := w, rs := s.rs.set k r } j = if j = k then r else re s j := re_turn h3 hk r w j
theorem deliver_vt (L : Lay) (s : Sys) (i : Nat) : s.v.trace.length ≤ (deliver L s i).v.trace.length ∧ (deliver L s i).v.trace.length ≤ s.v.trace.length + 1 := by
 unfold deliver
 split
 ·exact ⟨Nat.le_refl _, by omega⟩
 ·dsimp only
  split
  ·split
   ·rw [foldl_all_v]; exact ⟨(voTake_win _ _).2.1, (voTake_win _ _).2.2⟩
   ·rw [foldl_send_v]; exact ⟨Nat.le_refl _, by show s.v.trace.length ≤ _; omega⟩
  ·exact ⟨Nat.le_refl _, by show s.v.trace.length ≤ _; omega⟩
theorem Ex.deliver (hL : L.Ok) (h : SysOk L 3 σ s) (hx : Ex s) (hfew : s.v.trace.length + 1 ≤ 900) (i : Nat) : Ex (deliver L s i) := by
 have h' := h.deliver hL i
 obtain ⟨ht1, ht2⟩ := deliver_vt L s i
 have h3 := h.three
 cases hw : s.way[i]? with
 | none => rw [deliver_no hw]; exact hx
 | some g =>
  have hg : g ∈ s.way := List.mem_of_getElem? hw
  have herase : ∀ x ∈ s.way.eraseIdx i, x ∈ s.way := fun x hx => List.mem_of_mem_eraseIdx hx
  have hlen : (s.way.eraseIdx i).length ≤ 120 := Nat.le_trans (List.length_eraseIdx_le ..) hx.len
  obtain ⟨hs3, hd3, hne⟩ := hx.dst g hg
  cases hm : msg g with
  | none =>
   rw [deliver_noneI hw hm]
   exact ⟨hlen, fun g' hg' => hx.cy g' (herase g' hg'), fun g' hg' => hx.dst g' (herase g' hg'), hx.ahead, hx.lat, hx.win, hx.few⟩
  | some f =>
   obtain ⟨hf, hmay⟩ := gram_ok h hg hm
   have hsrc := (msg_some hm).2.2
   obtain ⟨hcy0, hcy1⟩ := hx.cy g hg f hm
   by_cases hd : g.dst = 3
   ·have e := deliver_vI (L := L) hw hm hd
    have ev : (Proofs.Ytdhekhlmdefcnab.deliver L s i).v = (voTake s.v f).1 := by rw [e, foldl_all_v]
    have er : (Proofs.Ytdhekhlmdefcnab.deliver L s i).rs = s.rs := by rw [e]; exact foldl_all_rs _ _ _ _
    have hmem : ∀ g' ∈ (Proofs.Ytdhekhlmdefcnab.deliver L s i).way, g' ∈ s.way ∨ ∃ x ∈ (voTake s.v f).2.1, ∃ k, k < 3 ∧ g' = ⟨3, k, encB x⟩ ∧ mayB x = true := fun g' hg' => by
     rw [e] at hg'
     rcases fold_all_mem _ _ _ _ _ hg' with h | h
     ·exact .inl (herase g' h)
     ·exact .inr h
    refine ⟨by rw [e]; exact fold_all_len _ _ _ _ hlen, fun g' hg' f' hm' => ?_, fun g' hg' => ?_, fun k hk => ?_, ?_, by rw [ev]; exact (voTake_win _ _).1.trans hx.win, by omega⟩
    ·rcases hmem g' hg' with h | ⟨x, hxm, k, hk, rfl, hxmay⟩
     ·have := hx.cy g' h f' hm'
      omega
     ·obtain ⟨c, e1, e2, e3, e4⟩ := voTake_reply s.v f hcy0 x hxm
      rw [msg_enc hxmay (by rw [e4]; rfl)] at hm'
      injection hm' with hm'
      subst hm'
      rw [e1, ev]
      omega
    ·rcases hmem g' hg' with h | ⟨x, hxm, k, hk, rfl, hxmay⟩
     ·exact hx.dst g' h
     ·exact ⟨by show 3 ≤ 3; omega, by show k ≤ 3; omega, by show k ≠ 3; omega⟩
    ·rw [re_rs er]
     have := hx.ahead k hk
     omega
    ·rw [ev]
     refine voTake_lat hx.lat hx.few fun j => ?_
     cases hj : (voTake s.v f).1.out.testBit j with
     | false => rfl
     | true =>
      have := h'.voter.out j (by rw [ev]; exact hj)
      omega
   ·have hk3 : g.dst < 3 := by omega
    have e := deliver_rI (L := L) hw hm hd
    have ev : (Proofs.Ytdhekhlmdefcnab.deliver L s i).v = s.v := by rw [e, foldl_send_v]
    have er : (Proofs.Ytdhekhlmdefcnab.deliver L s i).rs = s.rs.set g.dst (reTake L (re s g.dst) f).1 := by rw [e]; exact foldl_send_rs _ _ _ _
    have hre : ∀ j, re (Proofs.Ytdhekhlmdefcnab.deliver L s i) j = if j = g.dst then (reTake L (re s g.dst) f).1 else re s j := fun j => by
     rw [← re_any s h3 hk3 (reTake L (re s g.dst) f).1 s.way j]
     exact re_rs (s' := Proofs.Ytdhekhlmdefcnab.deliver L s i) (s := { s with way := s.way, rs := s.rs.set g.dst (reTake L (re s g.dst) f).1 }) er j
    have hmem : ∀ g' ∈ (Proofs.Ytdhekhlmdefcnab.deliver L s i).way, g' ∈ s.way ∨ ∃ x ∈ (reTake L (re s g.dst) f).2, g' = ⟨g.dst, g.src, encB x⟩ ∧ mayB x = true := fun g' hg' => by
     rw [e] at hg'
     rcases fold_send_mem _ _ _ _ _ hg' with h | h
     ·exact .inl (herase g' h)
     ·exact .inr h
    refine ⟨by rw [e]; exact fold_send_len _ _ _ _ hlen, fun g' hg' f' hm' => ?_, fun g' hg' => ?_, fun k hk => ?_, by rw [ev]; exact hx.lat, by rw [ev]; exact hx.win, by omega⟩
    ·rcases hmem g' hg' with h | ⟨x, hxm, rfl, hxmay⟩
     ·have := hx.cy g' h f' hm'
      omega
     ·obtain ⟨_, e5, e6⟩ := msg_some hm'
      have e7 : dec (encB x) = (0, x) := dec_enc hxmay
      rw [e7] at e5
      have e8 : x = f' := e5
      rw [← e8, reTake_reply L (re s g.dst) f x hxm]
      have h9 := (h'.reps g.dst hk3 (by omega)).cycle
      rw [hre, if_pos rfl] at h9
      omega
    ·rcases hmem g' hg' with h | ⟨x, hxm, rfl, hxmay⟩
     ·exact hx.dst g' h
     ·exact ⟨hd3, hs3, fun e => hne e.symm⟩
    ·rw [hre]
     split
     ·rename_i ek
      subst ek
      have := hx.ahead g.dst hk
      rcases reTake_ahead L (re s g.dst) f with h | ⟨e1, _, h⟩
      ·rw [h, ev]; exact this
      ·have hlt : (f.getD 2 0).toNat < s.v.trace.length := by
        obtain ⟨cy, e3, e4⟩ := hf.done e1
        have := (List.getElem?_eq_some_iff.1 e4).1
        omega
       rw [h, ev]
       omega
     ·rw [ev]; exact hx.ahead k hk
theorem reTick_frames (L : Lay) (r : Re) : (reTick L r).2.1.getD 2 0 = (r.cycle : Nat) ∧ (reTick L r).2.1.getD 0 0 = 1 ∧ (reTick L r).2.1.getD 1 0 = (r.id : Nat) ∧ ((reTick L r).2.2.2 = true → (reTick L r).2.2.1.getD 2 0 = (r.cycle : Nat) ∧ ((reTick L r).2.2.1.getD 0 0 = 2 ∨ (reTick L r).2.2.1.getD 0 0 = 4) ∧ (reTick L r).2.2.1.getD 1 0 = (r.id : Nat)) := by
 unfold reTick
 dsimp only
 split
 ·exact ⟨rfl, rfl, rfl, fun _ => ⟨rfl, .inr rfl, rfl⟩⟩
 ·split
  ·exact ⟨rfl, rfl, rfl, fun h => by cases h⟩
  ·exact ⟨rfl, rfl, rfl, fun _ => ⟨rfl, .inl rfl, rfl⟩⟩
theorem sendAll_mem (a : Nat) (x : List Int) : ∀ (l : List Nat) (s : Sys) (g : Gram), g ∈ (sendAll s a l x).way → g ∈ s.way ∨ ∃ b ∈ l, g = ⟨a, b, encB x⟩ ∧ mayB x = true
 | [], s, g, h => .inl h
 | b :: l, s, g, h => by
  rcases sendAll_mem a x l _ g h with h | ⟨y, hy, e⟩
  ·rcases send_mem h with h | h
   ·exact .inl h
   ·exact .inr ⟨b, List.mem_cons_self .., h⟩
  ·exact .inr ⟨y, List.mem_cons_of_mem _ hy, e⟩
theorem sendAll_len (a : Nat) (x : List Int) : ∀ (l : List Nat) (s : Sys), s.way.length ≤ 120 → (sendAll s a l x).way.length ≤ 120
 | [], _s, h => h
 | b :: l, s, h => sendAll_len a x l _ ((send_len s a b x).2.1 h)
theorem others_ne (k : Nat) : ∀ b ∈ others k, b < 3 ∧ b ≠ k := by
 intro b hb
 obtain ⟨h1, h2⟩ := List.mem_filter.1 hb
 simp at h1 h2
 exact ⟨by omega, h2⟩
theorem re_tickR (L : Lay) (s : Sys) (h3 : s.rs.length = 3) {k : Nat} (hk : k < 3) (j : Nat) : re (tickR L s k) j = if j = k then reTicked L (re s k) else re s j := by
 have e : (tickR L s k).rs = s.rs.set k (reTicked L (re s k)) := by
  unfold tickR
  dsimp only
  split
  ·rw [(send_rest _ _ _ _).1, (sendAll_rest _ _ _ _).1, reTick_fst]
  ·rw [(sendAll_rest _ _ _ _).1, reTick_fst]
 rw [← re_any s h3 hk (reTicked L (re s k)) s.way j]
 exact re_rs (s' := tickR L s k) (s := { s with way := s.way, rs := s.rs.set k (reTicked L (re s k)) }) e j
theorem tick_mem {k : Nat} (hk : k < 3) (hid : (re s k).id = k) {g : Gram} (h : g ∈ (tickR L s k).way) :
  g ∈ s.way ∨ ∃ x b, g = ⟨k, b, encB x⟩ ∧ mayB x = true ∧ b ≤ 3 ∧ b ≠ k ∧ x.getD 1 0 = (k : Nat) ∧ x.getD 2 0 = ((re s k).cycle : Nat) ∧ (b < 3 ∧ x = (reTick L (re s k)).2.1 ∨ b = 3 ∧ (reTick L (re s k)).2.2.2 = true ∧ x = (reTick L (re s k)).2.2.1) := by
 obtain ⟨f1, f2, f3, f4⟩ := reTick_frames L (re s k)
 rw [hid] at f3
 have hsm : ∀ g' : Gram, g' ∈ (sendAll { s with rs := s.rs.set k (reTick L (re s k)).1 } k (others k) (reTick L (re s k)).2.1).way → g' ∈ s.way ∨ ∃ x b, g' = ⟨k, b, encB x⟩ ∧ mayB x = true ∧ b ≤ 3 ∧ b ≠ k ∧ x.getD 1 0 = (k : Nat) ∧ x.getD 2 0 = ((re s k).cycle : Nat) ∧ (b < 3 ∧ x = (reTick L (re s k)).2.1 ∨ b = 3 ∧ (reTick L (re s k)).2.2.2 = true ∧ x = (reTick L (re s k)).2.2.1) := fun g' hg' => by
  rcases sendAll_mem _ _ _ _ _ hg' with h | ⟨b, hb, rfl, hm⟩
  ·exact .inl h
  ·obtain ⟨b1, b2⟩ := others_ne k b hb
   exact .inr ⟨_, b, rfl, hm, by omega, b2, f3, f1, .inl ⟨b1, rfl⟩⟩
 unfold tickR at h
 dsimp only at h
 split at h
 ·rename_i hc
  rcases send_mem h with h | ⟨rfl, hm⟩
  ·exact hsm g h
  ·obtain ⟨g1, _, g3⟩ := f4 hc
   rw [hid] at g3
   exact .inr ⟨_, 3, rfl, hm, by omega, by omega, g3, g1, .inr ⟨rfl, hc, rfl⟩⟩
 ·exact hsm g h
theorem tick_len {k : Nat} (h : s.way.length ≤ 120) : (tickR L s k).way.length ≤ 120 := by
 unfold tickR
 dsimp only
 split
 ·exact (send_len _ _ _ _).2.1 (sendAll_len _ _ _ _ h)
 ·exact sendAll_len _ _ _ _ h
theorem Ex.tick (h : SysOk L 3 σ s) (hx : Ex s) {k : Nat} (hk : k < 3) : Ex (tickR L s k) := by
 have hid := h.ids k hk
 have hv := tickR_v L s k
 refine ⟨tick_len hx.len, fun g hg f hm => ?_, fun g hg => ?_, fun j hj => ?_, by rw [hv]; exact hx.lat, by rw [hv]; exact hx.win, by rw [hv]; exact hx.few⟩
 ·rw [hv]
  rcases tick_mem hk hid hg with h1 | ⟨x, b, rfl, hm2, hb, hbk, h1, h2, _⟩
  ·exact hx.cy g h1 f hm
  ·rw [msg_enc hm2 h1] at hm
   injection hm with hm
   subst hm
   have := (h.reps k hk (by omega)).cycle
   rw [h2]
   omega
 ·rcases tick_mem hk hid hg with h1 | ⟨x, b, rfl, hm2, hb, hbk, _⟩
  ·exact hx.dst g h1
  ·exact ⟨by show k ≤ 3; omega, hb, hbk⟩
 ·rw [hv, re_tickR L s h.three hk]
  split
  ·rename_i e; subst e; exact hx.ahead j hj
  ·exact hx.ahead j hj
end
end Go.Proofs.Ytdhekhlmdefcnab
namespace Go.Proofs.Ytdhekhlmdefcnab
section
variable {L : Lay} {σ : List Sight} {s s' : Sys} {g : Gram} {f : List Int} {N : Nat}
theorem U_sample (s : Sys) {a b : Nat} (hb : b < 3) {x : List Int} (h1 : x.getD 1 0 = (a : Nat)) (h0 : x.getD 0 0 = 1) : U N (sysSend s a b x) ≤ U N s + 1 := by
 have hre : ∀ j, re (sysSend s a b x) j = re s j := fun j => re_rs (send_rest _ _ _ _).1 j
 unfold U
 rw [hre, hre, hre]
 rcases send_way s a b x with e | ⟨hm, e⟩
 ·rw [e]; omega
 ·rw [e]
  have hmg : msg ⟨a, b, encB x⟩ = some x := msg_enc hm h1
  have hn : ∀ j, dones j ⟨a, b, encB x⟩ = none ∧ calls j ⟨a, b, encB x⟩ = none := fun j => ⟨dones_not fun f hf h => by rw [hmg] at hf; cases hf; omega, calls_not fun f _ h => by have : b = 3 := h.2.1; omega⟩
  have ho : own1 ⟨a, b, encB x⟩ = 1 := by
   unfold own1
   rw [hmg]
   dsimp only
   rw [if_neg (fun h => by omega), if_neg (fun h => by omega), if_neg (fun h => by omega)]
  rw [scan_none_app (hn 0).1 (hn 0).2, scan_none_app (hn 1).1 (hn 1).2, scan_none_app (hn 2).1 (hn 2).2, ownS_app, ownS_cons, ho]
  have h0 : ownS [] = 0 := rfl
  omega
theorem U_call (s : Sys) {k c : Nat} (hk : k < 3) {x : List Int} (h1 : x.getD 1 0 = (k : Nat)) (h0 : x.getD 0 0 = 2 ∨ x.getD 0 0 = 4) (h2 : x.getD 2 0 = (c : Nat)) (hc : c ≤ (re s k).cycle) : U N (sysSend s k 3 x) ≤ U N s + (3 + 3 * (N - (c + 1))) := by
 have hre : ∀ j, re (sysSend s k 3 x) j = re s j := fun j => re_rs (send_rest _ _ _ _).1 j
 unfold U
 rw [hre, hre, hre]
 rcases send_way s k 3 x with e | ⟨hm, e⟩
 ·rw [e]; omega
 ·rw [e]
  have hmg : msg ⟨k, 3, encB x⟩ = some x := msg_enc hm h1
  have hd : ∀ j, j < 3 → dones j ⟨k, 3, encB x⟩ = none := fun j hj => dones_not fun f _ h => by have : 3 = j := h.1; omega
  have hcc : calls k ⟨k, 3, encB x⟩ = some c := by
   have := calls_of (g := ⟨k, 3, encB x⟩) hmg rfl h0
   rw [h2] at this
   exact this
  have hcj : ∀ j, j ≠ k → calls j ⟨k, 3, encB x⟩ = none := fun j hne => calls_not fun f _ h => hne h.1.symm
  have ho : own1 ⟨k, 3, encB x⟩ = 0 := by
   unfold own1
   rw [hmg]
   dsimp only
   rw [if_pos ⟨rfl, h0⟩]
  rw [ownS_app, ownS_cons, ho]
  have h00 : ownS [] = 0 := rfl
  have key : ∀ j, j < 3 → scan N j (s.way ++ [⟨k, 3, encB x⟩]) (re s j).cycle ≤ scan N j s.way (re s j).cycle + (if j = k then 3 + 3 * (N - (c + 1)) else 0) := fun j hj => by
   by_cases e : j = k
   ·subst e
    rw [if_pos rfl]
    exact scan_call_app (hd j hj) hcc s.way hc
   ·rw [if_neg e, scan_none_app (hd j hj) (hcj j e)]
    omega
  have k0 := key 0 (by decide)
  have k1 := key 1 (by decide)
  have k2 := key 2 (by decide)
  have : k = 0 ∨ k = 1 ∨ k = 2 := by omega
  rcases this with rfl | rfl | rfl
  ·rw [if_pos rfl] at k0; rw [if_neg (by decide)] at k1 k2; omega
  ·rw [if_pos rfl] at k1; rw [if_neg (by decide)] at k0 k2; omega
  ·rw [if_pos rfl] at k2; rw [if_neg (by decide)] at k0 k1; omega
theorem oth_two {k : Nat} (hk : k < 3) : ∃ a b, others k = [a, b] ∧ a < 3 ∧ b < 3 ∧ a ≠ k ∧ b ≠ k ∧ a ≠ b := by
 have : k = 0 ∨ k = 1 ∨ k = 2 := by omega
 rcases this with rfl | rfl | rfl
 ·exact ⟨1, 2, rfl, by decide, by decide, by decide, by decide, by decide⟩
 ·exact ⟨0, 2, rfl, by decide, by decide, by decide, by decide, by decide⟩
 ·exact ⟨0, 1, rfl, by decide, by decide, by decide, by decide, by decide⟩
theorem U_tick (h3 : s.rs.length = 3) {k : Nat} (hk : k < 3) (hid : (re s k).id = k) : U N (tickR L s k) ≤ U N s + (5 + 3 * (N - ((re s k).cycle + 1))) := by
 obtain ⟨f1, f2, f3, f4⟩ := reTick_frames L (re s k)
 rw [hid] at f3
 obtain ⟨a, b, ho, ha, hb, _⟩ := oth_two hk
 have hcy : ∀ j, (re { s with rs := s.rs.set k (reTick L (re s k)).1 } j).cycle = (re s j).cycle := fun j => by
  have e := re_any s h3 hk (reTick L (re s k)).1 s.way j
  have e2 : re { s with rs := s.rs.set k (reTick L (re s k)).1 } j = if j = k then (reTick L (re s k)).1 else re s j := e
  rw [e2]
  split
  ·rename_i e3; subst e3; rw [reTick_fst]; rfl
  ·rfl
 have hU : U N { s with rs := s.rs.set k (reTick L (re s k)).1 } = U N s := by
  unfold U
  rw [hcy, hcy, hcy]
 have u1 : U N (sendAll { s with rs := s.rs.set k (reTick L (re s k)).1 } k (others k) (reTick L (re s k)).2.1) ≤ U N s + 2 := by
  rw [ho]
  show U N (sysSend (sysSend _ k a _) k b _) ≤ _
  have a1 := U_sample (N := N) { s with rs := s.rs.set k (reTick L (re s k)).1 } ha f3 f2
  have a2 := U_sample (N := N) (sysSend { s with rs := s.rs.set k (reTick L (re s k)).1 } k a (reTick L (re s k)).2.1) hb f3 f2
  omega
 unfold tickR
 dsimp only
 split
 ·rename_i hc
  obtain ⟨g1, g2, g3⟩ := f4 hc
  rw [hid] at g3
  have hr : (re (sendAll { s with rs := s.rs.set k (reTick L (re s k)).1 } k (others k) (reTick L (re s k)).2.1) k).cycle = (re s k).cycle := by
   rw [re_rs (sendAll_rest _ _ _ _).1]; exact hcy k
  have := U_call (N := N) (sendAll { s with rs := s.rs.set k (reTick L (re s k)).1 } k (others k) (reTick L (re s k)).2.1) hk g3 g2 g1 (Nat.le_of_eq hr.symm)
  omega
 ·omega
structure Cal (L : Lay) (σ : List Sight) (s : Sys) : Prop where
 ok : SysOk L 3 σ s
 cov : ∀ k, k < 3 → CoveredOn σ s k
 ex : Ex s
theorem Cal.deliver (hL : L.Ok) (h : Cal L σ s) (hfew : s.v.trace.length + 1 ≤ 900) (i : Nat) : Cal L σ (deliver L s i) :=
 ⟨h.ok.deliver hL i, fun k hk => (h.cov k hk).later (later_deliver L s i), h.ex.deliver hL h.ok hfew i⟩
theorem Cal.tick (h : Cal L σ s) {k : Nat} (hk : k < 3) : Cal L σ (tickR L s k) :=
 ⟨h.ok.tick hk fun _ => (h.cov k hk).now, fun j hj => (h.cov j hj).later (later_tick L s k), h.ex.tick h.ok hk⟩
def VoteIn (g : Gram) (f : List Int) : Prop := msg g = some f ∧ g.dst = 3 ∧ f.getD 0 0 = 2
theorem deliver_new (h : SysOk L 3 σ s) (hx : Ex s) (i : Nat) : ∀ g ∈ (deliver L s i).way, g ∈ s.way.eraseIdx i ∨ (g ∈ s.way ∧ s.way[i]? = none) ∨ ∃ f, msg g = some f ∧ (f.getD 0 0 = 3 ∧ g.src = 3 ∧ g.dst < 3 ∨ f.getD 0 0 = 4 ∧ g.src < 3 ∧ g.dst = 3 ∧ f.getD 2 0 = ((re (deliver L s i) g.src).cycle : Nat) ∨ f.getD 0 0 = 5 ∧ g.src < 3 ∧ g.dst < 3) := by
 intro g' hg'
 cases hw : s.way[i]? with
 | none => rw [deliver_no hw] at hg'; exact .inr (.inl ⟨hg', rfl⟩)
 | some g =>
  have hg : g ∈ s.way := List.mem_of_getElem? hw
  obtain ⟨hs3, hd3, hne⟩ := hx.dst g hg
  cases hm : msg g with
  | none => rw [deliver_noneI hw hm] at hg'; exact .inl hg'
  | some f =>
   obtain ⟨hf, _⟩ := gram_ok h hg hm
   have hsrc := (msg_some hm).2.2
   by_cases hd : g.dst = 3
   ·have e := deliver_vI (L := L) hw hm hd
    rw [e] at hg'
    rcases fold_all_mem _ _ _ _ _ hg' with h1 | ⟨x, hx1, k, hk, rfl, hxm⟩
    ·exact .inl h1
    ·obtain ⟨c, e1, e2, e3, e4⟩ := voTake_reply s.v f (hx.cy g hg f hm).1 x hx1
     exact .inr (.inr ⟨x, msg_enc hxm (by rw [e4]; rfl), .inl ⟨e3, rfl, hk⟩⟩)
   ·have hk3 : g.dst < 3 := by omega
    have e := deliver_rI (L := L) hw hm hd
    have er : (Proofs.Ytdhekhlmdefcnab.deliver L s i).rs = s.rs.set g.dst (reTake L (re s g.dst) f).1 := by rw [e]; exact foldl_send_rs _ _ _ _
    have hre : re (Proofs.Ytdhekhlmdefcnab.deliver L s i) g.dst = (reTake L (re s g.dst) f).1 := by
     have h1 := re_any s h.three hk3 (reTake L (re s g.dst) f).1 s.way g.dst
     rw [if_pos rfl] at h1
     rw [← h1]
     exact re_rs (s' := Proofs.Ytdhekhlmdefcnab.deliver L s i) (s := { s with way := s.way, rs := s.rs.set g.dst (reTake L (re s g.dst) f).1 }) er g.dst
    have hg2 := hg'
    rw [e] at hg2
    rcases fold_send_mem _ _ _ _ _ hg2 with h1 | ⟨x, hx1, rfl, hxm⟩
    ·exact .inl h1
    ·refine .inr (.inr ⟨x, ?_, ?_⟩)
     ·have hid : (reTake L (re s g.dst) f).1.id = g.dst := (reTake_id L (re s g.dst) f).1.trans (h.ids g.dst hk3)
      refine msg_enc hxm ?_
      have := reTake_src L (re s g.dst) f x hx1
      rw [this, h.ids g.dst hk3]
     ·have hr := reTake_reply L (re s g.dst) f x hx1
      rw [← hre] at hr
      rcases reTake_kinds L (re s g.dst) f x hx1 with ⟨h4, h3⟩ | ⟨h5, h4⟩
      ·have : g.src = 3 := by omega
       exact .inr (.inl ⟨h4, hk3, this, hr⟩)
      ·have : g.src ≠ 3 := fun e => by have := hf.kind e; omega
       exact .inr (.inr ⟨h5, hk3, by show g.src < 3; omega⟩)
end
end Go.Proofs.Ytdhekhlmdefcnab
