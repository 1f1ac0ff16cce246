/- Part 12 of the proof: SysLaw3, SysLaw4, RanSpec, CaMsg, CaScan, CaTake. -/
import Derived.Test.YtdhekhlmdefcnabPart11
namespace Go.Proofs.Ytdhekhlmdefcnab
section
variable {L : Lay} {ℓ : Nat} {σ : List Sight} {s : Sys}
theorem SysOk.twice (h : SysOk L ℓ σ s) (i : Nat) : SysOk L ℓ σ (sysTwice s i) := by
 unfold sysTwice
 split
 ·exact h
 ·rename_i g hg
  exact h.put (h.way g (List.mem_of_getElem? hg))
theorem burst_some {n at_ what : Nat} (h1 : what ≠ 0) (h2 : what < 2 ^ 32) (h3 : within n at_ what = true) : ∃ i, i < 32 ∧ what.testBit (31 - i) = true ∧ at_ + i < 8 * n := by
 obtain ⟨b, hb⟩ := Nat.exists_testBit_of_ne_zero h1
 have hlt : b < 32 := by
  refine Decidable.byContradiction fun hn => ?_
  have : what.testBit b = false := Nat.testBit_lt_two_pow (Nat.lt_of_lt_of_le h2 (Nat.pow_le_pow_right (by decide) (by omega)))
  rw [hb] at this
  cases this
 have e : 31 - (31 - b) = b := by omega
 refine ⟨31 - b, by omega, by rw [e]; exact hb, ?_⟩
 unfold within at h3
 rw [List.all_eq_true] at h3
 have := h3 (31 - b) (by simp; omega)
 rw [e, hb] at this
 simpa using this
theorem SysOk.spoil (h : SysOk L ℓ σ s) (i at_ what : Nat) (hw : what < 2 ^ 32) : SysOk L ℓ σ (sysSpoil s i at_ what) := by
 unfold sysSpoil
 split
 ·exact h
 ·rename_i g hg
  split
  ·exact h
  ·rename_i hc
   have hc1 : ¬ 8 * g.bytes.length ≤ at_ := fun h => hc (.inl h)
   have hc2 : ¬ what = 0 := fun h => hc (.inr (.inl h))
   have hc3 : ¬ within g.bytes.length at_ what = false := fun h => hc (.inr (.inr (.inl h)))
   have hc4 : ¬ (dec g.bytes).1 ≠ 0 := fun h => hc (.inr (.inr (.inr h)))
   obtain ⟨hs3, hok⟩ := h.way g (List.mem_of_getElem? hg)
   refine ⟨h.three, h.ids, h.lens, h.reps, h.voter, fun x hx => ?_⟩
   rcases List.mem_or_eq_of_mem_set hx with hx | rfl
   ·exact h.way x hx
   ·refine ⟨hs3, fun hh => ?_⟩
    rcases hok hh with ⟨f, hm, hb, _⟩ | hbad
    ·refine .inr ?_
     show (dec (Crc.flips g.bytes at_ what 32)).1 ≠ 0
     have hs := burst_some hc2 hw (by simpa using hc3)
     rw [hb] at hs hc1 ⊢
     rw [burst_dec at_ what (by omega) hs]
     decide
    ·exact absurd hbad hc4
theorem SysOk.crash (h : SysOk L ℓ σ s) {k : Nat} (hk : k < 3) : SysOk L ℓ σ (sysCrash s k) :=
 h.turn hk rfl ⟨rfl, rfl, rfl⟩ fun _ => new_ok_re L ℓ σ _ k
theorem SysOk.says (h : SysOk L ℓ σ s) {dst : Nat} (hℓ : ℓ < 3) (hto : dst ≤ 3) (b : List UInt8) : SysOk L ℓ σ (sysSays s ℓ dst b) := by
 unfold sysSays
 split
 ·exact h
 ·refine h.put ⟨⟨by show ℓ ≤ 3; omega, hto⟩, fun hh => ?_⟩
  rcases hh with hh | hh
  ·have : ℓ = 3 := hh
   omega
  ·exact absurd rfl hh
theorem SysOk.see (h : SysOk L ℓ σ s) {k : Nat} (hk : k < 3) (x : Int × Int) : SysOk L ℓ σ (sysSee s k x) :=
 h.turn hk (h.ids k hk) (h.lens k hk) fun hne => by
  obtain ⟨a, b, c, d⟩ := h.reps k hk hne
  exact ⟨a, b, c, d⟩
theorem SysOk.asks (h : SysOk L ℓ σ s) {k : Nat} (hk : k < 3) : SysOk L ℓ σ (sysAsks s k) :=
 SysOk.sendAll (by omega) _ (others_le k) h fun _ => ask_ok hk (h.ids k hk)
theorem SysOk.latch (h : SysOk L ℓ σ s) : SysOk L ℓ σ (sysLatch s) :=
 ⟨h.three, h.ids, h.lens, h.reps, ⟨h.voter.len, h.voter.votes, h.voter.trace, h.voter.out⟩, h.way⟩
theorem voTick_rest (v : Vo) : (voTick v).trace = v.trace ∧ (voTick v).votes = v.votes ∧ (voTick v).out = v.out := by
 unfold voTick
 split
 ·exact ⟨rfl, rfl, rfl⟩
 ·split <;> exact ⟨rfl, rfl, rfl⟩
theorem SysOk.voTick (h : SysOk L ℓ σ s) : SysOk L ℓ σ { s with v := voTick s.v } := by
 obtain ⟨e1, e2, e3⟩ := voTick_rest s.v
 refine h.withV ⟨by rw [e2]; exact h.voter.len, ?_, ?_, by rw [e3]; exact h.voter.out⟩ (by rw [e1]; exact List.prefix_refl _)
 ·rw [e1, e2]; exact h.voter.votes
 ·rw [e1]; exact h.voter.trace
theorem SysOk.flows (hL : L.Ok) : ∀ (n : Nat) {s : Sys}, SysOk L ℓ σ s → SysOk L ℓ σ (flows L s n)
 | 0, _, h => h
 | n + 1, s, h => by
  unfold Proofs.Ytdhekhlmdefcnab.flows
  split
  ·exact h
  ·exact SysOk.flows hL n (h.deliver hL 0)
end
def CoveredOn (σ : List Sight) (s : Sys) (k : Nat) : Prop := ∃ y ∈ σ, y.src = k ∧ y.on = true ∧ y.cycle ≤ (re s k).cycle ∧ (y.c, y.w) = (re s k).field
theorem CoveredOn.now {σ : List Sight} {s : Sys} {k : Nat} (h : CoveredOn σ s k) : Covered σ s k := by
 obtain ⟨y, a, b, c, d, e⟩ := h
 exact ⟨y, a, b, .inr ⟨c, d⟩, e⟩
def Later (s s' : Sys) : Prop := s'.rs.length = s.rs.length ∧ ∀ k, (re s k).cycle ≤ (re s' k).cycle ∧ (re s' k).field = (re s k).field
theorem Later.refl (s : Sys) : Later s s := ⟨rfl, fun _ => ⟨Nat.le_refl _, rfl⟩⟩
theorem Later.trans {a b c : Sys} (h : Later a b) (h' : Later b c) : Later a c := ⟨h'.1.trans h.1, fun k => ⟨Nat.le_trans (h.2 k).1 (h'.2 k).1, (h'.2 k).2.trans (h.2 k).2⟩⟩
theorem Later.of_rs {s s' : Sys} (h : s'.rs = s.rs) : Later s s' := by
 refine ⟨by rw [h], fun k => ?_⟩
 unfold re
 rw [h]
 exact ⟨Nat.le_refl _, rfl⟩
theorem CoveredOn.later {σ : List Sight} {s s' : Sys} {k : Nat} (h : CoveredOn σ s k) (hl : Later s s') : CoveredOn σ s' k := by
 obtain ⟨y, a, b, c, d, e⟩ := h
 obtain ⟨l1, l2⟩ := hl.2 k
 exact ⟨y, a, b, c, Nat.le_trans d l1, by rw [l2]; exact e⟩
theorem later_turn {s : Sys} {k : Nat} {r : Re} (h : (re s k).cycle ≤ r.cycle) (h2 : r.field = (re s k).field) : Later s { s with rs := s.rs.set k r } := by
 refine ⟨by simp, fun j => ?_⟩
 by_cases hk : k < s.rs.length
 ·rw [re_set hk]
  split
  ·rename_i e; subst e; exact ⟨h, h2⟩
  ·exact ⟨Nat.le_refl _, rfl⟩
 ·unfold re
  dsimp only
  rw [List.set_eq_of_length_le (by omega)]
  exact ⟨Nat.le_refl _, rfl⟩
theorem foldl_send_rs (a b : Nat) : ∀ (l : List (List Int)) (s : Sys), (l.foldl (fun s x => sysSend s a b x) s).rs = s.rs
 | [], _ => rfl
 | x :: l, s => (foldl_send_rs a b l _).trans (send_rest s a b x).1
theorem foldl_all_rs (all : Bool) (b : Nat) : ∀ (l : List (List Int)) (s : Sys), (l.foldl (fun s x => toAll s all b x) s).rs = s.rs
 | [], _ => rfl
 | x :: l, s => (foldl_all_rs all b l _).trans (toAll_rest s all b x).1
theorem later_deliver (L : Lay) (s : Sys) (i : Nat) : Later s (deliver L s i) := by
 unfold deliver
 split
 ·exact Later.refl s
 ·rename_i g _
  dsimp only
  split
  ·split
   ·exact Later.of_rs (foldl_all_rs _ _ _ _)
   ·obtain ⟨_, _, h1, h2⟩ := reTake_id L (re s g.dst) (dec g.bytes).2
    exact (later_turn (s := s) (k := g.dst) h1 h2).trans (Later.of_rs (foldl_send_rs _ _ _ _))
  ·exact Later.of_rs rfl
theorem later_flows (L : Lay) : ∀ (n : Nat) (s : Sys), Later s (flows L s n)
 | 0, s => Later.refl s
 | n + 1, s => by
  unfold flows
  split
  ·exact Later.refl s
  ·exact (later_deliver L s 0).trans (later_flows L n _)
theorem later_tick (L : Lay) (s : Sys) (k : Nat) : Later s (tickR L s k) := by
 have h1 : Later s { s with rs := s.rs.set k (reTick L (re s k)).1 } := by
  rw [reTick_fst]
  exact later_turn (Nat.le_refl _) rfl
 refine h1.trans (Later.of_rs ?_)
 unfold tickR
 dsimp only
 split
 ·rw [(send_rest _ _ _ _).1, (sendAll_rest _ _ _ _).1]
 ·rw [(sendAll_rest _ _ _ _).1]
theorem later_half (L : Lay) (N : Nat) (s : Sys) : Later s (halfRound L N s) := by
 unfold halfRound
 exact (((later_tick L s 0).trans (later_tick L _ 1)).trans (later_tick L _ 2)).trans (later_flows L N _)
section
variable {L : Lay} {ℓ : Nat} {σ : List Sight} {s : Sys}
theorem SysOk.half (hL : L.Ok) (N : Nat) (h : SysOk L ℓ σ s) (hc : ∀ k, k < 3 → CoveredOn σ s k) : SysOk L ℓ σ (halfRound L N s) := by
 have h0 := h.tick (k := 0) (by decide) fun _ => (hc 0 (by decide)).now
 have h1 := h0.tick (k := 1) (by decide) fun _ => ((hc 1 (by decide)).later (later_tick L s 0)).now
 have h2 := h1.tick (k := 2) (by decide) fun _ => ((hc 2 (by decide)).later ((later_tick L s 0).trans (later_tick L _ 1))).now
 unfold halfRound
 exact SysOk.flows hL N h2
theorem SysOk.calm (hL : L.Ok) (N : Nat) : ∀ (n : Nat) {s : Sys}, SysOk L ℓ σ s → (∀ k, k < 3 → CoveredOn σ s k) → SysOk L ℓ σ (calm L N s n) ∧ Later s (calm L N s n)
 | 0, s, h, _ => ⟨h, Later.refl s⟩
 | n + 1, s, h, hc => by
  have l1 := later_flows L N s
  have h1 := SysOk.flows hL N h
  have l2 := l1.trans (later_half L N _)
  have h2 := h1.half hL N fun k hk => (hc k hk).later l1
  have l3 := l2.trans (later_half L N _)
  have h3 := (h2.half hL N fun k hk => (hc k hk).later l2).voTick
  have l4 : Later s { halfRound L N (halfRound L N (Proofs.Ytdhekhlmdefcnab.flows L s N)) with v := Proofs.Ytdhekhlmdefcnab.voTick (halfRound L N (halfRound L N (Proofs.Ytdhekhlmdefcnab.flows L s N))).v } := l3.trans (Later.of_rs rfl)
  obtain ⟨a, b⟩ := SysOk.calm hL N n h3 fun k hk => (hc k hk).later l4
  rw [Proofs.Ytdhekhlmdefcnab.calm]
  exact ⟨a, l4.trans b⟩
end
structure Stp where
 what : Int
 k : Int
 n : Int
 c : Int
 w : Int
 frame : List Int
 bytes : List UInt8
structure Tale where
 s : Sys
 fields : List (Int × Int)
 seen : List Sight
def fieldOf (T : Tale) (k : Nat) : Int × Int := T.fields.getD k (0, 0)
def looks (T : Tale) (k : Nat) (on : Bool) : Tale := { T with seen := T.seen ++ [⟨k, (re T.s k).cycle, on, (fieldOf T k).1, (fieldOf T k).2⟩] }
def pkN (a : Int) (n : Nat) : Nat := ((a % 18446744073709551616) % n).toNat
def burstOf (c : Int) : Nat := msk c 32 ||| 1 <<< 31
def toWhom (ℓ : Nat) (n : Int) : Nat := (ℓ + 1 + pkN n 3) % 4
def does (L : Lay) (ℓ N : Nat) (T : Tale) (x : Stp) : Tale :=
 let s := T.s
 let k := pkN x.k 3
 let i := if 0 < s.way.length then pkN x.n s.way.length else 0
 if x.what = 0 then { T with fields := T.fields.set k (x.c, x.w), s := sysSee s k (x.c, x.w) }
 else if x.what = 1 then { looks T k false with s := tickR L s k }
 else if x.what = 2 then { T with s := sysAsks s k }
 else if x.what = 3 then { T with s := deliver L s i }
 else if x.what = 4 then { T with s := sysLose s i }
 else if x.what = 5 then { T with s := sysTwice s i }
 else if x.what = 6 then { T with s := sysSpoil s i (pkN x.n 700) (burstOf x.c) }
 else if x.what = 7 then { T with s := sysCrash s k, fields := T.fields.set k (0, 0) }
 else if x.what = 8 then (if ℓ < 3 ∧ mayB (x.frame.set 1 ℓ) = true then { T with s := sysSays s ℓ (toWhom ℓ x.n) (encB (x.frame.set 1 ℓ)) } else T)
 else if x.what = 9 then (if ℓ < 3 then { T with s := sysSays s ℓ (toWhom ℓ x.n) x.bytes } else T)
 else if x.what = 10 then { looks (looks (looks T 0 true) 1 true) 2 true with s := calm L N s (pkN x.n 4) }
 else if x.what = 11 then { T with s := { s with v := voTick s.v } }
 else if x.what = 12 then { T with s := sysLatch s }
 else T
structure TaleOk (L : Lay) (ℓ : Nat) (T : Tale) : Prop where
 sys : SysOk L ℓ T.seen T.s
 len : T.fields.length = 3
 fields : ∀ k, k < 3 → (re T.s k).field = fieldOf T k
theorem pkN_lt (a : Int) {n : Nat} (h : 0 < n) : pkN a n < n := by
 unfold pkN
 have h1 := Int.emod_nonneg (a % 18446744073709551616) (show (n : Int) ≠ 0 by omega)
 have h2 := Int.emod_lt_of_pos (a % 18446744073709551616) (show (0 : Int) < n by omega)
 omega
theorem re_rs {s s' : Sys} (h : s'.rs = s.rs) (k : Nat) : re s' k = re s k := by unfold re; rw [h]
theorem sysTwice_rs (s : Sys) (i : Nat) : (sysTwice s i).rs = s.rs := by
 unfold sysTwice; split
 ·rfl
 ·exact (put_rest _ _).1
theorem sysSpoil_rs (s : Sys) (i a b : Nat) : (sysSpoil s i a b).rs = s.rs := by
 unfold sysSpoil; split
 ·rfl
 ·split <;> rfl
theorem sysSays_rs (s : Sys) (i a : Nat) (b : List UInt8) : (sysSays s i a b).rs = s.rs := by
 unfold sysSays; split
 ·rfl
 ·exact (put_rest _ _).1
theorem does_ok {L : Lay} {ℓ : Nat} {T : Tale} (hL : L.Ok) (h : TaleOk L ℓ T) (N : Nat) (x : Stp) : TaleOk L ℓ (does L ℓ N T x) := by
 have hk : pkN x.k 3 < 3 := pkN_lt _ (by decide)
 have hto : toWhom ℓ x.n ≤ 3 := by unfold toWhom; omega
 have hb32 : burstOf x.c < 2 ^ 32 := Nat.or_lt_two_pow (msk_lt _ _) (by decide)
 unfold does
 dsimp only
 generalize pkN x.k 3 = k at hk
 generalize hi : (if 0 < T.s.way.length then pkN x.n T.s.way.length else 0) = i
 have keep : ∀ {s' : Sys}, SysOk L ℓ T.seen s' → (∀ k, k < 3 → (re s' k).field = (re T.s k).field) → TaleOk L ℓ { T with s := s' } :=
  fun a b => ⟨a, h.len, fun j hj => (b j hj).trans (h.fields j hj)⟩
 have keepRs : ∀ {s' : Sys}, SysOk L ℓ T.seen s' → s'.rs = T.s.rs → TaleOk L ℓ { T with s := s' } :=
  fun a b => keep a fun j _ => by rw [re_rs b]
 by_cases e0 : x.what = 0
 ·rw [if_pos e0]
  refine ⟨h.sys.see hk _, (List.length_set ..).trans h.len, fun j hj => ?_⟩
  show (re (sysSee T.s k (x.c, x.w)) j).field = (T.fields.set k (x.c, x.w)).getD j (0, 0)
  unfold sysSee
  rw [re_set (by rw [h.sys.three]; exact hk)]
  by_cases e : j = k
  ·subst e; rw [if_pos rfl, getD_set_same (by rw [h.len]; exact hk)]
  ·rw [if_neg e, getD_set_other (Ne.symm e)]; exact h.fields j hj
 rw [if_neg e0]
 by_cases e1 : x.what = 1
 ·rw [if_pos e1]
  have hm : ∀ y ∈ T.seen, y ∈ (looks T k false).seen := fun y hy => List.mem_append_left _ hy
  refine ⟨(h.sys.more hm).tick hk fun _ => ⟨_, List.mem_append_right _ (List.mem_singleton.2 rfl), rfl, .inl rfl, ?_⟩, h.len, fun j hj => ?_⟩
  ·exact (h.fields k hk).symm
  ·exact ((later_tick L T.s k).2 j).2.trans (h.fields j hj)
 rw [if_neg e1]
 by_cases e2 : x.what = 2
 ·rw [if_pos e2]
  refine keepRs (h.sys.asks hk) ?_
  exact (sendAll_rest _ _ _ _).1
 rw [if_neg e2]
 by_cases e3 : x.what = 3
 ·rw [if_pos e3]
  exact keep (h.sys.deliver hL i) fun j _ => ((later_deliver L T.s i).2 j).2
 rw [if_neg e3]
 by_cases e4 : x.what = 4
 ·rw [if_pos e4]
  exact keepRs (h.sys.lose i) rfl
 rw [if_neg e4]
 by_cases e5 : x.what = 5
 ·rw [if_pos e5]
  exact keepRs (h.sys.twice i) (sysTwice_rs _ _)
 rw [if_neg e5]
 by_cases e6 : x.what = 6
 ·rw [if_pos e6]
  exact keepRs (h.sys.spoil i _ _ hb32) (sysSpoil_rs _ _ _ _)
 rw [if_neg e6]
 by_cases e7 : x.what = 7
 ·rw [if_pos e7]
  refine ⟨h.sys.crash hk, (List.length_set ..).trans h.len, fun j hj => ?_⟩
  show (re (sysCrash T.s k) j).field = (T.fields.set k (0, 0)).getD j (0, 0)
  unfold sysCrash
  rw [re_set (by rw [h.sys.three]; exact hk)]
  by_cases e : j = k
  ·subst e; rw [if_pos rfl, getD_set_same (by rw [h.len]; exact hk)]; rfl
  ·rw [if_neg e, getD_set_other (Ne.symm e)]; exact h.fields j hj
 rw [if_neg e7]
 by_cases e8 : x.what = 8
 ·rw [if_pos e8]
  split
  ·rename_i hc
   exact keepRs (h.sys.says hc.1 hto _) (sysSays_rs _ _ _ _)
  ·exact h
 rw [if_neg e8]
 by_cases e9 : x.what = 9
 ·rw [if_pos e9]
  split
  ·rename_i hc
   exact keepRs (h.sys.says hc hto _) (sysSays_rs _ _ _ _)
  ·exact h
 rw [if_neg e9]
 by_cases e10 : x.what = 10
 ·rw [if_pos e10]
  have hm : ∀ y ∈ T.seen, y ∈ (looks (looks (looks T 0 true) 1 true) 2 true).seen := fun y hy => List.mem_append_left _ (List.mem_append_left _ (List.mem_append_left _ hy))
  have hcov : ∀ j, j < 3 → CoveredOn (looks (looks (looks T 0 true) 1 true) 2 true).seen T.s j := by
   intro j hj
   have : j = 0 ∨ j = 1 ∨ j = 2 := by omega
   rcases this with rfl | rfl | rfl
   ·exact ⟨⟨0, (re T.s 0).cycle, true, (fieldOf T 0).1, (fieldOf T 0).2⟩, List.mem_append_left _ (List.mem_append_left _ (List.mem_append_right _ (List.mem_singleton.2 rfl))), rfl, rfl, Nat.le_refl _, (h.fields 0 hj).symm⟩
   ·exact ⟨⟨1, (re T.s 1).cycle, true, (fieldOf T 1).1, (fieldOf T 1).2⟩, List.mem_append_left _ (List.mem_append_right _ (List.mem_singleton.2 rfl)), rfl, rfl, Nat.le_refl _, (h.fields 1 hj).symm⟩
   ·exact ⟨⟨2, (re T.s 2).cycle, true, (fieldOf T 2).1, (fieldOf T 2).2⟩, List.mem_append_right _ (List.mem_singleton.2 rfl), rfl, rfl, Nat.le_refl _, (h.fields 2 hj).symm⟩
  obtain ⟨a, b⟩ := SysOk.calm hL N (pkN x.n 4) (h.sys.more hm) hcov
  exact ⟨a, h.len, fun j hj => ((b.2 j).2).trans (h.fields j hj)⟩
 rw [if_neg e10]
 by_cases e11 : x.what = 11
 ·rw [if_pos e11]
  exact keepRs h.sys.voTick rfl
 rw [if_neg e11]
 by_cases e12 : x.what = 12
 ·rw [if_pos e12]
  exact keepRs h.sys.latch rfl
 ·rw [if_neg e12]
  exact h
def tale0 (window : Int) : Tale := ⟨Sys.new window, [(0, 0), (0, 0), (0, 0)], []⟩
theorem tale0_ok (L : Lay) (ℓ : Nat) (window : Int) : TaleOk L ℓ (tale0 window) := by
 have hre : ∀ k, k < 3 → re (Sys.new window) k = Re.new k := by
  intro k hk
  have : k = 0 ∨ k = 1 ∨ k = 2 := by omega
  rcases this with rfl | rfl | rfl <;> rfl
 refine ⟨⟨rfl, fun k hk => ?_, fun k hk => ?_, fun k hk _ => ?_, ⟨rfl, fun j _ hf => ?_, fun i c hc => ?_, fun j hj => ?_⟩, fun g hg => ?_⟩, rfl, fun k hk => ?_⟩
 ·show (re (Sys.new window) k).id = k
  rw [hre k hk]; rfl
 ·show (re (Sys.new window) k).seen.length = 3 ∧ (re (Sys.new window) k).some.length = 3 ∧ (re (Sys.new window) k).told.length = 3
  rw [hre k hk]; exact ⟨rfl, rfl, rfl⟩
 ·show ReOk L ℓ _ _ (re (Sys.new window) k)
  rw [hre k hk]; exact new_ok_re _ _ _ _ _
 ·exact absurd hf (by show ¬ (noVotes.getD j (Cm.zero, false)).2 = true; rw [noVotes_flag]; decide)
 ·have : ([] : List Cm)[i]? = some c := hc
  simp at this
 ·have : (0 : Nat).testBit j = true := hj
  rw [Nat.zero_testBit] at this
  cases this
 ·have : g ∈ ([] : List Gram) := hg
  cases this
 ·show (re (Sys.new window) k).field = _
  rw [hre k hk]
  have : k = 0 ∨ k = 1 ∨ k = 2 := by omega
  rcases this with rfl | rfl | rfl <;> rfl
theorem run_ok {L : Lay} {ℓ : Nat} (hL : L.Ok) (N : Nat) (window : Int) (l : List Stp) : TaleOk L ℓ (l.foldl (does L ℓ N) (tale0 window)) := by
 have : ∀ (l : List Stp) (T : Tale), TaleOk L ℓ T → TaleOk L ℓ (l.foldl (does L ℓ N) T) := by
  intro l
  induction l with
  | nil => intro T h; exact h
  | cons x l ih => intro T h; exact ih _ (does_ok hL h N x)
 exact this l _ (tale0_ok L ℓ window)
end Go.Proofs.Ytdhekhlmdefcnab
namespace Go.Proofs.Ytdhekhlmdefcnab
structure VoUp (v v' : Vo) : Prop where
 pre : v.trace <+: v'.trace
 lat : v.latched = true → v'.latched = true ∧ v'.trace = v.trace
theorem VoUp.refl (v : Vo) : VoUp v v := ⟨List.prefix_refl _, fun h => ⟨h, rfl⟩⟩
theorem VoUp.trans {a b c : Vo} (h : VoUp a b) (h' : VoUp b c) : VoUp a c :=
 ⟨h.pre.trans h'.pre, fun e => by obtain ⟨e1, e2⟩ := h.lat e; obtain ⟨e3, e4⟩ := h'.lat e1; exact ⟨e3, e4.trans e2⟩⟩
theorem voTick_up (v : Vo) : VoUp v (voTick v) := by
 unfold voTick
 cases h : v.latched with
 | true => simp; exact VoUp.refl v
 | false =>
  simp only [Bool.false_eq_true, if_false]
  split
  ·exact ⟨List.prefix_refl _, fun e => by rw [h] at e; cases e⟩
  ·exact ⟨List.prefix_refl _, fun e => by rw [h] at e; cases e⟩
theorem voTake_up (v : Vo) (f : List Int) : VoUp v (voTake v f).1 := by
 unfold voTake
 split
 ·exact VoUp.refl v
 split
 ·exact VoUp.refl v
 split
 ·exact VoUp.refl v
 split
 ·exact VoUp.refl v
 ·rename_i hn
  have hl : v.latched ≠ true := fun h => hn (.inr (.inl h))
  dsimp only
  split
  ·exact ⟨⟨_, rfl⟩, fun e => absurd e hl⟩
  ·exact ⟨List.prefix_refl _, fun e => absurd e hl⟩
theorem foldl_send_v (a b : Nat) : ∀ (l : List (List Int)) (s : Sys), (l.foldl (fun s x => sysSend s a b x) s).v = s.v
 | [], _ => rfl
 | x :: l, s => by rw [List.foldl_cons, foldl_send_v a b l, (send_rest s a b x).2]
theorem foldl_all_v (all : Bool) (b : Nat) : ∀ (l : List (List Int)) (s : Sys), (l.foldl (fun s x => toAll s all b x) s).v = s.v
 | [], _ => rfl
 | x :: l, s => by rw [List.foldl_cons, foldl_all_v all b l, (toAll_rest s all b x).2]
theorem deliver_up (L : Lay) (s : Sys) (i : Nat) : VoUp s.v (deliver L s i).v := by
 unfold deliver
 split
 ·exact VoUp.refl _
 ·dsimp only
  split
  ·split
   ·rw [foldl_all_v]; exact voTake_up _ _
   ·rw [foldl_send_v]; exact VoUp.refl _
  ·exact VoUp.refl _
theorem flows_up (L : Lay) : ∀ (n : Nat) (s : Sys), VoUp s.v (flows L s n).v
 | 0, s => VoUp.refl _
 | n + 1, s => by
  rw [flows]
  split
  ·exact VoUp.refl _
  ·exact (deliver_up L s 0).trans (flows_up L n _)
theorem tickR_v (L : Lay) (s : Sys) (k : Nat) : (tickR L s k).v = s.v := by
 unfold tickR
 dsimp only
 split
 ·rw [(send_rest _ _ _ _).2, (sendAll_rest _ _ _ _).2]
 ·rw [(sendAll_rest _ _ _ _).2]
theorem half_up (L : Lay) (N : Nat) (s : Sys) : VoUp s.v (halfRound L N s).v := by
 unfold halfRound
 have h := flows_up L N (tickR L (tickR L (tickR L s 0) 1) 2)
 rw [tickR_v, tickR_v, tickR_v] at h
 exact h
theorem calm_up (L : Lay) (N : Nat) : ∀ (n : Nat) (s : Sys), VoUp s.v (calm L N s n).v
 | 0, s => VoUp.refl _
 | n + 1, s => by
  rw [calm]
  refine (((flows_up L N s).trans (half_up L N _)).trans (half_up L N _)).trans ((voTick_up _).trans ?_)
  exact calm_up L N n { halfRound L N (halfRound L N (flows L s N)) with v := voTick (halfRound L N (halfRound L N (flows L s N))).v }
theorem does_up (L : Lay) (ℓ N : Nat) (T : Tale) (x : Stp) : VoUp T.s.v (does L ℓ N T x).s.v := by
 have same : ∀ {s' : Sys}, s'.v = T.s.v → VoUp T.s.v s'.v := fun h => by rw [h]; exact VoUp.refl _
 have hput : ∀ g, (sysPut T.s g).v = T.s.v := fun g => (put_rest _ _).2
 have hsays : ∀ a b l, (sysSays T.s a b l).v = T.s.v := fun a b l => by
  unfold sysSays; split
  ·rfl
  ·exact hput _
 unfold does
 dsimp only
 generalize pkN x.k 3 = k
 generalize hi : (if 0 < T.s.way.length then pkN x.n T.s.way.length else 0) = i
 clear hi
 by_cases e0 : x.what = 0
 ·rw [if_pos e0]
  exact same rfl
 rw [if_neg e0]
 by_cases e1 : x.what = 1
 ·rw [if_pos e1]
  exact same (tickR_v _ _ _)
 rw [if_neg e1]
 by_cases e2 : x.what = 2
 ·rw [if_pos e2]
  exact same (sendAll_rest _ _ _ _).2
 rw [if_neg e2]
 by_cases e3 : x.what = 3
 ·rw [if_pos e3]
  exact deliver_up _ _ _
 rw [if_neg e3]
 by_cases e4 : x.what = 4
 ·rw [if_pos e4]
  exact same rfl
 rw [if_neg e4]
 by_cases e5 : x.what = 5
 ·rw [if_pos e5]
  refine same ?_
  show (sysTwice T.s i).v = _
  unfold sysTwice; split
  ·rfl
  ·exact hput _
 rw [if_neg e5]
 by_cases e6 : x.what = 6
 ·rw [if_pos e6]
  refine same ?_
  show (sysSpoil T.s i _ _).v = _
  unfold sysSpoil; split
  ·rfl
  ·split <;> rfl
 rw [if_neg e6]
 by_cases e7 : x.what = 7
 ·rw [if_pos e7]
  exact same rfl
 rw [if_neg e7]
 by_cases e8 : x.what = 8
 ·rw [if_pos e8]
  split
  ·exact same (hsays _ _ _)
  ·exact same rfl
 rw [if_neg e8]
 by_cases e9 : x.what = 9
 ·rw [if_pos e9]
  split
  ·exact same (hsays _ _ _)
  ·exact same rfl
 rw [if_neg e9]
 by_cases e10 : x.what = 10
 ·rw [if_pos e10]
  exact calm_up _ _ _ _
 rw [if_neg e10]
 by_cases e11 : x.what = 11
 ·rw [if_pos e11]
  exact voTick_up _
 rw [if_neg e11]
 by_cases e12 : x.what = 12
 ·rw [if_pos e12]
  exact ⟨List.prefix_refl _, fun e => ⟨rfl, rfl⟩⟩
 rw [if_neg e12]
 exact same rfl
theorem fold_inv {L : Lay} {t : List Cm} : ∀ n, Inv L.routes (foldN L t n).set ∧ (foldN L t n).set < 2 ^ L.routes.length
 | 0 => by
  rw [foldN_zero]
  refine ⟨fun i j _ _ _ h => ?_, Nat.two_pow_pos _⟩
  have : (0 : Nat).testBit i = true := h
  rw [Nat.zero_testBit] at this
  cases this
 | n + 1 => by
  have ih := fold_inv (L := L) (t := t) n
  by_cases hn : n < t.length
  ·rw [foldN_succ (c := t[n]) (List.getElem?_eq_getElem hn)]
   exact step_inv ih.1 ih.2
  ·have e : foldN L t (n + 1) = foldN L t n := by
    unfold foldN
    rw [List.take_of_length_le (by omega), List.take_of_length_le (by omega)]
   rw [e]
   exact ih
theorem shown_good {L : Lay} {ℓ : Nat} {σ : List Sight} {v : Vo} (h : VoOk L ℓ σ v) {cm : Cm} (hl : v.latched = false) (hc : v.trace[v.trace.length - 1]? = some cm) :
  voShown v = ((step L cm.1 cm.2.1 (foldN L v.trace (v.trace.length - 1))).2 : Nat) := by
 unfold voShown
 rw [hl, List.getLast?_eq_getElem?, hc]
 exact (h.trace _ _ hc).out
end Go.Proofs.Ytdhekhlmdefcnab
namespace Go.Proofs.Ytdhekhlmdefcnab
def ranL : Lay := ⟨4, [3, 12, 6], 2⟩
def ranS0 : Sys := sysSee (sysSee (sysSee (Sys.new 10) 0 (15, 5)) 1 (15, 5)) 2 (15, 5)
def ranS : Sys := calm ranL 1200 ranS0 2
def ranOk (s : Sys) : Bool := decide (1 ≤ s.v.trace.length) && !s.v.latched && decide (voShown s.v = 1) && s.v.trace.all (fun c => decide (c = (15, 5, 1))) && decide (s.v.trace.length ≤ 1000)
theorem ran_spec : ranOk ranS = true := by decide +kernel
end Go.Proofs.Ytdhekhlmdefcnab
namespace Go.Proofs.Ytdhekhlmdefcnab
def msg (g : Gram) : Option (List Int) := if (dec g.bytes).1 = 0 ∧ (dec g.bytes).2.getD 1 0 = g.src then some (dec g.bytes).2 else none
theorem msg_enc {a b : Nat} {f : List Int} (h : mayB f = true) (h1 : f.getD 1 0 = (a : Int)) : msg ⟨a, b, encB f⟩ = some f := by
 unfold msg
 have e : dec (encB f) = (0, f) := dec_enc h
 dsimp only
 rw [e, if_pos ⟨rfl, h1⟩]
theorem msg_some {g : Gram} {f : List Int} (h : msg g = some f) : (dec g.bytes).1 = 0 ∧ (dec g.bytes).2 = f ∧ f.getD 1 0 = g.src := by
 unfold msg at h
 split at h
 ·rename_i hc
  injection h with h
  exact ⟨hc.1, h, by rw [← h]; exact hc.2⟩
 ·cases h
section
variable {L : Lay} {s : Sys} {g : Gram} {q : List Gram} {f : List Int}
theorem deliver_none (hw : s.way = g :: q) (h : msg g = none) : deliver L s 0 = { s with way := q } := by
 unfold deliver
 rw [hw]
 simp only [List.getElem?_cons_zero, List.eraseIdx_cons_zero]
 unfold msg at h
 split at h
 ·cases h
 ·rename_i hc
  rw [if_neg hc]
theorem deliver_v (hw : s.way = g :: q) (h : msg g = some f) (hd : g.dst = 3) :
  deliver L s 0 = (voTake s.v f).2.1.foldl (fun s' x => toAll s' (voTake s.v f).2.2 g.src x) { s with way := q, v := (voTake s.v f).1 } := by
 unfold msg at h
 split at h
 ·rename_i hc
  injection h with h
  unfold deliver
  rw [hw]
  simp only [List.getElem?_cons_zero, List.eraseIdx_cons_zero]
  rw [if_pos hc, if_pos hd, h]
 ·cases h
theorem deliver_r (hw : s.way = g :: q) (h : msg g = some f) (hd : g.dst ≠ 3) :
  deliver L s 0 = (reTake L (re s g.dst) f).2.foldl (fun s x => sysSend s g.dst g.src x) { s with way := q, rs := s.rs.set g.dst (reTake L (re s g.dst) f).1 } := by
 unfold msg at h
 split at h
 ·rename_i hc
  injection h with h
  unfold deliver
  rw [hw]
  simp only [List.getElem?_cons_zero, List.eraseIdx_cons_zero]
  rw [if_pos hc, if_neg hd, h]
  rfl
 ·cases h
theorem send_way (s : Sys) (a b : Nat) (f : List Int) : (sysSend s a b f).way = s.way ∨ (mayB f = true ∧ (sysSend s a b f).way = s.way ++ [⟨a, b, encB f⟩]) := by
 unfold sysSend
 split
 ·rename_i hm
  unfold sysPut
  split
  ·exact .inl rfl
  ·exact .inr ⟨hm, rfl⟩
 ·exact .inl rfl
theorem send_fits {s : Sys} {a b : Nat} {f : List Int} (hm : mayB f = true) (h : s.way.length < 120) : (sysSend s a b f).way = s.way ++ [⟨a, b, encB f⟩] := by
 unfold sysSend
 rw [if_pos hm]
 unfold sysPut
 rw [if_neg (by omega)]
theorem send_len (s : Sys) (a b : Nat) (f : List Int) : (sysSend s a b f).way.length ≤ s.way.length + 1 ∧ (s.way.length ≤ 120 → (sysSend s a b f).way.length ≤ 120) ∧ s.way.length ≤ (sysSend s a b f).way.length := by
 unfold sysSend
 split
 ·unfold sysPut
  split
  ·exact ⟨Nat.le_succ _, fun h => h, Nat.le_refl _⟩
  ·simp; omega
 ·exact ⟨by omega, fun h => h, by omega⟩
theorem toAll_false (s : Sys) (b : Nat) (hb : b < 3) (x : List Int) : toAll s false b x = sysSend s 3 b x := by
 have : b = 0 ∨ b = 1 ∨ b = 2 := by omega
 rcases this with rfl | rfl | rfl <;> rfl
theorem toAll_true (s : Sys) (b : Nat) (x : List Int) : toAll s true b x = sysSend (sysSend (sysSend s 3 0 x) 3 1 x) 3 2 x := rfl
end
theorem may_frm1 {a cy x y : Nat} (ha : a ≤ 3) (hc : cy ≤ 1048576) (hx : x ≤ 1048576) (hy : y ≤ 1048576) : mayB (frm 1 a cy (x, y, 0)) = true := by
 simp [mayB, headB, inB, frm, idx, cpTo, zeroF, List.replicate]
 omega
theorem may_frm4 {a cy : Nat} (ha : a ≤ 3) (hc : cy ≤ 1048576) : mayB (frm 4 a cy Cm.zero) = true := by
 simp [mayB, headB, inB, frm, idx, cpTo, zeroF, List.replicate, Cm.zero]
 omega
theorem may_frm2 {a cy x y z : Nat} (ha : a ≤ 3) (hc : cy ≤ 1048576) (hx : x ≤ 1048576) (hy : y ≤ 1048576) (hz : z ≤ 1048576) : mayB (frm 2 a cy (x, y, z)) = true := by
 simp [mayB, headB, inB, frm, idx, cpTo, zeroF, List.replicate]
 omega
theorem may_frm3 {a cy x y z : Nat} (ha : a ≤ 3) (hc : cy ≤ 1048576) (hx : x ≤ 1048576) (hy : y ≤ 1048576) (hz : z ≤ 1048576) : mayB (frm 3 a cy (x, y, z)) = true := by
 simp [mayB, headB, inB, frm, idx, cpTo, zeroF, List.replicate]
 omega
end Go.Proofs.Ytdhekhlmdefcnab
namespace Go.Proofs.Ytdhekhlmdefcnab
def calls (k : Nat) (g : Gram) : Option Nat := match msg g with
 | some f => if g.src = k ∧ g.dst = 3 ∧ (f.getD 0 0 = 2 ∨ f.getD 0 0 = 4) then some (f.getD 2 0).toNat else none
 | none => none
def dones (k : Nat) (g : Gram) : Option Nat := match msg g with
 | some f => if g.dst = k ∧ g.src = 3 ∧ f.getD 0 0 = 3 then some (f.getD 2 0).toNat else none
 | none => none
def own1 (g : Gram) : Nat := match msg g with
 | some f => if g.dst = 3 ∧ (f.getD 0 0 = 2 ∨ f.getD 0 0 = 4) then 0 else if g.src = 3 ∧ f.getD 0 0 = 3 then 0 else if g.dst ≠ 3 ∧ f.getD 0 0 = 4 then 2 else 1
 | none => 1
def ownS (q : List Gram) : Nat := (q.map own1).sum
theorem ownS_app (q r : List Gram) : ownS (q ++ r) = ownS q + ownS r := by simp [ownS]
theorem ownS_cons (g : Gram) (q : List Gram) : ownS (g :: q) = own1 g + ownS q := by simp [ownS]
def tri : Nat → Nat
 | 0 => 0
 | d + 1 => tri d + 3 * d
theorem tri_step (N m : Nat) : tri (N - m) = tri (N - (m + 1)) + 3 * (N - (m + 1)) := by
 by_cases h : m < N
 ·obtain ⟨d, hd⟩ : ∃ d, N - m = d + 1 := ⟨N - m - 1, by omega⟩
  have h2 : N - (m + 1) = d := by omega
  rw [hd, h2, tri]
 ·have h1 : N - m = 0 := by omega
  have h2 : N - (m + 1) = 0 := by omega
  rw [h1, h2]; rfl
theorem tri_mono : ∀ {a b : Nat}, a ≤ b → tri a ≤ tri b
 | a, 0, h => by
  have : a = 0 := by omega
  rw [this]; exact Nat.le_refl _
 | a, b + 1, h => by
  by_cases e : a = b + 1
  ·rw [e]; exact Nat.le_refl _
  ·have := tri_mono (a := a) (b := b) (by omega)
   rw [tri]
   omega
def wt (N m c : Nat) : Nat := if c ≤ m then 3 + 3 * (N - max m (c + 1)) else 3 + 6 * (N - m)
theorem wt_anti {N m m' c : Nat} (h : m ≤ m') : wt N m' c ≤ wt N m c := by
 unfold wt
 split <;> split <;> omega
theorem wt_ge (N m c : Nat) : 3 ≤ wt N m c := by unfold wt; split <;> omega
def scan (N k : Nat) : List Gram → Nat → Nat
 | [], m => tri (N - m)
 | g :: q, m => match dones k g with
  | some cy => if cy = m then 1 + 3 * (N - (m + 1)) + scan N k q (m + 1) else if m < cy then 1 + 3 * (N - m) + scan N k q m else 1 + scan N k q m
  | none => match calls k g with
   | some c => wt N m c + scan N k q m
   | none => scan N k q m
section
variable {N k : Nat} {g : Gram} {q : List Gram}
theorem scan_done {cy : Nat} (h : dones k g = some cy) (m : Nat) : scan N k (g :: q) m = if cy = m then 1 + 3 * (N - (m + 1)) + scan N k q (m + 1) else if m < cy then 1 + 3 * (N - m) + scan N k q m else 1 + scan N k q m := by
 rw [scan, h]
theorem scan_call {c : Nat} (h1 : dones k g = none) (h : calls k g = some c) (m : Nat) : scan N k (g :: q) m = wt N m c + scan N k q m := by
 rw [scan, h1, h]
theorem scan_none (h1 : dones k g = none) (h : calls k g = none) (m : Nat) : scan N k (g :: q) m = scan N k q m := by
 rw [scan, h1, h]
theorem scan_anti : ∀ (q : List Gram) {m m' : Nat}, m ≤ m' → scan N k q m' ≤ scan N k q m
 | [], m, m', h => tri_mono (by omega)
 | g :: q, m, m', h => by
  cases hd : dones k g with
  | some cy =>
   rw [scan_done hd, scan_done hd]
   have i1 := scan_anti q (m := m) (m' := m') h
   have i2 := scan_anti q (m := m + 1) (m' := m' + 1) (by omega)
   have i3 := scan_anti q (m := m) (m' := m' + 1) (by omega)
   by_cases e1 : cy = m'
   ·rw [if_pos e1]
    by_cases e2 : cy = m
    ·rw [if_pos e2]; omega
    ·rw [if_neg e2, if_pos (by omega)]; omega
   ·rw [if_neg e1]
    by_cases e3 : m' < cy
    ·rw [if_pos e3, if_neg (by omega), if_pos (by omega)]; omega
    ·rw [if_neg e3]
     by_cases e2 : cy = m
     ·have i4 := scan_anti q (m := m + 1) (m' := m') (by omega)
      rw [if_pos e2]; omega
     ·rw [if_neg e2]
      split <;> omega
  | none =>
   cases hc : calls k g with
   | some c =>
    rw [scan_call hd hc, scan_call hd hc]
    have i1 := scan_anti q (m := m) (m' := m') h
    have := wt_anti (N := N) (c := c) h
    omega
   | none =>
    rw [scan_none hd hc, scan_none hd hc]
    exact scan_anti q h
theorem scan_app {d : List Gram} {X : Nat → Nat} {Y : Nat → Nat} (hX : ∀ m, X (m + 1) ≤ X m) (hY : ∀ m, Y m ≤ Y (m + 1)) (m0 : Nat)
  (hb : ∀ m, m0 ≤ m → scan N k d m + Y m ≤ tri (N - m) + X m) : ∀ (q : List Gram) {m : Nat}, m0 ≤ m → scan N k (q ++ d) m + Y m ≤ scan N k q m + X m
 | [], m, h => hb m h
 | g :: q, m, h => by
  have i0 := scan_app hX hY m0 hb q (m := m) h
  have i1 := scan_app hX hY m0 hb q (m := m + 1) (by omega)
  have := hX m
  have := hY m
  cases hd : dones k g with
  | some cy =>
   rw [List.cons_append, scan_done hd, scan_done hd]
   split
   ·omega
   ·split <;> omega
  | none =>
   cases hc : calls k g with
   | some c => rw [List.cons_append, scan_call hd hc, scan_call hd hc]; omega
   | none => rw [List.cons_append, scan_none hd hc, scan_none hd hc]; exact i0
theorem scan_one_le {d : Gram} {cy : Nat} (h : dones k d = some cy) (m : Nat) : scan N k [d] m ≤ 1 + 3 * (N - m) + tri (N - m) ∧ tri (N - m) + 1 ≤ scan N k [d] m ∧ (m < cy ∨ scan N k [d] m = 1 + tri (N - m)) := by
 rw [scan_done h]
 have e := tri_step N m
 have e1 : scan N k [] m = tri (N - m) := rfl
 have e2 : scan N k [] (m + 1) = tri (N - (m + 1)) := rfl
 rw [e1, e2]
 split
 ·omega
 ·split <;> omega
theorem scan_done_app {d : Gram} {cy : Nat} (h : dones k d = some cy) (q : List Gram) (m : Nat) : scan N k (q ++ [d]) m ≤ scan N k q m + (1 + 3 * (N - m)) :=
 scan_app (X := fun m => 1 + 3 * (N - m)) (Y := fun _ => 0) (fun m => by (try dsimp only); omega) (fun _ => Nat.le_refl _) m (fun m' _ => by have := (scan_one_le (N := N) h m').1; (try dsimp only); omega) q (Nat.le_refl _)
theorem scan_done_ge {d : Gram} {cy : Nat} (h : dones k d = some cy) : ∀ (q : List Gram) (m : Nat), scan N k q m ≤ scan N k (q ++ [d]) m
 | [], m => by have := (scan_one_le (N := N) h m).2.1; show tri (N - m) ≤ scan N k [d] m; omega
 | g :: q, m => by
  have i0 := scan_done_ge h q m
  have i1 := scan_done_ge h q (m + 1)
  cases hd : dones k g with
  | some cy =>
   rw [List.cons_append, scan_done hd, scan_done hd]
   split
   ·omega
   ·split <;> omega
  | none =>
   cases hc : calls k g with
   | some c => rw [List.cons_append, scan_call hd hc, scan_call hd hc]; omega
   | none => rw [List.cons_append, scan_none hd hc, scan_none hd hc]; exact i0
theorem scan_call_app {d : Gram} {c : Nat} (h1 : dones k d = none) (h : calls k d = some c) (q : List Gram) {m : Nat} (hm : c ≤ m) : scan N k (q ++ [d]) m ≤ scan N k q m + (3 + 3 * (N - (c + 1))) :=
 scan_app (X := fun _ => 3 + 3 * (N - (c + 1))) (Y := fun _ => 0) (fun m => Nat.le_refl _) (fun _ => Nat.le_refl _) m (fun m' hm' => by
  rw [scan_call h1 h]
  have e : scan N k [] m' = tri (N - m') := rfl
  rw [e]
  unfold wt
  rw [if_pos (by omega)]
  try dsimp only
  omega) q (Nat.le_refl _)
theorem scan_none_app {d : Gram} (h1 : dones k d = none) (h : calls k d = none) : ∀ (q : List Gram) (m : Nat), scan N k (q ++ [d]) m = scan N k q m
 | [], m => scan_none h1 h m
 | g :: q, m => by
  have i0 := scan_none_app h1 h q m
  have i1 := scan_none_app h1 h q (m + 1)
  cases hd : dones k g with
  | some cy => rw [List.cons_append, scan_done hd, scan_done hd, i0, i1]
  | none =>
   cases hc : calls k g with
   | some c => rw [List.cons_append, scan_call hd hc, scan_call hd hc, i0]
   | none => rw [List.cons_append, scan_none hd hc, scan_none hd hc, i0]
theorem scan_pair {d1 d2 : Gram} {c e : Nat} (h1 : dones k d1 = some c) (h2 : dones k d2 = some e) (q : List Gram) (m : Nat) : scan N k (q ++ [d1, d2]) m + 1 ≤ scan N k q m + wt N m c :=
 scan_app (X := fun m => wt N m c) (Y := fun _ => 1) (fun m => wt_anti (by omega)) (fun _ => Nat.le_refl _) m (fun m' _ => by
  rw [scan_done h1]
  have b0 := (scan_one_le (N := N) h2 m').1
  have b1 := (scan_one_le (N := N) h2 (m' + 1)).1
  have t := tri_step N m'
  try dsimp only
  unfold wt
  split
  ·rename_i e
   rw [if_pos (by omega)]
   omega
  ·split
   ·rw [if_neg (by omega)]; omega
   ·rw [if_pos (by omega)]; omega) q (Nat.le_refl _)
theorem scan_single {d1 : Gram} {c : Nat} (h1 : dones k d1 = some c) (q : List Gram) (m : Nat) : scan N k (q ++ [d1]) m + 1 ≤ scan N k q m + wt N m c :=
 scan_app (X := fun m => wt N m c) (Y := fun _ => 1) (fun m => wt_anti (by omega)) (fun _ => Nat.le_refl _) m (fun m' _ => by
  rw [scan_done h1]
  have e1 : scan N k [] m' = tri (N - m') := rfl
  have e2 : scan N k [] (m' + 1) = tri (N - (m' + 1)) := rfl
  have t := tri_step N m'
  rw [e1, e2]
  try dsimp only
  unfold wt
  split
  ·rw [if_pos (by omega)]; omega
  ·split
   ·rw [if_neg (by omega)]; omega
   ·rw [if_pos (by omega)]; omega) q (Nat.le_refl _)
end
end Go.Proofs.Ytdhekhlmdefcnab
namespace Go.Proofs.Ytdhekhlmdefcnab
section
variable {L : Lay} {σ : List Sight} {s : Sys} {g : Gram} {q : List Gram} {f : List Int} {v : Vo} {r : Re}
theorem vt_deaf (h : voHears v f = false) : voTake v f = (v, [], false) := by unfold voTake; rw [if_pos h]
theorem hears_kind (h : voHears v f = true) : f.getD 0 0 = 2 ∨ f.getD 0 0 = 4 := by
 unfold voHears at h
 simp only [Bool.and_eq_true, Bool.or_eq_true, decide_eq_true_eq] at h
 exact h.1.1.1.1
theorem vt_told {c : Nat} (h : voHears v f = true) (hc : f.getD 2 0 = c) (hl : c < v.trace.length) :
  voTake v f = (v, if c + 1 = v.trace.length then [voDone v c] else [voDone v c, voDone v (v.trace.length - 1)], false) := by
 unfold voTake
 rw [if_neg (by rw [h]; simp), hc]
 by_cases e : c + 1 = v.trace.length
 ·rw [if_pos (by omega), if_pos e]; simp
 ·rw [if_neg (by omega), if_pos (by omega), if_neg e]; simp
theorem vt_ask (h : voHears v f = true) (hc : f.getD 2 0 = (v.trace.length : Nat)) (hk : f.getD 0 0 = 4) : voTake v f = (v, [], false) := by
 unfold voTake
 rw [if_neg (by rw [h]; simp), hc, if_neg (by omega), if_neg (by omega), if_pos (.inr (.inr hk))]
theorem vt_vote (h : voHears v f = true) (hc : f.getD 2 0 = (v.trace.length : Nat)) (hk : f.getD 0 0 = 2) (hl : v.latched = false) :
  voTake v f = if alike (v.votes.set (f.getD 1 0).toNat (cmOf f, true)) (f.getD 1 0).toNat (cmOf f) then (voCommits { v with votes := v.votes.set (f.getD 1 0).toNat (cmOf f, true) } (cmOf f), [voDone (voCommits { v with votes := v.votes.set (f.getD 1 0).toNat (cmOf f, true) } (cmOf f)) v.trace.length], true) else ({ v with votes := v.votes.set (f.getD 1 0).toNat (cmOf f, true) }, [], false) := by
 unfold voTake
 rw [if_neg (by rw [h]; simp), hc, if_neg (by omega), if_neg (by omega), if_neg (by rw [hl, hk]; simp)]
theorem rt_done_old (hk : f.getD 0 0 = 3) {c : Nat} (hc : f.getD 2 0 = c) (h : c < r.cycle) : reTake L r f = (r, []) := by
 unfold reTake
 dsimp only
 rw [hk, hc, if_neg (by omega), if_neg (by omega), if_neg (by omega), if_neg (by omega)]
theorem rt_done_now (hk : f.getD 0 0 = 3) (h1 : f.getD 1 0 = 3) (hc : f.getD 2 0 = (r.cycle : Nat)) :
  ∃ r', reTake L r f = (r', if r.cycle + 1 ≤ max r.ahead r.cycle then [asks r'] else []) ∧ r'.cycle = r.cycle + 1 ∧ r'.id = r.id ∧ r'.ahead = max r.ahead r.cycle ∧ r'.some = noSome ∧ r'.ticks = 0 := by
 unfold reTake
 dsimp only
 rw [hk, hc, if_neg (by omega), if_pos ⟨rfl, h1, by omega⟩]
 simp only [if_true, Int.toNat_natCast]
 exact ⟨_, rfl, rfl, rfl, rfl, rfl, rfl⟩
theorem rt_done_ahead (hk : f.getD 0 0 = 3) (h1 : f.getD 1 0 = 3) {c : Nat} (hc : f.getD 2 0 = c) (h : r.cycle < c) :
  reTake L r f = ({ r with ahead := max r.ahead c }, [asks { r with ahead := max r.ahead c }]) := by
 unfold reTake
 dsimp only
 rw [hk, hc, if_neg (by omega), if_pos ⟨rfl, h1, by omega⟩, if_neg (by omega), Int.toNat_natCast, if_pos (by show r.cycle ≤ max r.ahead c; omega)]
theorem rt_other3 (hk : f.getD 0 0 = 3) (h1 : f.getD 1 0 ≠ 3) : reTake L r f = (r, []) := by
 unfold reTake
 dsimp only
 rw [hk, if_neg (by omega), if_neg (fun h => h1 h.2.1), if_neg (by omega), if_neg (by omega)]
theorem rt_ask (hk : f.getD 0 0 = 4) : reTake L r f = (r, [frmK r.id r.cycle r.state]) ∨ reTake L r f = (r, []) := by
 unfold reTake
 dsimp only
 rw [hk, if_neg (by omega), if_neg (by omega)]
 by_cases h : other r f = true
 ·rw [if_pos ⟨rfl, h⟩]; exact .inl rfl
 ·rw [if_neg (fun e => h e.2), if_neg (by omega)]; exact .inr rfl
theorem rt_known (hk : f.getD 0 0 = 5) : (reTake L r f).2 = [] ∧ r.cycle ≤ (reTake L r f).1.cycle := by
 unfold reTake
 dsimp only
 rw [hk, if_neg (by omega), if_neg (by omega), if_neg (by omega)]
 split
 ·rename_i h
  refine ⟨rfl, ?_⟩
  split
  ·show r.cycle ≤ (f.getD 2 0).toNat
   omega
  ·exact Nat.le_refl _
 ·exact ⟨rfl, Nat.le_refl _⟩
theorem rt_sample (hk : f.getD 0 0 = 1) : reTake L r f = if other r f = true ∧ f.getD 2 0 = r.cycle then ({ r with seen := r.seen.set (f.getD 1 0).toNat (fit L (f.getD 3 0, f.getD 4 0)), some := r.some.set (f.getD 1 0).toNat true, came := r.came.set (f.getD 1 0).toNat r.ticks }, []) else (r, []) := by
 unfold reTake
 dsimp only
 rw [hk]
 by_cases h : other r f = true ∧ f.getD 2 0 = r.cycle
 ·rw [if_pos ⟨rfl, h⟩, if_pos h]
 ·rw [if_neg (fun e => h e.2), if_neg (by omega), if_neg (by omega), if_neg (by omega), if_neg h]
theorem rt_else (h1 : f.getD 0 0 ≠ 1) (h3 : f.getD 0 0 ≠ 3) (h4 : f.getD 0 0 ≠ 4) (h5 : f.getD 0 0 ≠ 5) : reTake L r f = (r, []) := by
 unfold reTake
 dsimp only
 rw [if_neg (fun e => h1 e.1), if_neg (fun e => h3 e.1), if_neg (fun e => h4 e.1), if_neg (fun e => h5 e.1)]
theorem gram_ok (h : SysOk L 3 σ s) (hg : g ∈ s.way) (hm : msg g = some f) : FrameOk L 3 σ s.v.trace g.src f ∧ mayB f = true := by
 obtain ⟨h1, h2, h3⟩ := msg_some hm
 have hh : Hon 3 g.src := by unfold Hon; omega
 rcases (h.way g hg).2 hh with ⟨f', a, b, c⟩ | hd
 ·have e : dec g.bytes = (0, f') := by rw [b]; exact dec_enc a
  rw [e] at h2
  have : f' = f := h2
  subst this
  exact ⟨c, a⟩
 ·exact absurd h1 hd
end
theorem bits_lt {n : Nat} {x : Nat} (h : ∀ b, x.testBit b = true → b < n) : x < 2 ^ n :=
 Nat.lt_pow_two_of_testBit _ fun i hi => by
  cases e : x.testBit i with
  | false => rfl
  | true => have := h i e; omega
theorem msk_bit_lt {c : Int} {n b : Nat} (h : (msk c n).testBit b = true) : b < n := by
 refine Decidable.byContradiction fun hn => ?_
 rw [Nat.testBit_lt_two_pow (Nat.lt_of_lt_of_le (msk_lt c n) (Nat.pow_le_pow_right (by decide) (by omega)))] at h
 cases h
theorem good_small {L : Lay} {ℓ : Nat} {σ : List Sight} {t : List Cm} {i : Nat} {cm : Cm} (hL : L.Ok) (h : Good L ℓ σ t i cm) : ∃ x y z : Nat, cm = ((x : Int), (y : Int), (z : Int)) ∧ x < 4096 ∧ y < 256 ∧ z < 256 := by
 obtain ⟨h1, c, w, e1, e2, h2, h3⟩ := h
 obtain ⟨a, b, d⟩ := cm
 dsimp only at h1 e1 e2
 subst e1
 subst e2
 subst h1
 refine ⟨c, w, _, rfl, ?_, ?_, ?_⟩
 ·exact Nat.lt_of_lt_of_le (bits_lt (n := L.secs) fun b hb => by obtain ⟨y, _, _, _, e⟩ := h2 b hb; exact msk_bit_lt e) (show 2 ^ L.secs ≤ 2 ^ 12 from Nat.pow_le_pow_right (by decide) hL.secs2)
 ·exact Nat.lt_of_lt_of_le (bits_lt (n := L.routes.length) fun b hb => by obtain ⟨y, _, _, _, e⟩ := h3 b hb; exact msk_bit_lt e) (show 2 ^ L.routes.length ≤ 2 ^ 8 from Nat.pow_le_pow_right (by decide) hL.many2)
 ·exact Nat.lt_of_lt_of_le (outTo_pow _ _ _ _ _) (show 2 ^ L.routes.length ≤ 2 ^ 8 from Nat.pow_le_pow_right (by decide) hL.many2)
theorem done_may {L : Lay} {ℓ : Nat} {σ : List Sight} {v : Vo} (hL : L.Ok) (h : VoOk L ℓ σ v) {c : Nat} (hc : c < v.trace.length) (hn : v.trace.length ≤ 1000000) : mayB (voDone v c) = true := by
 obtain ⟨x, y, z, e, h1, h2, h3⟩ := good_small hL (h.trace c v.trace[c] (List.getElem?_eq_getElem hc))
 unfold voDone
 rw [List.getD_eq_getElem?_getD, List.getElem?_eq_getElem hc]
 show mayB (frm 3 ((3 : Nat) : Int) c v.trace[c]) = true
 rw [e]
 exact may_frm3 (by omega) (by omega) (by omega) (by omega) (by omega)
theorem ask_may {r : Re} (h1 : r.id ≤ 3) (h2 : r.cycle ≤ 1000000) : mayB (asks r) = true := may_frm4 h1 (by omega)
end Go.Proofs.Ytdhekhlmdefcnab
