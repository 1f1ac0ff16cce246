/- Part 12 of the proof: SysLaw3, SysLaw4, RanSpec. -/
import Derived.Test.YtdhekhlmdefcnabPart11
/- A system: what is committed is right, and was seen: all that may be done to it. -/
namespace Go.Proofs.Ytdhekhlmdefcnab

section
variable {L : Lay} {ℓ : Nat} {σ : List Sight} {s : Sys}
theorem SysOk.twice (h : SysOk L ℓ σ s) (i : Nat) : SysOk L ℓ σ (sysTwice s i) := by
  unfold sysTwice
  split
  · exact h
  · rename_i g hg
    exact h.put (h.way g (List.mem_of_getElem? hg))
theorem burst_some {n at_ what : Nat} (h1 : what ≠ 0) (h2 : what < 2 ^ 32) (h3 : within n at_ what = true) : ∃ i, i < 32 ∧ what.testBit (31 - i) = true ∧ at_ + i < 8 * n := by
  obtain ⟨b, hb⟩ := Nat.exists_testBit_of_ne_zero h1
  have hlt : b < 32 := by
    refine Decidable.byContradiction fun hn => ?_
    have : what.testBit b = false := Nat.testBit_lt_two_pow (Nat.lt_of_lt_of_le h2 (Nat.pow_le_pow_right (by decide) (by omega)))
    rw [hb] at this
    cases this
  have e : 31 - (31 - b) = b := by omega
  refine ⟨31 - b, by omega, by rw [e]; exact hb, ?_⟩
  unfold within at h3
  rw [List.all_eq_true] at h3
  have := h3 (31 - b) (by simp; omega)
  rw [e, hb] at this
  simpa using this
theorem SysOk.spoil (h : SysOk L ℓ σ s) (i at_ what : Nat) (hw : what < 2 ^ 32) : SysOk L ℓ σ (sysSpoil s i at_ what) := by
  unfold sysSpoil
  split
  · exact h
  · rename_i g hg
    split
    · exact h
    · rename_i hc
      have hc1 : ¬ 8 * g.bytes.length ≤ at_ := fun h => hc (.inl h)
      have hc2 : ¬ what = 0 := fun h => hc (.inr (.inl h))
      have hc3 : ¬ within g.bytes.length at_ what = false := fun h => hc (.inr (.inr (.inl h)))
      have hc4 : ¬ (dec g.bytes).1 ≠ 0 := fun h => hc (.inr (.inr (.inr h)))
      obtain ⟨hs3, hok⟩ := h.way g (List.mem_of_getElem? hg)
      refine ⟨h.three, h.ids, h.lens, h.reps, h.voter, fun x hx => ?_⟩
      rcases List.mem_or_eq_of_mem_set hx with hx | rfl
      · exact h.way x hx
      · refine ⟨hs3, fun hh => ?_⟩
        rcases hok hh with ⟨f, hm, hb, _⟩ | hbad
        · refine .inr ?_
          show (dec (Crc.flips g.bytes at_ what 32)).1 ≠ 0
          have hs := burst_some hc2 hw (by simpa using hc3)
          rw [hb] at hs hc1 ⊢
          rw [burst_dec at_ what (by omega) hs]
          decide
        · exact absurd hbad hc4
theorem SysOk.crash (h : SysOk L ℓ σ s) {k : Nat} (hk : k < 3) : SysOk L ℓ σ (sysCrash s k) :=
  h.turn hk rfl ⟨rfl, rfl, rfl⟩ fun _ => new_ok_re L ℓ σ _ k
theorem SysOk.says (h : SysOk L ℓ σ s) {dst : Nat} (hℓ : ℓ < 3) (hto : dst ≤ 3) (b : List UInt8) : SysOk L ℓ σ (sysSays s ℓ dst b) := by
  unfold sysSays
  split
  · exact h
  · refine h.put ⟨⟨by show ℓ ≤ 3; omega, hto⟩, fun hh => ?_⟩
    rcases hh with hh | hh
    · have : ℓ = 3 := hh
      omega
    · exact absurd rfl hh
theorem SysOk.see (h : SysOk L ℓ σ s) {k : Nat} (hk : k < 3) (x : Int × Int) : SysOk L ℓ σ (sysSee s k x) :=
  h.turn hk (h.ids k hk) (h.lens k hk) fun hne => by
    obtain ⟨a, b, c, d⟩ := h.reps k hk hne
    exact ⟨a, b, c, d⟩
theorem SysOk.asks (h : SysOk L ℓ σ s) {k : Nat} (hk : k < 3) : SysOk L ℓ σ (sysAsks s k) :=
  SysOk.sendAll (by omega) _ (others_le k) h fun _ => ask_ok hk (h.ids k hk)
theorem SysOk.latch (h : SysOk L ℓ σ s) : SysOk L ℓ σ (sysLatch s) :=
  ⟨h.three, h.ids, h.lens, h.reps, ⟨h.voter.len, h.voter.votes, h.voter.trace, h.voter.out⟩, h.way⟩
theorem voTick_rest (v : Vo) : (voTick v).trace = v.trace ∧ (voTick v).votes = v.votes ∧ (voTick v).out = v.out := by
  unfold voTick
  split
  · exact ⟨rfl, rfl, rfl⟩
  · split <;> exact ⟨rfl, rfl, rfl⟩
theorem SysOk.voTick (h : SysOk L ℓ σ s) : SysOk L ℓ σ { s with v := voTick s.v } := by
  obtain ⟨e1, e2, e3⟩ := voTick_rest s.v
  refine h.withV ⟨by rw [e2]; exact h.voter.len, ?_, ?_, by rw [e3]; exact h.voter.out⟩ (by rw [e1]; exact List.prefix_refl _)
  · rw [e1, e2]; exact h.voter.votes
  · rw [e1]; exact h.voter.trace
theorem SysOk.flows (hL : L.Ok) : ∀ (n : Nat) {s : Sys}, SysOk L ℓ σ s → SysOk L ℓ σ (flows L s n)
  | 0, _, h => h
  | n + 1, s, h => by
    unfold Proofs.Ytdhekhlmdefcnab.flows
    split
    · exact h
    · exact SysOk.flows hL n (h.deliver hL 0)
end
/-- A replica's field was noted in a calm. -/
def CoveredOn (σ : List Sight) (s : Sys) (k : Nat) : Prop := ∃ y ∈ σ, y.src = k ∧ y.on = true ∧ y.cycle ≤ (re s k).cycle ∧ (y.c, y.w) = (re s k).field
theorem CoveredOn.now {σ : List Sight} {s : Sys} {k : Nat} (h : CoveredOn σ s k) : Covered σ s k := by
  obtain ⟨y, a, b, c, d, e⟩ := h
  exact ⟨y, a, b, .inr ⟨c, d⟩, e⟩
/-- s goes on to s': the cycles don't fall, what is seen stays -/
def Later (s s' : Sys) : Prop := s'.rs.length = s.rs.length ∧ ∀ k, (re s k).cycle ≤ (re s' k).cycle ∧ (re s' k).field = (re s k).field
theorem Later.refl (s : Sys) : Later s s := ⟨rfl, fun _ => ⟨Nat.le_refl _, rfl⟩⟩
theorem Later.trans {a b c : Sys} (h : Later a b) (h' : Later b c) : Later a c := ⟨h'.1.trans h.1, fun k => ⟨Nat.le_trans (h.2 k).1 (h'.2 k).1, (h'.2 k).2.trans (h.2 k).2⟩⟩
theorem Later.of_rs {s s' : Sys} (h : s'.rs = s.rs) : Later s s' := by
  refine ⟨by rw [h], fun k => ?_⟩
  unfold re
  rw [h]
  exact ⟨Nat.le_refl _, rfl⟩
theorem CoveredOn.later {σ : List Sight} {s s' : Sys} {k : Nat} (h : CoveredOn σ s k) (hl : Later s s') : CoveredOn σ s' k := by
  obtain ⟨y, a, b, c, d, e⟩ := h
  obtain ⟨l1, l2⟩ := hl.2 k
  exact ⟨y, a, b, c, Nat.le_trans d l1, by rw [l2]; exact e⟩
theorem later_turn {s : Sys} {k : Nat} {r : Re} (h : (re s k).cycle ≤ r.cycle) (h2 : r.field = (re s k).field) : Later s { s with rs := s.rs.set k r } := by
  refine ⟨by simp, fun j => ?_⟩
  by_cases hk : k < s.rs.length
  · rw [re_set hk]
    split
    · rename_i e; subst e; exact ⟨h, h2⟩
    · exact ⟨Nat.le_refl _, rfl⟩
  · unfold re
    dsimp only
    rw [List.set_eq_of_length_le (by omega)]
    exact ⟨Nat.le_refl _, rfl⟩
theorem foldl_send_rs (a b : Nat) : ∀ (l : List (List Int)) (s : Sys), (l.foldl (fun s x => sysSend s a b x) s).rs = s.rs
  | [], _ => rfl
  | x :: l, s => (foldl_send_rs a b l _).trans (send_rest s a b x).1
theorem foldl_all_rs (all : Bool) (b : Nat) : ∀ (l : List (List Int)) (s : Sys), (l.foldl (fun s x => toAll s all b x) s).rs = s.rs
  | [], _ => rfl
  | x :: l, s => (foldl_all_rs all b l _).trans (toAll_rest s all b x).1
theorem later_deliver (L : Lay) (s : Sys) (i : Nat) : Later s (deliver L s i) := by
  unfold deliver
  split
  · exact Later.refl s
  · rename_i g _
    dsimp only
    split
    · split
      · exact Later.of_rs (foldl_all_rs _ _ _ _)
      · obtain ⟨_, _, h1, h2⟩ := reTake_id L (re s g.dst) (dec g.bytes).2
        exact (later_turn (s := s) (k := g.dst) h1 h2).trans (Later.of_rs (foldl_send_rs _ _ _ _))
    · exact Later.of_rs rfl
theorem later_flows (L : Lay) : ∀ (n : Nat) (s : Sys), Later s (flows L s n)
  | 0, s => Later.refl s
  | n + 1, s => by
    unfold flows
    split
    · exact Later.refl s
    · exact (later_deliver L s 0).trans (later_flows L n _)
theorem later_tick (L : Lay) (s : Sys) (k : Nat) : Later s (tickR L s k) := by
  have h1 : Later s { s with rs := s.rs.set k (reTick L (re s k)).1 } := by
    rw [reTick_fst]
    exact later_turn (Nat.le_refl _) rfl
  refine h1.trans (Later.of_rs ?_)
  unfold tickR
  dsimp only
  split
  · rw [(send_rest _ _ _ _).1, (sendAll_rest _ _ _ _).1]
  · rw [(sendAll_rest _ _ _ _).1]
theorem later_half (L : Lay) (N : Nat) (s : Sys) : Later s (halfRound L N s) := by
  unfold halfRound
  exact (((later_tick L s 0).trans (later_tick L _ 1)).trans (later_tick L _ 2)).trans (later_flows L N _)
section
variable {L : Lay} {ℓ : Nat} {σ : List Sight} {s : Sys}
theorem SysOk.half (hL : L.Ok) (N : Nat) (h : SysOk L ℓ σ s) (hc : ∀ k, k < 3 → CoveredOn σ s k) : SysOk L ℓ σ (halfRound L N s) := by
  have h0 := h.tick (k := 0) (by decide) fun _ => (hc 0 (by decide)).now
  have h1 := h0.tick (k := 1) (by decide) fun _ => ((hc 1 (by decide)).later (later_tick L s 0)).now
  have h2 := h1.tick (k := 2) (by decide) fun _ => ((hc 2 (by decide)).later ((later_tick L s 0).trans (later_tick L _ 1))).now
  unfold halfRound
  exact SysOk.flows hL N h2
theorem SysOk.calm (hL : L.Ok) (N : Nat) : ∀ (n : Nat) {s : Sys}, SysOk L ℓ σ s → (∀ k, k < 3 → CoveredOn σ s k) → SysOk L ℓ σ (calm L N s n) ∧ Later s (calm L N s n)
  | 0, s, h, _ => ⟨h, Later.refl s⟩
  | n + 1, s, h, hc => by
    have l1 := later_flows L N s
    have h1 := SysOk.flows hL N h
    have l2 := l1.trans (later_half L N _)
    have h2 := h1.half hL N fun k hk => (hc k hk).later l1
    have l3 := l2.trans (later_half L N _)
    have h3 := (h2.half hL N fun k hk => (hc k hk).later l2).voTick
    have l4 : Later s { halfRound L N (halfRound L N (Proofs.Ytdhekhlmdefcnab.flows L s N)) with v := Proofs.Ytdhekhlmdefcnab.voTick (halfRound L N (halfRound L N (Proofs.Ytdhekhlmdefcnab.flows L s N))).v } := l3.trans (Later.of_rs rfl)
    obtain ⟨a, b⟩ := SysOk.calm hL N n h3 fun k hk => (hc k hk).later l4
    rw [Proofs.Ytdhekhlmdefcnab.calm]
    exact ⟨a, l4.trans b⟩
end
/-- A step of a tale: what, whom, a number, what is seen, a frame, bytes. -/
structure Stp where
  what : Int
  k : Int
  n : Int
  c : Int
  w : Int
  frame : List Int
  bytes : List UInt8
structure Tale where
  s : Sys
  fields : List (Int × Int)
  seen : List Sight
def fieldOf (T : Tale) (k : Nat) : Int × Int := T.fields.getD k (0, 0)
def looks (T : Tale) (k : Nat) (on : Bool) : Tale := { T with seen := T.seen ++ [⟨k, (re T.s k).cycle, on, (fieldOf T k).1, (fieldOf T k).2⟩] }
def pkN (a : Int) (n : Nat) : Nat := ((a % 18446744073709551616) % n).toNat
def burstOf (c : Int) : Nat := msk c 32 ||| 1 <<< 31
def toWhom (ℓ : Nat) (n : Int) : Nat := (ℓ + 1 + pkN n 3) % 4
def does (L : Lay) (ℓ N : Nat) (T : Tale) (x : Stp) : Tale :=
  let s := T.s
  let k := pkN x.k 3
  let i := if 0 < s.way.length then pkN x.n s.way.length else 0
  if x.what = 0 then { T with fields := T.fields.set k (x.c, x.w), s := sysSee s k (x.c, x.w) }
  else if x.what = 1 then { looks T k false with s := tickR L s k }
  else if x.what = 2 then { T with s := sysAsks s k }
  else if x.what = 3 then { T with s := deliver L s i }
  else if x.what = 4 then { T with s := sysLose s i }
  else if x.what = 5 then { T with s := sysTwice s i }
  else if x.what = 6 then { T with s := sysSpoil s i (pkN x.n 700) (burstOf x.c) }
  else if x.what = 7 then { T with s := sysCrash s k, fields := T.fields.set k (0, 0) }
  else if x.what = 8 then (if ℓ < 3 ∧ mayB (x.frame.set 1 ℓ) = true then { T with s := sysSays s ℓ (toWhom ℓ x.n) (encB (x.frame.set 1 ℓ)) } else T)
  else if x.what = 9 then (if ℓ < 3 then { T with s := sysSays s ℓ (toWhom ℓ x.n) x.bytes } else T)
  else if x.what = 10 then { looks (looks (looks T 0 true) 1 true) 2 true with s := calm L N s (pkN x.n 4) }
  else if x.what = 11 then { T with s := { s with v := voTick s.v } }
  else if x.what = 12 then { T with s := sysLatch s }
  else T
/-- A tale: its system is right, and the fields are the replicas'. -/
structure TaleOk (L : Lay) (ℓ : Nat) (T : Tale) : Prop where
  sys : SysOk L ℓ T.seen T.s
  len : T.fields.length = 3
  fields : ∀ k, k < 3 → (re T.s k).field = fieldOf T k
theorem pkN_lt (a : Int) {n : Nat} (h : 0 < n) : pkN a n < n := by
  unfold pkN
  have h1 := Int.emod_nonneg (a % 18446744073709551616) (show (n : Int) ≠ 0 by omega)
  have h2 := Int.emod_lt_of_pos (a % 18446744073709551616) (show (0 : Int) < n by omega)
  omega
theorem re_rs {s s' : Sys} (h : s'.rs = s.rs) (k : Nat) : re s' k = re s k := by unfold re; rw [h]
theorem sysTwice_rs (s : Sys) (i : Nat) : (sysTwice s i).rs = s.rs := by
  unfold sysTwice; split
  · rfl
  · exact (put_rest _ _).1
theorem sysSpoil_rs (s : Sys) (i a b : Nat) : (sysSpoil s i a b).rs = s.rs := by
  unfold sysSpoil; split
  · rfl
  · split <;> rfl
theorem sysSays_rs (s : Sys) (i a : Nat) (b : List UInt8) : (sysSays s i a b).rs = s.rs := by
  unfold sysSays; split
  · rfl
  · exact (put_rest _ _).1
theorem does_ok {L : Lay} {ℓ : Nat} {T : Tale} (hL : L.Ok) (h : TaleOk L ℓ T) (N : Nat) (x : Stp) : TaleOk L ℓ (does L ℓ N T x) := by
  have hk : pkN x.k 3 < 3 := pkN_lt _ (by decide)
  have hto : toWhom ℓ x.n ≤ 3 := by unfold toWhom; omega
  have hb32 : burstOf x.c < 2 ^ 32 := Nat.or_lt_two_pow (msk_lt _ _) (by decide)
  unfold does
  dsimp only
  generalize pkN x.k 3 = k at hk
  generalize hi : (if 0 < T.s.way.length then pkN x.n T.s.way.length else 0) = i
  have keep : ∀ {s' : Sys}, SysOk L ℓ T.seen s' → (∀ k, k < 3 → (re s' k).field = (re T.s k).field) → TaleOk L ℓ { T with s := s' } :=
    fun a b => ⟨a, h.len, fun j hj => (b j hj).trans (h.fields j hj)⟩
  have keepRs : ∀ {s' : Sys}, SysOk L ℓ T.seen s' → s'.rs = T.s.rs → TaleOk L ℓ { T with s := s' } :=
    fun a b => keep a fun j _ => by rw [re_rs b]
  by_cases e0 : x.what = 0
  · rw [if_pos e0]
    refine ⟨h.sys.see hk _, (List.length_set ..).trans h.len, fun j hj => ?_⟩
    show (re (sysSee T.s k (x.c, x.w)) j).field = (T.fields.set k (x.c, x.w)).getD j (0, 0)
    unfold sysSee
    rw [re_set (by rw [h.sys.three]; exact hk)]
    by_cases e : j = k
    · subst e; rw [if_pos rfl, getD_set_same (by rw [h.len]; exact hk)]
    · rw [if_neg e, getD_set_other (Ne.symm e)]; exact h.fields j hj
  rw [if_neg e0]
  by_cases e1 : x.what = 1
  · rw [if_pos e1]
    have hm : ∀ y ∈ T.seen, y ∈ (looks T k false).seen := fun y hy => List.mem_append_left _ hy
    refine ⟨(h.sys.more hm).tick hk fun _ => ⟨_, List.mem_append_right _ (List.mem_singleton.2 rfl), rfl, .inl rfl, ?_⟩, h.len, fun j hj => ?_⟩
    · exact (h.fields k hk).symm
    · exact ((later_tick L T.s k).2 j).2.trans (h.fields j hj)
  rw [if_neg e1]
  by_cases e2 : x.what = 2
  · rw [if_pos e2]
    refine keepRs (h.sys.asks hk) ?_
    exact (sendAll_rest _ _ _ _).1
  rw [if_neg e2]
  by_cases e3 : x.what = 3
  · rw [if_pos e3]
    exact keep (h.sys.deliver hL i) fun j _ => ((later_deliver L T.s i).2 j).2
  rw [if_neg e3]
  by_cases e4 : x.what = 4
  · rw [if_pos e4]
    exact keepRs (h.sys.lose i) rfl
  rw [if_neg e4]
  by_cases e5 : x.what = 5
  · rw [if_pos e5]
    exact keepRs (h.sys.twice i) (sysTwice_rs _ _)
  rw [if_neg e5]
  by_cases e6 : x.what = 6
  · rw [if_pos e6]
    exact keepRs (h.sys.spoil i _ _ hb32) (sysSpoil_rs _ _ _ _)
  rw [if_neg e6]
  by_cases e7 : x.what = 7
  · rw [if_pos e7]
    refine ⟨h.sys.crash hk, (List.length_set ..).trans h.len, fun j hj => ?_⟩
    show (re (sysCrash T.s k) j).field = (T.fields.set k (0, 0)).getD j (0, 0)
    unfold sysCrash
    rw [re_set (by rw [h.sys.three]; exact hk)]
    by_cases e : j = k
    · subst e; rw [if_pos rfl, getD_set_same (by rw [h.len]; exact hk)]; rfl
    · rw [if_neg e, getD_set_other (Ne.symm e)]; exact h.fields j hj
  rw [if_neg e7]
  by_cases e8 : x.what = 8
  · rw [if_pos e8]
    split
    · rename_i hc
      exact keepRs (h.sys.says hc.1 hto _) (sysSays_rs _ _ _ _)
    · exact h
  rw [if_neg e8]
  by_cases e9 : x.what = 9
  · rw [if_pos e9]
    split
    · rename_i hc
      exact keepRs (h.sys.says hc hto _) (sysSays_rs _ _ _ _)
    · exact h
  rw [if_neg e9]
  by_cases e10 : x.what = 10
  · rw [if_pos e10]
    have hm : ∀ y ∈ T.seen, y ∈ (looks (looks (looks T 0 true) 1 true) 2 true).seen := fun y hy => List.mem_append_left _ (List.mem_append_left _ (List.mem_append_left _ hy))
    have hcov : ∀ j, j < 3 → CoveredOn (looks (looks (looks T 0 true) 1 true) 2 true).seen T.s j := by
      intro j hj
      have : j = 0 ∨ j = 1 ∨ j = 2 := by omega
      rcases this with rfl | rfl | rfl
      · exact ⟨⟨0, (re T.s 0).cycle, true, (fieldOf T 0).1, (fieldOf T 0).2⟩, List.mem_append_left _ (List.mem_append_left _ (List.mem_append_right _ (List.mem_singleton.2 rfl))), rfl, rfl, Nat.le_refl _, (h.fields 0 hj).symm⟩
      · exact ⟨⟨1, (re T.s 1).cycle, true, (fieldOf T 1).1, (fieldOf T 1).2⟩, List.mem_append_left _ (List.mem_append_right _ (List.mem_singleton.2 rfl)), rfl, rfl, Nat.le_refl _, (h.fields 1 hj).symm⟩
      · exact ⟨⟨2, (re T.s 2).cycle, true, (fieldOf T 2).1, (fieldOf T 2).2⟩, List.mem_append_right _ (List.mem_singleton.2 rfl), rfl, rfl, Nat.le_refl _, (h.fields 2 hj).symm⟩
    obtain ⟨a, b⟩ := SysOk.calm hL N (pkN x.n 4) (h.sys.more hm) hcov
    exact ⟨a, h.len, fun j hj => ((b.2 j).2).trans (h.fields j hj)⟩
  rw [if_neg e10]
  by_cases e11 : x.what = 11
  · rw [if_pos e11]
    exact keepRs h.sys.voTick rfl
  rw [if_neg e11]
  by_cases e12 : x.what = 12
  · rw [if_pos e12]
    exact keepRs h.sys.latch rfl
  · rw [if_neg e12]
    exact h
def tale0 (window : Int) : Tale := ⟨Sys.new window, [(0, 0), (0, 0), (0, 0)], []⟩
theorem tale0_ok (L : Lay) (ℓ : Nat) (window : Int) : TaleOk L ℓ (tale0 window) := by
  have hre : ∀ k, k < 3 → re (Sys.new window) k = Re.new k := by
    intro k hk
    have : k = 0 ∨ k = 1 ∨ k = 2 := by omega
    rcases this with rfl | rfl | rfl <;> rfl
  refine ⟨⟨rfl, fun k hk => ?_, fun k hk => ?_, fun k hk _ => ?_, ⟨rfl, fun j _ hf => ?_, fun i c hc => ?_, fun j hj => ?_⟩, fun g hg => ?_⟩, rfl, fun k hk => ?_⟩
  · show (re (Sys.new window) k).id = k
    rw [hre k hk]; rfl
  · show (re (Sys.new window) k).seen.length = 3 ∧ (re (Sys.new window) k).some.length = 3 ∧ (re (Sys.new window) k).told.length = 3
    rw [hre k hk]; exact ⟨rfl, rfl, rfl⟩
  · show ReOk L ℓ _ _ (re (Sys.new window) k)
    rw [hre k hk]; exact new_ok_re _ _ _ _ _
  · exact absurd hf (by show ¬ (noVotes.getD j (Cm.zero, false)).2 = true; rw [noVotes_flag]; decide)
  · have : ([] : List Cm)[i]? = some c := hc
    simp at this
  · have : (0 : Nat).testBit j = true := hj
    rw [Nat.zero_testBit] at this
    cases this
  · have : g ∈ ([] : List Gram) := hg
    cases this
  · show (re (Sys.new window) k).field = _
    rw [hre k hk]
    have : k = 0 ∨ k = 1 ∨ k = 2 := by omega
    rcases this with rfl | rfl | rfl <;> rfl
theorem run_ok {L : Lay} {ℓ : Nat} (hL : L.Ok) (N : Nat) (window : Int) (l : List Stp) : TaleOk L ℓ (l.foldl (does L ℓ N) (tale0 window)) := by
  have : ∀ (l : List Stp) (T : Tale), TaleOk L ℓ T → TaleOk L ℓ (l.foldl (does L ℓ N) T) := by
    intro l
    induction l with
    | nil => intro T h; exact h
    | cons x l ih => intro T h; exact ih _ (does_ok hL h N x)
  exact this l _ (tale0_ok L ℓ window)
end Go.Proofs.Ytdhekhlmdefcnab
/- A system: danger is for good: the plain law, step by step. -/
namespace Go.Proofs.Ytdhekhlmdefcnab
/-- what is behind: the trace goes on, and not when it is latched -/
structure VoUp (v v' : Vo) : Prop where
  pre : v.trace <+: v'.trace
  lat : v.latched = true → v'.latched = true ∧ v'.trace = v.trace
theorem VoUp.refl (v : Vo) : VoUp v v := ⟨List.prefix_refl _, fun h => ⟨h, rfl⟩⟩
theorem VoUp.trans {a b c : Vo} (h : VoUp a b) (h' : VoUp b c) : VoUp a c :=
  ⟨h.pre.trans h'.pre, fun e => by obtain ⟨e1, e2⟩ := h.lat e; obtain ⟨e3, e4⟩ := h'.lat e1; exact ⟨e3, e4.trans e2⟩⟩
theorem voTick_up (v : Vo) : VoUp v (voTick v) := by
  unfold voTick
  cases h : v.latched with
  | true => simp; exact VoUp.refl v
  | false =>
    simp only [Bool.false_eq_true, if_false]
    split
    · exact ⟨List.prefix_refl _, fun e => by rw [h] at e; cases e⟩
    · exact ⟨List.prefix_refl _, fun e => by rw [h] at e; cases e⟩
theorem voTake_up (v : Vo) (f : List Int) : VoUp v (voTake v f).1 := by
  unfold voTake
  split
  · exact VoUp.refl v
  split
  · exact VoUp.refl v
  split
  · exact VoUp.refl v
  split
  · exact VoUp.refl v
  · rename_i hn
    have hl : v.latched ≠ true := fun h => hn (.inr (.inl h))
    dsimp only
    split
    · exact ⟨⟨_, rfl⟩, fun e => absurd e hl⟩
    · exact ⟨List.prefix_refl _, fun e => absurd e hl⟩
theorem foldl_send_v (a b : Nat) : ∀ (l : List (List Int)) (s : Sys), (l.foldl (fun s x => sysSend s a b x) s).v = s.v
  | [], _ => rfl
  | x :: l, s => by rw [List.foldl_cons, foldl_send_v a b l, (send_rest s a b x).2]
theorem foldl_all_v (all : Bool) (b : Nat) : ∀ (l : List (List Int)) (s : Sys), (l.foldl (fun s x => toAll s all b x) s).v = s.v
  | [], _ => rfl
  | x :: l, s => by rw [List.foldl_cons, foldl_all_v all b l, (toAll_rest s all b x).2]
theorem deliver_up (L : Lay) (s : Sys) (i : Nat) : VoUp s.v (deliver L s i).v := by
  unfold deliver
  split
  · exact VoUp.refl _
  · dsimp only
    split
    · split
      · rw [foldl_all_v]; exact voTake_up _ _
      · rw [foldl_send_v]; exact VoUp.refl _
    · exact VoUp.refl _
theorem flows_up (L : Lay) : ∀ (n : Nat) (s : Sys), VoUp s.v (flows L s n).v
  | 0, s => VoUp.refl _
  | n + 1, s => by
    rw [flows]
    split
    · exact VoUp.refl _
    · exact (deliver_up L s 0).trans (flows_up L n _)
theorem tickR_v (L : Lay) (s : Sys) (k : Nat) : (tickR L s k).v = s.v := by
  unfold tickR
  dsimp only
  split
  · rw [(send_rest _ _ _ _).2, (sendAll_rest _ _ _ _).2]
  · rw [(sendAll_rest _ _ _ _).2]
theorem half_up (L : Lay) (N : Nat) (s : Sys) : VoUp s.v (halfRound L N s).v := by
  unfold halfRound
  have h := flows_up L N (tickR L (tickR L (tickR L s 0) 1) 2)
  rw [tickR_v, tickR_v, tickR_v] at h
  exact h
theorem calm_up (L : Lay) (N : Nat) : ∀ (n : Nat) (s : Sys), VoUp s.v (calm L N s n).v
  | 0, s => VoUp.refl _
  | n + 1, s => by
    rw [calm]
    refine (((flows_up L N s).trans (half_up L N _)).trans (half_up L N _)).trans ((voTick_up _).trans ?_)
    exact calm_up L N n { halfRound L N (halfRound L N (flows L s N)) with v := voTick (halfRound L N (halfRound L N (flows L s N))).v }
theorem does_up (L : Lay) (ℓ N : Nat) (T : Tale) (x : Stp) : VoUp T.s.v (does L ℓ N T x).s.v := by
  have same : ∀ {s' : Sys}, s'.v = T.s.v → VoUp T.s.v s'.v := fun h => by rw [h]; exact VoUp.refl _
  have hput : ∀ g, (sysPut T.s g).v = T.s.v := fun g => (put_rest _ _).2
  have hsays : ∀ a b l, (sysSays T.s a b l).v = T.s.v := fun a b l => by
    unfold sysSays; split
    · rfl
    · exact hput _
  unfold does
  dsimp only
  generalize pkN x.k 3 = k
  generalize hi : (if 0 < T.s.way.length then pkN x.n T.s.way.length else 0) = i
  clear hi
  by_cases e0 : x.what = 0
  · rw [if_pos e0]
    exact same rfl
  rw [if_neg e0]
  by_cases e1 : x.what = 1
  · rw [if_pos e1]
    exact same (tickR_v _ _ _)
  rw [if_neg e1]
  by_cases e2 : x.what = 2
  · rw [if_pos e2]
    exact same (sendAll_rest _ _ _ _).2
  rw [if_neg e2]
  by_cases e3 : x.what = 3
  · rw [if_pos e3]
    exact deliver_up _ _ _
  rw [if_neg e3]
  by_cases e4 : x.what = 4
  · rw [if_pos e4]
    exact same rfl
  rw [if_neg e4]
  by_cases e5 : x.what = 5
  · rw [if_pos e5]
    refine same ?_
    show (sysTwice T.s i).v = _
    unfold sysTwice; split
    · rfl
    · exact hput _
  rw [if_neg e5]
  by_cases e6 : x.what = 6
  · rw [if_pos e6]
    refine same ?_
    show (sysSpoil T.s i _ _).v = _
    unfold sysSpoil; split
    · rfl
    · split <;> rfl
  rw [if_neg e6]
  by_cases e7 : x.what = 7
  · rw [if_pos e7]
    exact same rfl
  rw [if_neg e7]
  by_cases e8 : x.what = 8
  · rw [if_pos e8]
    split
    · exact same (hsays _ _ _)
    · exact same rfl
  rw [if_neg e8]
  by_cases e9 : x.what = 9
  · rw [if_pos e9]
    split
    · exact same (hsays _ _ _)
    · exact same rfl
  rw [if_neg e9]
  by_cases e10 : x.what = 10
  · rw [if_pos e10]
    exact calm_up _ _ _ _
  rw [if_neg e10]
  by_cases e11 : x.what = 11
  · rw [if_pos e11]
    exact voTick_up _
  rw [if_neg e11]
  by_cases e12 : x.what = 12
  · rw [if_pos e12]
    exact ⟨List.prefix_refl _, fun e => ⟨rfl, rfl⟩⟩
  rw [if_neg e12]
  exact same rfl
/-- what shows proceed, of a trace that is good -/
theorem fold_inv {L : Lay} {t : List Cm} : ∀ n, Inv L.routes (foldN L t n).set ∧ (foldN L t n).set < 2 ^ L.routes.length
  | 0 => by
    rw [foldN_zero]
    refine ⟨fun i j _ _ _ h => ?_, Nat.two_pow_pos _⟩
    have : (0 : Nat).testBit i = true := h
    rw [Nat.zero_testBit] at this
    cases this
  | n + 1 => by
    have ih := fold_inv (L := L) (t := t) n
    by_cases hn : n < t.length
    · rw [foldN_succ (c := t[n]) (List.getElem?_eq_getElem hn)]
      exact step_inv ih.1 ih.2
    · have e : foldN L t (n + 1) = foldN L t n := by
        unfold foldN
        rw [List.take_of_length_le (by omega), List.take_of_length_le (by omega)]
      rw [e]
      exact ih
theorem shown_good {L : Lay} {ℓ : Nat} {σ : List Sight} {v : Vo} (h : VoOk L ℓ σ v) {cm : Cm} (hl : v.latched = false) (hc : v.trace[v.trace.length - 1]? = some cm) :
    voShown v = ((step L cm.1 cm.2.1 (foldN L v.trace (v.trace.length - 1))).2 : Nat) := by
  unfold voShown
  rw [hl, List.getLast?_eq_getElem?, hc]
  exact (h.trace _ _ hc).out
end Go.Proofs.Ytdhekhlmdefcnab
/- The fact ran: what that system does, reckoned. -/
namespace Go.Proofs.Ytdhekhlmdefcnab
def ranL : Lay := ⟨4, [3, 12, 6], 2⟩
def ranS0 : Sys := sysSee (sysSee (sysSee (Sys.new 10) 0 (15, 5)) 1 (15, 5)) 2 (15, 5)
def ranS : Sys := calm ranL 1200 ranS0 2
def ranOk (s : Sys) : Bool := decide (1 ≤ s.v.trace.length) && !s.v.latched && decide (voShown s.v = 1) && s.v.trace.all (fun c => decide (c = (15, 5, 1))) && decide (s.v.trace.length ≤ 1000)
theorem ran_spec : ranOk ranS = true := by decide +kernel
end Go.Proofs.Ytdhekhlmdefcnab
