/- Part 32 of the proof: RcSane. -/
import Derived.Test.YtdhekhlmdefcnaaDoorPart31
import Derived.Test.YtdhekhlmdefcnaaDoorPart13
/- A state that may be stays so. -/
namespace Go.Proofs.YtdhekhlmdefcnaaDoor
open Go.RowKit
/-- what is known of a route may be -/
def PR (L : Lay) (s : St) (i : Nat) : Prop := (s.set.testBit i = false → s.used.getD i 0 = 0 ∧ s.idle.getD i 0 = 0) ∧ (s.used.getD i 0 = 0 → s.idle.getD i 0 ≤ L.delay)
structure Sane (L : Lay) (s : St) : Prop where
  u8 : s.used.length = 8
  d8 : s.idle.length = 8
  tidy : Tidy L s
  used : UsedIn L s
  inv : Inv L.routes s.set
  at_ : ∀ i, PR L s i
theorem sane_zero (L : Lay) : Sane L St.zero := by
  refine ⟨rfl, rfl, ⟨Nat.two_pow_pos _, fun i _ => zero_used i, fun i _ => zero_idle i⟩, fun i _ b hb => ?_, fun i j _ _ _ h => ?_, fun i => ⟨fun _ => ⟨zero_used i, zero_idle i⟩, fun _ => by rw [zero_idle]; omega⟩⟩
  · rw [zero_used, Nat.zero_testBit] at hb; cases hb
  · have h' : (0 : Nat).testBit i = true := h
    rw [Nat.zero_testBit] at h'; cases h'
theorem pr_one {L : Lay} {cl wa k r : Nat} {s : St} (h : ∀ i, PR L s i) (hk : k < s.used.length) (hk2 : k < s.idle.length) : ∀ i, PR L (one L.delay cl wa s k r) i := by
  unfold one
  by_cases hb : s.set.testBit k = true
  · rw [if_pos hb]
    dsimp only
    generalize (if wa.testBit k = true then 0 else s.idle.getD k 0 + 1) = d
    by_cases hc : s.used.getD k 0 ||| nb r cl = r ∧ nb r cl = 0 ∨ s.used.getD k 0 ||| nb r cl = 0 ∧ L.delay < d
    · rw [if_pos hc]
      intro j
      by_cases e : k = j
      · subst e
        exact ⟨fun _ => ⟨getD_set_eq hk, getD_set_eq hk2⟩, fun _ => by show (s.idle.set k 0).getD k 0 ≤ _; rw [getD_set_eq hk2]; omega⟩
      · refine ⟨fun hb => ?_, fun hu => ?_⟩
        · have hb' : (nb s.set (1 <<< k)).testBit j = false := hb
          rw [testBit_nb1, decide_eq_false e] at hb'
          obtain ⟨a, b⟩ := (h j).1 (by simpa using hb')
          exact ⟨(getD_set_ne' e).trans a, (getD_set_ne' e).trans b⟩
        · have hu' : (s.used.set k 0).getD j 0 = 0 := hu
          rw [getD_set_ne' e] at hu'
          show (s.idle.set k 0).getD j 0 ≤ _
          rw [getD_set_ne' e]
          exact (h j).2 hu'
    · rw [if_neg hc]
      intro j
      by_cases e : k = j
      · subst e
        refine ⟨fun h => ?_, fun hu => ?_⟩
        · have h' : s.set.testBit k = false := h
          rw [hb] at h'; cases h'
        · have hu' : (s.used.set k (s.used.getD k 0 ||| nb r cl)).getD k 0 = 0 := hu
          rw [getD_set_eq hk] at hu'
          show (s.idle.set k d).getD k 0 ≤ _
          rw [getD_set_eq hk2]
          exact Nat.le_of_not_lt fun hd => hc (.inr ⟨hu', hd⟩)
      · refine ⟨fun h' => ?_, fun hu => ?_⟩
        · obtain ⟨a, b⟩ := (h j).1 h'
          exact ⟨(getD_set_ne' e).trans a, (getD_set_ne' e).trans b⟩
        · have hu' : (s.used.set k (s.used.getD k 0 ||| nb r cl)).getD j 0 = 0 := hu
          rw [getD_set_ne' e] at hu'
          show (s.idle.set k d).getD j 0 ≤ _
          rw [getD_set_ne' e]
          exact (h j).2 hu'
  · rw [if_neg hb]; exact h
theorem one_len (d cl wa k r : Nat) (s : St) : (one d cl wa s k r).used.length = s.used.length ∧ (one d cl wa s k r).idle.length = s.idle.length :=
  one_cases (P := fun x => x.used.length = s.used.length ∧ x.idle.length = s.idle.length) _ _ _ _ _ _ (fun _ => ⟨rfl, rfl⟩) (fun _ _ _ => ⟨List.length_set .., List.length_set ..⟩) (fun _ _ => ⟨List.length_set .., List.length_set ..⟩)
theorem letGo_len (L : Lay) (cl wa : Nat) (s : St) : ∀ m, (letGo L cl wa s m).used.length = s.used.length ∧ (letGo L cl wa s m).idle.length = s.idle.length
  | 0 => ⟨rfl, rfl⟩
  | m + 1 => by
    obtain ⟨a, b⟩ := letGo_len L cl wa s m
    obtain ⟨c, d⟩ := one_len L.delay cl wa m (L.routes.getD m 0) (letGo L cl wa s m)
    exact ⟨c.trans a, d.trans b⟩
theorem pr_letGo {L : Lay} {cl wa : Nat} {s : St} (hL : L.Ok) (h : ∀ i, PR L s i) (h8 : s.used.length = 8) (h9 : s.idle.length = 8) : ∀ m, m ≤ L.routes.length → ∀ i, PR L (letGo L cl wa s m) i
  | 0, _ => h
  | m + 1, hm => by
    obtain ⟨a, b⟩ := letGo_len L cl wa s m
    have := hL.many2
    exact pr_one (pr_letGo hL h h8 h9 m (by omega)) (by omega) (by omega)
theorem sane_step {L : Lay} {cl wa : Nat} {s : St} (hL : L.Ok) (h : Sane L s) : Sane L (stepS L cl wa s) := by
  obtain ⟨a, b⟩ := letGo_len L cl wa s L.routes.length
  have hp := pr_letGo (cl := cl) (wa := wa) hL h.at_ h.u8 h.d8 L.routes.length (Nat.le_refl _)
  obtain ⟨hi, hpw⟩ := step_inv (cl := cl) (wa := wa) h.inv h.tidy.set
  refine ⟨a.trans h.u8, b.trans h.d8, ⟨hpw, fun i hn => ?_, fun i hn => ?_⟩, fun i hn q hq => usedIn_letGo h.used L.routes.length i hn q hq, hi, fun i => ⟨fun hb => ?_, (hp i).2⟩⟩
  · exact (letGo_rest L cl wa s i L.routes.length hn).2.1.trans (h.tidy.used i hn)
  · exact (letGo_rest L cl wa s i L.routes.length hn).2.2.trans (h.tidy.idle i hn)
  · refine (hp i).1 ?_
    cases hs : (letGo L cl wa s L.routes.length).set.testBit i with
    | false => rfl
    | true =>
      have hb' : (setTo L.routes cl wa (letGo L cl wa s L.routes.length).set L.routes.length).testBit i = false := hb
      rw [setTo_sup _ _ _ _ _ hs] at hb'
      cases hb'
/-- the numbers of a state -/
def lst (s : St) : List Int := (s.set : Int) :: (zs s.used ++ zs s.idle)
theorem lst_set (s : St) : (lst s).getD 0 0 = (s.set : Int) := rfl
theorem zs_getD (l : List Nat) (i : Nat) : (zs l).getD i 0 = ((l.getD i 0 : Nat) : Int) := by
  rw [List.getD_eq_getElem?_getD, zs_get, List.getD_eq_getElem?_getD]
  cases l[i]? <;> rfl
theorem lst_used {s : St} (h8 : s.used.length = 8) {i : Nat} (hi : i < 8) : (lst s).getD (1 + i) 0 = ((s.used.getD i 0 : Nat) : Int) := by
  rw [← zs_getD, List.getD_eq_getElem?_getD, List.getD_eq_getElem?_getD, Nat.add_comm]
  show ((((s.set : Int) :: (zs s.used ++ zs s.idle))[i + 1]?).getD 0) = _
  rw [List.getElem?_cons_succ, List.getElem?_append_left (by rw [zs_length]; omega)]
theorem lst_idle {s : St} (h8 : s.used.length = 8) {i : Nat} : (lst s).getD (9 + i) 0 = ((s.idle.getD i 0 : Nat) : Int) := by
  rw [← zs_getD, List.getD_eq_getElem?_getD, List.getD_eq_getElem?_getD, show 9 + i = (8 + i) + 1 by omega]
  show ((((s.set : Int) :: (zs s.used ++ zs s.idle))[8 + i + 1]?).getD 0) = _
  rw [List.getElem?_cons_succ, List.getElem?_append_right (by rw [zs_length]; omega), zs_length, h8, Nat.add_sub_cancel_left]
theorem lst_length {s : St} (h8 : s.used.length = 8) (h9 : s.idle.length = 8) : (lst s).length = 17 := by
  show (_ :: _).length = 17
  rw [List.length_cons, List.length_append, zs_length, zs_length, h8, h9]
theorem conf_and {L : Lay} {set i : Nat} (h : Inv L.routes set) (hi : i < L.routes.length) (hb : set.testBit i = true) : set &&& conf L.routes i = 0 := by
  rw [and_zero_iff]
  intro j hj
  unfold conf
  rw [confTo_bit]
  by_cases hjn : j < L.routes.length
  · by_cases e : j = i
    · simp [e]
    · simp [h i j hi hjn (fun h => e h.symm) hb hj]
  · simp [hjn]
/-- what may be, is right -/
theorem sane_right {L : Lay} {s : St} (hL : L.Ok) (h : Sane L s) (hd : ∀ i, i < L.routes.length → s.idle.getD i 0 < 1000) : rightB L (lst s) = true := by
  have hn8 := hL.many2
  refine crt_yes (by rw [lst_set]; omega) ?_ fun k hk => ?_
  · rw [lst_set]
    have := h.tidy.set
    have h2 : ((s.set : Nat) : Int) < ((2 ^ L.routes.length : Nat) : Int) := Int.ofNat_lt.2 this
    simpa using h2
  · rw [right_at hk, lst_set, lst_used h.u8 hk, lst_idle h.u8, Int.toNat_natCast, Int.toNat_natCast]
    by_cases hc : L.routes.length ≤ k ∨ s.set.testBit k = false
    · rw [if_pos hc]
      have h0 : s.used.getD k 0 = 0 ∧ s.idle.getD k 0 = 0 := by
        by_cases hkn : L.routes.length ≤ k
        · exact ⟨h.tidy.used k hkn, h.tidy.idle k hkn⟩
        · exact (h.at_ k).1 (hc.resolve_left hkn)
      rw [h0.1, h0.2]
      rfl
    · rw [if_neg hc]
      have hkn : k < L.routes.length := Nat.lt_of_not_le fun e => hc (.inl e)
      have hb : s.set.testBit k = true := by
        cases e : s.set.testBit k with
        | true => rfl
        | false => exact absurd (.inr e) hc
      have hnb : nb (s.used.getD k 0) (L.routes.getD k 0) = 0 := by
        apply Nat.eq_of_testBit_eq
        intro b
        rw [testBit_nb, Nat.zero_testBit]
        cases e : (s.used.getD k 0).testBit b with
        | false => rfl
        | true =>
          have := h.used k hkn b e
          unfold rt at this
          rw [this]; rfl
      have h1 := hd k hkn
      rw [conf_and h.inv hkn hb, hnb]
      have e1 : decide ((0 : Int) ≤ ((s.used.getD k 0 : Nat) : Int)) = true := decide_eq_true (by omega)
      have e2 : decide ((0 : Int) ≤ ((s.idle.getD k 0 : Nat) : Int)) = true := decide_eq_true (by omega)
      have e3 : decide (((s.idle.getD k 0 : Nat) : Int) ≤ 1000) = true := decide_eq_true (by omega)
      rw [e1, e2, e3]
      by_cases hu : s.used.getD k 0 = 0
      · have h2 := (h.at_ k).2 hu
        have e4 : decide ((L.delay : Int) < ((s.idle.getD k 0 : Nat) : Int)) = false := decide_eq_false (by omega)
        rw [e4]; simp
      · have e4 : decide (((s.used.getD k 0 : Nat) : Int) = 0) = false := decide_eq_false (by omega)
        rw [e4]; simp
theorem getD_map_toNat (l : List Int) (i : Nat) : (l.map Int.toNat).getD i 0 = (l.getD i 0).toNat := by
  rw [List.getD_eq_getElem?_getD, List.getElem?_map, List.getD_eq_getElem?_getD]
  cases l[i]? <;> rfl
/-- what is right, may be -/
theorem sane_load {L : Lay} {l : List Int} (hL : L.Ok) (hl : l.length = 17) (hr : rightB L l = true) : Sane L (stNat l) := by
  have hn8 := hL.many2
  unfold rightB at hr
  simp only [Bool.and_eq_true, decide_eq_true_eq, List.all_eq_true, List.mem_range] at hr
  obtain ⟨⟨h0, h1⟩, h2⟩ := hr
  have hu8 : (stNat l).used.length = 8 := by show (((l.drop 1).take 8).map Int.toNat).length = 8; simp; omega
  have hd8 : (stNat l).idle.length = 8 := by show (((l.drop 9).take 8).map Int.toNat).length = 8; simp; omega
  have hu : ∀ i, 8 ≤ i → (stNat l).used.getD i 0 = 0 := fun i hi => by rw [List.getD_eq_getElem?_getD, List.getElem?_eq_none (by omega)]; rfl
  have hd : ∀ i, 8 ≤ i → (stNat l).idle.getD i 0 = 0 := fun i hi => by rw [List.getD_eq_getElem?_getD, List.getElem?_eq_none (by omega)]; rfl
  have hset : (stNat l).set = (l.getD 0 0).toNat := rfl
  have off : ∀ i, (L.routes.length ≤ i ∨ (stNat l).set.testBit i = false) → (stNat l).used.getD i 0 = 0 ∧ (stNat l).idle.getD i 0 = 0 := fun i hi => by
    by_cases h8 : i < 8
    · have h3 := h2 i h8
      rw [right_at h8, if_pos (by rw [← hset]; exact hi), Bool.and_eq_true, decide_eq_true_eq, decide_eq_true_eq] at h3
      obtain ⟨p, q⟩ := stNat_parts hl h8
      rw [p, q, h3.1, h3.2]
      exact ⟨rfl, rfl⟩
    · exact ⟨hu i (by omega), hd i (by omega)⟩
  have onn : ∀ i, i < L.routes.length → (stNat l).set.testBit i = true → (stNat l).set &&& conf L.routes i = 0 ∧ nb ((stNat l).used.getD i 0) (rt L.routes i) = 0 ∧ ((stNat l).used.getD i 0 = 0 → (stNat l).idle.getD i 0 ≤ L.delay) := fun i hi hb => by
    have h8 : i < 8 := by omega
    have h3 := h2 i h8
    rw [right_at h8, if_neg (by rw [← hset, hb]; simp; omega)] at h3
    simp only [Bool.and_eq_true, decide_eq_true_eq, Bool.not_eq_true', Bool.and_eq_false_iff, decide_eq_false_iff_not] at h3
    obtain ⟨⟨⟨⟨⟨a1, a2⟩, a3⟩, a4⟩, a5⟩, a6⟩ := h3
    obtain ⟨p, q⟩ := stNat_parts hl h8
    rw [p, q]
    refine ⟨a1, a3, fun e => ?_⟩
    rcases a6 with a6 | a6
    · exact absurd (by omega) a6
    · omega
  refine ⟨hu8, hd8, ⟨?_, fun i hn => (off i (.inl hn)).1, fun i hn => (off i (.inl hn)).2⟩, fun i hi b hb => ?_, fun i j hi hj hne hbi hbj => ?_, fun i => ⟨fun hb => off i (.inr hb), fun he => ?_⟩⟩
  · rw [hset]
    have h4 : ((2 : Int) ^ L.routes.length) = ((2 ^ L.routes.length : Nat) : Int) := by simp
    rw [h4] at h1
    generalize 2 ^ L.routes.length = P at *
    omega
  · cases hs : (stNat l).set.testBit i with
    | false => rw [(off i (.inr hs)).1, Nat.zero_testBit] at hb; cases hb
    | true =>
      have h3 := congrArg (fun x => x.testBit b) (onn i hi hs).2.1
      simp only [testBit_nb, Nat.zero_testBit, hb, Bool.true_and] at h3
      simpa using h3
  · have h3 := (onn i hi hbi).1
    rw [and_zero_iff] at h3
    have h4 := h3 j hbj
    unfold conf at h4
    rw [confTo_bit] at h4
    simpa [hj, Ne.symm hne] using h4
  · cases hs : (stNat l).set.testBit i with
    | false => rw [(off i (.inr hs)).2]; omega
    | true =>
      by_cases hi : i < L.routes.length
      · exact (onn i hi hs).2.2 he
      · rw [(off i (.inl (by omega))).2]; omega
/-- what is loaded is what there was -/
theorem lst_load {L : Lay} {l : List Int} (hL : L.Ok) (hl : l.length = 17) (hr : rightB L l = true) : lst (stNat l) = l := by
  have hn8 := hL.many2
  unfold rightB at hr
  simp only [Bool.and_eq_true, decide_eq_true_eq, List.all_eq_true, List.mem_range] at hr
  obtain ⟨⟨h0, h1⟩, h2⟩ := hr
  have pos : ∀ i, i < 8 → 0 ≤ l.getD (1 + i) 0 ∧ 0 ≤ l.getD (9 + i) 0 := fun i hi => by
    have h3 := h2 i hi
    rw [right_at hi] at h3
    split at h3
    · simp only [Bool.and_eq_true, decide_eq_true_eq] at h3
      omega
    · simp only [Bool.and_eq_true, decide_eq_true_eq] at h3
      exact ⟨h3.1.1.1.1.2, h3.1.1.2⟩
  have hu8 : (stNat l).used.length = 8 := by show (((l.drop 1).take 8).map Int.toNat).length = 8; simp; omega
  have hd8 : (stNat l).idle.length = 8 := by show (((l.drop 9).take 8).map Int.toNat).length = 8; simp; omega
  apply List.ext_getElem?
  intro i
  by_cases hi : i < 17
  · have e1 := lst_length hu8 hd8
    have key : (lst (stNat l)).getD i 0 = l.getD i 0 := by
      by_cases e0 : i = 0
      · subst e0
        rw [lst_set]
        show ((l.getD 0 0).toNat : Int) = _
        omega
      · by_cases e8 : i < 9
        · obtain ⟨j, rfl⟩ : ∃ j, i = 1 + j := ⟨i - 1, by omega⟩
          have hj : j < 8 := by omega
          rw [lst_used hu8 hj, (stNat_parts hl hj).1]
          have := (pos j hj).1
          omega
        · obtain ⟨j, rfl⟩ : ∃ j, i = 9 + j := ⟨i - 9, by omega⟩
          have hj : j < 8 := by omega
          rw [lst_idle hu8, (stNat_parts hl hj).2]
          have := (pos j hj).2
          omega
    rw [List.getD_eq_getElem?_getD, List.getD_eq_getElem?_getD, List.getElem?_eq_getElem (by omega), List.getElem?_eq_getElem (by omega)] at key
    rw [List.getElem?_eq_getElem (by omega), List.getElem?_eq_getElem (by omega)]
    exact congrArg some key
  · rw [List.getElem?_eq_none (by rw [lst_length hu8 hd8]; omega), List.getElem?_eq_none (by omega)]
theorem ints_lst (s : St) : (ints (lst s)).toArray = stC s := by
  show _ = (stL s).toArray
  unfold lst stL ints
  simp
end Go.Proofs.YtdhekhlmdefcnaaDoor
