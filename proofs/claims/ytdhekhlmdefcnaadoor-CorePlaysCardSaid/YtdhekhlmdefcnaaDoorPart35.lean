/- Part 35 of the proof: ReTakeP. -/
import Derived.Test.YtdhekhlmdefcnaaDoorPart30
import Derived.Test.YtdhekhlmdefcnaaDoorPart34
import Derived.Test.YtdhekhlmdefcnaaDoorPart28
import Derived.Test.YtdhekhlmdefcnaaDoorPart9
/- What the replica's Take does: plain laws for its walk. -/
namespace Go.Proofs.YtdhekhlmdefcnaaDoor
open Go.RowKit
/-- a frame that may be: its numbers -/
structure FrIn (f : List Int) (kd fr cy c d : Nat) (s : St) : Prop where
  len : f.length = 23
  e0 : f.getD 0 0 = (kd : Int)
  e1 : f.getD 1 0 = (fr : Int)
  e2 : f.getD 2 0 = (cy : Int)
  e3 : f.getD 3 0 = (c : Int)
  e4 : f.getD 4 0 = (d : Int)
  hfr : fr ≤ 3
  hcy : cy ≤ 1048576
  hc : c ≤ 1048576
  hd : d ≤ 1048576
  st : stNat (stOf f) = s
  sl : ints (stOf f) = stL s
  sn : (stOf f).length = 17
  lo : ∀ x ∈ stOf f, 0 ≤ x ∧ x ≤ 1048576
theorem cp_all {f : List Int} (hm : mayB f = true) : ∀ n, ∀ x ∈ cpTo f n, 0 ≤ x ∧ x ≤ 1048576 := by
  intro n
  unfold cpTo
  have hk : 0 ≤ f.getD 0 0 ∧ f.getD 0 0 ≤ 1048576 := by
    unfold mayB headB at hm
    simp only [Bool.and_eq_true, decide_eq_true_eq] at hm
    omega
  have h0 : ∀ x ∈ zeroF.set 0 (f.getD 0 0), 0 ≤ x ∧ x ≤ 1048576 := by
    intro x hx
    rcases List.mem_or_eq_of_mem_set hx with h | h
    · have := List.eq_of_mem_replicate h
      omega
    · rw [h]; exact hk
  have hl : ∀ i ∈ (idx (f.getD 0 0)).take n, 0 ≤ f.getD i 0 ∧ f.getD i 0 ≤ 1048576 := fun i hi => may_all hm i (List.mem_of_mem_take hi)
  generalize (idx (f.getD 0 0)).take n = l at hl
  generalize zeroF.set 0 (f.getD 0 0) = g at h0
  induction l generalizing g with
  | nil => exact h0
  | cons i l ih =>
    refine ih (fun j hj => hl j (List.mem_cons_of_mem _ hj)) _ (fun x hx => ?_)
    rcases List.mem_or_eq_of_mem_set hx with h | h
    · exact h0 x h
    · rw [h]; exact hl i (List.mem_cons_self ..)
theorem ints_nat : ∀ (l : List Int), (∀ x ∈ l, 0 ≤ x) → ints l = ints (zs (l.map Int.toNat))
  | [], _ => rfl
  | x :: l, h => by
    have ih := ints_nat l fun y hy => h y (List.mem_cons_of_mem _ hy)
    have hx := h x (List.mem_cons_self ..)
    unfold ints zs at ih ⊢
    simp only [List.map_cons, List.map_map] at ih ⊢
    rw [ih, Int.toNat_of_nonneg hx]
theorem list17 (l : List Int) (h : l.length = 17) : ∃ x u d, l = x :: (u ++ d) ∧ u.length = 8 ∧ d.length = 8 := by
  match l, h with
  | x :: l, h =>
    refine ⟨x, l.take 8, l.drop 8, by rw [List.take_append_drop], ?_, ?_⟩
    · simp at h ⊢; omega
    · simp at h ⊢; omega
theorem st_of {l : List Int} (h : l.length = 17) (h0 : ∀ x ∈ l, 0 ≤ x) : ints l = stL (stNat l) ∧ (stNat l).used.length = 8 ∧ (stNat l).idle.length = 8 := by
  obtain ⟨x, u, d, rfl, hu, hd⟩ := list17 l h
  have e1 : (((x :: (u ++ d)).drop 1).take 8) = u := by simp [hu]
  have e2 : (((x :: (u ++ d)).drop 9).take 8) = d := by
    show ((u ++ d).drop 8).take 8 = d
    rw [List.drop_append_of_le_length (by omega), List.drop_of_length_le (by omega), List.nil_append, List.take_of_length_le (by omega)]
  refine ⟨?_, ?_, ?_⟩
  · unfold stNat stL
    simp only [e1, e2]
    rw [← ints_nat u (fun y hy => h0 y (by simp [hy])), ← ints_nat d (fun y hy => h0 y (by simp [hy]))]
    have hx := h0 x (List.mem_cons_self ..)
    show I x :: (u ++ d).map I = I ((x.toNat : Nat) : Int) :: (u.map I ++ d.map I)
    rw [Int.toNat_of_nonneg hx, List.map_append]
  · unfold stNat; simp only [e1, List.length_map, hu]
  · unfold stNat; simp only [e2, List.length_map, hd]
theorem fr_in {f : List Int} (hm : mayB f = true) : ∃ kd fr cy c d s, FrIn f kd fr cy c d s := by
  have hcp := may_cp hm
  have hall : ∀ x ∈ f, 0 ≤ x ∧ x ≤ 1048576 := by rw [hcp]; exact cp_all hm _
  have hlen : f.length = 23 := by rw [hcp]; exact cpTo_length f _
  have hg : ∀ i, 0 ≤ f.getD i 0 ∧ f.getD i 0 ≤ 1048576 := fun i => by
    rw [List.getD_eq_getElem?_getD]
    cases h : f[i]? with
    | none => exact ⟨Int.le_refl _, by decide⟩
    | some x => exact hall x (List.mem_of_getElem? h)
  have hfr : f.getD 1 0 ≤ 3 := by
    have := hm
    unfold mayB headB at this
    simp only [Bool.and_eq_true, decide_eq_true_eq] at this
    omega
  have hsn : (stOf f).length = 17 := by unfold stOf; simp [hlen]
  have hlo : ∀ x ∈ stOf f, 0 ≤ x ∧ x ≤ 1048576 := fun x hx => hall x (List.mem_of_mem_drop hx)
  have e0 := hg 0
  have e1 := hg 1
  have e2 := hg 2
  have e3 := hg 3
  have e4 := hg 4
  exact ⟨(f.getD 0 0).toNat, (f.getD 1 0).toNat, (f.getD 2 0).toNat, (f.getD 3 0).toNat, (f.getD 4 0).toNat, stNat (stOf f), hlen, by omega, by omega, by omega, by omega, by omega, by omega, by omega, by omega, by omega, rfl, (st_of hsn fun x hx => (hlo x hx).1).1, hsn, hlo⟩
/-- what is right fits -/
theorem right_fits {L : Lay} {l : List Int} (hL : L.Ok) (hl : l.length = 17) (hr : rightB L l = true) : (stNat l).Fits 1000 := by
  unfold rightB at hr
  simp only [Bool.and_eq_true, decide_eq_true_eq, List.all_eq_true, List.mem_range] at hr
  obtain ⟨⟨h0, h1⟩, h2⟩ := hr
  obtain ⟨x, u, d, rfl, hu, hd⟩ := list17 l hl
  have e1 : (((x :: (u ++ d)).drop 1).take 8) = u := by simp [hu]
  have e2 : (((x :: (u ++ d)).drop 9).take 8) = d := by
    show ((u ++ d).drop 8).take 8 = d
    rw [List.drop_append_of_le_length (by omega), List.drop_of_length_le (by omega), List.nil_append, List.take_of_length_le (by omega)]
  rw [e1, e2] at h2
  have hx : (x :: (u ++ d)).getD 0 0 = x := rfl
  rw [hx] at h0 h1
  have hp : (2 : Int) ^ L.routes.length ≤ 256 := by
    have h := Nat.pow_le_pow_right (n := 2) (by decide) hL.many2
    have : ((2 ^ L.routes.length : Nat) : Int) ≤ 256 := by omega
    simpa using this
  have hat : ∀ k, k < 8 → (u.getD k 0).toNat < 4096 ∧ (d.getD k 0).toNat ≤ 1000 := by
    intro k hk
    have h := h2 k hk
    unfold rightAt at h
    split at h
    · simp only [Bool.and_eq_true, decide_eq_true_eq] at h
      rw [h.1, h.2]
      decide
    · simp only [Bool.and_eq_true, decide_eq_true_eq] at h
      obtain ⟨⟨⟨⟨⟨_, hu0⟩, hnb⟩, hd0⟩, hd1⟩, _⟩ := h
      refine ⟨?_, by omega⟩
      generalize hU : (u.getD k 0).toNat = U at hnb ⊢
      have hkn : k < L.routes.length := by
        rename_i hc
        omega
      have hr : L.routes.getD k 0 < 4096 := by
        rw [List.getD_eq_getElem?_getD, List.getElem?_eq_getElem hkn]
        have h1 := hL.high _ (List.getElem_mem hkn)
        have h2 := Nat.pow_le_pow_right (n := 2) (by decide) hL.secs2
        simp only [Option.getD_some]
        omega
      refine Nat.lt_pow_two_of_testBit (n := 12) U fun i hi => ?_
      have ht := congrArg (fun x => Nat.testBit x i) hnb
      simp only [testBit_nb, Nat.zero_testBit] at ht
      have hri : (L.routes.getD k 0).testBit i = false := Nat.testBit_lt_two_pow (Nat.lt_of_lt_of_le hr (Nat.pow_le_pow_right (n := 2) (by decide) hi))
      rw [hri] at ht
      simpa using ht
  have hus : (stNat (x :: (u ++ d))).used = u.map Int.toNat := by unfold stNat; rw [e1]
  have hds : (stNat (x :: (u ++ d))).idle = d.map Int.toNat := by unfold stNat; rw [e2]
  refine ⟨?_, by rw [hus]; simpa using hu, by rw [hds]; simpa using hd, ?_, ?_⟩
  · show x.toNat < 256
    omega
  · rw [hus]
    intro y hy
    obtain ⟨k, hk, rfl⟩ := List.getElem_of_mem hy
    have hk8 : k < 8 := by simpa [hu] using hk
    have h := (hat k hk8).1
    rw [List.getD_eq_getElem?_getD, List.getElem?_eq_getElem (by omega)] at h
    simpa using h
  · rw [hds]
    intro y hy
    obtain ⟨k, hk, rfl⟩ := List.getElem_of_mem hy
    have hk8 : k < 8 := by simpa [hd] using hk
    have h := (hat k hk8).2
    rw [List.getD_eq_getElem?_getD, List.getElem?_eq_getElem (by omega)] at h
    simpa using h
/-- what two told, compared -/
theorem ints_inj {a b : List Int} (h : ints a = ints b) : a = b := (List.map_inj_right (fun a b hab => by injection hab)).1 h
theorem zs_inj {a b : List Nat} (h : zs a = zs b) : a = b := (List.map_inj_right (fun a b hab => by omega)).1 h
theorem knL_eq {a b : Nat × St × Bool} (ha : a.2.1.used.length = 8) (ha2 : a.2.1.idle.length = 8) (hb : b.2.1.used.length = 8) (hb2 : b.2.1.idle.length = 8) : same2 a b = true ↔ (knL a).toArray = (knL b).toArray := by
  obtain ⟨ac, ⟨as_, au, ai⟩, ab⟩ := a
  obtain ⟨bc, ⟨bs, bu, bi⟩, bb⟩ := b
  simp only at ha ha2 hb hb2
  constructor
  · intro h
    unfold same2 at h
    simp only [Bool.and_eq_true, decide_eq_true_eq, beq_iff_eq] at h
    obtain ⟨⟨⟨⟨h1, h2⟩, h3⟩, h4⟩, h5⟩ := h
    subst h1 h2 h3 h4 h5
    rfl
  · intro h
    have h := Array.toList_inj.2 h
    simp only [knL, stL, List.cons_append, List.cons.injEq] at h
    obtain ⟨h1, h2, h3⟩ := h
    have h1' : ac = bc := by injection h1 with _ h1; omega
    have h2' : as_ = bs := by injection h2 with _ h2; omega
    obtain ⟨h4, h5⟩ := List.append_inj h3 (by simp [ints, zs, ha, ha2, hb, hb2])
    obtain ⟨h6, h7⟩ := List.append_inj h4 (by simp [ints, zs, ha, hb])
    have h6' := zs_inj (ints_inj h6)
    have h7' := zs_inj (ints_inj h7)
    have h5' : ab = bb := by simpa using h5
    subst h1' h2' h6' h7' h5'
    simp [same2]
theorem sigKnown : sig Tryd.prog 6 182 = some (List.replicate 18 (some .i64) ++ [none]) := by kernel_rfl
theorem Fit.append : ∀ {a b : List (Option IntKind)} {x y : List Value}, Fit a x → Fit b y → Fit (a ++ b) (x ++ y)
  | [], _, [], _, _, h => h
  | _ :: _, _, _ :: _, _, h, h' => ⟨h.1, Fit.append h.2 h'⟩
  | [], _, _ :: _, _, h, _ => h.elim
  | _ :: _, _, [], _, h, _ => h.elim
theorem fit_known {k : Nat × St × Bool} {M : Nat} (hM : M ≤ 1000000000000) (h : k.2.1.Fits M) (hc : k.1 ≤ 1000000000000) : Fit (List.replicate 18 (some .i64) ++ [none]) (knL k).toArray.toList := by
  have e : knL k = ints ((k.1 : Int) :: (k.2.1.set : Int) :: (zs k.2.1.used ++ zs k.2.1.idle)) ++ [.bool k.2.2] := by simp [knL, stL, ints]
  show Fit _ (knL k)
  rw [e]
  refine Fit.append ?_ ⟨trivial, trivial⟩
  have hl : ((k.1 : Int) :: (k.2.1.set : Int) :: (zs k.2.1.used ++ zs k.2.1.idle)).length = 18 := by simp [zs, h.used8, h.idle8]
  have := fit_ints ((k.1 : Int) :: (k.2.1.set : Int) :: (zs k.2.1.used ++ zs k.2.1.idle)) (fun x hx => by
    simp only [List.mem_cons, List.mem_append, zs, List.mem_map] at hx
    have h1 := h.set
    rcases hx with rfl | rfl | ⟨y, hy, rfl⟩ | ⟨y, hy, rfl⟩
    · exact wf_i64 (by omega) (by omega)
    · exact wf_i64 (by omega) (by omega)
    · have := h.used y hy; exact wf_i64 (by omega) (by omega)
    · have := h.idle y hy; exact wf_i64 (by omega) (by omega))
  rw [hl] at this
  exact this
theorem wp_known {o : Oper} {x : Act} {w : World} {K : Act → World → Prop} {Q : Exit → Act → World → Prop} (t2 : TypeId) (p q : Nat × St × Bool) {M : Nat} (hM : M ≤ 1000000000000) (hp : p.2.1.Fits M) (hp2 : p.1 ≤ 1000000000000) (hq : q.2.1.Fits M) (hq2 : q.1 ≤ 1000000000000)
    (u v : Operand) (ho : o.op = .binOp .eql 182 u v t2) (hu : x.eval u = .agg (knL p).toArray) (hv : x.eval v = .agg (knL q).toArray) (h : K (x.put o.dst (.bool (same2 p q))) w) : o.wp Tryd.prog x w K Q :=
  wp_eql_row 182 t2 6 _ _ _ u v ho hu hv (by decide) (by kernel_rfl) sigKnown (by kernel_rfl) (by kernel_rfl) (by kernel_rfl) (fit_known hM hp hp2) (fit_known hM hq hq2) _ (knL_eq hp.used8 hp.idle8 hq.used8 hq.idle8) h
/-- what was told, all of it; one of it -/
def Told57 (l : List (Nat × St × Bool)) : List Value := knL (l.getD 0 kn0) ++ (knL (l.getD 1 kn0) ++ knL (l.getD 2 kn0))
theorem infoKnown : (Tryd.prog.info? 182).map (·.size) = some 19 := by kernel_rfl
theorem told57_length {l : List (Nat × St × Bool)} (h : ∀ k, (knL (l.getD k kn0)).length = 19) : (Told57 l).length = 57 := by unfold Told57; rw [List.length_append, List.length_append, h, h, h]
theorem told57_at {l : List (Nat × St × Bool)} (h : ∀ k, (knL (l.getD k kn0)).length = 19) {k i : Nat} (hk : k < 3) (hi : i < 19) : (Told57 l)[k * 19 + i]? = (knL (l.getD k kn0))[i]? := by
  have hc : k = 0 ∨ k = 1 ∨ k = 2 := by omega
  have h0 := h 0
  have h1 := h 1
  unfold Told57
  rcases hc with rfl | rfl | rfl
  · rw [List.getElem?_append_left (by omega)]; congr 1; omega
  · rw [List.getElem?_append_right (by omega), List.getElem?_append_left (by omega)]; congr 1; omega
  · rw [List.getElem?_append_right (by omega), List.getElem?_append_right (by omega)]; congr 1; omega
theorem take19 {l : List (Nat × St × Bool)} (h : ∀ k, (knL (l.getD k kn0)).length = 19) {k : Nat} (hk : k < 3) : ((Told57 l).drop (k * 19)).take 19 = knL (l.getD k kn0) := by
  apply List.ext_getElem?
  intro i
  by_cases hi : i < 19
  · rw [List.getElem?_take_of_lt hi, List.getElem?_drop, told57_at h hk hi]
  · rw [List.getElem?_eq_none (by simp; omega), List.getElem?_eq_none (by rw [h]; omega)]
end Go.Proofs.YtdhekhlmdefcnaaDoor
