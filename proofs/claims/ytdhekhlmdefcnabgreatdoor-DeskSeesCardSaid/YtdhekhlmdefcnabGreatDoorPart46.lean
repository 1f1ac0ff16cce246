/- Part 46 of the proof: DkSeesP. -/
import Derived.Test.YtdhekhlmdefcnabGreatDoorPart45
import Derived.Test.YtdhekhlmdefcnabGreatDoorPart18
namespace Go.Proofs.YtdhekhlmdefcnabGreatDoor
open Go.RowKit
def Nn (v : Vo) : Prop := ∀ c ∈ v.trace, (0 ≤ c.1 ∧ c.1 ≤ 1048576) ∧ (0 ≤ c.2.1 ∧ c.2.1 ≤ 1048576) ∧ (0 ≤ c.2.2 ∧ c.2.2 ≤ 1048576)
theorem may_two {f : List Int} (h : mayB f = true) (h2 : f.getD 0 0 = 2) : (0 ≤ (cmOf f).1 ∧ (cmOf f).1 ≤ 1048576) ∧ (0 ≤ (cmOf f).2.1 ∧ (cmOf f).2.1 ≤ 1048576) ∧ (0 ≤ (cmOf f).2.2 ∧ (cmOf f).2.2 ≤ 1048576) := by
 unfold mayB at h
 simp only [Bool.and_eq_true] at h
 have hi := h.1.2
 rw [h2] at hi
 have hx : ∀ i ∈ [0, 1, 2, 3, 4, 5], inB (f.getD i 0) = true := List.all_eq_true.1 hi
 have h3 := hx 3 (by decide)
 have h4 := hx 4 (by decide)
 have h5 := hx 5 (by decide)
 unfold inB at h3 h4 h5
 simp only [Bool.and_eq_true, decide_eq_true_eq] at h3 h4 h5
 exact ⟨h3, h4, h5⟩
theorem Nn.take {v : Vo} (h : Nn v) {f : List Int} (hm : mayB f = true) : Nn (voTake v f).1 := by
 unfold voTake
 split
 ·exact h
 rename_i hh
 split
 ·exact h
 split
 ·exact h
 split
 ·exact h
 rename_i hn
 dsimp only
 split
 ·intro c hc
  rcases List.mem_append.1 hc with hc | hc
  ·exact h c hc
  ·rw [List.mem_singleton.1 hc]
   refine may_two hm ?_
   have h1 : voHears v f = true := by simpa using hh
   unfold voHears at h1
   simp only [Bool.and_eq_true, Bool.or_eq_true, decide_eq_true_eq] at h1
   rcases h1.1.1.1.1 with h2 | h4
   ·exact h2
   ·exact absurd (.inr (.inr h4)) hn
 ·exact h
theorem Nn.tick {v : Vo} (h : Nn v) : Nn (voTick v) := by
 unfold voTick
 split
 ·exact h
 ·split
  ·exact h
  ·exact h
section
variable {s : Sys} {L : Lay}
theorem Nn.deliver (h : Nn s.v) (i : Nat) : Nn (Go.Proofs.YtdhekhlmdefcnabGreatDoor.deliver L s i).v := by
 unfold Go.Proofs.YtdhekhlmdefcnabGreatDoor.deliver
 split
 ·exact h
 ·dsimp only
  split
  ·rename_i hc
   have hm := dec_may hc.1
   split
   ·rw [foldl_all_v]
    exact h.take hm
   ·rw [foldl_send_v]
    exact h
  ·exact h
theorem Nn.flows : ∀ (n : Nat) {s : Sys}, Nn s.v → Nn (Go.Proofs.YtdhekhlmdefcnabGreatDoor.flows L s n).v
 | 0, _, h => h
 | n + 1, _, h => by
  unfold Go.Proofs.YtdhekhlmdefcnabGreatDoor.flows
  split
  ·exact h
  ·exact Nn.flows n (h.deliver 0)
theorem Nn.half (h : Nn s.v) (N : Nat) : Nn (halfRound L N s).v := Nn.flows N (by rw [tickR_v, tickR_v, tickR_v]; exact h)
theorem Nn.calm (N : Nat) : ∀ (n : Nat) {s : Sys}, Nn s.v → Nn (Go.Proofs.YtdhekhlmdefcnabGreatDoor.calm L N s n).v
 | 0, _, h => h
 | n + 1, s, h => by
  have h3 : Nn (halfRound L N (halfRound L N (Go.Proofs.YtdhekhlmdefcnabGreatDoor.flows L s N))).v := ((Nn.flows N h).half N).half N
  unfold Go.Proofs.YtdhekhlmdefcnabGreatDoor.calm
  exact Nn.calm N n (s := { halfRound L N (halfRound L N (Go.Proofs.YtdhekhlmdefcnabGreatDoor.flows L s N)) with v := voTick (halfRound L N (halfRound L N (Go.Proofs.YtdhekhlmdefcnabGreatDoor.flows L s N))).v }) h3.tick
end
def seeS (k c u : Nat) : By := [115, 101, 101, 32] ++ Lib.decDigits k ++ [32] ++ Lib.decDigits c ++ [32] ++ Lib.decDigits u
def calmS (r : Nat) : By := [99, 97, 108, 109, 32] ++ Lib.decDigits r
def traceS : By := [116, 114, 97, 99, 101]
def seesTo (c u : Nat) : Nat → By
 | 0 => []
 | k + 1 => seesTo c u k ++ (seeS k c u ++ [10])
def allT (c u r : Nat) : By := seesTo c u 3 ++ calmS r ++ (10 :: traceS)
def parse (s : ByteArray) : Option (Cmd × List ByteArray) := match fieldsB s with
 | [] => none
 | a :: l => (cmdL.find? (isNm a.data.toList)).map fun p => (p.2.1, l)
theorem parse_line {s : ByteArray} {c : Cmd} {l : List ByteArray} (h : parse s = some (c, l)) (d : Dk) : lineOf d s = ((does' c d l).1, anT (does' c d l).2) := by
 unfold parse at h
 unfold lineOf
 split at h
 ·cases h
 ·rename_i a l' hf
  rw [hf]
  cases hc : cmdL.find? (isNm a.data.toList) with
  | none => rw [hc] at h; cases h
  | some p =>
   rw [hc] at h
   injection h with h
   injection h with h1 h2
   subst h1; subst h2
   dsimp only
   rw [hc]
def isSee : Option (Cmd × List ByteArray) → List Int → Bool
 | some (.see, l), n => decide (numsOf l 3 = some n)
 | _, _ => false
def isCalm : Option (Cmd × List ByteArray) → List Int → Bool
 | some (.calm, l), n => decide (numsOf l 1 = some n)
 | _, _ => false
def isTrace : Option (Cmd × List ByteArray) → Bool
 | some (.trace, l) => decide (numsOf l 0 = some [])
 | _ => false
theorem isSee_of : ∀ {o : Option (Cmd × List ByteArray)} {n : List Int}, isSee o n = true → ∃ l, o = some (.see, l) ∧ numsOf l 3 = some n
 | some (.see, l), _, h => ⟨l, rfl, of_decide_eq_true h⟩
theorem isCalm_of : ∀ {o : Option (Cmd × List ByteArray)} {n : List Int}, isCalm o n = true → ∃ l, o = some (.calm, l) ∧ numsOf l 1 = some n
 | some (.calm, l), _, h => ⟨l, rfl, of_decide_eq_true h⟩
theorem isTrace_of : ∀ {o : Option (Cmd × List ByteArray)}, isTrace o = true → ∃ l, o = some (.trace, l) ∧ numsOf l 0 = some []
 | some (.trace, l), h => ⟨l, rfl, of_decide_eq_true h⟩
def seeOk (k c u : Nat) : Bool := isSee (parse ⟨(seeS k c u).toArray⟩) [(k : Int), (c : Int), (u : Int)] && decide (Lib.indexByte (seeS k c u) 10 < 0)
def calmOk (r : Nat) : Bool := isCalm (parse ⟨(calmS r).toArray⟩) [(r : Int)] && decide (Lib.indexByte (calmS r) 10 < 0)
theorem see_all : ((List.range 3).all fun k => (List.range 16).all fun c => (List.range 8).all fun u => seeOk k c u) = true := by kernel_rfl
theorem calm_all : ((List.range 8).all fun r => calmOk r) = true := by kernel_rfl
theorem trace_ok : isTrace (parse ⟨traceS.toArray⟩) = true := by kernel_rfl
theorem see_ok {k c u : Nat} (hk : k < 3) (hc : c < 16) (hu : u < 8) : seeOk k c u = true :=
 List.all_eq_true.1 (List.all_eq_true.1 (List.all_eq_true.1 see_all k (List.mem_range.2 hk)) c (List.mem_range.2 hc)) u (List.mem_range.2 hu)
theorem no_nl (l : By) (h : Lib.indexByte l 10 < 0) : piecesB (⟨l.toArray⟩ : ByteArray).size ⟨l.toArray⟩ = [⟨l.toArray⟩] := piecesB_none (r := ⟨l.toArray⟩) h
theorem line_nl (l : By) (h : Lib.indexByte l 10 < 0) (m : By) (hm : m ≠ []) : linesOf ⟨(l ++ 10 :: m).toArray⟩ = ⟨l.toArray⟩ :: linesOf ⟨m.toArray⟩ := by
 have e : (⟨(l ++ 10 :: m).toArray⟩ : ByteArray) = ⟨l.toArray⟩ ++ nl ++ ⟨m.toArray⟩ := by
  apply ByteArray.ext
  apply Array.ext'
  rw [app_list, app_list]
  simp [nl]
 rw [e, linesOf_app _ _ hm, linesOf_nl, no_nl l h, List.singleton_append]
theorem line_one (l : By) (h : Lib.indexByte l 10 < 0) (hl : Lib.hasSuffix l [10] = false) : linesOf ⟨l.toArray⟩ = [⟨l.toArray⟩] := by
 unfold linesOf
 have e : Lib.trimSuffix (⟨l.toArray⟩ : ByteArray).data.toList [10] = l := by
  show Lib.trimSuffix l [10] = l
  unfold Lib.trimSuffix
  rw [hl]
  rfl
 rw [e]
 exact no_nl l h
theorem allT_lines {c u r : Nat} (hc : c < 16) (hu : u < 8) (hr : r < 8) : linesOf ⟨(allT c u r).toArray⟩ = [⟨(seeS 0 c u).toArray⟩, ⟨(seeS 1 c u).toArray⟩, ⟨(seeS 2 c u).toArray⟩, ⟨(calmS r).toArray⟩, ⟨traceS.toArray⟩] := by
 have h : ∀ k, k < 3 → Lib.indexByte (seeS k c u) 10 < 0 := fun k hk => by
  have := see_ok hk hc hu
  unfold seeOk at this
  rw [Bool.and_eq_true] at this
  exact of_decide_eq_true this.2
 have h3 : Lib.indexByte (calmS r) 10 < 0 := by
  have := List.all_eq_true.1 calm_all r (List.mem_range.2 hr)
  unfold calmOk at this
  rw [Bool.and_eq_true] at this
  exact of_decide_eq_true this.2
 have e : allT c u r = seeS 0 c u ++ 10 :: (seeS 1 c u ++ 10 :: (seeS 2 c u ++ 10 :: (calmS r ++ 10 :: traceS))) := by
  unfold allT seesTo seesTo seesTo seesTo
  simp
 rw [e, line_nl _ (h 0 (by decide)) _ (by simp [seeS]), line_nl _ (h 1 (by decide)) _ (by simp [seeS]), line_nl _ (h 2 (by decide)) _ (by simp [calmS]), line_nl _ h3 _ (by simp [traceS]), line_one traceS (by decide) (by decide)]
def seen3 (c u : Nat) : Nat → Sys
 | 0 => Sys.new 10
 | k + 1 => sysSee (seen3 c u k) k ((c : Int), (u : Int))
theorem run_cons (d : Dk) (s : ByteArray) (l : List ByteArray) : (runD d (s :: l)).2 = (lineOf d s).2 ++ [10] ++ (runD (lineOf d s).1 l).2 := by
 have := runD_app d [s] l
 rw [List.singleton_append] at this
 rw [this]
 rfl
theorem see_line {k c u : Nat} (hk : k < 3) (hc : c < 16) (hu : u < 8) (d : Dk) : lineOf d ⟨(seeS k c u).toArray⟩ = ({ d with s := sysSee d.s k ((c : Int), (u : Int)) }, [115, 101, 101]) := by
 have h := see_ok hk hc hu
 unfold seeOk at h
 rw [Bool.and_eq_true] at h
 obtain ⟨l, h1, h2⟩ := isSee_of h.1
 rw [parse_line h1 d]
 have e : does' .see d l = ({ d with s := sysSee d.s k ((c : Int), (u : Int)) }, .txt [115, 101, 101]) := by
  simp only [does', h2]
  have hi : isRep (at0 [(k : Int), (c : Int), (u : Int)]) = true := by
   unfold isRep at0
   simp
   omega
  unfold dOne
  rw [hi]
  rfl
 rw [e]
 rfl
theorem calm_line {r : Nat} (hr : r < 8) (d : Dk) : lineOf d ⟨(calmS r).toArray⟩ = ({ d with s := calm d.L 1200 d.s r }, [99, 97, 108, 109]) := by
 have h := List.all_eq_true.1 calm_all r (List.mem_range.2 hr)
 unfold calmOk at h
 rw [Bool.and_eq_true] at h
 obtain ⟨l, h1, h2⟩ := isCalm_of h.1
 rw [parse_line h1 d]
 have e : does' .calm d l = ({ d with s := calm d.L 1200 d.s r }, .txt [99, 97, 108, 109]) := by
  simp only [does', h2]
  have hi : (decide (0 ≤ at0 [(r : Int)]) && decide (at0 [(r : Int)] ≤ 100)) = true := by
   unfold at0
   simp
   omega
  have ha : (at0 [(r : Int)]).toNat = r := by
   unfold at0
   simp
  unfold dOne
  rw [hi, ha]
  rfl
 rw [e]
 generalize calm d.L 1200 d.s r = z
 rfl
theorem trace_line (d : Dk) : lineOf d ⟨traceS.toArray⟩ = (d, Lib.join (d.s.v.trace.map cmText) [44, 32]) := by
 obtain ⟨l, h1, h2⟩ := isTrace_of trace_ok
 rw [parse_line h1 d]
 have e : does' .trace d l = (d, .txt (Lib.join (d.s.v.trace.map cmText) [44, 32])) := by
  simp only [does', h2]
 rw [e]
 rfl
theorem sees_answers {c u r : Nat} (hc : c < 16) (hu : u < 8) (hr : r < 8) (N : Nat) (hN : N = 1200) : (runD desk0 (linesOf ⟨(allT c u r).toArray⟩)).2 =
  [115, 101, 101, 10, 115, 101, 101, 10, 115, 101, 101, 10, 99, 97, 108, 109, 10] ++ Lib.join ((calm deskL N (seen3 c u 3) r).v.trace.map cmText) [44, 32] ++ [10] := by
 rw [allT_lines hc hu hr, run_cons, see_line (by decide) hc hu, run_cons, see_line (by decide) hc hu, run_cons, see_line (by decide) hc hu, run_cons, calm_line hr, run_cons, trace_line, ← hN]
 have e0 : ∀ d : Dk, (runD d []).2 = [] := fun _ => rfl
 have e1 : sysSee (sysSee (sysSee desk0.s 0 ((c : Int), (u : Int))) 1 ((c : Int), (u : Int))) 2 ((c : Int), (u : Int)) = seen3 c u 3 := rfl
 dsimp only
 rw [e0, e1]
 show _ = _ ++ Lib.join (List.map cmText (calm deskL N (seen3 c u 3) r).v.trace) [44, 32] ++ [10]
 have e2 : desk0.L = deskL := rfl
 rw [e2]
 generalize Lib.join (List.map cmText (calm deskL N (seen3 c u 3) r).v.trace) [44, 32] = z
 simp
theorem seen3_fine (c u : Nat) (hc : c < 16) (hu : u < 8) : ∀ k, k ≤ 3 → Fine 0 (seen3 c u k)
 | 0, _ => new_fine (by decide) (by decide)
 | k + 1, h => (seen3_fine c u hc hu k (by omega)).see (by omega) ⟨I64.nat (by omega), I64.nat (by omega)⟩
theorem seen3_trace (c u : Nat) : ∀ k, (seen3 c u k).v.trace = []
 | 0 => rfl
 | k + 1 => seen3_trace c u k
theorem sees_nn (c u r N : Nat) : Nn (calm deskL N (seen3 c u 3) r).v := Nn.calm N r (fun x hx => by rw [seen3_trace] at hx; cases hx)
def cmS (c : Cm) : By := Lib.decDigits c.1.toNat ++ [32] ++ Lib.decDigits c.2.1.toNat ++ [32] ++ Lib.decDigits c.2.2.toNat
theorem cmS_text {c : Cm} (h1 : 0 ≤ c.1) (h2 : 0 ≤ c.2.1) (h3 : 0 ≤ c.2.2) : cmText c = cmS c := by
 have e : ∀ n : Int, 0 ≤ n → Lib.itoa n = Lib.decDigits n.toNat := fun n hn => by
  unfold Lib.itoa
  rw [if_neg (by omega)]
 unfold cmText cmS joinI
 rw [List.map_cons, List.map_cons, List.map_cons, List.map_nil, e _ h1, e _ h2, e _ h3, Lib.join_cons]
 simp [Lib.joinTail]
def ansTo (l : List Cm) : Nat → By
 | 0 => []
 | i + 1 => (if 0 < i then ansTo l i ++ [44, 32] else ansTo l i) ++ cmS (l.getD i Cm.zero)
theorem ansTo_join (l : List Cm) : ∀ i, i ≤ l.length → ansTo l i = Lib.join ((l.take i).map cmS) [44, 32]
 | 0, _ => rfl
 | i + 1, h => by
  have ih := ansTo_join l i (by omega)
  have hx : l[i]? = some (l.getD i Cm.zero) := by
   rw [List.getD_eq_getElem?_getD, List.getElem?_eq_getElem (by omega)]
   rfl
  unfold ansTo
  rw [ih, List.take_add_one, hx, Option.toList_some, List.map_append, List.map_cons, List.map_nil]
  generalize cmS (l.getD i Cm.zero) = x
  cases i with
  | zero => simp [Lib.join_nil, Lib.join_one]
  | succ i =>
   rw [if_pos (by omega)]
   cases hm : (l.take (i + 1)).map cmS with
   | nil =>
    have := congrArg List.length hm
    rw [List.length_map, List.length_take, List.length_nil] at this
    omega
   | cons y ys =>
    rw [List.cons_append, Lib.join_cons, Lib.join_cons]
    simp [Lib.joinTail]
theorem ansTo_all {l : List Cm} (h : ∀ c ∈ l, (0 ≤ c.1 ∧ c.1 ≤ 1048576) ∧ (0 ≤ c.2.1 ∧ c.2.1 ≤ 1048576) ∧ (0 ≤ c.2.2 ∧ c.2.2 ≤ 1048576)) : ansTo l l.length = Lib.join (l.map cmText) [44, 32] := by
 rw [ansTo_join l _ (Nat.le_refl _), List.take_length]
 congr 1
 exact List.map_congr_left fun c hc => (cmS_text (h c hc).1.1 (h c hc).2.1.1 (h c hc).2.2.1).symm
theorem dec_len {n : Nat} (h : n ≤ 1048576) : (Lib.decDigits n).length ≤ 21 := by
 have := Lib.itoa_length_le ((n : Nat) : Int) (by omega) (by omega)
 unfold Lib.itoa at this
 rw [if_neg (by omega), Int.toNat_natCast] at this
 exact this
theorem ansTo_len {l : List Cm} (h : ∀ c ∈ l, (0 ≤ c.1 ∧ c.1 ≤ 1048576) ∧ (0 ≤ c.2.1 ∧ c.2.1 ≤ 1048576) ∧ (0 ≤ c.2.2 ∧ c.2.2 ≤ 1048576)) : ∀ i, i ≤ l.length → (ansTo l i).length ≤ 67 * i
 | 0, _ => Nat.le_refl _
 | i + 1, hi => by
  have ih := ansTo_len h i (by omega)
  have hx : l.getD i Cm.zero ∈ l := by
   rw [List.getD_eq_getElem?_getD, List.getElem?_eq_getElem (by omega)]
   exact List.getElem_mem _
  have hc := h _ hx
  have a1 := dec_len (n := (l.getD i Cm.zero).1.toNat) (by omega)
  have a2 := dec_len (n := (l.getD i Cm.zero).2.1.toNat) (by omega)
  have a3 := dec_len (n := (l.getD i Cm.zero).2.2.toNat) (by omega)
  unfold ansTo cmS
  split <;> simp only [List.length_append, List.length_cons, List.length_nil] <;> omega
theorem seesTo_len {c u : Nat} (hc : c ≤ 1048576) (hu : u ≤ 1048576) : ∀ k, k ≤ 3 → (seesTo c u k).length ≤ 10000 := fun k hk => by
 have h : ∀ k, k ≤ 3 → (seesTo c u k).length ≤ 100 * k := fun k => by
  induction k with
  | zero => intro _; exact Nat.le_refl _
  | succ k ih =>
   intro hk
   have := ih (by omega)
   have d0 := dec_len (n := k) (by omega)
   have d1 := dec_len hc
   have d2 := dec_len hu
   unfold seesTo seeS
   simp only [List.length_append, List.length_cons, List.length_nil]
   omega
 have := h k hk
 omega
end Go.Proofs.YtdhekhlmdefcnabGreatDoor
