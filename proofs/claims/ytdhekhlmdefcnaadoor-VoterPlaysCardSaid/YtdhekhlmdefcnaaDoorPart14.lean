/- Part 14 of the proof: Line, Ops, TabG. -/
import Derived.Test.YtdhekhlmdefcnaaDoorPart13
import Derived.Test.YtdhekhlmdefcnaaDoorPart2
import Derived.Test.YtdhekhlmdefcnaaDoorPart6
/- Walks over the statements' own helpers: pick, line. -/
namespace Go.Proofs.YtdhekhlmdefcnaaDoor
open Go.RowKit

def pk (a n : Int) : Int := (a % 18446744073709551616) % n
theorem pk_in (a n : Int) (h : 0 < n) : 0 ≤ pk a n ∧ pk a n < n := ⟨Int.emod_nonneg _ (by omega), Int.emod_lt_of_pos _ h⟩
theorem pk_walk (a n : Int) (h : 0 < n) (hn : n ≤ 4611686018427387904) : wrap64 ((IntKind.u64.wrap a).tmod n) = pk a n := by
  rw [IntKind.wrap_u64, Int.tmod_eq_emod_of_nonneg (by omega)]
  have := pk_in a n h
  unfold pk at *
  exact IntWalk.wrap64_in _ (by omega)
theorem pick_any (a n : Int) (h : 0 < n) (hn : n ≤ 4611686018427387904) (w : World) :
    Calls Tryd.prog 24 #[.int .i64 a, .int .i64 n] w fun e w' => e = .returned (I (pk a n)) ∧ w = w' := by
  have HP := Lib.hid (pk_walk a n h hn)
  go_enter Tryd.func24, Tryd.ntmps24
  go_wp2
  go_ret
  exact ⟨by rw [← HP.out]; rfl, rfl⟩
/-- What line makes. -/
structure Part (s : Nat) (rs : List Nat) : Prop where
  many : rs.length ≤ 8
  low : ∀ r ∈ rs, 1 ≤ r
  high : ∀ r ∈ rs, r < 2 ^ s
  apart : rs.Nodup
set_option maxHeartbeats 4000000 in
set_option maxRecDepth 100000 in
theorem line_any (a d : Int) (A : Option Addr) (c : Nat) (xs : List Int) (w : World) (hx : xs.length ≤ 30) (hr : Reads w w.heap.size A (ints xs)) :
    Calls Tryd.prog 13 #[I a, I d, .slice A xs.length c] w fun e w' =>
      (∃ L : Lay, L.Ok ∧ ∃ A1 c1, e = .returned (.agg #[I L.secs, .slice A1 L.routes.length c1, I L.delay]) ∧ w'.ownsRow w.heap.size 3 1 (.slice A1 L.routes.length c1) L.routes.length (ints (zs L.routes))) ∧ Below w.heap.size w w' := by
  obtain ⟨i0, hi0, hz0, hz1, hz2⟩ := info_parts infoInt
  obtain ⟨p1, p2⟩ := pk_in a 12 (by decide)
  obtain ⟨d1, d2⟩ := pk_in d 21 (by decide)
  go_enter Tryd.func13, Tryd.ntmps13
  go_wp2_with (go_at_call 24; refine (pick_any _ _ (by decide) (by decide) _).mono ?_; rintro e w1 ⟨rfl, rfl⟩)
  obtain ⟨s, hs⟩ : ∃ s : Nat, 1 + pk a 12 = s := ⟨(1 + pk a 12).toNat, by omega⟩
  obtain ⟨dl, hdl⟩ : ∃ s : Nat, pk d 21 = s := ⟨(pk d 21).toNat, by omega⟩
  have hs1 : 1 ≤ s := by omega
  have hs12 : s ≤ 12 := by omega
  have hd20 : dl ≤ 20 := by omega
  have kl := Has.new' (w.alloc (.cells #[I 0, .slice none 0 0, I 0] 25)) 25 #[I (1 + pk a 12), .slice none 0 0, I (pk d 21)] (w.heap.size + 1) (by simp)
  have hb : Below w.heap.size w ((w.alloc (.cells #[I 0, .slice none 0 0, I 0] 25)).alloc (.cells #[I (1 + pk a 12), .slice none 0 0, I (pk d 21)] 25)) :=
    ((Below.refl _ _).alloc (Nat.le_refl _) _).alloc (by simp) _
  have kr := Has.new' w 25 #[I 0, .slice none 0 0, I 0] w.heap.size rfl |>.alloc (.cells #[I (1 + pk a 12), .slice none 0 0, I (pk d 21)] 25)
  generalize ((w.alloc (.cells #[I 0, .slice none 0 0, I 0] 25)).alloc (.cells #[I (1 + pk a 12), .slice none 0 0, I (pk d 21)] 25)) = w0 at *
  generalize 1 + pk a 12 = z1 at *
  generalize pk d 21 = z2 at *
  subst hs
  subst hdl
  clear p1 p2 d1 d2
  go_loopw [8] (fun i wr => ∃ (k : Nat) (rs : List Nat) (v : Value), k ≤ xs.length ∧ i = I k ∧ Hid (Part s rs) ∧ Has wr (w.heap.size + 1) 25 #[I s, v, I dl] ∧
    Has wr w.heap.size 25 #[I 0, .slice none 0 0, I 0] ∧ wr.ownsRow w0.heap.size 3 1 v rs.length (ints (zs rs)) ∧ Below w.heap.size w wr ∧ w0.heap.size ≤ wr.heap.size) (fun i _ => xs.length - (intOf i).toNat)
  case atStart => exact ⟨0, [], _, by omega, rfl, ⟨by simp, by simp, by simp, by simp⟩, kl, kr, World.ownsRow_nil _ _ _ _, hb, Nat.le_refl _⟩
  case round =>
    clear kl kr
    obtain ⟨k, rs, v, hk, rfl, hP, kl, kr, hown, hbr, hsz⟩ := hrel
    have hlw := kr.lt
    have hlw2 := kl.lt
    obtain ⟨A1, c1, rfl, hc1, -, hrd⟩ := own_reads hown
    have l0 := kl.cellv 0 _ rfl
    have l1 := kl.cellv 1 _ rfl
    have l2 := kl.cellv 2 _ rfl
    have f1 := kl.free 1
    by_cases hlt : k < xs.length
    · by_cases h8 : rs.length < 8
      · obtain ⟨x, hx⟩ := some_at xs k hlt
        obtain ⟨bb, oo, rfl, hbb, hcell⟩ := (hr.below hbr).at_ hx
        clear hx
        obtain ⟨p1, p2⟩ := pk_in x (2 ^ s - 1 : Nat) (by have := Nat.pow_le_pow_right (n := 2) (by decide) hs1; omega)
        have HPk : Hid (∀ W, Calls Tryd.prog 24 #[I x, I (wrap64 (wrap64 (2 ^ s) - 1))] W fun e w' => e = .returned (I (pk x (2 ^ s - 1 : Nat))) ∧ w' = W) := Lib.hid (fun W => by
          rw [wrap_pow s hs12]
          have hp : (2 : Nat) ^ s ≤ 2 ^ 12 := Nat.pow_le_pow_right (by decide) hs12
          exact (pick_any x (2 ^ s - 1 : Nat) (by omega) (by omega) W).mono fun _ _ ⟨h1, h2⟩ => ⟨h1, h2.symm⟩)
        obtain ⟨r, hr1⟩ : ∃ r : Nat, pk x (2 ^ s - 1 : Nat) = r := ⟨(pk x (2 ^ s - 1 : Nat)).toNat, by omega⟩
        rw [hr1] at HPk p1 p2
        have hp : (2 : Nat) ^ s ≤ 2 ^ 12 := Nat.pow_le_pow_right (by decide) hs12
        have hrlt : r + 1 < 2 ^ s := by omega
        have hr4 : r + 1 < 4096 := by omega
        have HR := Lib.hid hrlt
        clear hr1 p1 p2 hp hrlt
        go_wp2_with fail
        go_quiet ((go_at_call 24; exact Calls.quiet_of_same (HPk.out _)))
        go_wp2_with fail
        have kl := kl.drewN nq
        have kr := kr.drewN nq
        have hown : (wr.drewN nq).ownsRow w0.heap.size 3 1 (.slice A1 rs.length c1) rs.length (ints (zs rs)) := hown
        have hbr := below_drewN hbr nq
        have hsz : w0.heap.size ≤ (wr.drewN nq).heap.size := hsz
        have hlw : w.heap.size < (wr.drewN nq).heap.size := hlw
        clear hlw2
        have hrd : Reads (wr.drewN nq) (wr.drewN nq).heap.size A1 (ints (zs rs)) := hrd
        clear hcell l0 l1 l2 f1 HPk
        generalize wr.drewN nq = wq at *
        have l1 := kl.cellv 1 _ rfl
        go_loop [10, 11] (fun t j => ∃ l : Nat, l ≤ rs.length ∧ j = I l ∧ t = .bool ((rs.take l).contains (r + 1))) (fun _ j => rs.length - (intOf j).toNat)
        case atStart => exact ⟨0, by omega, rfl, rfl⟩
        case round =>
          obtain ⟨l, hl, rfl, rfl⟩ := hrel
          by_cases hlt2 : l < rs.length
          · obtain ⟨q, hq⟩ := some_at rs l hlt2
            obtain ⟨b2, o2, rfl, hb2, hcell2⟩ := hrd.at_ (zs_some hq)
            have HT : Hid ((rs.take (l + 1)).contains (r + 1) = ((rs.take l).contains (r + 1) || ((q : Int) == 1 + (r : Int)))) := Lib.hid (by
              obtain ⟨hlq, hq'⟩ := List.getElem?_eq_some_iff.1 hq
              rw [List.take_succ_eq_append_getElem hlq, List.contains_append, hq']
              congr 1
              rw [Bool.eq_iff_iff]
              simp
              omega)
            clear hq
            cases htw : (rs.take l).contains (r + 1) with
            | true =>
              rw [htw] at HT
              clear htw
              go_wp2_with fail
              go_round
              case rel => exact ⟨l + 1, by omega, by go_num, by rw [HT.out]; rfl⟩
              case measure => simp [intOf]; omega
            | false =>
              rw [htw] at HT
              clear htw
              go_wp2_with fail
              go_round
              case rel => exact ⟨l + 1, by omega, by go_num, by rw [HT.out]; rfl⟩
              case measure => simp [intOf]; omega
          · have hlr : l = rs.length := by omega
            have HTk : Hid (rs.take l = rs) := Lib.hid (by rw [hlr, List.take_length])
            have e := HTk.out
            rw [e]
            clear e hlr
            cases htw : rs.contains (r + 1) with
            | true =>
              clear htw
              go_wp2_with fail
              go_roundw
              case rel => exact ⟨k + 1, rs, _, by omega, by go_num, hP, kl, kr, hown, hbr, hsz⟩
              case measure => simp [intOf]; omega
            | false =>
              have HN := Lib.hid htw
              clear htw
              go_wp2_with (at_builtin; refine wpList_append_own _ rfl _ _ 22 rfl w0.heap.size 3 i0 (.int .i64 0) 1 8 Tryd.underlying22 hi0 hz0 hz1 hz2 rfl (by decide) _ _ _ rfl (hown.alloc _) ⟨wq.heap.size, 0, none⟩ 1 1 [I (1 + r)] rfl rfl ?c1 ?c2 ?c3 ?c4 ?c5 ?_)
              case c2 => rfl
              case c3 => unfold maxLen; omega
              case c4 => omega
              case c5 => omega
              intro v' w3 hown3 hg3 _
              obtain ⟨A3, c3, rfl, hc3, -, _⟩ := own_reads hown3
              have kl3 := (kl.alloc (.cells #[I (1 + r)] 3)).grown hg3 (own_ne hown kl (by decide))
              have kr3 := (kr.alloc (.cells #[I (1 + r)] 3)).grown hg3 (own_ne hown kr (by decide))
              have hz3 : w0.heap.size ≤ w3.heap.size := by have := hg3.size; simp at this; omega
              have hb3 : Below w.heap.size w w3 := (hbr.alloc (Nat.le_of_lt hlw) _).grown hg3 (by simp; omega) (fun q hq => by have := (hown.lt q hq).1; have := hb.size; omega)
              have l0 := kl3.cellv 0 _ rfl
              have l1' := kl3.cellv 1 _ rfl
              have f1 := kl3.free 1
              clear hown l1
              go_wp2_with fail
              go_roundw
              case rel =>
                refine ⟨k + 1, rs ++ [r + 1], .slice A3 (rs.length + 1) c3, by omega, by go_num, ?_, ?_, kr3.far (by simp) _, ?_, hb3.setCell (by simp) _, by simpa using hz3⟩
                · obtain ⟨q1, q2, q3, q4⟩ := hP.out
                  refine ⟨by simp; omega, ?_, ?_, ?_⟩
                  · intro x hx
                    rcases List.mem_append.1 hx with h | h
                    · exact q2 x h
                    · simp at h; omega
                  · intro x hx
                    rcases List.mem_append.1 hx with h | h
                    · exact q3 x h
                    · simp at h; have := HR.out; omega
                  · rw [List.nodup_append]
                    refine ⟨q4, by simp, ?_⟩
                    intro x hx y hy
                    have := HN.out
                    simp at hy this
                    rintro rfl
                    rw [hy] at hx
                    exact this hx
                · have := kl3.set 1 (.slice A3 (rs.length + 1) c3)
                  exact this
                · have e : ints (zs (rs ++ [r + 1])) = ints (zs rs) ++ [I (1 + r)] := by simp [ints, zs]; omega
                  rw [e, List.length_append, List.length_singleton]
                  exact own_far hown3 kl3 (by decide) 1 _
              case measure => simp [intOf]; omega
      · have kf0 := kr.cellv 0 _ rfl
        have kf1 := kr.cellv 1 _ rfl
        have kf2 := kr.cellv 2 _ rfl
        have g0 := kr.free 0
        have g1 := kr.free 1
        have g2 := kr.free 2
        have t0 : ((rs.length : Int) == 0) = false := by rw [beq_eq_false_iff_ne]; omega
        obtain ⟨q1, q2, q3, q4⟩ := hP.out
        clear q1
        have Q2 := Lib.hid q2
        have Q3 := Lib.hid q3
        have Q4 := Lib.hid q4
        have hN1 : 1 ≤ rs.length := by omega
        have hN8 : rs.length ≤ 8 := hP.out.many
        clear q2 q3 q4
        go_wp2_with fail
        refine bodyPost_ret (results_cell_row rfl _ _ w.heap.size 25 #[I s, .slice A1 rs.length c1, I dl] (0, 0) _ rfl (((kr.set 0 (I s)).set 1 (.slice A1 rs.length c1)).set 2 (I dl)) Tryd.underlying25 rfl (by kernel_rfl)) rfl
          ⟨⟨⟨s, rs, dl⟩, ⟨hs1, hs12, hN1, hN8, hd20, Q2.out, Q3.out, Q4.out⟩, A1, c1, rfl, own_base (own_far (own_far (own_far hown kr (by decide) 0 _) (kr.set 0 _) (by decide) 1 _) ((kr.set 0 _).set 1 _) (by decide) 2 _) hb.size⟩,
            ((hbr.setCell (Nat.le_refl _) _).setCell (Nat.le_refl _) _).setCell (Nat.le_refl _) _⟩
    · have kf0 := kr.cellv 0 _ rfl
      have kf1 := kr.cellv 1 _ rfl
      have kf2 := kr.cellv 2 _ rfl
      have g0 := kr.free 0
      have g1 := kr.free 1
      have g2 := kr.free 2
      by_cases h0 : rs.length = 0
      · have hrs : rs.length = 0 := h0
        have t0 : ((rs.length : Int) == 0) = true := by simp [h0]
        clear h0
        go_wp2_with fail
        have kr1 := kr.far (p := ⟨w.heap.size + 1, 1, none⟩) (by simp) (.slice (some ⟨wr.heap.size, 0, none⟩) 1 1)
        have kr2 := ((kr1.set 0 (I s)).set 1 (.slice (some ⟨wr.heap.size, 0, none⟩) 1 1)).set 2 (I dl)
        have ho : ∀ W : World, W.heap.size = wr.heap.size → (W.alloc (.cells #[I 1] 3)).ownsRow w.heap.size 3 1 (.slice (some ⟨wr.heap.size, 0, none⟩) 1 1) 1 [I 1] := fun W hW => by
          rw [← hW]
          exact World.ownsRow_lit W #[I 1] 1 (by rw [hW]; omega) (by unfold maxLen; omega) rfl
        refine bodyPost_ret (results_cell_row rfl _ _ w.heap.size 25 #[I s, .slice (some ⟨wr.heap.size, 0, none⟩) 1 1, I dl] (0, 0) _ rfl (kr2.alloc _) Tryd.underlying25 rfl (by kernel_rfl)) rfl
          ⟨⟨⟨s, [1], dl⟩, ⟨hs1, hs12, by simp, by simp, hd20, by simp, ?_, by simp⟩, some ⟨wr.heap.size, 0, none⟩, 1, rfl, ho _ (by simp)⟩,
            ((((hbr.setCell (by simp) _).setCell (Nat.le_refl _) _).setCell (Nat.le_refl _) _).setCell (Nat.le_refl _) _).alloc (by simp; omega) _⟩
        intro r hr
        have : r = 1 := by simpa using hr
        subst this
        exact Nat.lt_of_lt_of_le (by decide : 1 < 2 ^ 1) (Nat.pow_le_pow_right (by decide) hs1)
      · have t0 : ((rs.length : Int) == 0) = false := by rw [beq_eq_false_iff_ne]; omega
        obtain ⟨q1, q2, q3, q4⟩ := hP.out
        clear q1
        have Q2 := Lib.hid q2
        have Q3 := Lib.hid q3
        have Q4 := Lib.hid q4
        have hN1 : 1 ≤ rs.length := by omega
        have hN8 : rs.length ≤ 8 := hP.out.many
        clear q2 q3 q4
        go_wp2_with fail
        refine bodyPost_ret (results_cell_row rfl _ _ w.heap.size 25 #[I s, .slice A1 rs.length c1, I dl] (0, 0) _ rfl (((kr.set 0 (I s)).set 1 (.slice A1 rs.length c1)).set 2 (I dl)) Tryd.underlying25 rfl (by kernel_rfl)) rfl
          ⟨⟨⟨s, rs, dl⟩, ⟨hs1, hs12, hN1, hN8, hd20, Q2.out, Q3.out, Q4.out⟩, A1, c1, rfl, own_base (own_far (own_far (own_far hown kr (by decide) 0 _) (kr.set 0 _) (by decide) 1 _) ((kr.set 0 _).set 1 _) (by decide) 2 _) hb.size⟩,
            ((hbr.setCell (Nat.le_refl _) _).setCell (Nat.le_refl _) _).setCell (Nat.le_refl _) _⟩
end Go.Proofs.YtdhekhlmdefcnaaDoor
/- Single operations over a frame of which only some slots are known. -/
namespace Go.Proofs.YtdhekhlmdefcnaaDoor
open Go.RowKit
section
variable {P : Program} {o : Oper} {a : Act} {w : World} {K : Act → World → Prop} {Q : Exit → Act → World → Prop}
theorem wp_extract_at (t n : Nat) (h : o.op = .extract (.tmp t) n) {vs : Array Value} (hx : a.tmps.getD t undef = .tuple vs) {v : Value} (hv : vs[n]? = some v)
    (hk : K (a.put o.dst v) w) : o.wp P a w K Q := by
  have hx' : a.eval (.tmp t) = .tuple vs := hx
  unfold Oper.wp execOp
  rw [h]
  simp only [hx', Instr.extract, hv, Sem.run_bind, Sem.run_pure, Result.andThen_ok, Oper.upon_value]
  exact hk
theorem wp_ok {n : Next} {w' : World} (h : (execOp a.eval o).run P w = .ok n w') (hk : o.upon P a K Q (.ok n w')) : o.wp P a w K Q := by
  unfold Oper.wp
  rw [h]
  exact hk
end
section
variable {ty : TypeId} {ps : String} {af : Array Edge} {g : Option (Nat × Bool)} {a : Act} {w : World} {K : Act → World → Prop} {Q : Exit → Act → World → Prop}
theorem wp_inIndex {bi oi n c k d s t : Nat} (hk : k < n) (e2 : a.tmps.getD s undef = .slice (some ⟨bi, oi, none⟩) n c) (e3 : a.tmps.getD t undef = I k) (h : K (a.put (some d) (.pointer (some ⟨bi, oi + k * 2, none⟩))) w) :
    Oper.wp Tryd.prog { dst := some d, op := .indexAddr 90 (.tmp s) (.tmp t), type := ty, pos := ps, after := af, guard := g } a w K Q := by
  have e2' : a.eval (.tmp s) = .slice (some ⟨bi, oi, none⟩) n c := e2
  have e3' : a.eval (.tmp t) = I k := e3
  go_simp
  exact h
theorem wp_inLoad {b o d s : Nat} {p q : Int} (h0 : w.cell? ⟨b, o, none⟩ = some (I p)) (h1 : w.cell? ⟨b, o + 1, none⟩ = some (I q)) (e3 : a.tmps.getD s undef = .pointer (some ⟨b, o, none⟩)) (h : K (a.put (some d) (.agg #[I p, I q])) w) :
    Oper.wp Tryd.prog { dst := some d, op := .load 35 (.tmp s), type := ty, pos := ps, after := af, guard := g } a w K Q := by
  have e3' : a.eval (.tmp s) = .pointer (some ⟨b, o, none⟩) := e3
  go_simp
  exact h
theorem wp_callStep {d s1 s2 s3 : Nat} {ts : Array TypeId} {x y z : Value} {R : Ending → World → Prop} (e1 : a.tmps.getD s1 undef = x) (e2 : a.tmps.getD s2 undef = y) (e3 : a.tmps.getD s3 undef = z)
    (hc : Calls Tryd.prog 49 #[x, y, z] w R) (h : ∀ e w', R e w' → ∃ v, e = .returned v ∧ K (a.put (some d) v) w') :
    Oper.wp Tryd.prog { dst := some d, op := .call { callee := .value (.func 49), args := #[.tmp s1, .tmp s2, .tmp s3], argTypes := ts }, type := ty, pos := ps, after := af, guard := g } a w K Q := by
  have e1' : a.eval (.tmp s1) = x := e1
  have e2' : a.eval (.tmp s2) = y := e2
  have e3' : a.eval (.tmp s3) = z := e3
  go_simp
  refine hc.mono ?_
  intro e w' hr
  obtain ⟨v, rfl, hk⟩ := h e w' hr
  exact hk
theorem wp_stAlloc {d : Nat} (h : K (a.put (some d) (.pointer (some ⟨w.heap.size, 0, none⟩))) (w.alloc (.cells (stC St.zero) 38))) :
    Oper.wp Tryd.prog { dst := some d, op := .alloc 38, type := ty, pos := ps, after := af, guard := g } a w K Q := by
  go_simp
  exact h
end
end Go.Proofs.YtdhekhlmdefcnaaDoor
/- A region that draws, by a table some of whose values are known only when they are there. -/
namespace Go.Proofs.YtdhekhlmdefcnaaDoor
open Go.RowKit
theorem getD_rep {n : Nat} (j : Nat) : (Array.replicate n false).getD j false = false := by
  rw [Array.getD_eq_getD_getElem?, Array.getElem?_replicate]
  split <;> rfl
section
variable {Γ : Type} {P : Program} {ops : Array Oper} {Q : Exit → Act → World → Prop}
/-- what an operation of the table must do: the ghost may turn, where it tells nothing of what is there -/
def DoesG (P : Program) (ops : Array Oper) (Q : Exit → Act → World → Prop) (V : Γ → Nat → Value) (WI : Γ → Array Bool → World → Prop) (S : List Nat) (a0 : Act) (i : Nat) (o : Oper) : Prop :=
  ∀ (γ : Γ) (li : Array Bool) (a : Act) (w : World), li.size = ops.size → li.getD i false = false → Frm S a0 a → (∀ e ∈ o.after, Region.binds .any e = true → li.getD e.on false = true) → Known ops (V γ) li a → WI γ li w →
    ∀ K : Act → World → Prop, (∀ γ' w', (∀ j, li.getD j false = true → V γ' j = V γ j) → WI γ' (li.setIfInBounds i true) w' → K (a.put o.dst (V γ' i)) w') → if Region.wanted o (yielded ops a.tmps) = true then Oper.wp P o a w K Q else K (a.put o.dst undef) w
theorem region_tabG {id : Nat} {w : World} {a0 : Act} (hm : P.follows .mixedOrders = true) (F : Act → Prop) (hF : F a0) (n : Nat) (hn : a0.tmps.size = n) (V : Γ → Nat → Value) (WI : Γ → Array Bool → World → Prop) (S : List Nat)
    (hd : dstsOk ops S n = true) (hb : (List.range ops.size).all (fun i => ((ops[i]?).map fun o => o.after.all fun e => !Region.binds .any e || decide (e.on < i)).getD true) = true)
    (γ0 : Γ) (h0 : WI γ0 (Array.replicate ops.size false) { w with drawn := w.drawn + 1 })
    (hstep : ∀ b0, F b0 → ∀ i o, ops[i]? = some o → DoesG P ops Q V WI S b0 i o)
    (hend : ∀ γ li a w', Frm S a0 a → Known ops (V γ) li a → (∀ i, i < ops.size → li.getD i false = true) → WI γ li w' → Q .normal a w') : (Code.region id ops true).wp P Q a0 w := by
  rw [← hn] at hd
  refine region_inv hm (fun li a w' => ∃ γ, li.size = ops.size ∧ Frm S a0 a ∧ Known ops (V γ) li a ∧ WI γ li w') ⟨γ0, by simp, Frm.refl _ _, ?_, h0⟩ ?_ ?_
  · intro j o _ hl
    have : (Array.replicate ops.size false).getD j false = false := by
      rw [Array.getD_eq_getD_getElem?, Array.getElem?_replicate]
      split <;> rfl
    rw [this] at hl
    cases hl
  · intro i li a w' hi hJ
    obtain ⟨γ, hs, hF', hK, hW⟩ := hJ
    obtain ⟨hli, o, ho, hed⟩ := mem_ready.1 hi
    have hlt := (Array.getElem?_eq_some_iff.1 ho).1
    have hnot : li.getD i false = false := by
      rw [Array.getD_eq_getD_getElem?] at hli ⊢
      rw [Array.getElem?_eq_getElem (by omega)] at hli ⊢
      exact hli
    exact wpOp_step ho (fun K' hK' => hstep a0 hF i o ho γ li a w' hs hnot hF' hed hK hW K' (fun γ' w'' hag hW'' => hK' _ _ ⟨γ', by simpa using hs, hF'.puts hd ho _,
      Known.put (fun j o' ho' hl d hd' => by rw [hK j o' ho' hl d hd', hag j hl]) hd (by rw [hF'.size]) ho, hW''⟩))
  · intro li a w' hJ hr
    obtain ⟨γ, hs, hF', hK, hW⟩ := hJ
    exact hend γ li a w' hF' hK (all_listed hr hs hb) hW
/-- before operation i0, or behind it (then those of D have been carried out, too) -/
def WP (i0 : Nat) (D : List Nat) (Pre : World → Prop) (Post : Γ → World → Prop) (γ : Γ) (li : Array Bool) (w : World) : Prop :=
  ((∀ j, i0 ≤ j → li.getD j false = false) ∧ Pre w) ∨ (li.getD i0 false = true ∧ (∀ j ∈ D, li.getD j false = true) ∧ Post γ w)
variable {i0 : Nat} {D : List Nat} {Pre : World → Prop} {Post : Γ → World → Prop} {γ : Γ} {li : Array Bool} {w : World}
theorem getD_setT {li : Array Bool} {i j : Nat} (h : li.getD j false = true) : (li.setIfInBounds i true).getD j false = true := by
  by_cases e : i = j
  · subst e
    rw [Array.getD_eq_getD_getElem?] at h ⊢
    by_cases hl : i < li.size
    · simp [hl]
    · rw [Array.getElem?_eq_none (by omega)] at h; cases h
  · rw [getD_set_ne false e]; exact h
/-- an operation that is quiet, ahead of i0 -/
theorem WP.ahead (h : WP i0 D Pre Post γ li w) {i : Nat} (hi : i < i0) {w' : World} (h1 : Pre w → Pre w') (h2 : Post γ w → Post γ w') : WP i0 D Pre Post γ (li.setIfInBounds i true) w' := by
  rcases h with ⟨h, hp⟩ | ⟨h, hd, hp⟩
  · exact .inl ⟨fun j hj => by rw [getD_set_ne false (by omega)]; exact h j hj, h1 hp⟩
  · exact .inr ⟨getD_setT h, fun j hj => getD_setT (hd j hj), h2 hp⟩
/-- an operation of D: i0 was not yet -/
theorem WP.turn (h : WP i0 D Pre Post γ li w) {i : Nat} (hi : i < i0) (hD : i ∈ D) (hn : li.getD i false = false) : Pre w ∧ ∀ w', Pre w' → WP i0 D Pre Post γ (li.setIfInBounds i true) w' := by
  rcases h with ⟨h, hp⟩ | ⟨h, hd, hp⟩
  · exact ⟨hp, fun w' h' => .inl ⟨fun j hj => by rw [getD_set_ne false (by omega)]; exact h j hj, h'⟩⟩
  · rw [hd i hD] at hn; cases hn
/-- i0 itself -/
theorem WP.now (h : WP i0 D Pre Post γ li w) (hn : li.getD i0 false = false) (hlt : i0 < li.size) (hD : ∀ j ∈ D, li.getD j false = true) :
    Pre w ∧ (∀ j, i0 ≤ j → li.getD j false = false) ∧ ∀ γ' w', Post γ' w' → WP i0 D Pre Post γ' (li.setIfInBounds i0 true) w' := by
  rcases h with ⟨h, hp⟩ | ⟨h, hd, hp⟩
  · exact ⟨hp, h, fun γ' w' h' => .inr ⟨by simp [Array.getD_eq_getD_getElem?, hlt], fun j hj => getD_setT (hD j hj), h'⟩⟩
  · rw [h] at hn; cases hn
/-- behind i0 -/
theorem WP.behind (h : WP i0 D Pre Post γ li w) {j : Nat} (hj : i0 ≤ j) (hl : li.getD j false = true) : Post γ w := by
  rcases h with ⟨h, _⟩ | ⟨_, _, hp⟩
  · rw [h j hj] at hl; cases hl
  · exact hp
theorem WP.later (h : WP i0 D Pre Post γ li w) {j : Nat} (hj : i0 ≤ j) (hl : li.getD j false = true) (i : Nat) : WP i0 D Pre Post γ (li.setIfInBounds i true) w := by
  rcases h with ⟨h, _⟩ | ⟨h, hd, hp⟩
  · rw [h j hj] at hl; cases hl
  · exact .inr ⟨getD_setT h, fun j hj => getD_setT (hd j hj), hp⟩
/-- an operation that leaves the ghost and the world alone -/
theorem doesG_quiet {V : Γ → Nat → Value} {WI : Γ → Array Bool → World → Prop} {S : List Nat} {a0 : Act} {i : Nat} {o : Oper} (hg : o.guard = none)
    (h : ∀ (γ : Γ) (li : Array Bool) (a : Act) (w : World), Frm S a0 a → (∀ e ∈ o.after, Region.binds .any e = true → li.getD e.on false = true) → Known ops (V γ) li a → WI γ li w → WI γ (li.setIfInBounds i true) w ∧ ∀ K : Act → World → Prop, K (a.put o.dst (V γ i)) w → Oper.wp P o a w K Q) :
    DoesG P ops Q V WI S a0 i o := by
  intro γ li a w _ hn hF hed hK hW K hk
  rw [if_pos (by simp [Region.wanted, hg])]
  obtain ⟨h1, h2⟩ := h γ li a w hF hed hK hW
  exact h2 K (hk γ w (fun _ _ => rfl) h1)
theorem doesG_turn {V : Γ → Nat → Value} {WI : Γ → Array Bool → World → Prop} {S : List Nat} {a0 : Act} {i : Nat} {o : Oper} (hg : o.guard = none)
    (h : ∀ (γ : Γ) (li : Array Bool) (a : Act) (w : World), li.size = ops.size → li.getD i false = false → Frm S a0 a → (∀ e ∈ o.after, Region.binds .any e = true → li.getD e.on false = true) → Known ops (V γ) li a → WI γ li w → ∀ K : Act → World → Prop, (∀ γ' w', (∀ j, li.getD j false = true → V γ' j = V γ j) → WI γ' (li.setIfInBounds i true) w' → K (a.put o.dst (V γ' i)) w') → Oper.wp P o a w K Q) :
    DoesG P ops Q V WI S a0 i o := by
  intro γ li a w hs hn hF hed hK hW K hk
  rw [if_pos (by simp [Region.wanted, hg])]
  exact h γ li a w hs hn hF hed hK hW K hk
theorem wp_assign_at {o : Oper} {a : Act} {w : World} {K : Act → World → Prop} {s : Nat} {v : Value} (h : o.op = .assign (.tmp s)) (e : a.tmps.getD s undef = v) (hk : K (a.put o.dst v) w) : o.wp P a w K Q := by
  have e' : a.eval (.tmp s) = v := e
  refine BigFrame.wp_assign (.tmp s) h ?_
  rw [e']
  exact hk
end
end Go.Proofs.YtdhekhlmdefcnaaDoor
