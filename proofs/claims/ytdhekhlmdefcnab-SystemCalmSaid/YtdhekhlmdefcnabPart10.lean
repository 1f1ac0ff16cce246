/- Part 10 of the proof: Line. -/
import Derived.Test.YtdhekhlmdefcnabPart9
namespace Go.Proofs.Ytdhekhlmdefcnab
open Go.RowKit
def pk (a n : Int) : Int := (a % 18446744073709551616) % n
theorem pk_in (a n : Int) (h : 0 < n) : 0 ≤ pk a n ∧ pk a n < n := ⟨Int.emod_nonneg _ (by omega), Int.emod_lt_of_pos _ h⟩
theorem pk_walk (a n : Int) (h : 0 < n) (hn : n ≤ 4611686018427387904) : wrap64 ((IntKind.u64.wrap a).tmod n) = pk a n := by
 rw [IntKind.wrap_u64, Int.tmod_eq_emod_of_nonneg (by omega)]
 have := pk_in a n h
 unfold pk at *
 exact IntWalk.wrap64_in _ (by omega)
theorem pick_any (a n : Int) (h : 0 < n) (hn : n ≤ 4611686018427387904) (w : World) :
  Calls Try.prog 26 #[.int .i64 a, .int .i64 n] w fun e w' => e = .returned (I (pk a n)) ∧ w = w' := by
 have HP := Lib.hid (pk_walk a n h hn)
 go_enter Try.func26, Try.ntmps26
 go_wp2
 go_ret
 exact ⟨by rw [← HP.out]; rfl, rfl⟩
structure Part (s : Nat) (rs : List Nat) : Prop where
 many : rs.length ≤ 8
 low : ∀ r ∈ rs, 1 ≤ r
 high : ∀ r ∈ rs, r < 2 ^ s
 apart : rs.Nodup
set_option maxHeartbeats 4000000 in
set_option maxRecDepth 100000 in
theorem line_any (a d : Int) (A : Option Addr) (c : Nat) (xs : List Int) (w : World) (hx : xs.length ≤ 30) (hr : Reads w w.heap.size A (ints xs)) :
  Calls Try.prog 25 #[I a, I d, .slice A xs.length c] w fun e w' =>
   (∃ L : Lay, L.Ok ∧ ∃ A1 c1, e = .returned (.agg #[I L.secs, .slice A1 L.routes.length c1, I L.delay]) ∧ w'.ownsRow w.heap.size 3 1 (.slice A1 L.routes.length c1) L.routes.length (ints (zs L.routes))) ∧ Below w.heap.size w w' := by
 obtain ⟨i0, hi0, hz0, hz1, hz2⟩ := info_parts infoInt
 obtain ⟨p1, p2⟩ := pk_in a 12 (by decide)
 obtain ⟨d1, d2⟩ := pk_in d 21 (by decide)
 go_enter Try.func25, Try.ntmps25
 go_wp2_with (go_at_call 26; refine (pick_any _ _ (by decide) (by decide) _).mono ?_; rintro e w1 ⟨rfl, rfl⟩)
 obtain ⟨s, hs⟩ : ∃ s : Nat, 1 + pk a 12 = s := ⟨(1 + pk a 12).toNat, by omega⟩
 obtain ⟨dl, hdl⟩ : ∃ s : Nat, pk d 21 = s := ⟨(pk d 21).toNat, by omega⟩
 have hs1 : 1 ≤ s := by omega
 have hs12 : s ≤ 12 := by omega
 have hd20 : dl ≤ 20 := by omega
 have kl := Has.new' (w.alloc (.cells #[I 0, .slice none 0 0, I 0] 43)) 43 #[I (1 + pk a 12), .slice none 0 0, I (pk d 21)] (w.heap.size + 1) (by simp)
 have hb : Below w.heap.size w ((w.alloc (.cells #[I 0, .slice none 0 0, I 0] 43)).alloc (.cells #[I (1 + pk a 12), .slice none 0 0, I (pk d 21)] 43)) :=
  ((Below.refl _ _).alloc (Nat.le_refl _) _).alloc (by simp) _
 have kr := Has.new' w 43 #[I 0, .slice none 0 0, I 0] w.heap.size rfl |>.alloc (.cells #[I (1 + pk a 12), .slice none 0 0, I (pk d 21)] 43)
 generalize ((w.alloc (.cells #[I 0, .slice none 0 0, I 0] 43)).alloc (.cells #[I (1 + pk a 12), .slice none 0 0, I (pk d 21)] 43)) = w0 at *
 generalize 1 + pk a 12 = z1 at *
 generalize pk d 21 = z2 at *
 subst hs
 subst hdl
 clear p1 p2 d1 d2
 go_loopw [8] (fun i wr => ∃ (k : Nat) (rs : List Nat) (v : Value), k ≤ xs.length ∧ i = I k ∧ Hid (Part s rs) ∧ Has wr (w.heap.size + 1) 43 #[I s, v, I dl] ∧
  Has wr w.heap.size 43 #[I 0, .slice none 0 0, I 0] ∧ wr.ownsRow w0.heap.size 3 1 v rs.length (ints (zs rs)) ∧ Below w.heap.size w wr ∧ w0.heap.size ≤ wr.heap.size) (fun i _ => xs.length - (intOf i).toNat)
 case atStart => exact ⟨0, [], _, by omega, rfl, ⟨by simp, by simp, by simp, by simp⟩, kl, kr, World.ownsRow_nil _ _ _ _, hb, Nat.le_refl _⟩
 case round =>
  clear kl kr
  obtain ⟨k, rs, v, hk, rfl, hP, kl, kr, hown, hbr, hsz⟩ := hrel
  have hlw := kr.lt
  have hlw2 := kl.lt
  obtain ⟨A1, c1, rfl, hc1, -, hrd⟩ := own_reads hown
  have l0 := kl.cellv 0 _ rfl
  have l1 := kl.cellv 1 _ rfl
  have l2 := kl.cellv 2 _ rfl
  have f1 := kl.free 1
  by_cases hlt : k < xs.length
  ·by_cases h8 : rs.length < 8
   ·obtain ⟨x, hx⟩ := some_at xs k hlt
    obtain ⟨bb, oo, rfl, hbb, hcell⟩ := (hr.below hbr).at_ hx
    clear hx
    obtain ⟨p1, p2⟩ := pk_in x (2 ^ s - 1 : Nat) (by have := Nat.pow_le_pow_right (n := 2) (by decide) hs1; omega)
    have HPk : Hid (∀ W, Calls Try.prog 26 #[I x, I (wrap64 (wrap64 (2 ^ s) - 1))] W fun e w' => e = .returned (I (pk x (2 ^ s - 1 : Nat))) ∧ w' = W) := Lib.hid (fun W => by
     rw [wrap_pow s hs12]
     have hp : (2 : Nat) ^ s ≤ 2 ^ 12 := Nat.pow_le_pow_right (by decide) hs12
     exact (pick_any x (2 ^ s - 1 : Nat) (by omega) (by omega) W).mono fun _ _ ⟨h1, h2⟩ => ⟨h1, h2.symm⟩)
    obtain ⟨r, hr1⟩ : ∃ r : Nat, pk x (2 ^ s - 1 : Nat) = r := ⟨(pk x (2 ^ s - 1 : Nat)).toNat, by omega⟩
    rw [hr1] at HPk p1 p2
    have hp : (2 : Nat) ^ s ≤ 2 ^ 12 := Nat.pow_le_pow_right (by decide) hs12
    have hrlt : r + 1 < 2 ^ s := by omega
    have hr4 : r + 1 < 4096 := by omega
    have HR := Lib.hid hrlt
    clear hr1 p1 p2 hp hrlt
    go_wp2_with fail
    go_quiet ((go_at_call 26; exact Calls.quiet_of_same (HPk.out _)))
    go_wp2_with fail
    have kl := kl.drewN nq
    have kr := kr.drewN nq
    have hown : (wr.drewN nq).ownsRow w0.heap.size 3 1 (.slice A1 rs.length c1) rs.length (ints (zs rs)) := hown
    have hbr := below_drewN hbr nq
    have hsz : w0.heap.size ≤ (wr.drewN nq).heap.size := hsz
    have hlw : w.heap.size < (wr.drewN nq).heap.size := hlw
    clear hlw2
    have hrd : Reads (wr.drewN nq) (wr.drewN nq).heap.size A1 (ints (zs rs)) := hrd
    clear hcell l0 l1 l2 f1 HPk
    generalize wr.drewN nq = wq at *
    have l1 := kl.cellv 1 _ rfl
    go_loop [10, 11] (fun t j => ∃ l : Nat, l ≤ rs.length ∧ j = I l ∧ t = .bool ((rs.take l).contains (r + 1))) (fun _ j => rs.length - (intOf j).toNat)
    case atStart => exact ⟨0, by omega, rfl, rfl⟩
    case round =>
     obtain ⟨l, hl, rfl, rfl⟩ := hrel
     by_cases hlt2 : l < rs.length
     ·obtain ⟨q, hq⟩ := some_at rs l hlt2
      obtain ⟨b2, o2, rfl, hb2, hcell2⟩ := hrd.at_ (zs_some hq)
      have HT : Hid ((rs.take (l + 1)).contains (r + 1) = ((rs.take l).contains (r + 1) || ((q : Int) == 1 + (r : Int)))) := Lib.hid (by
       obtain ⟨hlq, hq'⟩ := List.getElem?_eq_some_iff.1 hq
       rw [List.take_succ_eq_append_getElem hlq, List.contains_append, hq']
       congr 1
       rw [Bool.eq_iff_iff]
       simp
       omega)
      clear hq
      cases htw : (rs.take l).contains (r + 1) with
      | true =>
       rw [htw] at HT
       clear htw
       go_wp2_with fail
       go_round
       case rel => exact ⟨l + 1, by omega, by go_num, by rw [HT.out]; rfl⟩
       case measure => simp [intOf]; omega
      | false =>
       rw [htw] at HT
       clear htw
       go_wp2_with fail
       go_round
       case rel => exact ⟨l + 1, by omega, by go_num, by rw [HT.out]; rfl⟩
       case measure => simp [intOf]; omega
     ·have hlr : l = rs.length := by omega
      have HTk : Hid (rs.take l = rs) := Lib.hid (by rw [hlr, List.take_length])
      have e := HTk.out
      rw [e]
      clear e hlr
      cases htw : rs.contains (r + 1) with
      | true =>
       clear htw
       go_wp2_with fail
       go_roundw
       case rel => exact ⟨k + 1, rs, _, by omega, by go_num, hP, kl, kr, hown, hbr, hsz⟩
       case measure => simp [intOf]; omega
      | false =>
       have HN := Lib.hid htw
       clear htw
       go_wp2_with (at_builtin; refine wpList_append_own _ rfl _ _ 22 rfl w0.heap.size 3 i0 (.int .i64 0) 1 8 Try.underlying22 hi0 hz0 hz1 hz2 rfl (by decide) _ _ _ rfl (hown.alloc _) ⟨wq.heap.size, 0, none⟩ 1 1 [I (1 + r)] rfl rfl ?c1 ?c2 ?c3 ?c4 ?c5 ?_)
       case c2 => rfl
       case c3 => unfold maxLen; omega
       case c4 => omega
       case c5 => omega
       intro v' w3 hown3 hg3 _
       obtain ⟨A3, c3, rfl, hc3, -, _⟩ := own_reads hown3
       have kl3 := (kl.alloc (.cells #[I (1 + r)] 3)).grown hg3 (own_ne hown kl (by decide))
       have kr3 := (kr.alloc (.cells #[I (1 + r)] 3)).grown hg3 (own_ne hown kr (by decide))
       have hz3 : w0.heap.size ≤ w3.heap.size := by have := hg3.size; simp at this; omega
       have hb3 : Below w.heap.size w w3 := (hbr.alloc (Nat.le_of_lt hlw) _).grown hg3 (by simp; omega) (fun q hq => by have := (hown.lt q hq).1; have := hb.size; omega)
       have l0 := kl3.cellv 0 _ rfl
       have l1' := kl3.cellv 1 _ rfl
       have f1 := kl3.free 1
       clear hown l1
       go_wp2_with fail
       go_roundw
       case rel =>
        refine ⟨k + 1, rs ++ [r + 1], .slice A3 (rs.length + 1) c3, by omega, by go_num, ?_, ?_, kr3.far (by simp) _, ?_, hb3.setCell (by simp) _, by simpa using hz3⟩
        ·obtain ⟨q1, q2, q3, q4⟩ := hP.out
         refine ⟨by simp; omega, ?_, ?_, ?_⟩
         ·intro x hx
          rcases List.mem_append.1 hx with h | h
          ·exact q2 x h
          ·simp at h; omega
         ·intro x hx
          rcases List.mem_append.1 hx with h | h
          ·exact q3 x h
          ·simp at h; have := HR.out; omega
         ·rw [List.nodup_append]
          refine ⟨q4, by simp, ?_⟩
          intro x hx y hy
          have := HN.out
          simp at hy this
          rintro rfl
          rw [hy] at hx
          exact this hx
        ·have := kl3.set 1 (.slice A3 (rs.length + 1) c3)
         exact this
        ·have e : ints (zs (rs ++ [r + 1])) = ints (zs rs) ++ [I (1 + r)] := by simp [ints, zs]; omega
         rw [e, List.length_append, List.length_singleton]
         exact own_far hown3 kl3 (by decide) 1 _
       case measure => simp [intOf]; omega
   ·have kf0 := kr.cellv 0 _ rfl
    have kf1 := kr.cellv 1 _ rfl
    have kf2 := kr.cellv 2 _ rfl
    have g0 := kr.free 0
    have g1 := kr.free 1
    have g2 := kr.free 2
    have t0 : ((rs.length : Int) == 0) = false := by rw [beq_eq_false_iff_ne]; omega
    obtain ⟨q1, q2, q3, q4⟩ := hP.out
    clear q1
    have Q2 := Lib.hid q2
    have Q3 := Lib.hid q3
    have Q4 := Lib.hid q4
    have hN1 : 1 ≤ rs.length := by omega
    have hN8 : rs.length ≤ 8 := hP.out.many
    clear q2 q3 q4
    go_wp2_with fail
    refine bodyPost_ret (results_cell_row rfl _ _ w.heap.size 43 #[I s, .slice A1 rs.length c1, I dl] (0, 0) _ rfl (((kr.set 0 (I s)).set 1 (.slice A1 rs.length c1)).set 2 (I dl)) Try.underlying43 rfl (by kernel_rfl)) rfl
     ⟨⟨⟨s, rs, dl⟩, ⟨hs1, hs12, hN1, hN8, hd20, Q2.out, Q3.out, Q4.out⟩, A1, c1, rfl, own_base (own_far (own_far (own_far hown kr (by decide) 0 _) (kr.set 0 _) (by decide) 1 _) ((kr.set 0 _).set 1 _) (by decide) 2 _) hb.size⟩,
      ((hbr.setCell (Nat.le_refl _) _).setCell (Nat.le_refl _) _).setCell (Nat.le_refl _) _⟩
  ·have kf0 := kr.cellv 0 _ rfl
   have kf1 := kr.cellv 1 _ rfl
   have kf2 := kr.cellv 2 _ rfl
   have g0 := kr.free 0
   have g1 := kr.free 1
   have g2 := kr.free 2
   by_cases h0 : rs.length = 0
   ·have hrs : rs.length = 0 := h0
    have t0 : ((rs.length : Int) == 0) = true := by simp [h0]
    clear h0
    go_wp2_with fail
    have kr1 := kr.far (p := ⟨w.heap.size + 1, 1, none⟩) (by simp) (.slice (some ⟨wr.heap.size, 0, none⟩) 1 1)
    have kr2 := ((kr1.set 0 (I s)).set 1 (.slice (some ⟨wr.heap.size, 0, none⟩) 1 1)).set 2 (I dl)
    have ho : ∀ W : World, W.heap.size = wr.heap.size → (W.alloc (.cells #[I 1] 3)).ownsRow w.heap.size 3 1 (.slice (some ⟨wr.heap.size, 0, none⟩) 1 1) 1 [I 1] := fun W hW => by
     rw [← hW]
     exact World.ownsRow_lit W #[I 1] 1 (by rw [hW]; omega) (by unfold maxLen; omega) rfl
    refine bodyPost_ret (results_cell_row rfl _ _ w.heap.size 43 #[I s, .slice (some ⟨wr.heap.size, 0, none⟩) 1 1, I dl] (0, 0) _ rfl (kr2.alloc _) Try.underlying43 rfl (by kernel_rfl)) rfl
     ⟨⟨⟨s, [1], dl⟩, ⟨hs1, hs12, by simp, by simp, hd20, by simp, ?_, by simp⟩, some ⟨wr.heap.size, 0, none⟩, 1, rfl, ho _ (by simp)⟩,
      ((((hbr.setCell (by simp) _).setCell (Nat.le_refl _) _).setCell (Nat.le_refl _) _).setCell (Nat.le_refl _) _).alloc (by simp; omega) _⟩
    intro r hr
    have : r = 1 := by simpa using hr
    subst this
    exact Nat.lt_of_lt_of_le (by decide : 1 < 2 ^ 1) (Nat.pow_le_pow_right (by decide) hs1)
   ·have t0 : ((rs.length : Int) == 0) = false := by rw [beq_eq_false_iff_ne]; omega
    obtain ⟨q1, q2, q3, q4⟩ := hP.out
    clear q1
    have Q2 := Lib.hid q2
    have Q3 := Lib.hid q3
    have Q4 := Lib.hid q4
    have hN1 : 1 ≤ rs.length := by omega
    have hN8 : rs.length ≤ 8 := hP.out.many
    clear q2 q3 q4
    go_wp2_with fail
    refine bodyPost_ret (results_cell_row rfl _ _ w.heap.size 43 #[I s, .slice A1 rs.length c1, I dl] (0, 0) _ rfl (((kr.set 0 (I s)).set 1 (.slice A1 rs.length c1)).set 2 (I dl)) Try.underlying43 rfl (by kernel_rfl)) rfl
     ⟨⟨⟨s, rs, dl⟩, ⟨hs1, hs12, hN1, hN8, hd20, Q2.out, Q3.out, Q4.out⟩, A1, c1, rfl, own_base (own_far (own_far (own_far hown kr (by decide) 0 _) (kr.set 0 _) (by decide) 1 _) ((kr.set 0 _).set 1 _) (by decide) 2 _) hb.size⟩,
      ((hbr.setCell (Nat.le_refl _) _).setCell (Nat.le_refl _) _).setCell (Nat.le_refl _) _⟩
end Go.Proofs.Ytdhekhlmdefcnab
