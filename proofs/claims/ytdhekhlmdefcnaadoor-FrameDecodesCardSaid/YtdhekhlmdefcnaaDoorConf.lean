/- Walks over package layout: Conflicts. -/
import Derived.Test.YtdhekhlmdefcnaaDoorFit
namespace Go.Proofs.YtdhekhlmdefcnaaDoor
open Go.RowKit
theorem infoInt : (Tryd.prog.info? 3).map (fun i => (i.zero, i.size, i.bytes)) = some (some (.int .i64 0), 1, 8) := by kernel_rfl
theorem confTo_lt (rs : List Nat) (i : Nat) : ∀ k, k ≤ 8 → confTo rs i k < 2 ^ k
  | 0, _ => by simp [confTo]
  | k + 1, h => by
    have ih := confTo_lt rs i k (by omega)
    have h1 : confTo rs i k < 2 ^ (k + 1) := Nat.lt_of_lt_of_le ih (Nat.pow_le_pow_right (by decide) (by omega))
    rw [confTo]
    split
    · refine Nat.or_lt_two_pow h1 ?_
      rw [Nat.shiftLeft_eq, Nat.one_mul]
      exact Nat.pow_lt_pow_right (by decide) (by omega)
    · exact h1
theorem confTo_small (rs : List Nat) (i k : Nat) (hk : k ≤ 8) : confTo rs i k < 256 :=
  Nat.lt_of_lt_of_le (confTo_lt rs i k hk) (Nat.pow_le_pow_right (n := 2) (by decide) hk)
theorem shl1 (k : Nat) (h : k ≤ 8) : wrap64 (2 ^ k) = ((1 <<< k : Nat) : Int) := by
  have : k = 0 ∨ k = 1 ∨ k = 2 ∨ k = 3 ∨ k = 4 ∨ k = 5 ∨ k = 6 ∨ k = 7 ∨ k = 8 := by omega
  rcases this with rfl | rfl | rfl | rfl | rfl | rfl | rfl | rfl | rfl <;> decide +kernel
theorem shl1_lt (k : Nat) (h : k ≤ 8) : 1 <<< k < 2 ^ 63 := by
  have : k = 0 ∨ k = 1 ∨ k = 2 ∨ k = 3 ∨ k = 4 ∨ k = 5 ∨ k = 6 ∨ k = 7 ∨ k = 8 := by omega
  rcases this with rfl | rfl | rfl | rfl | rfl | rfl | rfl | rfl | rfl <;> decide
theorem getD_of {l : List Nat} {k x : Nat} (h : l[k]? = some x) : l.getD k 0 = x := by rw [List.getD_eq_getElem?_getD, h]; rfl
theorem confTo_yes {rs : List Nat} {i k r x : Nat} (hr : rs[i]? = some r) (hx : rs[k]? = some x) (hne : k ≠ i) (ha : r &&& x ≠ 0) : confTo rs i (k + 1) = confTo rs i k ||| 1 <<< k := by
  rw [confTo, getD_of hr, getD_of hx, if_pos ⟨hne, ha⟩]
theorem confTo_no {rs : List Nat} {i k r x : Nat} (hr : rs[i]? = some r) (hx : rs[k]? = some x) (h : k = i ∨ r &&& x = 0) : confTo rs i (k + 1) = confTo rs i k := by
  rw [confTo, getD_of hr, getD_of hx, if_neg (by rintro ⟨h1, h2⟩; exact h.elim h1 h2)]
theorem confs_take (rs : List Nat) (i : Nat) (h : i < rs.length) : (confs rs).take (i + 1) = (confs rs).take i ++ [conf rs i] := by
  have hl : i < (confs rs).length := by simpa [confs] using h
  rw [List.take_succ_eq_append_getElem hl]
  simp [confs]
theorem confs_length (rs : List Nat) : (confs rs).length = rs.length := by simp [confs]
set_option maxHeartbeats 2000000 in
set_option maxRecDepth 100000 in
theorem conflicts_ok (S d : Int) (A : Option Addr) (n c : Nat) (rs : List Nat) (w : World) (hxn : Hid (rs.length = n)) (h1 : 1 ≤ n) (hn : n ≤ 8) (hc : n ≤ c) (hr : Reads w w.heap.size A (ints (zs rs)))
    (hlt : Hid (∀ r ∈ rs, r < 4096)) (hok : Hid (chk S (zs rs) d = .ok)) :
    Calls Tryd.prog 14 #[.agg #[I S, .slice A n c, I d]] w fun e w' =>
      (∃ A c, e = .returned (.tuple #[.slice A n c, .nilIface]) ∧ w'.ownsRow w.heap.size 3 1 (.slice A n c) n (ints (zs (confs rs)))) ∧ Below w.heap.size w w' := by
  obtain ⟨i0, hi0, hz0, hz1, hz2⟩ := info_parts infoInt
  go_enter Tryd.func14, Tryd.ntmps14
  go_wp2_with (go_at_call 54; refine (check_ok _ _ _ _ _ (zs rs) _ w.heap.size (Lib.hid (by rw [zs_length]; exact hxn.out)) hn hc (by simp <;> omega) (hr.alloc (by simp) _) hok).mono ?_; rintro e w1 ⟨rfl, hb⟩; obtain ⟨hq, hf⟩ := bcell hb)
  have hw : Below w.heap.size w w1 := ((Below.refl _ _).alloc (Nat.le_refl _) _).trans (hb.mono (by simp))
  have k0 := (Has.new' w 25 #[I S, .slice A n c, I d] w.heap.size rfl).after hb
  clear hb hq hf
  go_loopw [5, 19] (fun v i wr => ∃ k : Nat, k ≤ n ∧ i = I k ∧ wr.ownsRow w1.heap.size 3 1 v k (ints (zs ((confs rs).take k))) ∧ Below w1.heap.size w1 wr) (fun _ i _ => n - (intOf i).toNat)
  case atStart => exact ⟨0, by omega, rfl, by simpa [ints, zs] using World.ownsRow_nil _ _ _ _, Below.refl _ _⟩
  case round =>
    obtain ⟨k, hk, rfl, hown, hwr⟩ := hrel
    have c1 := (k0.after hwr).cellv 1 _ rfl
    by_cases hlt1 : k < n
    · obtain ⟨r, hx⟩ := some_at rs k (by rw [hxn.out]; exact hlt1)
      have hrw := (hr.below hw).below (hwr.mono hw.size)
      obtain ⟨b, o, rfl, hb, hcell⟩ := hrw.at_ (zs_some hx)
      have hr4 : r < 4096 := hlt.out r (List.mem_of_getElem? hx)
      have Hx := Lib.hid hx
      clear hx
      go_wp2_with fail
      go_loop [8, 27] (fun m j => ∃ l : Nat, l ≤ n ∧ j = I l ∧ m = I (confTo rs k l)) (fun _ j => n - (intOf j).toNat)
      case atStart => exact ⟨0, by omega, rfl, rfl⟩
      case round =>
        obtain ⟨l, hl, rfl, rfl⟩ := hrel
        by_cases hlt2 : l < n
        · obtain ⟨x, hx⟩ := some_at rs l (by rw [hxn.out]; exact hlt2)
          obtain ⟨b', o', hA', hb', hcell'⟩ := hrw.at_ (zs_some hx)
          cases hA'
          have hx4 : x < 4096 := hlt.out x (List.mem_of_getElem? hx)
          have HX := Lib.hid hx
          clear hx
          have HM := Lib.hid (confTo_small rs k l (by omega))
          go_wp2_with fail
          · have h0 : (l : Int) = k := by assumption
            go_round
            case rel => exact ⟨l + 1, by omega, I_eq (by omega), I_eq (by rw [confTo_no Hx.out HX.out (.inl (by omega))])⟩
            case measure => simp [intOf]; omega
          · have h0 : ¬ (l : Int) = k := by assumption
            have h2 : ((l : Int) != (k : Int)) = true ∧ (bits .and .i64 (r : Int) (x : Int) != 0) = true := by assumption
            have h1 := h2.2
            go_round
            case rel =>
              refine ⟨l + 1, by omega, I_eq (by omega), I_eq ?_⟩
              rw [and_i64 r x (by omega) (by omega)] at h1
              have h3 : r &&& x ≠ 0 := by intro h; rw [h] at h1; simp at h1
              rw [confTo_yes Hx.out HX.out (by omega) h3, shl1 l (by omega), or_i64 _ _ (Nat.lt_trans HM.out (by decide)) (shl1_lt l (by omega))]
            case measure => simp [intOf]; omega
          · have h0 : ¬ (l : Int) = k := by assumption
            have h2 : ((l : Int) != (k : Int)) = false ∨ (bits .and .i64 (r : Int) (x : Int) != 0) = false := by assumption
            have h1 : (bits .and .i64 (r : Int) (x : Int) != 0) = false := h2.resolve_left (by simp; omega)
            go_round
            case rel =>
              refine ⟨l + 1, by omega, I_eq (by omega), I_eq ?_⟩
              rw [and_i64 r x (by omega) (by omega)] at h1
              have h3 : r &&& x = 0 := by have := (bne_eq_false_iff_eq.1 h1); omega
              rw [confTo_no Hx.out HX.out (.inr h3)]
            case measure => simp [intOf]; omega
        · have hln : l = n := by omega
          have HC : Hid (confTo rs k l = conf rs k) := Lib.hid (by unfold conf; rw [hxn.out, hln])
          clear hln
          go_wp2_with (at_builtin; refine wpList_append_own _ rfl _ _ 22 rfl w1.heap.size 3 i0 (.int .i64 0) 1 8 Tryd.underlying22 hi0 hz0 hz1 hz2 rfl (by decide) _ _ _ rfl (hown.alloc _) ⟨wr.heap.size, 0, none⟩ 1 1 [I (confTo rs k l)] rfl rfl ?c1 ?c2 ?c3 ?c4 ?c5 ?_)
          case c2 => rfl
          case c3 => unfold maxLen; omega
          case c4 => omega
          case c5 => have := hwr.size; omega
          intro v' w' hown' hgrow _
          have hwr' : Below w1.heap.size w1 w' := (hwr.alloc hwr.size _).grown hgrow (by have := hwr.size; simp; omega) (fun q hq => (hown.lt q hq).1)
          clear hcell hrw c1 hown
          go_wp2_with fail
          go_roundw
          case rel =>
            refine ⟨k + 1, by omega, by go_num, ?_, hwr'⟩
            have hrow : (ints (zs ((confs rs).take (k + 1)))) = ints (zs (List.take k (confs rs))) ++ [I (confTo rs k l)] := by
              rw [confs_take rs k (by rw [hxn.out]; exact hlt1), HC.out]; simp [ints, zs]
            rw [hrow]
            exact hown'
          case measure => simp [intOf]; omega
    · have hkn : k = n := by omega
      subst hkn
      obtain ⟨A1, c1, rfl, _, -, _⟩ := own_reads hown
      go_wp2_with fail
      go_ret2
      refine ⟨⟨_, _, rfl, ?_⟩, hw.trans (hwr.mono hw.size)⟩
      have hrow : (confs rs).take k = confs rs := by rw [List.take_of_length_le (by rw [confs_length, hxn.out]; omega)]
      rw [hrow] at hown
      exact own_base hown hw.size
end Go.Proofs.YtdhekhlmdefcnaaDoor
