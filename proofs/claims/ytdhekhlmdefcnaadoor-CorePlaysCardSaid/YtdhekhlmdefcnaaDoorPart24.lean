/- Part 24 of the proof: RcShow, RcWalk, RcNew. -/
import Derived.Test.YtdhekhlmdefcnaaDoorPart23
import Derived.BigQuiet
import Derived.Laws.EntriesVeiled
/- The reference's core: which routes may be set anew; which signals show proceed. -/
namespace Go.Proofs.YtdhekhlmdefcnaaDoor
open Go.RowKit
theorem enters_busy : Enters Tryd.prog 86 := enters_of Tryd.func86 (by kernel_rfl) rfl
theorem enters_show : Enters Tryd.prog 87 := enters_of Tryd.func87 (by kernel_rfl) rfl
/-- none of the first j is in its way -/
def noneTo (S : Nat) (rs : List Nat) (set m : Nat) : Nat → Bool
  | 0 => true
  | j + 1 => noneTo S rs set m j && !(set.testBit j && decide (j ≠ m) && meetB S (rt rs m) (rt rs j))
theorem noneTo_iff (S : Nat) (rs : List Nat) (set m : Nat) : ∀ n, noneTo S rs set m n = true ↔ ∀ j, j < n → set.testBit j = true → j ≠ m → meetB S (rt rs m) (rt rs j) = false
  | 0 => ⟨fun _ j h => by omega, fun _ => rfl⟩
  | n + 1 => by
    rw [noneTo, Bool.and_eq_true, noneTo_iff S rs set m n]
    constructor
    · rintro ⟨h1, h2⟩ j hj hs hne
      by_cases e : j = n
      · subst e
        rw [hs] at h2
        simpa [hne] using h2
      · exact h1 j (by omega) hs hne
    · intro h
      refine ⟨fun j hj => h j (by omega), ?_⟩
      cases hs : set.testBit n with
      | false => simp
      | true =>
        by_cases e : n = m
        · simp [e]
        · simp [e, h n (by omega) hs e]
theorem meet_and {S a b : Nat} (ha : a < 2 ^ S) : meetB S a b = false ↔ a &&& b = 0 := by
  rw [and_zero_iff]
  constructor
  · intro h i hi
    by_cases hs : i < S
    · cases hb : b.testBit i with
      | false => rfl
      | true => rw [meet_hit hs hi hb] at h; cases h
    · rw [Nat.testBit_lt_two_pow (Nat.lt_of_lt_of_le ha (Nat.pow_le_pow_right (by decide) (by omega)))] at hi
      cases hi
  · intro h
    refine meet_miss fun i _ => ?_
    cases hi : a.testBit i with
    | false => rfl
    | true => rw [h i hi]; rfl
theorem newOne_ref {L : Lay} (hL : L.Ok) {cl wa set m : Nat} (hm : m < L.routes.length) (hs : set < 2 ^ L.routes.length) :
    newOne L.routes cl wa set m = ((wa.testBit m && !set.testBit m && decide (nb (rt L.routes m) cl = 0)) && noneTo L.secs L.routes set m L.routes.length) := by
  have key : decide (set &&& conf L.routes m = 0) = noneTo L.secs L.routes set m L.routes.length := by
    rw [Bool.eq_iff_iff, decide_eq_true_eq, noneTo_iff, and_zero_iff]
    constructor
    · intro h j hj hb hne
      have h1 := h j hb
      unfold conf at h1
      rw [confTo_bit] at h1
      have h2 : rt L.routes m &&& rt L.routes j = 0 := by simpa [hj, hne] using h1
      exact (meet_and (rt_small hL hm).2).2 h2
    · intro h j hb
      unfold conf
      rw [confTo_bit]
      by_cases hj : j < L.routes.length
      · by_cases hne : j = m
        · simp [hne]
        · have h2 := (meet_and (rt_small hL hm).2).1 (h j hj hb hne)
          simp [h2]
      · simp [hj]
  unfold newOne
  rw [key]
  show (_ && _ && _ && decide (nb (rt L.routes m) cl = 0)) = _
  generalize noneTo L.secs L.routes set m L.routes.length = q
  cases wa.testBit m <;> cases set.testBit m <;> cases q <;> simp
theorem outTo_setB (rs : List Nat) (cl wa : Nat) (s : St) (n : Nat) : setB (shows rs cl wa s) n = outTo rs cl wa s n :=
  eq_of_bits (setB_lt _ n) (outTo_pow _ _ _ _ _) fun i _ => by rw [setB_bit, outTo_bit]
section
variable {w0 w w' : World} {B bc bx b5 cl wa : Nat} {x0 x x' : RcX} {A : Option Addr} {c : Nat} {L : Lay} {s s' : St}
set_option maxHeartbeats 4000000 in
set_option maxRecDepth 100000 in
theorem show_ok (h : StAt w0 w B x0 x A c L bc bx b5 cl wa s) (hL : L.Ok) (hf : s.Fits 2000000) (hcl : cl < 4096) (hwa : wa < 4096) (i : Nat) (hi : i < L.routes.length) :
    Calls Tryd.prog 87 #[I (i : Int), .pointer (some ⟨b5, 0, none⟩), .pointer (some ⟨bc, 0, none⟩), .pointer (some ⟨bx, 0, none⟩)] w fun e w' => e = .returned (.bool (shows L.routes cl wa s i)) ∧ w = w' := by
  have egg : ∀ (args : Array Value) (w : World), (callFunc 86 args).run Tryd.prog w = .ok (.enter 86 args) w := enters_busy
  have HB := Lib.hid (busy_ok h.rc hL bc bx i cl wa hi h.hc h.hx hcl)
  obtain ⟨v1, v2, v3, v4, v5, v6, v7, v8, v9, v10, v11, v12, v13⟩ := h.view
  obtain ⟨c0, c1, _⟩ := h.rc.cells hi
  obtain ⟨hr4, hr2⟩ := rt_small hL hi
  have hn8 := hL.many2
  have hku : i < s.used.length := by rw [hf.used8]; omega
  have hu4 : s.used.getD i 0 < 4096 := by
    rw [List.getD_eq_getElem?_getD, List.getElem?_eq_getElem hku]
    exact hf.used _ (List.getElem_mem hku)
  have hLN : (Builtin.len_ #[80] 3 #[.map (some (x.mb i))]).run Tryd.prog w = .ok (.int .i64 (lenU (s.used.getD i 0) : Nat)) w := (h.rc.maps i hi).len mapB 3
  have HP2 := Lib.hid (busyN_zero (cl := cl) hr2)
  have HP3 := Lib.hid (lenU_zero hu4)
  have hH := hasB_nat wa i
  have HE : Hid (shows L.routes cl wa s i = (s.set.testBit i && wa.testBit i && decide (lenU (s.used.getD i 0) = 0) && decide (busyN (rt L.routes i) cl L.secs = 0))) := Lib.hid (by
    unfold shows
    have e1 : decide (s.used.getD i 0 = 0) = decide (lenU (s.used.getD i 0) = 0) := by rw [Bool.eq_iff_iff, decide_eq_true_eq, decide_eq_true_eq, HP3.out]
    have e2 : decide (nb (L.routes.getD i 0) cl = 0) = decide (busyN (rt L.routes i) cl L.secs = 0) := by rw [Bool.eq_iff_iff, decide_eq_true_eq, decide_eq_true_eq, HP2.out]; rfl
    rw [e1, e2]
    cases s.set.testBit i <;> cases wa.testBit i <;> simp)
  have hii : (i : Int) < (L.routes.length : Int) := by omega
  have hbn : busyN (rt L.routes i) cl L.secs ≤ 12 := Nat.le_trans (cntB_le _ _) hL.secs2
  clear h hf hu4 hku hi
  generalize busyN (rt L.routes i) cl L.secs = bn at *
  have hlu := lenU_le (s.used.getD i 0)
  generalize lenU (s.used.getD i 0) = lu at *
  cases hs : s.set.testBit i with
  | false =>
    rw [hs] at HE c0
    clear hs
    go_enter Tryd.func87, Tryd.ntmps87
    go_wp2_with (go_at_fn 86; refine HB.out.mono ?_; rintro e w9 ⟨rfl, rfl⟩)
    go_ret
    exact ⟨by rw [HE.out]; rfl, rfl⟩
  | true =>
    rw [hs] at HE c0
    clear hs
    cases hw : wa.testBit i with
    | false =>
      rw [hw] at HE hH
      clear hw
      go_enter Tryd.func87, Tryd.ntmps87
      go_wp2_with (first
        | (go_at_fn 86; refine HB.out.mono ?_; rintro e w9 ⟨rfl, rfl⟩)
        | (go_at_call 84; refine (has_any _ (by omega) (by omega) i (by omega) _).mono ?_; rintro e w9 ⟨rfl, rfl⟩; rw [hH]))
      go_ret
      exact ⟨by rw [HE.out]; rfl, rfl⟩
    | true =>
      rw [hw] at HE hH
      clear hw
      by_cases q3 : lu = 0
      · rw [decide_eq_true q3] at HE
        have t3 : ((lu : Int) == 0) = true := by rw [q3]; rfl
        by_cases q2 : bn = 0
        · rw [decide_eq_true q2] at HE
          have t2 : ((bn : Int) == 0) = true := by rw [q2]; rfl
          clear q2 q3 HP2 HP3
          go_enter Tryd.func87, Tryd.ntmps87
          go_wp2_with (first
            | (go_at_fn 86; refine HB.out.mono ?_; rintro e w9 ⟨rfl, rfl⟩)
            | (go_at_call 84; refine (has_any _ (by omega) (by omega) i (by omega) _).mono ?_; rintro e w9 ⟨rfl, rfl⟩; rw [hH]))
          go_ret
          exact ⟨by rw [HE.out]; rfl, rfl⟩
        · rw [decide_eq_false q2] at HE
          have t2 : ((bn : Int) == 0) = false := by simpa using q2
          clear q2 q3 HP2 HP3
          go_enter Tryd.func87, Tryd.ntmps87
          go_wp2_with (first
            | (go_at_fn 86; refine HB.out.mono ?_; rintro e w9 ⟨rfl, rfl⟩)
            | (go_at_call 84; refine (has_any _ (by omega) (by omega) i (by omega) _).mono ?_; rintro e w9 ⟨rfl, rfl⟩; rw [hH]))
          go_ret
          exact ⟨by rw [HE.out]; rfl, rfl⟩
      · rw [decide_eq_false q3] at HE
        have t3 : ((lu : Int) == 0) = false := by simpa using q3
        clear q3 HP2 HP3
        go_enter Tryd.func87, Tryd.ntmps87
        go_wp2_with (first
          | (go_at_fn 86; refine HB.out.mono ?_; rintro e w9 ⟨rfl, rfl⟩)
          | (go_at_call 84; refine (has_any _ (by omega) (by omega) i (by omega) _).mono ?_; rintro e w9 ⟨rfl, rfl⟩; rw [hH]))
        go_ret
        exact ⟨by rw [HE.out]; rfl, rfl⟩
end
end Go.Proofs.YtdhekhlmdefcnaaDoor
/- The walk over the reference's Step. -/
namespace Go.Proofs.YtdhekhlmdefcnaaDoor
open Go.RowKit
theorem Has.farC {w : World} {g : Nat} {t : TypeId} {cs : Array Value} (h : Has w g t cs) {p : Addr} (hp : g ≠ p.block) (v : Value) : Has (w.setCell p v) g t cs := (Below.heap_setCell _ _ _ _ hp).trans h
section
variable {w0 w w' : World} {B bc bx b5 cl wa : Nat} {x0 x x' : RcX} {A : Option Addr} {c : Nat} {L : Lay} {s s' : St}
set_option maxHeartbeats 8000000 in
set_option maxRecDepth 100000 in
theorem rc_step (h : RcAt w B x A c L s) (hL : L.Ok) (hU : UsedIn L s) (hset0 : s.set < 2 ^ L.routes.length) (hf : s.Fits 1000000) (hcl : cl < 4096) (hwa : wa < 4096) :
    Calls Tryd.prog 47 #[.pointer (some ⟨x.g, 0, none⟩), .agg #[I (cl : Int), I (wa : Int)]] w fun e w' => e = .returned (I (outTo L.routes cl wa (stepS L cl wa s) L.routes.length : Nat)) ∧ ∃ x', RcAt w' B x' A c L (stepS L cl wa s) ∧ x'.g = x.g ∧ Turned (FC x L.routes.length) w w' ∧ ∀ b, FC x' L.routes.length b → FC x L.routes.length b ∨ w.heap.size ≤ b := by
  obtain ⟨br, or', rfl, _⟩ := h.route_ (i := 0) hL.many1
  have egg : ∀ (args : Array Value) (w : World), (callFunc 86 args).run Tryd.prog w = .ok (.enter 86 args) w := enters_busy
  have k0 := Has.new w 98 #[.pointer (some ⟨x.g, 0, none⟩)]
  have k1 := Has.new' (w.alloc (.cells #[.pointer (some ⟨x.g, 0, none⟩)] 98)) 35 #[I (cl : Int), I (wa : Int)] (w.heap.size + 1) (by simp)
  have k2 := Has.new' ((w.alloc (.cells #[.pointer (some ⟨x.g, 0, none⟩)] 98)).alloc (.cells #[I (cl : Int), I (wa : Int)] 35)) 172 #[.nilFunc] (w.heap.size + 1 + 1) (by simp)
  have f2 := k2.free 0
  have c2 := k2.cellv 0 .nilFunc rfl
  have l2 := k2.lt
  have hb3 : Below w.heap.size w (((w.alloc (.cells #[.pointer (some ⟨x.g, 0, none⟩)] 98)).alloc (.cells #[I (cl : Int), I (wa : Int)] 35)).alloc (.cells #[.func (.func 86) #[] #[.pointer (some ⟨w.heap.size, 0, none⟩), .pointer (some ⟨w.heap.size + 1, 0, none⟩)]] 172)) := (((Below.refl _ _).alloc (Nat.le_refl _) _).alloc (by simp) _).alloc (by simp; omega) _
  have hS1 : StAt w (((w.alloc (.cells #[.pointer (some ⟨x.g, 0, none⟩)] 98)).alloc (.cells #[I (cl : Int), I (wa : Int)] 35)).alloc (.cells #[.func (.func 86) #[] #[.pointer (some ⟨w.heap.size, 0, none⟩), .pointer (some ⟨w.heap.size + 1, 0, none⟩)]] 172)) B x x (some ⟨br, or', none⟩) c L w.heap.size (w.heap.size + 1) (w.heap.size + 1 + 1) cl wa s :=
    ⟨h.after hb3, (k0.alloc _).alloc _, k1.alloc _, Has.new' _ _ _ _ (by simp), rfl, Turned.of_below hb3 _, fun b hf => .inl hf⟩
  have HS1 := Lib.hid hS1
  have HF := Lib.hid hf
  have HU := Lib.hid hU
  have HST := Lib.hid hset0
  have HX := Lib.hid h
  clear h k0 k1 hb3 hS1 hf hU hset0
  go_enter Tryd.func47, Tryd.ntmps47
  go_upto_region 2 with fail
  clear k2 f2 c2 l2
  generalize (((w.alloc (.cells #[.pointer (some ⟨x.g, 0, none⟩)] 98)).alloc (.cells #[I (cl : Int), I (wa : Int)] 35)).alloc (.cells #[.func (.func 86) #[] #[.pointer (some ⟨w.heap.size, 0, none⟩), .pointer (some ⟨w.heap.size + 1, 0, none⟩)]] 172)) = w1 at *
  have hG0 : w.heap.size < w1.heap.size := HS1.out.hc.lt
  generalize w.heap.size + 1 + 1 = b5 at *
  generalize w.heap.size + 1 = bx at *
  have HGB : Hid (w.heap.size = w.heap.size) := Lib.hid rfl
  generalize hG : w.heap.size = bc at *
  have HG := Lib.hid hG
  clear hG HGB hG0
  have hs12 := hL.secs2
  have hn8 := hL.many2
  have hcc := HS1.out.hc.cellv 0 _ rfl
  have hg3 := HS1.out.rc.has.cellv 3 (.slice (some ⟨x.rb, 0, none⟩) L.routes.length x.cap) rfl
  have l1 := HS1.out.hc.lt
  have l2 := HS1.out.rc.has.lt
  go_wp2_with fail
  clear hcc hg3 l1 l2
  go_loopw [22] (fun kv wr => ∃ (k : Nat) (x' : RcX), k ≤ L.routes.length ∧ kv = I k ∧ Hid (StAt w wr B x x' (some ⟨br, or', none⟩) c L bc bx b5 cl wa (letGo L cl wa s k))) (fun kv _ => L.routes.length - (intOf kv).toNat)
  case atStart => exact ⟨0, x, Nat.zero_le _, rfl, HS1⟩
  case round =>
    clear HS1
    obtain ⟨k, x', hk, rfl, HS⟩ := hrel
    by_cases hkn : k < L.routes.length
--<A
    · have hlf := letGo_fits (cl := cl) (wa := wa) hL HF.out k (by omega)
      have hut := usedIn_letGo (cl := cl) (wa := wa) HU.out k
      have hone : letGo L cl wa s (k + 1) = one L.delay cl wa (letGo L cl wa s k) k (L.routes.getD k 0) := rfl
      have HKN := Lib.hid hkn
      have hki : (k : Int) < (L.routes.length : Int) := by omega
      generalize letGo L cl wa s k = t at *
      obtain ⟨v1, v2, v3, v4, v5, v6, v7, v8, v9, v10, v11, v12, v13⟩ := HS.out.view
      obtain ⟨c0, c1, c2⟩ := HS.out.rc.cells hkn
      cases hset : t.set.testBit k with
      | false =>
        rw [hset] at c0
        have HONE := Lib.hid (hone.trans (one_not hset))
        clear hone hset hlf hut hkn hk
        go_wp2_with fail
        go_roundw
        case rel => exact ⟨k + 1, x', HKN.out, by go_num, by rw [HONE.out]; exact HS⟩
        case measure => have := HKN.out; simp [intOf]; omega
      | true =>
        rw [hset] at c0
        obtain ⟨hr4, hr2⟩ := rt_small hL hkn
        have hku : k < t.used.length := by rw [hlf.used8]; omega
        have hkd : k < t.idle.length := by rw [hlf.idle8]; omega
        have hd0 : t.idle.getD k 0 ≤ 2000000 := by
          rw [List.getD_eq_getElem?_getD, List.getElem?_eq_getElem hkd]
          have := hlf.idle _ (List.getElem_mem hkd)
          show t.idle[k] ≤ 2000000
          omega
        have HUT := Lib.hid (hut k hkn)
        have HU4 : Hid (t.used.getD k 0 < 4096) := Lib.hid (by
          rw [List.getD_eq_getElem?_getD, List.getElem?_eq_getElem hku]
          exact hlf.used _ (List.getElem_mem hku))
        have HONE := Lib.hid (hone.trans (one_at hset _ _ rfl rfl))
        have HSET := Lib.hid hset
        have HR2 := Lib.hid hr2
        have HS0 : Hid (StAt w wr B x x' (some ⟨br, or', none⟩) c L bc bx b5 cl wa { t with used := t.used.set k (accU (t.used.getD k 0) (rt L.routes k) cl 0) }) := Lib.hid (by rw [accU, used_same]; exact HS.out)
        clear hone hset hlf hut hkn hk HS
        generalize hrr : rt L.routes k = r at *
        have HRR := Lib.hid hrr
        clear hrr
        go_wp2_with fail
        go_loopw [41] (fun jv wr => ∃ j : Nat, j ≤ L.secs ∧ jv = I j ∧ Hid (StAt w wr B x x' (some ⟨br, or', none⟩) c L bc bx b5 cl wa { t with used := t.used.set k (accU (t.used.getD k 0) r cl j) })) (fun jv _ => L.secs - (intOf jv).toNat)
        case atStart => exact ⟨0, Nat.zero_le _, rfl, HS0⟩
        case round =>
          clear HS0 v1 v2 v3 v4 v5 v6 v7 v8 v9 v10 v11 v12 v13 c0 c1 c2
          obtain ⟨j, hj, rfl, HS⟩ := hrel
          obtain ⟨v1, v2, v3, v4, v5, v6, v7, v8, v9, v10, v11, v12, v13⟩ := HS.out.view
          by_cases hjs : j < L.secs
          · have hji : (j : Int) < (L.secs : Int) := by omega
            obtain ⟨hra, hbr⟩ := HS.out.routeAt rfl HKN.out
            rw [HRR.out] at hra
            have hH1 := hasB_nat r j
            have hH2 := hasB_nat cl j
            have HJ := Lib.hid hjs
            have HA : Hid (accU (t.used.getD k 0) r cl (j + 1) = if r.testBit j && !cl.testBit j then accU (t.used.getD k 0) r cl j ||| 1 <<< j else accU (t.used.getD k 0) r cl j) := Lib.hid rfl
            have hjb : j < 12 := by omega
            clear hjs hj
            cases e1 : r.testBit j with
            | false =>
              rw [e1] at hH1
              have HA2 : Hid (accU (t.used.getD k 0) r cl (j + 1) = accU (t.used.getD k 0) r cl j) := Lib.hid (by rw [HA.out, e1]; rfl)
              clear e1 hH2
              go_wp2_with (go_at_call 84; refine (has_any _ (by omega) (by omega) j (by omega) _).mono ?_; rintro e w9 ⟨rfl, rfl⟩; rw [hH1])
              go_roundw
              case rel => exact ⟨j + 1, HJ.out, by go_num, by rw [HA2.out]; exact HS⟩
              case measure => have := HJ.out; simp [intOf]; omega
            | true =>
              rw [e1] at hH1
              cases e2 : cl.testBit j with
              | true =>
                rw [e2] at hH2
                have HA2 : Hid (accU (t.used.getD k 0) r cl (j + 1) = accU (t.used.getD k 0) r cl j) := Lib.hid (by rw [HA.out, e1, e2]; rfl)
                clear e1 e2
                go_wp2_with (go_at_call 84; refine (has_any _ (by omega) (by omega) j (by omega) _).mono ?_; rintro e w9 ⟨rfl, rfl⟩; first | rw [hH1] | rw [hH2])
                go_roundw
                case rel => exact ⟨j + 1, HJ.out, by go_num, by rw [HA2.out]; exact HS⟩
                case measure => have := HJ.out; simp [intOf]; omega
              | false =>
                rw [e2] at hH2
                have HA2 : Hid (accU (t.used.getD k 0) r cl (j + 1) = accU (t.used.getD k 0) r cl j ||| 1 <<< j) := Lib.hid (by rw [HA.out, e1, e2]; rfl)
                obtain ⟨-, c1, -⟩ := HS.out.rc.cells HKN.out
                have HM := Lib.hid (HS.out.rc.maps k HKN.out)
                clear e1 e2
                go_wp2_with (first
                  | (go_at_call 84; refine (has_any _ (by omega) (by omega) j (by omega) _).mono ?_; rintro e w9 ⟨rfl, rfl⟩; first | rw [hH1] | rw [hH2])
                  | (refine wpList_imap_store _ rfl _ _ _ 80 rfl 3 4 keyI mapB (x'.mb k) 12 _ rfl HM.out (by decide) j rfl hjb (.bool true) rfl ?_; intro w2 hm2 hg2))
                have HS2 : Hid (StAt w w2 B x x' (some ⟨br, or', none⟩) c L bc bx b5 cl wa { t with used := t.used.set k (accU (t.used.getD k 0) r cl (j + 1)) }) := Lib.hid (by
                  have h1 := HS.out.putUsed HKN.out (by rw [List.length_set]; exact hku) hm2 hg2
                  dsimp only at h1
                  rw [List.set_set, List.getD_eq_getElem?_getD, List.getElem?_set_self hku, Option.getD_some] at h1
                  rw [HA2.out]
                  exact h1)
                clear hm2 hg2 v1 v2 v3 v4 v5 v6 v7 v8 v9 v10 v11 v12 v13 c1
                go_wp2_with fail
                go_roundw
                case rel => exact ⟨j + 1, HJ.out, by go_num, HS2⟩
                case measure => have := HJ.out; simp [intOf]; omega
          · have hjs2 : j = L.secs := by omega
            subst hjs2
            have hji : ¬ (L.secs : Int) < (L.secs : Int) := by omega
            clear hjs hj
            rw [accU_all HR2.out] at HS
            have HUR : Hid (∀ b, (t.used.getD k 0 ||| nb r cl).testBit b = true → r.testBit b = true) := Lib.hid (fun b hb => by
              rw [Nat.testBit_or, testBit_nb] at hb
              rcases Bool.or_eq_true_iff.1 hb with h1 | h1
              · exact HUT.out b h1
              · exact (Bool.and_eq_true_iff.1 h1).1)
            have hu4 : t.used.getD k 0 ||| nb r cl < 4096 := Nat.or_lt_two_pow (n := 12) HU4.out (nb_lt hr4)
            generalize t.used.getD k 0 ||| nb r cl = u2 at *
            obtain ⟨-, -, c2⟩ := HS.out.rc.cells HKN.out
            obtain ⟨csr, hhr, hszr⟩ := HS.out.rc.route
            have fr2 := hhr.free (k * 3 + 2)
            have hc2 : wr.cell? ⟨x'.rb, k * 3 + 2, none⟩ = some (I (t.idle.getD k 0 : Nat)) := c2
            obtain ⟨d1, hd1⟩ : ∃ d1, d1 = t.idle.getD k 0 + 1 := ⟨_, rfl⟩
            have HSD := Lib.hid (HS.out.putIdle HKN.out hkd d1)
            rw [← hd1] at HONE
            have hd1b : d1 ≤ 2000001 := by rw [hd1]; exact Nat.succ_le_succ hd0
            have HE1 : Hid ((t.idle.getD k 0 : Int) + 1 = (d1 : Int)) := Lib.hid (by rw [hd1]; rfl)
            clear hhr hszr c2 hd1
            generalize t.idle.getD k 0 = d0 at *
            go_upto_region 13 with fail
            go_cut [] (fun wx => Hid (StAt w wx B x x' (some ⟨br, or', none⟩) c L bc bx b5 cl wa { t with used := t.used.set k u2, idle := t.idle.set k d1 }))
            case first =>
              go_wp2_with fail
              go_meet
              case rel => rw [HE1.out]; exact HSD
            case rest =>
              have HS6 := hcut
              clear HSD HS hc2 fr2 v1 v2 v3 v4 v5 v6 v7 v8 v9 v10 v11 v12 v13
              obtain ⟨v1, v2, v3, v4, v5, v6, v7, v8, v9, v10, v11, v12, v13⟩ := HS6.out.view
              have hHW := hasB_nat wa k
              have hk8 : k ≤ 64 := by have := HKN.out; omega
              obtain ⟨iN, hiN⟩ : ∃ iN, iN = if wa.testBit k = true then 0 else d1 := ⟨_, rfl⟩
              rw [← hiN] at HONE
              go_upto_region 14 with fail
              go_cut [77] (fun v wx => v = .bool (wa.testBit k) ∧ wc = wx)
              case first =>
                go_wp2_with (go_at_call 84; refine (has_any _ (by omega) (by omega) k hk8 _).mono ?_; rintro e w9 ⟨rfl, rfl⟩; rw [hHW])
                go_meet
                case rel => exact ⟨rfl, rfl⟩
              case rest =>
                obtain ⟨rfl, rfl⟩ := hcut
                obtain ⟨csr, hhr, hszr⟩ := HS6.out.rc.route
                have fr2 := hhr.free (k * 3 + 2)
                obtain ⟨-, -, hc2⟩ := HS6.out.rc.cells HKN.out
                have hc3 : wc.cell? ⟨x'.rb, k * 3 + 2, none⟩ = some (I (d1 : Nat)) := by
                  rw [hc2]
                  show some (I ((t.idle.set k d1).getD k 0 : Nat)) = _
                  rw [List.getD_eq_getElem?_getD, List.getElem?_set_self hkd]
                  rfl
                have hset0 := HS6.out.putIdle HKN.out (by rw [List.length_set]; exact hkd) 0
                have HS0' : Hid (StAt w (wc.setCell ⟨x'.rb, k * 3 + 2, none⟩ (I 0)) B x x' (some ⟨br, or', none⟩) c L bc bx b5 cl wa { t with used := t.used.set k u2, idle := t.idle.set k 0 }) := Lib.hid (by
                  dsimp only at hset0
                  rw [List.set_set] at hset0
                  exact hset0)
                clear hhr hszr hc2 hset0
                refine (‹∀ (a : Act) (w : World), Code.wp _ _ _ a w → _› _ _ ?_)
                go_cut [] (fun wx => Hid (StAt w wx B x x' (some ⟨br, or', none⟩) c L bc bx b5 cl wa { t with used := t.used.set k u2, idle := t.idle.set k iN }))
                case first =>
                  cases hw : wa.testBit k with
                  | true =>
                    rw [hw, if_pos rfl] at hiN
                    subst hiN
                    clear hw hHW
                    go_wp2_with fail
                    go_meet
                    case rel => exact HS0'
                  | false =>
                    rw [hw, if_neg (by simp)] at hiN
                    subst hiN
                    clear hw hHW
                    go_wp2_with fail
                    go_meet
                    case rel => exact HS6
                case rest =>
                  have HS7 := hcut
                  clear hiN
                  clear HS6 HS0' hc3 fr2 v1 v2 v3 v4 v5 v6 v7 v8 v9 v10 v11 v12 v13 hHW hk8
                  have HCL2 := Lib.hid (busy_ok HS7.out.rc hL bc bx k cl wa HKN.out HS7.out.hc HS7.out.hx hcl)
                  obtain ⟨v1, v2, v3, v4, v5, v6, v7, v8, v9, v10, v11, v12, v13⟩ := HS7.out.view
                  obtain ⟨-, c1, hc2⟩ := HS7.out.rc.cells HKN.out
                  have c2 : wc.cell? ⟨x'.rb, k * 3 + 2, none⟩ = some (I (iN : Nat)) := by
                    rw [hc2]
                    show some (I ((t.idle.set k iN).getD k 0 : Nat)) = _
                    rw [List.getD_eq_getElem?_getD, List.getElem?_set_self hkd]
                    rfl
                  have hmk := HS7.out.rc.maps k HKN.out
                  have hmk2 : IMap Tryd.prog 3 wc (x'.mb k) 12 (usedM u2) := by
                    have e : ({ t with used := t.used.set k u2, idle := t.idle.set k iN } : St).used.getD k 0 = u2 := by
                      show (t.used.set k u2).getD k 0 = u2
                      rw [List.getD_eq_getElem?_getD, List.getElem?_set_self hku]
                      rfl
                    rw [e] at hmk
                    exact hmk
                  have HMK := Lib.hid hmk2
                  have HP1 := Lib.hid (show lenU u2 = allN r L.secs ↔ u2 = r by rw [lenU_eq HUR.out HR2.out hs12]; exact allN_eq HUR.out HR2.out)
                  have HP2 := Lib.hid (busyN_zero (cl := cl) HR2.out)
                  have HP3 := Lib.hid (lenU_zero hu4)
                  have hlu := lenU_le u2
                  have hbn : busyN r cl L.secs ≤ 12 := Nat.le_trans (cntB_le _ _) hs12
                  have hal : allN r L.secs ≤ 12 := Nat.le_trans (cntB_le _ _) hs12
                  rw [HRR.out] at HCL2
                  have hLN : ∀ q, (Builtin.len_ #[80] 3 #[.map (some (x'.mb k))]).run Tryd.prog (wc.drewN q) = .ok (.int .i64 (lenU u2 : Nat)) (wc.drewN q) := fun q => (HMK.out.at_heap (w' := wc.drewN q) rfl).len mapB 3
                  clear hmk hmk2 hc2 hcut
                  go_upto_region 17 with (go_at_fn 86; refine HCL2.out.mono ?_; rintro e w9 ⟨rfl, rfl⟩)
                  clear HCL2
                  generalize lenU u2 = lu at *
                  generalize busyN r cl L.secs = bn at *
                  generalize allN r L.secs = al at *
                  go_cut [117] (fun v wx => (∃ nq, wx = wc.drewN nq) ∧ v = .bool ((decide (lu = al) && decide (bn = 0)) || (decide (lu = 0) && decide (L.delay < iN))))
                  case first =>
                    by_cases q1 : lu = al
                    · have t1 : ((lu : Int) == (al : Int)) = true := by rw [q1]; simp
                      by_cases q2 : bn = 0
                      · have t2 : ((bn : Int) == 0) = true := by rw [q2]; rfl
                        have HD : Hid (((decide (lu = al) && decide (bn = 0)) || (decide (lu = 0) && decide (L.delay < iN))) = true) := Lib.hid (by rw [decide_eq_true q1, decide_eq_true q2]; rfl)
                        clear q1 q2 HP1 HP2 HP3 HONE
                        go_quiet (fail)
                        go_wp2_with fail
                        go_meet
                        case rel => exact ⟨⟨_, rfl⟩, by rw [HD.out]⟩
                      · have t2 : ((bn : Int) == 0) = false := by simpa using q2
                        by_cases q3 : lu = 0
                        · have t3 : ((lu : Int) == 0) = true := by rw [q3]; rfl
                          by_cases q4 : L.delay < iN
                          · have q4' := q4
                            have HD : Hid (((decide (lu = al) && decide (bn = 0)) || (decide (lu = 0) && decide (L.delay < iN))) = true) := Lib.hid (by rw [decide_eq_true q1, decide_eq_false q2, decide_eq_true q3, decide_eq_true q4]; rfl)
                            try clear q1 q2 q3 q4 HP1 HP2 HP3 HONE
                            go_quiet (fail)
                            go_wp2_with fail
                            go_meet
                            case rel => exact ⟨⟨_, rfl⟩, by rw [HD.out]⟩
                          · have q4' : ¬ L.delay < iN := q4
                            have HD : Hid (((decide (lu = al) && decide (bn = 0)) || (decide (lu = 0) && decide (L.delay < iN))) = false) := Lib.hid (by rw [decide_eq_true q1, decide_eq_false q2, decide_eq_true q3, decide_eq_false q4]; rfl)
                            clear q1 q2 q3 q4 HP1 HP2 HP3 HONE
                            go_quiet (fail)
                            go_wp2_with fail
                            go_meet
                            case rel => exact ⟨⟨_, rfl⟩, by rw [HD.out]⟩
                        · have t3 : ((lu : Int) == 0) = false := by simpa using q3
                          have HD : Hid (((decide (lu = al) && decide (bn = 0)) || (decide (lu = 0) && decide (L.delay < iN))) = false) := Lib.hid (by rw [decide_eq_true q1, decide_eq_false q2, decide_eq_false q3]; rfl)
                          clear q1 q2 q3 HP1 HP2 HP3 HONE
                          go_quiet (fail)
                          go_wp2_with fail
                          go_meet
                          case rel => exact ⟨⟨_, rfl⟩, by rw [HD.out]⟩
                    · have t1 : ((lu : Int) == (al : Int)) = false := by simpa using (fun e => q1 (by omega) : ¬ (lu : Int) = (al : Int))
                      by_cases q3 : lu = 0
                      · have t3 : ((lu : Int) == 0) = true := by rw [q3]; rfl
                        by_cases q4 : L.delay < iN
                        · have q4' := q4
                          have HD : Hid (((decide (lu = al) && decide (bn = 0)) || (decide (lu = 0) && decide (L.delay < iN))) = true) := Lib.hid (by rw [decide_eq_false q1, decide_eq_true q3, decide_eq_true q4]; rfl)
                          clear q1 q3 q4 HP1 HP2 HP3 HONE
                          go_quiet (fail)
                          go_wp2_with fail
                          go_meet
                          case rel => exact ⟨⟨_, rfl⟩, by rw [HD.out]⟩
                        · have q4' : ¬ L.delay < iN := q4
                          have HD : Hid (((decide (lu = al) && decide (bn = 0)) || (decide (lu = 0) && decide (L.delay < iN))) = false) := Lib.hid (by rw [decide_eq_false q1, decide_eq_true q3, decide_eq_false q4]; rfl)
                          clear q1 q3 q4 HP1 HP2 HP3 HONE
                          go_quiet (fail)
                          go_wp2_with fail
                          go_meet
                          case rel => exact ⟨⟨_, rfl⟩, by rw [HD.out]⟩
                      · have t3 : ((lu : Int) == 0) = false := by simpa using q3
                        have HD : Hid (((decide (lu = al) && decide (bn = 0)) || (decide (lu = 0) && decide (L.delay < iN))) = false) := Lib.hid (by rw [decide_eq_false q1, decide_eq_false q3]; rfl)
                        clear q1 q3 HP1 HP2 HP3 HONE
                        go_quiet (fail)
                        go_wp2_with fail
                        go_meet
                        case rel => exact ⟨⟨_, rfl⟩, by rw [HD.out]⟩
                  case rest =>
                    obtain ⟨⟨nq, rfl⟩, rfl⟩ := hcut
                    have HS8 := Lib.hid (HS7.out.after (below_drewN (Below.refl _ _) nq))
                    clear HS7 v1 v2 v3 v4 v5 v6 v7 v8 v9 v10 v11 v12 v13 c1 c2 hLN HMK
                    generalize wc.drewN nq = w8 at *
                    by_cases hC : u2 = r ∧ nb r cl = 0 ∨ u2 = 0 ∧ L.delay < iN
                    · rw [if_pos hC] at HONE
                      have hD : ((decide (lu = al) && decide (bn = 0)) || (decide (lu = 0) && decide (L.delay < iN))) = true := by
                        rw [Bool.or_eq_true, Bool.and_eq_true, Bool.and_eq_true, decide_eq_true_eq, decide_eq_true_eq, decide_eq_true_eq, decide_eq_true_eq, HP1.out, HP2.out, HP3.out]
                        exact hC
                      rw [hD]
                      have HS9 := HS8.out.reset HKN.out (by rw [List.length_set]; exact hku) (by rw [List.length_set]; exact hkd)
                      dsimp only at HS9
                      rw [List.set_set, List.set_set] at HS9
                      have HS10 := Lib.hid HS9
                      obtain ⟨cs9, hh9, hsz9⟩ := HS8.out.rc.route
                      obtain ⟨b0, b1, b2⟩ := HS8.out.rc.cells HKN.out
                      have ha := hh9.alloc (.map #[] 0)
                      have fa0 := ha.free (k * 3)
                      have fa1 := ha.free (k * 3 + 1)
                      have fa2 := ha.free (k * 3 + 2)
                      have hmm := @run_makeMap Tryd.prog
                      have hlr := ha.lt
                      have al9 : ∀ i v, w8.cell? ⟨x'.rb, i, none⟩ = some v → (w8.alloc (.map #[] 0)).cell? ⟨x'.rb, i, none⟩ = some v := fun i v hv => by rw [ha.cell]; rw [hh9.cell] at hv; exact hv
                      have e0 := al9 _ _ b0
                      have e1 := al9 _ _ b1
                      have e2 := al9 _ _ b2
                      clear hC hD HP1 HP2 HP3 HS8 hh9 ha b0 b1 b2 al9 HS9 hsz9
                      go_wp2_with fail
                      go_roundw
                      case rel => exact ⟨k + 1, _, HKN.out, by go_num, by rw [HONE.out]; exact HS10⟩
                      case measure => have := HKN.out; simp [intOf]; omega
                    · rw [if_neg hC] at HONE
                      have hD : ((decide (lu = al) && decide (bn = 0)) || (decide (lu = 0) && decide (L.delay < iN))) = false := by
                        rw [Bool.eq_false_iff, ne_eq, Bool.or_eq_true, Bool.and_eq_true, Bool.and_eq_true, decide_eq_true_eq, decide_eq_true_eq, decide_eq_true_eq, decide_eq_true_eq, HP1.out, HP2.out, HP3.out]
                        exact hC
                      rw [hD]
                      clear hC hD HP1 HP2 HP3
                      go_wp2_with fail
                      go_roundw
                      case rel => exact ⟨k + 1, x', HKN.out, by go_num, by rw [HONE.out]; exact HS8⟩
                      case measure => have := HKN.out; simp [intOf]; omega
--A>
    · have hkn2 : k = L.routes.length := by omega
      subst hkn2
      have hlf := letGo_fits (cl := cl) (wa := wa) hL HF.out L.routes.length (Nat.le_refl _)
      have HSL : Hid ((letGo L cl wa s L.routes.length).set < 2 ^ L.routes.length) := Lib.hid (Nat.lt_of_le_of_lt (letGo_set_le _ _ _ _ _) HST.out)
      have HSTEP : Hid (stepS L cl wa s = { letGo L cl wa s L.routes.length with set := setTo L.routes cl wa (letGo L cl wa s L.routes.length).set L.routes.length }) := Lib.hid rfl
      have HS2 : Hid (StAt w wr B x x' (some ⟨br, or', none⟩) c L bc bx b5 cl wa { letGo L cl wa s L.routes.length with set := setTo L.routes cl wa (letGo L cl wa s L.routes.length).set 0 }) := HS
      have HF8 : Hid ((letGo L cl wa s L.routes.length).Fits 2000000) := Lib.hid ⟨hlf.set, hlf.used8, hlf.idle8, hlf.used, fun y hy => Nat.le_trans (hlf.idle y hy) (by omega)⟩
      have hki : ¬ (L.routes.length : Int) < (L.routes.length : Int) := by omega
      obtain ⟨v1, v2, v3, v4, v5, v6, v7, v8, v9, v10, v11, v12, v13⟩ := HS.out.view
      clear hlf HS hk hkn
      generalize letGo L cl wa s L.routes.length = t0 at *
      go_wp2_with fail
      clear v1 v2 v3 v4 v5 v6 v7 v8 v9 v10 v11 v12 v13 hki
      go_loopw [128] (fun kv wq => ∃ m : Nat, m ≤ L.routes.length ∧ kv = I m ∧ Hid (StAt w wq B x x' (some ⟨br, or', none⟩) c L bc bx b5 cl wa { t0 with set := setTo L.routes cl wa t0.set m })) (fun kv _ => L.routes.length - (intOf kv).toNat)
      case atStart => exact ⟨0, Nat.zero_le _, rfl, HS2⟩
      case round =>
        clear HS2
        obtain ⟨m, hm, rfl, HS⟩ := hrel
        by_cases hmn : m < L.routes.length
        · have hmi : (m : Int) < (L.routes.length : Int) := by omega
          have hsm := setTo_pow L.routes cl wa t0.set L.routes.length HSL.out m hm
          have HNEW := Lib.hid (newOne_ref hL (cl := cl) (wa := wa) hmn hsm)
          have HSUC : Hid (setTo L.routes cl wa t0.set (m + 1) = if newOne L.routes cl wa (setTo L.routes cl wa t0.set m) m then setTo L.routes cl wa t0.set m ||| 1 <<< m else setTo L.routes cl wa t0.set m) := Lib.hid rfl
          have HMN := Lib.hid hmn
          clear hm hsm
          generalize setTo L.routes cl wa t0.set m = st at *
          obtain ⟨v1, v2, v3, v4, v5, v6, v7, v8, v9, v10, v11, v12, v13⟩ := HS.out.view
          obtain ⟨c0, c1, c2⟩ := HS.out.rc.cells hmn
          have HCL2 := Lib.hid (busy_ok HS.out.rc hL bc bx m cl wa hmn HS.out.hc HS.out.hx hcl)
          obtain ⟨hr4, hr2⟩ := rt_small hL hmn
          have HP2 := Lib.hid (busyN_zero (cl := cl) hr2)
          have hbn : busyN (rt L.routes m) cl L.secs ≤ 12 := Nat.le_trans (cntB_le _ _) hs12
          have hH := hasB_nat wa m
          have hm8 : m ≤ 64 := by omega
          clear hmn hr4 hr2
          generalize busyN (rt L.routes m) cl L.secs = bn at *
          obtain ⟨f0, hf0⟩ : ∃ f0, f0 = (wa.testBit m && !st.testBit m && decide (bn = 0)) := ⟨_, rfl⟩
          have HF0 := Lib.hid hf0
          clear hf0
          go_upto_region 24 with (go_at_fn 86; refine HCL2.out.mono ?_; rintro e w9 ⟨rfl, rfl⟩)
          go_cut [14] (fun v wx => v = .bool f0 ∧ wr = wx)
          case first =>
            cases hw : wa.testBit m with
            | false =>
              rw [hw] at HF0 hH
              clear hw
              go_wp2_with (go_at_call 84; refine (has_any _ (by omega) (by omega) m hm8 _).mono ?_; rintro e w9 ⟨rfl, rfl⟩; rw [hH])
              go_meet
              case rel => exact ⟨by rw [HF0.out]; rfl, rfl⟩
            | true =>
              rw [hw] at HF0 hH
              clear hw
              cases hs : st.testBit m with
              | true =>
                have c0' : wr.cell? ⟨x'.rb, m * 3, none⟩ = some (.bool true) := by rw [c0]; show some (Value.bool (st.testBit m)) = _; rw [hs]
                rw [hs] at HF0
                clear hs c0
                go_wp2_with (go_at_call 84; refine (has_any _ (by omega) (by omega) m hm8 _).mono ?_; rintro e w9 ⟨rfl, rfl⟩; rw [hH])
                go_meet
                case rel => exact ⟨by rw [HF0.out]; rfl, rfl⟩
              | false =>
                have c0' : wr.cell? ⟨x'.rb, m * 3, none⟩ = some (.bool false) := by rw [c0]; show some (Value.bool (st.testBit m)) = _; rw [hs]
                rw [hs] at HF0
                clear hs c0
                by_cases q2 : bn = 0
                · rw [decide_eq_true q2] at HF0
                  have t2 : ((bn : Int) == 0) = true := by rw [q2]; rfl
                  clear q2
                  go_wp2_with (go_at_call 84; refine (has_any _ (by omega) (by omega) m hm8 _).mono ?_; rintro e w9 ⟨rfl, rfl⟩; rw [hH])
                  go_meet
                  case rel => exact ⟨by rw [HF0.out]; rfl, rfl⟩
                · rw [decide_eq_false q2] at HF0
                  have t2 : ((bn : Int) == 0) = false := by simpa using q2
                  clear q2
                  go_wp2_with (go_at_call 84; refine (has_any _ (by omega) (by omega) m hm8 _).mono ?_; rintro e w9 ⟨rfl, rfl⟩; rw [hH])
                  go_meet
                  case rel => exact ⟨by rw [HF0.out]; rfl, rfl⟩
          case rest =>
            obtain ⟨rfl, rfl⟩ := hcut
            clear HCL2 hH
            go_wp2_with fail
            clear v1 v2 v3 v4 v5 v6 v7 v8 v9 v10 v11 v12 v13 c0 c1 c2
            go_loopw [14, 161] (fun fv jv wx => ∃ j : Nat, j ≤ L.routes.length ∧ jv = I j ∧ fv = .bool (f0 && noneTo L.secs L.routes st m j) ∧ Hid (StAt w wx B x x' (some ⟨br, or', none⟩) c L bc bx b5 cl wa { t0 with set := st })) (fun _ jv _ => L.routes.length - (intOf jv).toNat)
            case atStart => exact ⟨0, Nat.zero_le _, rfl, by show _ = Value.bool (f0 && true); rw [Bool.and_true], HS⟩
            case round =>
              clear HS
              obtain ⟨j, hj, rfl, rfl, HS⟩ := hrel
              obtain ⟨v1, v2, v3, v4, v5, v6, v7, v8, v9, v10, v11, v12, v13⟩ := HS.out.view
              by_cases hjn : j < L.routes.length
              · have hji : (j : Int) < (L.routes.length : Int) := by omega
                have HJ := Lib.hid hjn
                obtain ⟨c0, -, -⟩ := HS.out.rc.cells hjn
                have HN1 : Hid (noneTo L.secs L.routes st m (j + 1) = (noneTo L.secs L.routes st m j && !(st.testBit j && decide (j ≠ m) && meetB L.secs (rt L.routes m) (rt L.routes j)))) := Lib.hid rfl
                obtain ⟨ra, hra⟩ := some_at L.routes m HMN.out
                obtain ⟨rb, hrb⟩ := some_at L.routes j hjn
                have HM := Lib.hid (meet_ok L.secs L.routes.length c m j ra rb (some ⟨br, or', none⟩) L.delay L.routes wr B hs12 HS.out.rc.base (Lib.hid rfl) HS.out.rc.lay hra hrb (hL.small ra (List.mem_of_getElem? hra)) (hL.small rb (List.mem_of_getElem? hrb)))
                rw [← rt_of hra, ← rt_of hrb] at HM
                clear hra hrb hj hjn
                generalize meetB L.secs (rt L.routes m) (rt L.routes j) = mb at *
                generalize noneTo L.secs L.routes st m j = nt at *
                cases hfv : (f0 && nt) with
                | false =>
                  have HN2 : Hid ((f0 && noneTo L.secs L.routes st m (j + 1)) = false) := Lib.hid (by rw [HN1.out, ← Bool.and_assoc, hfv]; rfl)
                  clear hfv HM
                  go_wp2_with fail
                  go_roundw
                  case rel => exact ⟨j + 1, HJ.out, by go_num, by rw [HN2.out], HS⟩
                  case measure => have := HJ.out; simp [intOf]; omega
                | true =>
                  cases hs : st.testBit j with
                  | false =>
                    have c0' : wr.cell? ⟨x'.rb, j * 3, none⟩ = some (.bool false) := by rw [c0]; show some (Value.bool (st.testBit j)) = _; rw [hs]
                    have HN2 : Hid ((f0 && noneTo L.secs L.routes st m (j + 1)) = true) := Lib.hid (by rw [HN1.out, ← Bool.and_assoc, hfv, hs]; rfl)
                    clear hfv HM hs c0
                    go_wp2_with fail
                    go_roundw
                    case rel => exact ⟨j + 1, HJ.out, by go_num, by rw [HN2.out], HS⟩
                    case measure => have := HJ.out; simp [intOf]; omega
                  | true =>
                    have c0' : wr.cell? ⟨x'.rb, j * 3, none⟩ = some (.bool true) := by rw [c0]; show some (Value.bool (st.testBit j)) = _; rw [hs]
                    by_cases hjm : j = m
                    · have t1 : ((j : Int) != (m : Int)) = false := by simp; omega
                      have HN2 : Hid ((f0 && noneTo L.secs L.routes st m (j + 1)) = true) := Lib.hid (by rw [HN1.out, ← Bool.and_assoc, hfv, hs, decide_eq_false (not_not_intro hjm)]; rfl)
                      clear hfv HM hs c0 hjm
                      go_wp2_with fail
                      go_roundw
                      case rel => exact ⟨j + 1, HJ.out, by go_num, by rw [HN2.out], HS⟩
                      case measure => have := HJ.out; simp [intOf]; omega
                    · have t1 : ((j : Int) != (m : Int)) = true := by simp; omega
                      have HN2 : Hid ((f0 && noneTo L.secs L.routes st m (j + 1)) = !mb) := Lib.hid (by rw [HN1.out, ← Bool.and_assoc, hfv, hs, decide_eq_true hjm]; rfl)
                      clear hfv hs c0 hjm
                      go_wp2_with (go_at_call 85; refine HM.out.mono ?_; rintro e w9 ⟨rfl, hb9⟩)
                      have HS9 := Lib.hid (HS.out.after hb9)
                      go_roundw
                      case rel => exact ⟨j + 1, HJ.out, by go_num, by rw [HN2.out], HS9⟩
                      case measure => have := HJ.out; simp [intOf]; omega
              · have hjn2 : j = L.routes.length := by omega
                subst hjn2
                have hji : ¬ (L.routes.length : Int) < (L.routes.length : Int) := by omega
                have HNF : Hid ((f0 && noneTo L.secs L.routes st m L.routes.length) = newOne L.routes cl wa st m) := Lib.hid (by
                  rw [HNEW.out, HF0.out, show decide (bn = 0) = decide (nb (rt L.routes m) cl = 0) by rw [Bool.eq_iff_iff, decide_eq_true_eq, decide_eq_true_eq, HP2.out]])
                rw [HNF.out]
                clear hj hjn HNEW HF0 HP2 HNF
                cases hnew : newOne L.routes cl wa st m with
                | false =>
                  rw [hnew] at HSUC
                  clear hnew
                  go_wp2_with fail
                  go_roundw
                  case rel => exact ⟨m + 1, HMN.out, by go_num, by rw [HSUC.out]; exact HS⟩
                  case measure => have := HMN.out; simp [intOf]; omega
                | true =>
                  rw [hnew] at HSUC
                  obtain ⟨csr, hhr, hszr⟩ := HS.out.rc.route
                  have fr0 := hhr.free (m * 3)
                  obtain ⟨c0, -, -⟩ := HS.out.rc.cells HMN.out
                  have HS9 := Lib.hid (HS.out.putSet HMN.out)
                  clear hnew hhr hszr
                  go_wp2_with fail
                  go_roundw
                  case rel => exact ⟨m + 1, HMN.out, by go_num, by rw [HSUC.out]; exact HS9⟩
                  case measure => have := HMN.out; simp [intOf]; omega
        · have hmn2 : m = L.routes.length := by omega
          subst hmn2
          have hmi : ¬ (L.routes.length : Int) < (L.routes.length : Int) := by omega
          rw [← HSTEP.out] at HS
          have hfs : (stepS L cl wa s).Fits 2000000 := by
            rw [HSTEP.out]
            exact ⟨setTo_lt _ _ _ _ HF8.out.set _ hn8, HF8.out.used8, HF8.out.idle8, HF8.out.used, HF8.out.idle⟩
          obtain ⟨v1, v2, v3, v4, v5, v6, v7, v8, v9, v10, v11, v12, v13⟩ := HS.out.view
          have HCS : Hid (Calls Tryd.prog 34 #[I (L.routes.length : Int), .func (.func 87) #[] #[.pointer (some ⟨b5, 0, none⟩), .pointer (some ⟨bc, 0, none⟩), .pointer (some ⟨bx, 0, none⟩)]] wr fun e w' => e = .returned (I ((outTo L.routes cl wa (stepS L cl wa s) L.routes.length : Nat) : Int)) ∧ Below wr.heap.size wr w') := Lib.hid (by
            refine (set_ok L.routes.length _ _ (shows L.routes cl wa (stepS L cl wa s)) enters_show (by omega) wr (Lib.hid fun W i hi hb => ?_)).mono ?_
            · refine (show_ok (HS.out.after hb) hL hfs hcl hwa i hi).mono ?_
              rintro e w' ⟨rfl, rfl⟩
              exact ⟨rfl, Below.refl _ _⟩
            · rintro e w' ⟨rfl, hb⟩
              exact ⟨by rw [outTo_setB], hb⟩)
          clear hfs hm hmn
          go_wp2_with (go_at_call 34; refine HCS.out.mono ?_; rintro e w9 ⟨rfl, hb9⟩)
          go_ret
          have HS9 := HS.out.after hb9
          exact ⟨rfl, x', HS9.rc, HS9.same, HS9.moved, HS9.blocks⟩
end
end Go.Proofs.YtdhekhlmdefcnaaDoor
/- The reference's NewCore. -/
namespace Go.Proofs.YtdhekhlmdefcnaaDoor
open Go.RowKit
theorem infoRoute : (Tryd.prog.info? 169).map (fun i => (i.zero, i.size, i.bytes)) = some (some (.agg #[.bool false, .map none, .int .i64 0]), 3, 24) := by kernel_rfl
/-- the cells of routes of which nothing is known -/
def rowsN (mb : Nat → Nat) : Nat → List Value
  | 0 => []
  | i + 1 => rowsN mb i ++ [.bool false, .map (some (mb i)), I 0]
theorem rowsN_length (mb : Nat → Nat) : ∀ i, (rowsN mb i).length = i * 3
  | 0 => rfl
  | i + 1 => by rw [rowsN, List.length_append, rowsN_length mb i]; simp; omega
theorem rowsN_get (mb : Nat → Nat) : ∀ n i, i < n → (rowsN mb n)[i * 3]? = some (.bool false) ∧ (rowsN mb n)[i * 3 + 1]? = some (.map (some (mb i))) ∧ (rowsN mb n)[i * 3 + 2]? = some (I 0)
  | 0, i, h => by omega
  | n + 1, i, h => by
    rw [rowsN]
    have hl := rowsN_length mb n
    by_cases e : i = n
    · subst e
      refine ⟨?_, ?_, ?_⟩
      · rw [List.getElem?_append_right (by omega), hl, Nat.sub_self]; rfl
      · rw [List.getElem?_append_right (by omega), hl, Nat.add_sub_cancel_left]; rfl
      · rw [List.getElem?_append_right (by omega), hl, Nat.add_sub_cancel_left]; rfl
    · obtain ⟨a, b, c⟩ := rowsN_get mb n i (by omega)
      exact ⟨by rw [List.getElem?_append_left (by omega)]; exact a, by rw [List.getElem?_append_left (by omega)]; exact b, by rw [List.getElem?_append_left (by omega)]; exact c⟩
theorem rowsN_congr {mb mb' : Nat → Nat} : ∀ i, (∀ j, j < i → mb j = mb' j) → rowsN mb i = rowsN mb' i
  | 0, _ => rfl
  | i + 1, h => by rw [rowsN, rowsN, rowsN_congr i (fun j hj => h j (by omega)), h i (by omega)]
/-- routes that are made so far -/
structure NewAt (w : World) (B g : Nat) (S d n c : Nat) (A : Option Addr) (v : Value) (mb : Nat → Nat) (i : Nat) : Prop where
  has : Has w g 167 #[I S, .slice A n c, I d, v]
  own : w.ownsRow B 169 3 v i (rowsN mb i)
  maps : ∀ j, j < i → IMap Tryd.prog 3 w (mb j) 12 (usedM 0)
  inj : ∀ j k, j < i → k < i → mb j = mb k → j = k
  low : ∀ j, j < i → B ≤ mb j
theorem zero_used (i : Nat) : St.zero.used.getD i 0 = 0 := by
  show (List.replicate 8 0).getD i 0 = 0
  rw [List.getD_eq_getElem?_getD, List.getElem?_replicate]
  split <;> rfl
theorem zero_idle (i : Nat) : St.zero.idle.getD i 0 = 0 := zero_used i
set_option maxHeartbeats 4000000 in
set_option maxRecDepth 100000 in
theorem rc_new (L : Lay) (A : Option Addr) (c : Nat) (w : World) (B : Nat) (hB : B ≤ w.heap.size) (hn1 : 1 ≤ L.routes.length) (hn : L.routes.length ≤ 8) (hr : Reads w B A (ints (zs L.routes))) :
    Calls Tryd.prog 44 #[.agg #[I L.secs, .slice A L.routes.length c, I L.delay]] w fun e w' => (∃ x, e = .returned (.pointer (some ⟨x.g, 0, none⟩)) ∧ RcAt w' B x A c L St.zero ∧ w.heap.size ≤ x.g ∧ ∀ b, FC x L.routes.length b → w.heap.size ≤ b) ∧ Below w.heap.size w w' := by
  obtain ⟨i0, hi0, hz0, hz1, hz2⟩ := info_parts infoRoute
  have hb1 : Below w.heap.size w ((w.alloc (.cells #[I L.secs, .slice A L.routes.length c, I L.delay] 25)).alloc (.cells #[I L.secs, .slice A L.routes.length c, I L.delay, .slice none 0 0] 167)) := ((Below.refl _ _).alloc (Nat.le_refl _) _).alloc (by simp) _
  have k0 := (Has.new w 25 #[I L.secs, .slice A L.routes.length c, I L.delay])
  have kl := k0.alloc (.cells #[I L.secs, .slice A L.routes.length c, I L.delay, .slice none 0 0] 167)
  have kc := Has.new' (w.alloc (.cells #[I L.secs, .slice A L.routes.length c, I L.delay] 25)) 167 #[I L.secs, .slice A L.routes.length c, I L.delay, .slice none 0 0] (w.heap.size + 1) (by simp)
  have cl1 := kl.cellv 1 (.slice A L.routes.length c) rfl
  have HR := Lib.hid hr
  have H0 : Hid (NewAt ((w.alloc (.cells #[I L.secs, .slice A L.routes.length c, I L.delay] 25)).alloc (.cells #[I L.secs, .slice A L.routes.length c, I L.delay, .slice none 0 0] 167)) w.heap.size (w.heap.size + 1) L.secs L.delay L.routes.length c A (.slice none 0 0) (fun _ => 0) 0) :=
    Lib.hid ⟨kc, ⟨rfl, .inl ⟨rfl, rfl⟩⟩, fun j hj => by omega, fun j k hj => by omega, fun j hj => by omega⟩
  have HB1 := Lib.hid hb1
  have hnn : ∀ k : Nat, k < L.routes.length → (k : Int) < (L.routes.length : Int) := fun k h => by omega
  clear hb1 kc kl hr
  go_enter Tryd.func44, Tryd.ntmps44
  go_upto_region 2 with fail
  clear k0
  generalize (w.alloc (.cells #[I L.secs, .slice A L.routes.length c, I L.delay] 25)).alloc (.cells #[I L.secs, .slice A L.routes.length c, I L.delay, .slice none 0 0] 167) = w1 at *
  have hz : w.heap.size + 1 < w1.heap.size := H0.out.has.lt
  generalize hG : w.heap.size + 1 = g at *
  have HG := Lib.hid hG
  clear hG
  go_wp2_with fail
  clear cl1
  go_loopw [10] (fun kv wr => ∃ (k : Nat) (v : Value) (mb : Nat → Nat), k ≤ L.routes.length ∧ kv = I k ∧ Hid (NewAt wr w.heap.size g L.secs L.delay L.routes.length c A v mb k) ∧ Hid (Below w.heap.size w wr)) (fun kv _ => L.routes.length - (intOf kv).toNat)
  case atStart => exact ⟨0, _, _, Nat.zero_le _, rfl, H0, HB1⟩
  case round =>
    clear H0 HB1
    obtain ⟨k, v, mb, hk, rfl, HN, HB⟩ := hrel
    have c3 := HN.out.has.cellv 3 v rfl
    have lg := HN.out.has.lt
    by_cases hkn : k < L.routes.length
    · have hki := hnn k hkn
      have kg1 := HN.out.has.alloc (.map #[] 0)
      have c31 := kg1.cellv 3 v rfl
      have lg1 := kg1.lt
      have HO1 : Hid ((wr.alloc (.map #[] 0)).ownsRow w.heap.size 169 3 v k (rowsN mb k)) := Lib.hid (HN.out.own.alloc _)
      have HGW : Hid (w.heap.size ≤ wr.heap.size) := Lib.hid HB.out.size
      have HKN := Lib.hid hkn
      clear hk hkn
      have hmm := @run_makeMap Tryd.prog
      clear kg1
      go_wp2_with (at_builtin; go_loud (refine wpList_append_own _ rfl (.tmp 16) (.tmp 19) 165 rfl w.heap.size 169 i0 _ 3 24 Tryd.underlying165 hi0 hz0 hz1 hz2 rfl (by decide) _ k _ rfl (HO1.out.alloc _) ⟨wr.heap.size + 1, 0, none⟩ 1 1 [.bool false, .map (some wr.heap.size), I 0] rfl rfl ?c1 ?c2 ?c3 ?c4 ?c5 ?_))
      case c1 =>
        intro j u hu
        have hkk := Has.new' (wr.alloc (.map #[] 0)) 169 #[.bool false, .map (some wr.heap.size), I 0] (wr.heap.size + 1) (by simp)
        rw [add_at, Nat.zero_add, hkk.cell]
        simpa using hu
      case c2 => intro u hu; simp at hu; rcases hu with rfl | rfl | rfl <;> rfl
      case c3 => have := HKN.out; unfold maxLen; omega
      case c4 => have := HKN.out; omega
      case c5 => have := HGW.out; simp; omega
      intro v' w' hown' hgrow _
      obtain ⟨A2, c2, rfl, -, -⟩ := own_read hown'
      have hge : ∀ b, b < wr.heap.size → v.ownBlock ≠ some b → w'.heap[b]? = wr.heap[b]? := fun b hb hne => by
        rw [hgrow.block b (by simp; omega) (fun e => hne e.symm)]
        exact (Below.heap_alloc _ _ b (by simp; omega)).trans (Below.heap_alloc _ _ b hb)
      have hnv : v.ownBlock ≠ some g := fun e => own_has_ne HN.out.own HN.out.has (by decide) e
      have kg2 : Has w' g 167 #[I L.secs, .slice A L.routes.length c, I L.delay, v] := (hge g HN.out.has.lt hnv).trans HN.out.has
      have fg3 := kg2.free 3
      have cg3 := kg2.cellv 3 v rfl
      have lg2 := kg2.lt
      have hmb : ∀ j, j < k → mb j < wr.heap.size := fun j hj => (HN.out.maps j hj).lt
      have hmv : ∀ b K m, IMap Tryd.prog 3 wr b K m → v.ownBlock ≠ some b := fun b K m hm e => by
        rcases HN.out.own.2 with ⟨rfl, _⟩ | ⟨q, cap, cur, rfl, _, hh, _⟩
        · simp [Value.ownBlock] at e
        · simp [Value.ownBlock] at e
          subst e
          exact imapC_ne hm hh rfl
      have HS2 : Hid (∃ mb', NewAt (w'.setCell ⟨g, 3, none⟩ (.slice A2 (k + 1) c2)) w.heap.size g L.secs L.delay L.routes.length c A (.slice A2 (k + 1) c2) mb' (k + 1)) := Lib.hid (by
        refine ⟨fun j => if j = k then wr.heap.size else mb j, ?_, ?_, ?_, ?_, ?_⟩
        · exact kg2.set 3 _
        · have e : rowsN (fun j => if j = k then wr.heap.size else mb j) (k + 1) = rowsN mb k ++ [.bool false, .map (some wr.heap.size), I 0] := by
            rw [rowsN, rowsN_congr (mb' := mb) k (fun j hj => by rw [if_neg (by omega)])]
            simp
          rw [e]
          exact own_far hown' kg2 (by decide) 3 _
        · intro j hj
          have hfar : ∀ b, b ≠ g → (w'.setCell ⟨g, 3, none⟩ (.slice A2 (k + 1) c2)).heap[b]? = w'.heap[b]? := fun b hb => Below.heap_setCell _ _ _ _ hb
          by_cases e : j = k
          · subst e
            have hnew : IMap Tryd.prog 3 (wr.alloc (.map #[] 0)) wr.heap.size 12 (usedM 0) := (IMap.new Tryd.prog 3 wr 12).congr fun q _ => usedM_zero q
            show IMap _ _ _ (if j = j then wr.heap.size else mb j) _ _
            rw [if_pos rfl]
            have h0 : v.ownBlock ≠ some wr.heap.size := fun e => by
              have := (HN.out.own.lt _ e).2
              omega
            refine hnew.at_heap ((hfar _ (Nat.ne_of_gt lg)).trans ?_)
            rw [hgrow.block _ (by simp; omega) (fun e => h0 e.symm)]
            exact Below.heap_alloc _ _ _ (by simp)
          · show IMap _ _ _ (if j = k then wr.heap.size else mb j) _ _
            rw [if_neg e]
            have hm := HN.out.maps j (by omega)
            exact hm.at_heap ((hfar _ (imapC_ne hm HN.out.has)).trans (hge _ hm.lt (hmv _ _ _ hm)))
        · intro j q hj hq e
          have e2 : (if j = k then wr.heap.size else mb j) = (if q = k then wr.heap.size else mb q) := e
          by_cases e3 : j = k
          · by_cases e4 : q = k
            · omega
            · rw [if_pos e3, if_neg e4] at e2
              have := hmb q (by omega)
              omega
          · by_cases e4 : q = k
            · rw [if_neg e3, if_pos e4] at e2
              have := hmb j (by omega)
              omega
            · rw [if_neg e3, if_neg e4] at e2
              exact HN.out.inj j q (by omega) (by omega) e2
        · intro j hj
          show w.heap.size ≤ (if j = k then wr.heap.size else mb j)
          split
          · exact HGW.out
          · exact HN.out.low j (by omega))
      have HB2 : Hid (Below w.heap.size w (w'.setCell ⟨g, 3, none⟩ (.slice A2 (k + 1) c2))) := Lib.hid ((((HB.out.alloc HGW.out _).alloc (by have := HGW.out; simp; omega) _).grown hgrow (by have := HGW.out; simp; omega) (fun q hq => (HN.out.own.lt q hq).1)).setCell (p := ⟨g, 3, none⟩) (by have := HG.out; show w.heap.size ≤ g; omega) _)
      clear hge hmb hmv hgrow hown' kg2 c31 lg1
      go_wp2_with fail
      go_roundw
      case rel =>
        obtain ⟨mb', h2⟩ := HS2.out
        exact ⟨k + 1, _, mb', HKN.out, by go_num, Lib.hid h2, HB2⟩
      case measure => have := HKN.out; simp [intOf]; omega
    · have hkn2 : k = L.routes.length := by omega
      subst hkn2
      have hki : ¬ (L.routes.length : Int) < (L.routes.length : Int) := by omega
      clear hk hkn
      go_wp2_with fail
      go_ret
      refine ⟨?_, HB.out⟩
      obtain ⟨k1, k2⟩ := HN.out.own
      rcases k2 with ⟨_, h0⟩ | ⟨q, cap, cur, rfl, hq, hh, hnc, _, hcs, ht⟩
      · omega
      refine ⟨⟨g, q, cap, mb⟩, rfl, ⟨HN.out.has, HR.out.below (HB.out.mono hB), ⟨cur, hh, by rw [hcs]; exact Nat.mul_le_mul_right 3 hnc, fun i hi => ?_⟩, fun i hi => ?_, HN.out.inj, ?_, ?_, fun i hi => Nat.le_trans hB (HN.out.low i hi), hnc, Nat.le_trans hB HB.out.size⟩, ?_, ?_⟩
      · obtain ⟨a1, a2, a3⟩ := rowsN_get mb L.routes.length i hi
        rw [← ht] at a1 a2 a3
        have pick : ∀ j u, (cur.toList.take (L.routes.length * 3))[j]? = some u → cur[j]? = some u := fun j u hu => by
          rw [List.getElem?_take] at hu
          split at hu
          · simpa using hu
          · cases hu
        refine ⟨?_, pick _ _ a2, ?_⟩
        · rw [pick _ _ a1]; show _ = some (Value.bool ((0 : Nat).testBit i)); rw [Nat.zero_testBit]
        · rw [pick _ _ a3, zero_idle]; rfl
      · rw [zero_used]; exact HN.out.maps i hi
      · show B ≤ g; have := HG.out; omega
      · show B ≤ q; omega
      · show w.heap.size ≤ g; have := HG.out; omega
      · rintro b (rfl | ⟨i, hi, rfl⟩)
        · exact hq
        · exact HN.out.low i hi
end Go.Proofs.YtdhekhlmdefcnaaDoor
