/- Part 32 of the proof: TaDoes. -/
import Derived.Test.YtdhekhlmdefcnabPart30
import Derived.Test.YtdhekhlmdefcnabPart28
import Derived.Test.YtdhekhlmdefcnabPart31
import Derived.BigQuiet
namespace Go.Proofs.Ytdhekhlmdefcnab
open Go.RowKit
def stpC (x : Stp) (v : Value) : Array Value := ([I x.what, I x.k, I x.n, I x.c, I x.w] ++ (ints x.frame ++ [v])).toArray
theorem pk_nat (a : Int) {n : Nat} (h : 0 < n) : pk a n = (pkN a n : Nat) := by
 have := pk_in a n (by omega)
 unfold pkN
 unfold pk at this ⊢
 omega
theorem pick_nat (a : Int) (n : Nat) (h : 0 < n) (hn : n ≤ 1000000) (w : World) : Calls Try.prog 26 #[I a, I n] w fun e w' => e = .returned (I (pkN a n : Nat)) ∧ w' = w := by
 refine (pick_any a n (by omega) (by omega) w).mono ?_
 rintro e w' ⟨rfl, rfl⟩
 exact ⟨by rw [pk_nat a h], rfl⟩
/- cases -/
theorem does_0 {L : Lay} {ℓ N : Nat} {Ta : Tale} {x : Stp} {i0 : Nat} (hi : (if 0 < Ta.s.way.length then pkN x.n Ta.s.way.length else 0) = i0) (h : x.what = 0) : does L ℓ N Ta x = { Ta with fields := Ta.fields.set (pkN x.k 3) (x.c, x.w), s := sysSee Ta.s (pkN x.k 3) (x.c, x.w) } := by
 unfold does
 dsimp only
 rw [hi, if_pos h]
theorem does_1 {L : Lay} {ℓ N : Nat} {Ta : Tale} {x : Stp} {i0 : Nat} (hi : (if 0 < Ta.s.way.length then pkN x.n Ta.s.way.length else 0) = i0) (h : x.what = 1) : does L ℓ N Ta x = { looks Ta (pkN x.k 3) false with s := tickR L Ta.s (pkN x.k 3) } := by
 unfold does
 dsimp only
 rw [hi, if_neg (by rw [h]; decide), if_pos h]
theorem does_2 {L : Lay} {ℓ N : Nat} {Ta : Tale} {x : Stp} {i0 : Nat} (hi : (if 0 < Ta.s.way.length then pkN x.n Ta.s.way.length else 0) = i0) (h : x.what = 2) : does L ℓ N Ta x = { Ta with s := sysAsks Ta.s (pkN x.k 3) } := by
 unfold does
 dsimp only
 rw [hi, if_neg (by rw [h]; decide), if_neg (by rw [h]; decide), if_pos h]
theorem does_3 {L : Lay} {ℓ N : Nat} {Ta : Tale} {x : Stp} {i0 : Nat} (hi : (if 0 < Ta.s.way.length then pkN x.n Ta.s.way.length else 0) = i0) (h : x.what = 3) : does L ℓ N Ta x = { Ta with s := deliver L Ta.s i0 } := by
 unfold does
 dsimp only
 rw [hi, if_neg (by rw [h]; decide), if_neg (by rw [h]; decide), if_neg (by rw [h]; decide), if_pos h]
theorem does_4 {L : Lay} {ℓ N : Nat} {Ta : Tale} {x : Stp} {i0 : Nat} (hi : (if 0 < Ta.s.way.length then pkN x.n Ta.s.way.length else 0) = i0) (h : x.what = 4) : does L ℓ N Ta x = { Ta with s := sysLose Ta.s i0 } := by
 unfold does
 dsimp only
 rw [hi, if_neg (by rw [h]; decide), if_neg (by rw [h]; decide), if_neg (by rw [h]; decide), if_neg (by rw [h]; decide), if_pos h]
theorem does_5 {L : Lay} {ℓ N : Nat} {Ta : Tale} {x : Stp} {i0 : Nat} (hi : (if 0 < Ta.s.way.length then pkN x.n Ta.s.way.length else 0) = i0) (h : x.what = 5) : does L ℓ N Ta x = { Ta with s := sysTwice Ta.s i0 } := by
 unfold does
 dsimp only
 rw [hi, if_neg (by rw [h]; decide), if_neg (by rw [h]; decide), if_neg (by rw [h]; decide), if_neg (by rw [h]; decide), if_neg (by rw [h]; decide), if_pos h]
theorem does_6 {L : Lay} {ℓ N : Nat} {Ta : Tale} {x : Stp} {i0 : Nat} (hi : (if 0 < Ta.s.way.length then pkN x.n Ta.s.way.length else 0) = i0) (h : x.what = 6) : does L ℓ N Ta x = { Ta with s := sysSpoil Ta.s i0 (pkN x.n 700) (burstOf x.c) } := by
 unfold does
 dsimp only
 rw [hi, if_neg (by rw [h]; decide), if_neg (by rw [h]; decide), if_neg (by rw [h]; decide), if_neg (by rw [h]; decide), if_neg (by rw [h]; decide), if_neg (by rw [h]; decide), if_pos h]
theorem does_7 {L : Lay} {ℓ N : Nat} {Ta : Tale} {x : Stp} {i0 : Nat} (hi : (if 0 < Ta.s.way.length then pkN x.n Ta.s.way.length else 0) = i0) (h : x.what = 7) : does L ℓ N Ta x = { Ta with s := sysCrash Ta.s (pkN x.k 3), fields := Ta.fields.set (pkN x.k 3) (0, 0) } := by
 unfold does
 dsimp only
 rw [hi, if_neg (by rw [h]; decide), if_neg (by rw [h]; decide), if_neg (by rw [h]; decide), if_neg (by rw [h]; decide), if_neg (by rw [h]; decide), if_neg (by rw [h]; decide), if_neg (by rw [h]; decide), if_pos h]
theorem does_8 {L : Lay} {ℓ N : Nat} {Ta : Tale} {x : Stp} {i0 : Nat} (hi : (if 0 < Ta.s.way.length then pkN x.n Ta.s.way.length else 0) = i0) (h : x.what = 8) : does L ℓ N Ta x = (if ℓ < 3 ∧ mayB (x.frame.set 1 ℓ) = true then { Ta with s := sysSays Ta.s ℓ (toWhom ℓ x.n) (encB (x.frame.set 1 ℓ)) } else Ta) := by
 unfold does
 dsimp only
 rw [hi, if_neg (by rw [h]; decide), if_neg (by rw [h]; decide), if_neg (by rw [h]; decide), if_neg (by rw [h]; decide), if_neg (by rw [h]; decide), if_neg (by rw [h]; decide), if_neg (by rw [h]; decide), if_neg (by rw [h]; decide), if_pos h]
theorem does_9 {L : Lay} {ℓ N : Nat} {Ta : Tale} {x : Stp} {i0 : Nat} (hi : (if 0 < Ta.s.way.length then pkN x.n Ta.s.way.length else 0) = i0) (h : x.what = 9) : does L ℓ N Ta x = (if ℓ < 3 then { Ta with s := sysSays Ta.s ℓ (toWhom ℓ x.n) x.bytes } else Ta) := by
 unfold does
 dsimp only
 rw [hi, if_neg (by rw [h]; decide), if_neg (by rw [h]; decide), if_neg (by rw [h]; decide), if_neg (by rw [h]; decide), if_neg (by rw [h]; decide), if_neg (by rw [h]; decide), if_neg (by rw [h]; decide), if_neg (by rw [h]; decide), if_neg (by rw [h]; decide), if_pos h]
theorem does_10 {L : Lay} {ℓ N : Nat} {Ta : Tale} {x : Stp} {i0 : Nat} (hi : (if 0 < Ta.s.way.length then pkN x.n Ta.s.way.length else 0) = i0) (h : x.what = 10) : does L ℓ N Ta x = { looks (looks (looks Ta 0 true) 1 true) 2 true with s := calm L N Ta.s (pkN x.n 4) } := by
 unfold does
 dsimp only
 rw [hi, if_neg (by rw [h]; decide), if_neg (by rw [h]; decide), if_neg (by rw [h]; decide), if_neg (by rw [h]; decide), if_neg (by rw [h]; decide), if_neg (by rw [h]; decide), if_neg (by rw [h]; decide), if_neg (by rw [h]; decide), if_neg (by rw [h]; decide), if_neg (by rw [h]; decide), if_pos h]
theorem does_11 {L : Lay} {ℓ N : Nat} {Ta : Tale} {x : Stp} {i0 : Nat} (hi : (if 0 < Ta.s.way.length then pkN x.n Ta.s.way.length else 0) = i0) (h : x.what = 11) : does L ℓ N Ta x = { Ta with s := { Ta.s with v := voTick Ta.s.v } } := by
 unfold does
 dsimp only
 rw [hi, if_neg (by rw [h]; decide), if_neg (by rw [h]; decide), if_neg (by rw [h]; decide), if_neg (by rw [h]; decide), if_neg (by rw [h]; decide), if_neg (by rw [h]; decide), if_neg (by rw [h]; decide), if_neg (by rw [h]; decide), if_neg (by rw [h]; decide), if_neg (by rw [h]; decide), if_neg (by rw [h]; decide), if_pos h]
theorem does_12 {L : Lay} {ℓ N : Nat} {Ta : Tale} {x : Stp} {i0 : Nat} (hi : (if 0 < Ta.s.way.length then pkN x.n Ta.s.way.length else 0) = i0) (h : x.what = 12) : does L ℓ N Ta x = { Ta with s := sysLatch Ta.s } := by
 unfold does
 dsimp only
 rw [hi, if_neg (by rw [h]; decide), if_neg (by rw [h]; decide), if_neg (by rw [h]; decide), if_neg (by rw [h]; decide), if_neg (by rw [h]; decide), if_neg (by rw [h]; decide), if_neg (by rw [h]; decide), if_neg (by rw [h]; decide), if_neg (by rw [h]; decide), if_neg (by rw [h]; decide), if_neg (by rw [h]; decide), if_neg (by rw [h]; decide), if_pos h]
theorem does_13 {L : Lay} {ℓ N : Nat} {Ta : Tale} {x : Stp} (h : ∀ c : Int, 0 ≤ c → c ≤ 12 → x.what ≠ c) : does L ℓ N Ta x = Ta := by
 unfold does
 dsimp only
 rw [if_neg (h 0 (by decide) (by decide)), if_neg (h 1 (by decide) (by decide)), if_neg (h 2 (by decide) (by decide)), if_neg (h 3 (by decide) (by decide)), if_neg (h 4 (by decide) (by decide)), if_neg (h 5 (by decide) (by decide)), if_neg (h 6 (by decide) (by decide)), if_neg (h 7 (by decide) (by decide)), if_neg (h 8 (by decide) (by decide)), if_neg (h 9 (by decide) (by decide)), if_neg (h 10 (by decide) (by decide)), if_neg (h 11 (by decide) (by decide)), if_neg (h 12 (by decide) (by decide))]
/- ends -/
theorem or_u32 (a b : Nat) (ha : a < 4294967296) (hb : b < 4294967296) : bits .or .u32 (a : Int) (b : Int) = ((a ||| b : Nat) : Int) := by
 unfold bits
 simp only [BitVec.ofInt_natCast, BitVec.toNat_or, BitVec.toNat_ofNat]
 rw [mod32 a ha, mod32 b hb]
 have : a ||| b < 2 ^ 32 := Nat.or_lt_two_pow ha hb
 show ((a ||| b : Nat) : Int) % 4294967296 = _
 omega
theorem burst_u32 (c : Int) : bits .or .u32 (IntKind.u32.wrap c) 2147483648 = ((burstOf c : Nat) : Int) := by
 have h1 : IntKind.u32.wrap c = ((msk c 32 : Nat) : Int) := by
  show c % 4294967296 = _
  unfold msk
  omega
 rw [h1]
 have h2 := msk_lt c 32
 exact or_u32 (msk c 32) (1 <<< 31) h2 (by decide)
theorem burst_pos (c : Int) : 0 < burstOf c ∧ burstOf c < 4294967296 := by
 unfold burstOf
 refine ⟨?_, Nat.or_lt_two_pow (msk_lt c 32) (by decide)⟩
 have : 1 <<< 31 ≤ msk c 32 ||| 1 <<< 31 := Nat.right_le_or
 have : (1 : Nat) <<< 31 = 2147483648 := by decide
 omega
theorem stpC_28 {x : Stp} (h : x.frame.length = 23) (v : Value) : (stpC x v)[28]? = some v := by
 unfold stpC
 rw [List.getElem?_toArray, List.getElem?_append_right (by simp), List.getElem?_append_right (by simp [ints_length, h])]
 simp [ints_length, h]
theorem stp_range {x : Stp} {v : Value} {w : World} {g : Nat} (_h : x.frame.length = 23) (k : Has w g 38 (stpC x v)) : w.rangeAt g 5 (ints x.frame) := fun j u hu => by
 rw [k.cell]
 have hj := (List.getElem?_eq_some_iff.1 hu).1
 unfold stpC
 rw [List.getElem?_toArray, List.getElem?_append_right (by simp), List.getElem?_append_left (by simp; omega)]
 simpa using hu
theorem wf_set {f : List Int} {ℓ : Nat} (h : Wf f) (hℓ : ℓ ≤ 3) : Wf (f.set 1 ℓ) := by
 refine ⟨by rw [List.length_set]; exact h.1, fun y hy => ?_⟩
 rcases List.mem_or_eq_of_mem_set hy with hy | rfl
 ·exact h.2 y hy
 ·constructor <;> omega
def lookTo (Ta : Tale) : Nat → Tale
 | 0 => Ta
 | j + 1 => looks (lookTo Ta j) j true
theorem lookTo_s (Ta : Tale) : ∀ j, (lookTo Ta j).s = Ta.s
 | 0 => rfl
 | j + 1 => lookTo_s Ta j
theorem lookTo_len (Ta : Tale) : ∀ j, (lookTo Ta j).seen.length = Ta.seen.length + j
 | 0 => rfl
 | j + 1 => by
  show ((lookTo Ta j).seen ++ _).length = _
  rw [List.length_append, lookTo_len Ta j]
  rfl
section
variable {w w' w1 : World} {B : Nat} {y y' : TaX} {L : Lay} {ℓ : Nat} {Ta : Tale} {s' : Sys} {T : Nat}
set_option maxHeartbeats 2000000 in
set_option maxRecDepth 100000 in
theorem ta_does (N : Nat) (hN : N = 1200) (h : TaAt w B y L ℓ Ta) (hf : Fine T Ta.s) (hL : L.Ok) (hT : T ≤ 9800000000) (hn : Ta.seen.length ≤ 10000) (hℓ : ℓ ≤ 3) (x : Stp) (hx : Wf x.frame) (A : Option Addr) (c : Nat) (hc : x.bytes.length ≤ c) (hr : Reads w B A (bytes x.bytes)) (hl : x.bytes.length ≤ 1000) :
    Calls Try.prog 10 #[.pointer (some ⟨y.g, 0, none⟩), .agg (stpC x (.slice A x.bytes.length c))] w (TaPost w B y L ℓ (does L ℓ N Ta x)) := by
  obtain ⟨v, hv⟩ : ∃ v, v = Value.slice A x.bytes.length c := ⟨_, rfl⟩
  have HV := Lib.hid hv
  rw [← hv]
  have kb := Has.new w 38 (stpC x v)
  have hb1 : Below w.heap.size w (w.alloc (.cells (stpC x v) 38)) := (Below.refl _ _).alloc (Nat.le_refl _) _
  have h1 := h.after hb1
  have hr1 := hr.alloc h.hB (.cells (stpC x v) 38)
  have hnf : ¬ FA y w.heap.size := fun e => by
    rcases e with e | e | e
    · have := h.sys.lt e; omega
    · have := h.has.lt; omega
    · obtain ⟨_, cur, hh⟩ := own_block h.seen e
      have := hh.lt; omega
  have HF := Lib.hid hf
  have HB1 := Lib.hid hb1
  have k3 : 0 < 3 := by decide
  have hk3 := pkN_lt x.k (n := 3) (by decide)
  have HN := Lib.hid hN
  clear h hf hr hv hb1 hN
  go_enter Try.func10, Try.ntmps10
  go_upto_region 1 with fail
  generalize w.alloc (.cells (stpC x v) 38) = w1 at *
  have HY1 := Lib.hid h1
  have s0 := h1.scell
  have b1 := kb.cellv 1 (I x.k) rfl
  have hgy := h1.has.lt
  have hgb := kb.lt
  have HPK := Lib.hid (fun n => pick_nat x.k 3 (by decide) (by decide) (w1.drewN n))
  go_quiet (first
    | (go_at_call 26; exact Calls.quiet_of_same (HPK.out _)))
  have HD2 : Below w1.heap.size w1 (w1.drewN nq) := below_drewN (Below.refl _ _) nq
  have HY2 := Lib.hid (HY1.out.after HD2)
  have HR2 := Lib.hid (hr1.drewN nq)
  have kb2 := kb.drewN nq
  have HB2 : Hid (Below w.heap.size w (w1.drewN nq)) := Lib.hid (below_drewN HB1.out nq)
  have hgy2 := HY2.out.has.lt
  have hgb2 := kb2.lt
  clear h1 hr1 HB1 HY1 s0 b1 hgy hgb HPK kb HD2
  generalize w1.drewN nq = w2 at *
  generalize hG : w.heap.size = gb at *
  have HG := Lib.hid hG
  have KB := Lib.hid kb2
  have HNF := Lib.hid hnf
  clear hG hnf
  have b0 := kb2.cellv 0 (I x.what) rfl
  have b2 := kb2.cellv 2 (I x.n) rfl
  have b3 := kb2.cellv 3 (I x.c) rfl
  have b4 := kb2.cellv 4 (I x.w) rfl
  clear kb2
  obtain ⟨i0, hi0⟩ : ∃ i0, (if 0 < Ta.s.way.length then pkN x.n Ta.s.way.length else 0) = i0 := ⟨_, rfl⟩
  have HI0 := Lib.hid hi0
  have HM := Lib.hid (sy_many HY2.out.sys)
  have hway := HF.out.way
  by_cases hw0 : 0 < Ta.s.way.length
  case' pos =>
    rw [if_pos hw0] at hi0
    have hpn := pkN_lt x.n hw0
    rw [hi0] at hpn
    have HIC : Hid (i0 < Ta.s.way.length ∨ Ta.s.way.length = 0) := Lib.hid (.inl hpn)
    have HPN := Lib.hid (pick_nat x.n Ta.s.way.length hw0 (by omega))
    rw [hi0] at HPN
    clear hi0 hpn
    go_upto_region 6 with (first
      | (go_at_call 27; refine HM.out.mono ?_; rintro e w' ⟨rfl, he⟩; cases he)
      | (go_at_call 26; refine (HPN.out _).mono ?_; rintro e w' ⟨rfl, he⟩; cases he.symm))
    clear hw0 HPN
  case' neg =>
    have hz : Ta.s.way.length = 0 := by omega
    rw [if_neg hw0] at hi0
    have HZ0 : Hid ((i0 : Int) = 0) := Lib.hid (by omega)
    have HIC : Hid (i0 < Ta.s.way.length ∨ Ta.s.way.length = 0) := Lib.hid (.inr hz)
    clear hi0
    rw [hz] at HM
    clear hw0
    go_upto_region 6 with (go_at_call 27; refine HM.out.mono ?_; rintro e w' ⟨rfl, he⟩; cases he)
    clear hz
  all_goals
    by_cases hw : ∃ c : Nat, c ≤ 12 ∧ x.what = c
    · obtain ⟨c1, hc1, hw⟩ := hw
      have hcc : c1 = 0 ∨ c1 = 1 ∨ c1 = 2 ∨ c1 = 3 ∨ c1 = 4 ∨ c1 = 5 ∨ c1 = 6 ∨ c1 = 7 ∨ c1 = 8 ∨ c1 = 9 ∨ c1 = 10 ∨ c1 = 11 ∨ c1 = 12 := by omega
      clear hc1
      rcases hcc with rfl | rfl | rfl | rfl | rfl | rfl | rfl | rfl | rfl | rfl | rfl | rfl | rfl
      · have HE := Lib.hid (does_0 (L := L) (ℓ := ℓ) (N := N) HI0.out hw)
        rw [show x.what = 0 from hw] at b0
        clear hw
        have HFD := Lib.hid ((HY2.out.after ((Below.refl _ _).drew)).setField hk3 x.c x.w)
        obtain ⟨fc1, fc2⟩ := HY2.out.fcell hk3
        have fz1 := HY2.out.has.free (5 + pkN x.k 3 * 2)
        have fz2 := HY2.out.has.free (5 + pkN x.k 3 * 2 + 1)
        go_upto_region 8 with fail
        go_cut [] (fun wx => Hid (∃ y', TaAt wx B y' L ℓ { Ta with fields := Ta.fields.set (pkN x.k 3) (x.c, x.w) } ∧ AMoved w2 wx y y' ∧ Has wx gb 38 (stpC x v)))
        case first =>
          go_region
          all_goals
            go_wp2_with fail
            go_meet
            case rel => exact Lib.hid ⟨y, HFD.out.1, (AMoved.of_below ((Below.refl _ _).drew)).trans HFD.out.2, (HFD.out.2.keep KB.out.drew HNF.out).1⟩
        case rest =>
          obtain ⟨y1, hy1, hm1, kb1⟩ := hcut.out
          have HY3 := Lib.hid hy1
          have HM1 := Lib.hid hm1
          have b3 := kb1.cellv 3 (I x.c) rfl
          have b4 := kb1.cellv 4 (I x.w) rfl
          have hgb3 := kb1.lt
          have HSX := HM1.out.samex
          have HCL := Lib.hid (in_see (SyIn.start HY3.out.sys HY3.out.hB) (pkN x.k 3) hk3 x.c x.w)
          rw [HSX] at HCL
          clear hcut hy1 hm1 kb1 fc1 fc2 fz1 fz2 HFD b0 b2 hgb2 hgy2
          go_wp2_with (go_at_call 21; refine HCL.out.mono ?_; rintro e wb ⟨⟨v1, rfl, hv1⟩, hin, hst⟩; have HZ := Lib.hid (HY3.out.fromIn hin); clear hin)
          go_end0
          obtain ⟨y', h1, h2⟩ := HZ.out
          exact ⟨rfl, y', by rw [HE.out]; exact h1, ((AMoved.of_below (by rw [HG.out]; exact HB2.out)).trans HM1.out).trans h2⟩
      · have HE := Lib.hid (does_1 (L := L) (ℓ := ℓ) (N := N) HI0.out hw)
        rw [show x.what = 1 from hw] at b0
        clear hw
        have HCL := Lib.hid (ta_looks HY2.out HF.out (by omega) (pkN x.k 3) hk3 false)
        go_wp2_with (first
          | (go_at_call 28; refine HCL.out.mono ?_; rintro e wa ⟨rfl, y1, hy1, hm1⟩; have HY3 := Lib.hid hy1; have HM1 := Lib.hid hm1; clear hy1 hm1)
          | (go_at_call 29
             have hcl := in_tick (SyIn.start HY3.out.sys HY3.out.hB) HF.out hL (by omega) (pkN x.k 3) hk3
             rw [HM1.out.samex] at hcl
             refine hcl.mono ?_
             clear hcl
             rintro e wb ⟨⟨v1, rfl, hv1⟩, hin, hst⟩
             have HZ := Lib.hid (HY3.out.fromIn hin)
             clear hin))
        go_end0
        obtain ⟨y', h1, h2⟩ := HZ.out
        exact ⟨rfl, y', by rw [HE.out]; exact h1, ((AMoved.of_below (by rw [HG.out]; exact HB2.out)).trans HM1.out).trans h2⟩
      · have HE := Lib.hid (does_2 (L := L) (ℓ := ℓ) (N := N) HI0.out hw)
        rw [show x.what = 2 from hw] at b0
        clear hw
        have HCL := Lib.hid (in_asks (SyIn.start HY2.out.sys HY2.out.hB) HF.out (by omega) (pkN x.k 3) hk3)
        try rw [HZ0.out] at HCL
        go_wp2_with (go_at_call 30; refine HCL.out.mono ?_; rintro e wb ⟨⟨v1, rfl, hv1⟩, hin, hst⟩; have HZ := Lib.hid (HY2.out.fromIn hin); clear hin)
        go_end0
        obtain ⟨y', h1, h2⟩ := HZ.out
        exact ⟨rfl, y', by rw [HE.out]; exact h1, (AMoved.of_below (by rw [HG.out]; exact HB2.out)).trans h2⟩
      · have HE := Lib.hid (does_3 (L := L) (ℓ := ℓ) (N := N) HI0.out hw)
        rw [show x.what = 3 from hw] at b0
        clear hw
        have HCL := Lib.hid (in_deliv (SyIn.start HY2.out.sys HY2.out.hB) HF.out hL (by omega) i0 HIC.out)
        try rw [HZ0.out] at HCL
        go_wp2_with (go_at_call 31; refine HCL.out.mono ?_; rintro e wb ⟨⟨v1, rfl, hv1⟩, hin, hst⟩; have HZ := Lib.hid (HY2.out.fromIn hin); clear hin)
        go_end0
        obtain ⟨y', h1, h2⟩ := HZ.out
        exact ⟨rfl, y', by rw [HE.out]; exact h1, (AMoved.of_below (by rw [HG.out]; exact HB2.out)).trans h2⟩
      · have HE := Lib.hid (does_4 (L := L) (ℓ := ℓ) (N := N) HI0.out hw)
        rw [show x.what = 4 from hw] at b0
        clear hw
        have HCL := Lib.hid (in_lose (SyIn.start HY2.out.sys HY2.out.hB) HF.out i0 HIC.out)
        try rw [HZ0.out] at HCL
        go_wp2_with (go_at_call 32; refine HCL.out.mono ?_; rintro e wb ⟨⟨v1, rfl, hv1⟩, hin, hst⟩; have HZ := Lib.hid (HY2.out.fromIn hin); clear hin)
        go_end0
        obtain ⟨y', h1, h2⟩ := HZ.out
        exact ⟨rfl, y', by rw [HE.out]; exact h1, (AMoved.of_below (by rw [HG.out]; exact HB2.out)).trans h2⟩
      · have HE := Lib.hid (does_5 (L := L) (ℓ := ℓ) (N := N) HI0.out hw)
        rw [show x.what = 5 from hw] at b0
        clear hw
        have HCL := Lib.hid (in_twice (SyIn.start HY2.out.sys HY2.out.hB) HF.out (by omega) i0 HIC.out)
        try rw [HZ0.out] at HCL
        go_wp2_with (go_at_call 33; refine HCL.out.mono ?_; rintro e wb ⟨⟨v1, rfl, hv1⟩, hin, hst⟩; have HZ := Lib.hid (HY2.out.fromIn hin); clear hin)
        go_end0
        obtain ⟨y', h1, h2⟩ := HZ.out
        exact ⟨rfl, y', by rw [HE.out]; exact h1, (AMoved.of_below (by rw [HG.out]; exact HB2.out)).trans h2⟩
      · have HE := Lib.hid (does_6 (L := L) (ℓ := ℓ) (N := N) HI0.out hw)
        rw [show x.what = 6 from hw] at b0
        clear hw
        have HDW := Lib.hid (HY2.out.after ((Below.refl w2.heap.size w2).drew))
        have hp7 := pkN_lt x.n (n := 700) (by decide)
        have HBU := Lib.hid (burst_u32 x.c)
        have hbp := burst_pos x.c
        have hcl := sy_spoil HDW.out.sys HDW.out.hB HF.out i0 HIC.out (pkN x.n 700) (burstOf x.c) (by omega) hbp.1 hbp.2
        have HCL := Lib.hid hcl
        try rw [HZ0.out] at HCL
        try have hz0i := HZ0.out
        clear hcl hbp hp7
        go_upto_region 22 with fail
        refine wp_region_held_drew (S := fun wx => (wx.cell? ⟨gb, 2, none⟩ = some (I x.n)) ∧ (wx.cell? ⟨gb, 3, none⟩ = some (I x.c))) (by kernel_rfl) ⟨b2, b3⟩ (fun hHeld => ?_)
        refine wpAnyH_take (i := 0) (oi := { dst := some 73, op := Op.move (Operand.tmp 4), type := 41, pos := "keep.go:278", after := #[], guard := none }) (v := .pointer (some ⟨y.x.g, 0, none⟩)) rfl (by kernel_rfl) (by kernel_rfl) (by kernel_rfl) (fun _ _ _ h => h) (Or.inl ⟨by rfl, ?_⟩) hHeld ?_
        · rintro wx ⟨hs0, hs1⟩
          go_simp
        simp only [Act.put, List.setIfInBounds_toArray, List.set_cons_zero, List.set_cons_succ]
        refine wpAnyH_take (i := 1) (oi := { dst := some 74, op := Op.move (Operand.tmp 6), type := 3, pos := "keep.go:278", after := #[], guard := none }) (v := I i0) rfl (by kernel_rfl) (by kernel_rfl) (by kernel_rfl) (fun _ _ _ h => h) (Or.inl ⟨by rfl, ?_⟩) hHeld ?_
        · rintro wx ⟨hs0, hs1⟩
          go_simp
        simp only [Act.put, List.setIfInBounds_toArray, List.set_cons_zero, List.set_cons_succ]
        refine wpAnyH_take (i := 2) (oi := { dst := some 75, op := Op.fieldAddr 38 (Operand.tmp 3) 2, type := 0, pos := "keep.go:278", after := #[], guard := none }) (v := .pointer (some ⟨gb, 2, none⟩)) rfl (by kernel_rfl) (by kernel_rfl) (by kernel_rfl) (fun _ _ _ h => h) (Or.inl ⟨by rfl, ?_⟩) hHeld ?_
        · rintro wx ⟨hs0, hs1⟩
          go_simp
        simp only [Act.put, List.setIfInBounds_toArray, List.set_cons_zero, List.set_cons_succ]
        refine wpAnyH_take (i := 3) (oi := { dst := some 76, op := Op.load 3 (Operand.tmp 75), type := 3, pos := "keep.go:278", after := #[{ on := 2, ground := Ground.data }], guard := none }) (v := I x.n) rfl (by kernel_rfl) (by kernel_rfl) (by kernel_rfl) (fun _ _ _ h => h) (Or.inl ⟨by rfl, ?_⟩) hHeld ?_
        · rintro wx ⟨hs0, hs1⟩
          go_simp
        simp only [Act.put, List.setIfInBounds_toArray, List.set_cons_zero, List.set_cons_succ]
        refine wpAnyH_take (i := 5) (oi := { dst := some 78, op := Op.fieldAddr 38 (Operand.tmp 3) 3, type := 0, pos := "keep.go:278", after := #[], guard := none }) (v := .pointer (some ⟨gb, 3, none⟩)) rfl (by kernel_rfl) (by kernel_rfl) (by kernel_rfl) (fun _ _ _ h => h) (Or.inl ⟨by rfl, ?_⟩) hHeld ?_
        · rintro wx ⟨hs0, hs1⟩
          go_simp
        simp only [Act.put, List.setIfInBounds_toArray, List.set_cons_zero, List.set_cons_succ]
        refine wpAnyH_take (i := 6) (oi := { dst := some 79, op := Op.fieldAddr 30 (Operand.tmp 78) 0, type := 0, pos := "keep.go:278", after := #[{ on := 5, ground := Ground.data }], guard := none }) (v := .pointer (some ⟨gb, 3, none⟩)) rfl (by kernel_rfl) (by kernel_rfl) (by kernel_rfl) (fun _ _ _ h => h) (Or.inl ⟨by rfl, ?_⟩) hHeld ?_
        · rintro wx ⟨hs0, hs1⟩
          go_simp
        simp only [Act.put, List.setIfInBounds_toArray, List.set_cons_zero, List.set_cons_succ]
        refine wpAnyH_take (i := 7) (oi := { dst := some 80, op := Op.load 3 (Operand.tmp 79), type := 3, pos := "keep.go:278", after := #[{ on := 6, ground := Ground.data }], guard := none }) (v := I x.c) rfl (by kernel_rfl) (by kernel_rfl) (by kernel_rfl) (fun _ _ _ h => h) (Or.inl ⟨by rfl, ?_⟩) hHeld ?_
        · rintro wx ⟨hs0, hs1⟩
          go_simp
        simp only [Act.put, List.setIfInBounds_toArray, List.set_cons_zero, List.set_cons_succ]
        refine wpAnyH_take (i := 8) (oi := { dst := some 81, op := Op.convert 3 75 (Operand.tmp 80), type := 75, pos := "keep.go:278", after := #[{ on := 7, ground := Ground.data }], guard := none }) (v := .int .u32 (IntKind.u32.wrap x.c)) rfl (by kernel_rfl) (by kernel_rfl) (by kernel_rfl) (fun _ _ _ h => h) (Or.inl ⟨by rfl, ?_⟩) hHeld ?_
        · rintro wx ⟨hs0, hs1⟩
          go_simp
        simp only [Act.put, List.setIfInBounds_toArray, List.set_cons_zero, List.set_cons_succ]
        refine wpAnyH_take (i := 9) (oi := { dst := some 82, op := Op.binOp BinOp.or 75 (Operand.tmp 81) (Operand.const (Value.int IntKind.u32 2147483648)) 75, type := 75, pos := "keep.go:278", after := #[{ on := 8, ground := Ground.data }], guard := none }) (v := .int .u32 (bits .or .u32 (IntKind.u32.wrap x.c) 2147483648)) rfl (by kernel_rfl) (by kernel_rfl) (by kernel_rfl) (fun _ _ _ h => h) (Or.inl ⟨by rfl, ?_⟩) hHeld ?_
        · rintro wx ⟨hs0, hs1⟩
          go_simp
        simp only [Act.put, List.setIfInBounds_toArray, List.set_cons_zero, List.set_cons_succ]
        refine wpAnyH_ready (rs := [4]) (by kernel_rfl) (by simp) (AllReadyH.cons (o := { dst := some 77, op := Op.call { callee := Callee.value (Operand.func 26), args := #[Operand.tmp 76, Operand.const (Value.int IntKind.i64 700)], argTypes := #[3, 3] }, type := 3, pos := "keep.go:278", after := #[{ on := 3, ground := Ground.data }], guard := none }) rfl (fun K hK => ?_) AllReadyH.nil)
        go_simp
        go_at_call 26; refine (pick_nat x.n 700 (by decide) (by decide) _).mono ?_; rintro e w' ⟨rfl, he⟩; cases he.symm
        refine hK.out _ _ hHeld (fun hHeld => ?_)
        clear hK K
        try simp only [Act.put, List.setIfInBounds_toArray, List.set_cons_zero, List.set_cons_succ]
        refine wpAnyH_ready (rs := [10]) (by kernel_rfl) (by simp) (AllReadyH.cons (o := { dst := some 83, op := Op.call { callee := Callee.value (Operand.func 34), args := #[Operand.tmp 73, Operand.tmp 74, Operand.tmp 77, Operand.tmp 82], argTypes := #[41, 3, 3, 75] }, type := 53, pos := "keep.go:278", after := #[{ on := 0, ground := Ground.data }, { on := 1, ground := Ground.data }, { on := 4, ground := Ground.data }, { on := 9, ground := Ground.data }, { on := 4, ground := Ground.chain }], guard := none }) rfl (fun K hK => ?_) AllReadyH.nil)
        go_simp
        go_at_call 34; rw [HBU.out]; refine HCL.out.mono ?_; rintro e wb ⟨⟨v1, rfl⟩, x2, hs2, hm2⟩; have HZ := Lib.hid (HDW.out.setSys hs2 hm2); have kbz := HDW.out.sys.stay hm2 _ _ _ KB.out.drew rfl; clear hs2 hm2
        refine hK.out _ _ ⟨kbz.cellv 2 _ rfl, kbz.cellv 3 _ rfl⟩ (fun hHeld => ?_)
        clear hK K
        try simp only [Act.put, List.setIfInBounds_toArray, List.set_cons_zero, List.set_cons_succ]
        refine wpAnyH_done (by kernel_rfl) ?_ _
        go_wp2_with fail
        go_end0
        exact ⟨rfl, _, by rw [HE.out]; exact HZ.out.1, ((AMoved.of_below (by rw [HG.out]; exact HB2.out)).trans (AMoved.of_below ((Below.refl _ _).drew))).trans HZ.out.2⟩
      · have HE := Lib.hid (does_7 (L := L) (ℓ := ℓ) (N := N) HI0.out hw)
        rw [show x.what = 7 from hw] at b0
        clear hw
        go_upto_region 25 with (go_at_call 35; refine (in_crash (SyIn.start HY2.out.sys HY2.out.hB) hL (pkN x.k 3) hk3).mono ?_; rintro e wb ⟨⟨v1, rfl, hv1⟩, hin, hst⟩; have HZ := Lib.hid (HY2.out.fromIn hin); clear hin)
        obtain ⟨y1, hy1, hm1⟩ := HZ.out
        have HY3 := Lib.hid hy1
        have HM1 := Lib.hid hm1
        have hg3 : y1.g = y.g := hm1.same
        have HFD := Lib.hid (HY3.out.setField hk3 0 0)
        obtain ⟨fc1, fc2⟩ := HY3.out.fcell hk3
        have fz1 := HY3.out.has.free (5 + pkN x.k 3 * 2)
        have fz2 := HY3.out.has.free (5 + pkN x.k 3 * 2 + 1)
        have hgy3 := HY3.out.has.lt
        rw [hg3] at HFD fc1 fc2 fz1 fz2 hgy3
        clear hy1 hm1 b0 b2 b3 b4
        go_wp2_with fail
        go_end0
        refine ⟨rfl, y1, by rw [HE.out]; exact HFD.out.1, ((AMoved.of_below (by rw [HG.out]; exact HB2.out)).trans HM1.out).trans HFD.out.2⟩
      · have HE := Lib.hid (does_8 (L := L) (ℓ := ℓ) (N := N) HI0.out hw)
        rw [show x.what = 8 from hw] at b0
        clear hw
        by_cases hl3 : ℓ < 3
        · have hli : (ℓ : Int) < 3 := by omega
          have l4 := HY2.out.lcell
          have HRW : Hid (w2.rangeAt gb 5 (ints x.frame)) := Lib.hid (stp_range hx.1 KB.out)
          have hsI : Hid ((Try.prog.info? 35).map (·.size) = some (ints x.frame).length) := Lib.hid (by rw [ints_length, hx.1]; exact infoFrame)
          have hsf : Hid ((Try.prog.info? 35).map (·.size) = some (frC x.frame).size) := Lib.hid (by rw [frC_size _ hx.1]; exact infoFrame)
          have hzf : Hid ((frC zeroF).size = (frC x.frame).size) := Lib.hid (by rw [frC_size _ hx.1]; rfl)
          have HWX := Lib.hid (wf_set hx hℓ)
          have hsf2 : Hid ((Try.prog.info? 35).map (·.size) = some (frC (x.frame.set 1 ℓ)).size) := Lib.hid (by rw [frC_size _ HWX.out.1]; exact infoFrame)
          have HL3 := Lib.hid hl3
          clear hl3
          go_upto_region 29 with (first
            | (refine wpList_load_mid rfl 35 (.tmp 102) rfl gb 5 rfl (ints x.frame) _ HRW.out Try.underlying35 rfl hsI.out ?_)
            | (rw [← zeroFrame]; refine wpList_store_row rfl 35 (.tmp 8) (.tmp 103) rfl w2.heap.size (frC x.frame) rfl rfl 35 (frC zeroF) (Has.new w2 35 (frC zeroF)) hsf.out hzf.out (frC_one _) ?_))
          have h3 := oneF_has w2 x.frame
          change Code.wp _ _ _ _ (oneF w2 x.frame)
          generalize oneF w2 x.frame = w3 at *
          obtain ⟨k3, hb3⟩ := h3
          have HY3 := Lib.hid (HY2.out.after hb3)
          have HB3 := Lib.hid hb3
          have KB3 := Lib.hid (KB.out.after hb3)
          have l43 := HY3.out.lcell
          have hgy3 := HY3.out.has.lt
          have d1 := k3.cellv 1 (I (x.frame.getD 1 0)) (frC_get _ 1 _ (by rw [List.getD_eq_getElem?_getD, List.getElem?_eq_getElem (by rw [hx.1]; decide)]; rfl))
          have f1 := k3.free 1
          have hg3 := k3.lt
          generalize hG8 : w2.heap.size = g8 at *
          have k4 : Has (w3.setCell ⟨g8, 1, none⟩ (I ℓ)) g8 35 (frC (x.frame.set 1 ℓ)) := by rw [← frC_set]; exact k3.set 1 _
          have HB4 := Lib.hid (hb3.setCell (p := ⟨g8, 1, none⟩) (Nat.le_refl _) (I ℓ))
          clear hb3
          go_upto_region 30 with fail
          have HY4 : Hid (TaAt (w3.setCell ⟨g8, 1, none⟩ (I ℓ)) B y L ℓ Ta) := Lib.hid (HY2.out.after (by rw [hG8]; exact HB4.out))
          have KB4 : Hid (Has (w3.setCell ⟨g8, 1, none⟩ (I ℓ)) gb 38 (stpC x v)) := Lib.hid (KB.out.after (by rw [hG8]; exact HB4.out))
          clear d1 f1 hg3 l43 hgy3 k3 HY3 KB3 HB3 b0 b2 b3 b4 l4
          generalize w3.setCell ⟨g8, 1, none⟩ (I ℓ) = w4 at *
          cases hm : mayB (x.frame.set 1 ℓ) with
          | false =>
            have HM2 := Lib.hid hm
            rw [if_neg (by rw [hm]; simp)] at HE
            clear hm
            go_wp2_with (first
              | (refine wpList_load_row rfl 35 (.tmp 8) rfl g8 rfl 35 (frC (x.frame.set 1 ℓ)) (0, 0) _ k4 Try.underlying35 rfl hsf2.out ?_)
              | (go_at_call 36; refine (encode_no _ HWX.out HM2.out _).mono ?_; rintro e w5 ⟨rfl, hb5⟩; have HB5 := Lib.hid hb5; clear hb5))
            go_end0
            exact ⟨rfl, y, by rw [HE.out]; exact HY4.out.after HB5.out, ((AMoved.of_below (by rw [HG.out]; exact HB2.out)).trans (AMoved.of_below (by rw [hG8]; exact HB4.out))).trans (AMoved.of_below HB5.out)⟩
          | true =>
            have HM2 := Lib.hid hm
            rw [if_pos ⟨HL3.out, hm⟩] at HE
            have hl1000 : (encB (x.frame.set 1 ℓ)).length ≤ 80 := enc_80 hm
            clear hm
            go_upto_region 32 with (first
              | (refine wpList_load_row rfl 35 (.tmp 8) rfl g8 rfl 35 (frC (x.frame.set 1 ℓ)) (0, 0) _ k4 Try.underlying35 rfl hsf2.out ?_)
              | (go_at_call 36; refine (encode_yes _ HWX.out HM2.out _).mono ?_; rintro e w5 ⟨⟨A5, c5, rfl, ho5⟩, hb5⟩; have HB5 := Lib.hid hb5; have HO5 := Lib.hid ho5; clear hb5 ho5))
            have HY5 := Lib.hid (HY4.out.after HB5.out)
            have HDW := Lib.hid (HY5.out.after ((Below.refl w5.heap.size w5).drew))
            have KB5 := Lib.hid (KB4.out.after HB5.out)
            have KBW := Lib.hid KB5.out.drew
            have l45 := HY5.out.lcell
            have b25 := KB5.out.cellv 2 (I x.n) rfl
            have hgy5 := HY5.out.has.lt
            have hgb5 := KB5.out.lt
            have hto4 : toWhom ℓ x.n ≤ 3 := by unfold toWhom; omega
            have hto : ((ℓ : Int) + 1 + (pkN x.n 3 : Nat)).tmod 4 = (toWhom ℓ x.n : Nat) := by rw [Int.tmod_eq_emod_of_nonneg (by omega)]; unfold toWhom; omega
            obtain ⟨A6, c6, e6, hc6, _, _, hrd6⟩ := own_read HO5.out
            injection e6 with e61 e62 e63
            subst e61 e63
            have hcl := in_says (SyIn.start HDW.out.sys HDW.out.hB) HF.out (by omega) ℓ (toWhom ℓ x.n) HL3.out hto4 A5 c5 (encB (x.frame.set 1 ℓ)) hc6 (show Reads w5.drew w5.drew.heap.size A5 _ from hrd6) (by omega)
            have HCL := Lib.hid hcl
            have hp3 := pkN_lt x.n (n := 3) (by decide)
            have hwr1 : IntKind.i64.wrap ((ℓ : Int) + 1) = (ℓ : Int) + 1 := wr64 (by omega) (by omega)
            have hwr2 : IntKind.i64.wrap ((ℓ : Int) + 1 + (pkN x.n 3 : Nat)) = (ℓ : Int) + 1 + (pkN x.n 3 : Nat) := wr64 (by omega) (by omega)
            clear hcl hto4 hrd6 k4
            refine wp_region_held_drew (S := fun wx => (wx.cell? ⟨y.g, 4, none⟩ = some (I ℓ)) ∧ (wx.cell? ⟨gb, 2, none⟩ = some (I x.n))) (by kernel_rfl) ⟨l45, b25⟩ (fun hHeld => ?_)
            refine wpAnyH_take (i := 0) (oi := { dst := some 116, op := Op.move (Operand.tmp 4), type := 41, pos := "keep.go:287", after := #[], guard := none }) (v := .pointer (some ⟨y.x.g, 0, none⟩)) rfl (by kernel_rfl) (by kernel_rfl) (by kernel_rfl) (fun _ _ _ h => h) (Or.inl ⟨by rfl, ?_⟩) hHeld ?_
            · rintro wx ⟨hs0, hs1⟩
              go_simp
            simp only [Act.put, List.setIfInBounds_toArray, List.set_cons_zero, List.set_cons_succ]
            refine wpAnyH_take (i := 1) (oi := { dst := some 117, op := Op.move (Operand.tmp 0), type := 26, pos := "keep.go:287", after := #[], guard := none }) (v := .pointer (some ⟨y.g, 0, none⟩)) rfl (by kernel_rfl) (by kernel_rfl) (by kernel_rfl) (fun _ _ _ h => h) (Or.inl ⟨by rfl, ?_⟩) hHeld ?_
            · rintro wx ⟨hs0, hs1⟩
              go_simp
            simp only [Act.put, List.setIfInBounds_toArray, List.set_cons_zero, List.set_cons_succ]
            refine wpAnyH_take (i := 2) (oi := { dst := some 118, op := Op.nilCheck (Operand.tmp 117), type := 0, pos := "keep.go:287", after := #[{ on := 1, ground := Ground.data }], guard := none }) (v := .pointer (some ⟨y.g, 0, none⟩)) rfl (by kernel_rfl) (by kernel_rfl) (by kernel_rfl) (fun _ _ _ h => h) (Or.inl ⟨by rfl, ?_⟩) hHeld ?_
            · rintro wx ⟨hs0, hs1⟩
              go_simp
            simp only [Act.put, List.setIfInBounds_toArray, List.set_cons_zero, List.set_cons_succ]
            refine wpAnyH_take (i := 3) (oi := { dst := some 119, op := Op.fieldAddr 47 (Operand.tmp 118) 2, type := 0, pos := "keep.go:287", after := #[{ on := 2, ground := Ground.data }], guard := none }) (v := .pointer (some ⟨y.g, 4, none⟩)) rfl (by kernel_rfl) (by kernel_rfl) (by kernel_rfl) (fun _ _ _ h => h) (Or.inl ⟨by rfl, ?_⟩) hHeld ?_
            · rintro wx ⟨hs0, hs1⟩
              go_simp
            simp only [Act.put, List.setIfInBounds_toArray, List.set_cons_zero, List.set_cons_succ]
            refine wpAnyH_take (i := 4) (oi := { dst := some 120, op := Op.load 3 (Operand.tmp 119), type := 3, pos := "keep.go:287", after := #[{ on := 3, ground := Ground.data }], guard := none }) (v := I ℓ) rfl (by kernel_rfl) (by kernel_rfl) (by kernel_rfl) (fun _ _ _ h => h) (Or.inl ⟨by rfl, ?_⟩) hHeld ?_
            · rintro wx ⟨hs0, hs1⟩
              go_simp
            simp only [Act.put, List.setIfInBounds_toArray, List.set_cons_zero, List.set_cons_succ]
            refine wpAnyH_take (i := 5) (oi := { dst := some 121, op := Op.move (Operand.tmp 0), type := 26, pos := "keep.go:287", after := #[], guard := none }) (v := .pointer (some ⟨y.g, 0, none⟩)) rfl (by kernel_rfl) (by kernel_rfl) (by kernel_rfl) (fun _ _ _ h => h) (Or.inl ⟨by rfl, ?_⟩) hHeld ?_
            · rintro wx ⟨hs0, hs1⟩
              go_simp
            simp only [Act.put, List.setIfInBounds_toArray, List.set_cons_zero, List.set_cons_succ]
            refine wpAnyH_take (i := 6) (oi := { dst := some 122, op := Op.nilCheck (Operand.tmp 121), type := 0, pos := "keep.go:287", after := #[{ on := 5, ground := Ground.data }], guard := none }) (v := .pointer (some ⟨y.g, 0, none⟩)) rfl (by kernel_rfl) (by kernel_rfl) (by kernel_rfl) (fun _ _ _ h => h) (Or.inl ⟨by rfl, ?_⟩) hHeld ?_
            · rintro wx ⟨hs0, hs1⟩
              go_simp
            simp only [Act.put, List.setIfInBounds_toArray, List.set_cons_zero, List.set_cons_succ]
            refine wpAnyH_take (i := 7) (oi := { dst := some 123, op := Op.fieldAddr 47 (Operand.tmp 122) 2, type := 0, pos := "keep.go:287", after := #[{ on := 6, ground := Ground.data }], guard := none }) (v := .pointer (some ⟨y.g, 4, none⟩)) rfl (by kernel_rfl) (by kernel_rfl) (by kernel_rfl) (fun _ _ _ h => h) (Or.inl ⟨by rfl, ?_⟩) hHeld ?_
            · rintro wx ⟨hs0, hs1⟩
              go_simp
            simp only [Act.put, List.setIfInBounds_toArray, List.set_cons_zero, List.set_cons_succ]
            refine wpAnyH_take (i := 8) (oi := { dst := some 124, op := Op.load 3 (Operand.tmp 123), type := 3, pos := "keep.go:287", after := #[{ on := 7, ground := Ground.data }], guard := none }) (v := I ℓ) rfl (by kernel_rfl) (by kernel_rfl) (by kernel_rfl) (fun _ _ _ h => h) (Or.inl ⟨by rfl, ?_⟩) hHeld ?_
            · rintro wx ⟨hs0, hs1⟩
              go_simp
            simp only [Act.put, List.setIfInBounds_toArray, List.set_cons_zero, List.set_cons_succ]
            refine wpAnyH_take (i := 9) (oi := { dst := some 125, op := Op.binOp BinOp.add 3 (Operand.tmp 124) (Operand.const (Value.int IntKind.i64 1)) 3, type := 3, pos := "keep.go:287", after := #[{ on := 8, ground := Ground.data }], guard := none }) (v := I ((ℓ : Int) + 1)) rfl (by kernel_rfl) (by kernel_rfl) (by kernel_rfl) (fun _ _ _ h => h) (Or.inl ⟨by rfl, ?_⟩) hHeld ?_
            · rintro wx ⟨hs0, hs1⟩
              go_simp
            simp only [Act.put, List.setIfInBounds_toArray, List.set_cons_zero, List.set_cons_succ]
            refine wpAnyH_take (i := 10) (oi := { dst := some 126, op := Op.fieldAddr 38 (Operand.tmp 3) 2, type := 0, pos := "keep.go:287", after := #[], guard := none }) (v := .pointer (some ⟨gb, 2, none⟩)) rfl (by kernel_rfl) (by kernel_rfl) (by kernel_rfl) (fun _ _ _ h => h) (Or.inl ⟨by rfl, ?_⟩) hHeld ?_
            · rintro wx ⟨hs0, hs1⟩
              go_simp
            simp only [Act.put, List.setIfInBounds_toArray, List.set_cons_zero, List.set_cons_succ]
            refine wpAnyH_take (i := 11) (oi := { dst := some 127, op := Op.load 3 (Operand.tmp 126), type := 3, pos := "keep.go:287", after := #[{ on := 10, ground := Ground.data }], guard := none }) (v := I x.n) rfl (by kernel_rfl) (by kernel_rfl) (by kernel_rfl) (fun _ _ _ h => h) (Or.inl ⟨by rfl, ?_⟩) hHeld ?_
            · rintro wx ⟨hs0, hs1⟩
              go_simp
            simp only [Act.put, List.setIfInBounds_toArray, List.set_cons_zero, List.set_cons_succ]
            refine wpAnyH_take (i := 15) (oi := { dst := some 131, op := Op.move (Operand.tmp 9), type := 36, pos := "keep.go:287", after := #[], guard := none }) (v := .slice A5 (encB (x.frame.set 1 ℓ)).length c5) rfl (by kernel_rfl) (by kernel_rfl) (by kernel_rfl) (fun _ _ _ h => h) (Or.inl ⟨by rfl, ?_⟩) hHeld ?_
            · rintro wx ⟨hs0, hs1⟩
              go_simp
            simp only [Act.put, List.setIfInBounds_toArray, List.set_cons_zero, List.set_cons_succ]
            refine wpAnyH_ready (rs := [12]) (by kernel_rfl) (by simp) (AllReadyH.cons (o := { dst := some 128, op := Op.call { callee := Callee.value (Operand.func 26), args := #[Operand.tmp 127, Operand.const (Value.int IntKind.i64 3)], argTypes := #[3, 3] }, type := 3, pos := "keep.go:287", after := #[{ on := 11, ground := Ground.data }], guard := none }) rfl (fun K hK => ?_) AllReadyH.nil)
            go_simp
            go_at_call 26; refine (pick_nat x.n 3 (by decide) (by decide) _).mono ?_; rintro e w' ⟨rfl, he⟩; cases he.symm
            refine hK.out _ _ hHeld (fun hHeld => ?_)
            clear hK K
            try simp only [Act.put, List.setIfInBounds_toArray, List.set_cons_zero, List.set_cons_succ]
            refine wpAnyH_take (i := 13) (oi := { dst := some 129, op := Op.binOp BinOp.add 3 (Operand.tmp 125) (Operand.tmp 128) 3, type := 3, pos := "keep.go:287", after := #[{ on := 9, ground := Ground.data }, { on := 12, ground := Ground.data }], guard := none }) (v := I ((ℓ : Int) + 1 + (pkN x.n 3 : Nat))) rfl (by kernel_rfl) (by kernel_rfl) (by kernel_rfl) (fun _ _ _ h => h) (Or.inl ⟨by rfl, ?_⟩) hHeld ?_
            · rintro wx ⟨hs0, hs1⟩
              go_simp
            simp only [Act.put, List.setIfInBounds_toArray, List.set_cons_zero, List.set_cons_succ]
            refine wpAnyH_take (i := 14) (oi := { dst := some 130, op := Op.binOp BinOp.rem 3 (Operand.tmp 129) (Operand.const (Value.int IntKind.i64 4)) 3, type := 3, pos := "keep.go:287", after := #[{ on := 13, ground := Ground.data }], guard := none }) (v := I (toWhom ℓ x.n : Nat)) rfl (by kernel_rfl) (by kernel_rfl) (by kernel_rfl) (fun _ _ _ h => h) (Or.inl ⟨by rfl, ?_⟩) hHeld ?_
            · rintro wx ⟨hs0, hs1⟩
              go_simp
            simp only [Act.put, List.setIfInBounds_toArray, List.set_cons_zero, List.set_cons_succ]
            refine wpAnyH_ready (rs := [16]) (by kernel_rfl) (by simp) (AllReadyH.cons (o := { dst := some 132, op := Op.call { callee := Callee.value (Operand.func 37), args := #[Operand.tmp 116, Operand.tmp 120, Operand.tmp 130, Operand.tmp 131], argTypes := #[41, 3, 3, 36] }, type := 53, pos := "keep.go:287", after := #[{ on := 0, ground := Ground.data }, { on := 4, ground := Ground.data }, { on := 14, ground := Ground.data }, { on := 15, ground := Ground.data }, { on := 12, ground := Ground.chain }], guard := none }) rfl (fun K hK => ?_) AllReadyH.nil)
            go_simp
            go_at_call 37; refine HCL.out.mono ?_; rintro e wb ⟨⟨v1, rfl, hv1⟩, hin, hst⟩; have HZ := Lib.hid (HDW.out.fromIn hin); have kbz := hst _ _ _ KBW.out rfl; have ktz := hst _ _ _ HDW.out.has rfl; clear hin hst
            refine hK.out _ _ ⟨ktz.cellv 4 _ rfl, kbz.cellv 2 _ rfl⟩ (fun hHeld => ?_)
            clear hK K
            try simp only [Act.put, List.setIfInBounds_toArray, List.set_cons_zero, List.set_cons_succ]
            refine wpAnyH_done (by kernel_rfl) ?_ _
            go_wp2_with fail
            go_end0
            obtain ⟨y', h1, h2⟩ := HZ.out
            exact ⟨rfl, y', by rw [HE.out]; exact h1, ((((AMoved.of_below (by rw [HG.out]; exact HB2.out)).trans (AMoved.of_below (by rw [hG8]; exact HB4.out))).trans (AMoved.of_below HB5.out)).trans (AMoved.of_below ((Below.refl _ _).drew))).trans h2⟩
        · rw [if_neg (fun h => hl3 h.1)] at HE
          have hli : ¬ (ℓ : Int) < 3 := by omega
          have l4 := HY2.out.lcell
          clear hl3
          go_wp2
          go_end0
          exact ⟨rfl, y, by rw [HE.out]; exact HY2.out, AMoved.of_below (by rw [HG.out]; exact HB2.out)⟩
      · have HE := Lib.hid (does_9 (L := L) (ℓ := ℓ) (N := N) HI0.out hw)
        rw [show x.what = 9 from hw] at b0
        clear hw
        by_cases hl3 : ℓ < 3
        · rw [if_pos hl3] at HE
          have hli : (ℓ : Int) < 3 := by omega
          have hvv := HV.out
          subst hvv
          have l4 := HY2.out.lcell
          have b28 := KB.out.cellv 28 _ (stpC_28 hx.1 _)
          have HDW := Lib.hid (HY2.out.after ((Below.refl w2.heap.size w2).drew))
          have KBW := Lib.hid KB.out.drew
          have hto4 : toWhom ℓ x.n ≤ 3 := by unfold toWhom; omega
          have hto : ((ℓ : Int) + 1 + (pkN x.n 3 : Nat)).tmod 4 = (toWhom ℓ x.n : Nat) := by rw [Int.tmod_eq_emod_of_nonneg (by omega)]; unfold toWhom; omega
          have hcl := in_says (SyIn.start HDW.out.sys HDW.out.hB) HF.out (by omega) ℓ (toWhom ℓ x.n) hl3 hto4 A c x.bytes hc ((show Reads w2.drew B A (bytes x.bytes) from HR2.out).more HDW.out.hB) hl
          have HCL := Lib.hid hcl
          have hp3 := pkN_lt x.n (n := 3) (by decide)
          have hwr1 : IntKind.i64.wrap ((ℓ : Int) + 1) = (ℓ : Int) + 1 := wr64 (by omega) (by omega)
          have hwr2 : IntKind.i64.wrap ((ℓ : Int) + 1 + (pkN x.n 3 : Nat)) = (ℓ : Int) + 1 + (pkN x.n 3 : Nat) := wr64 (by omega) (by omega)
          have HXL := Lib.hid hx.1
          clear hcl hl3 hto4
          go_upto_region 35 with fail
          refine wp_region_held_drew (S := fun wx => (wx.cell? ⟨y.g, 4, none⟩ = some (I ℓ)) ∧ (wx.cell? ⟨gb, 2, none⟩ = some (I x.n)) ∧ (wx.cell? ⟨gb, 28, none⟩ = some (.slice A x.bytes.length c))) (by kernel_rfl) ⟨l4, b2, b28⟩ (fun hHeld => ?_)
          refine wpAnyH_take (i := 0) (oi := { dst := some 140, op := Op.move (Operand.tmp 4), type := 41, pos := "keep.go:292", after := #[], guard := none }) (v := .pointer (some ⟨y.x.g, 0, none⟩)) rfl (by kernel_rfl) (by kernel_rfl) (by kernel_rfl) (fun _ _ _ h => h) (Or.inl ⟨by rfl, ?_⟩) hHeld ?_
          · rintro wx ⟨hs0, hs1, hs2⟩
            go_simp
          simp only [Act.put, List.setIfInBounds_toArray, List.set_cons_zero, List.set_cons_succ]
          refine wpAnyH_take (i := 1) (oi := { dst := some 141, op := Op.move (Operand.tmp 0), type := 26, pos := "keep.go:292", after := #[], guard := none }) (v := .pointer (some ⟨y.g, 0, none⟩)) rfl (by kernel_rfl) (by kernel_rfl) (by kernel_rfl) (fun _ _ _ h => h) (Or.inl ⟨by rfl, ?_⟩) hHeld ?_
          · rintro wx ⟨hs0, hs1, hs2⟩
            go_simp
          simp only [Act.put, List.setIfInBounds_toArray, List.set_cons_zero, List.set_cons_succ]
          refine wpAnyH_take (i := 2) (oi := { dst := some 142, op := Op.nilCheck (Operand.tmp 141), type := 0, pos := "keep.go:292", after := #[{ on := 1, ground := Ground.data }], guard := none }) (v := .pointer (some ⟨y.g, 0, none⟩)) rfl (by kernel_rfl) (by kernel_rfl) (by kernel_rfl) (fun _ _ _ h => h) (Or.inl ⟨by rfl, ?_⟩) hHeld ?_
          · rintro wx ⟨hs0, hs1, hs2⟩
            go_simp
          simp only [Act.put, List.setIfInBounds_toArray, List.set_cons_zero, List.set_cons_succ]
          refine wpAnyH_take (i := 3) (oi := { dst := some 143, op := Op.fieldAddr 47 (Operand.tmp 142) 2, type := 0, pos := "keep.go:292", after := #[{ on := 2, ground := Ground.data }], guard := none }) (v := .pointer (some ⟨y.g, 4, none⟩)) rfl (by kernel_rfl) (by kernel_rfl) (by kernel_rfl) (fun _ _ _ h => h) (Or.inl ⟨by rfl, ?_⟩) hHeld ?_
          · rintro wx ⟨hs0, hs1, hs2⟩
            go_simp
          simp only [Act.put, List.setIfInBounds_toArray, List.set_cons_zero, List.set_cons_succ]
          refine wpAnyH_take (i := 4) (oi := { dst := some 144, op := Op.load 3 (Operand.tmp 143), type := 3, pos := "keep.go:292", after := #[{ on := 3, ground := Ground.data }], guard := none }) (v := I ℓ) rfl (by kernel_rfl) (by kernel_rfl) (by kernel_rfl) (fun _ _ _ h => h) (Or.inl ⟨by rfl, ?_⟩) hHeld ?_
          · rintro wx ⟨hs0, hs1, hs2⟩
            go_simp
          simp only [Act.put, List.setIfInBounds_toArray, List.set_cons_zero, List.set_cons_succ]
          refine wpAnyH_take (i := 5) (oi := { dst := some 145, op := Op.move (Operand.tmp 0), type := 26, pos := "keep.go:292", after := #[], guard := none }) (v := .pointer (some ⟨y.g, 0, none⟩)) rfl (by kernel_rfl) (by kernel_rfl) (by kernel_rfl) (fun _ _ _ h => h) (Or.inl ⟨by rfl, ?_⟩) hHeld ?_
          · rintro wx ⟨hs0, hs1, hs2⟩
            go_simp
          simp only [Act.put, List.setIfInBounds_toArray, List.set_cons_zero, List.set_cons_succ]
          refine wpAnyH_take (i := 6) (oi := { dst := some 146, op := Op.nilCheck (Operand.tmp 145), type := 0, pos := "keep.go:292", after := #[{ on := 5, ground := Ground.data }], guard := none }) (v := .pointer (some ⟨y.g, 0, none⟩)) rfl (by kernel_rfl) (by kernel_rfl) (by kernel_rfl) (fun _ _ _ h => h) (Or.inl ⟨by rfl, ?_⟩) hHeld ?_
          · rintro wx ⟨hs0, hs1, hs2⟩
            go_simp
          simp only [Act.put, List.setIfInBounds_toArray, List.set_cons_zero, List.set_cons_succ]
          refine wpAnyH_take (i := 7) (oi := { dst := some 147, op := Op.fieldAddr 47 (Operand.tmp 146) 2, type := 0, pos := "keep.go:292", after := #[{ on := 6, ground := Ground.data }], guard := none }) (v := .pointer (some ⟨y.g, 4, none⟩)) rfl (by kernel_rfl) (by kernel_rfl) (by kernel_rfl) (fun _ _ _ h => h) (Or.inl ⟨by rfl, ?_⟩) hHeld ?_
          · rintro wx ⟨hs0, hs1, hs2⟩
            go_simp
          simp only [Act.put, List.setIfInBounds_toArray, List.set_cons_zero, List.set_cons_succ]
          refine wpAnyH_take (i := 8) (oi := { dst := some 148, op := Op.load 3 (Operand.tmp 147), type := 3, pos := "keep.go:292", after := #[{ on := 7, ground := Ground.data }], guard := none }) (v := I ℓ) rfl (by kernel_rfl) (by kernel_rfl) (by kernel_rfl) (fun _ _ _ h => h) (Or.inl ⟨by rfl, ?_⟩) hHeld ?_
          · rintro wx ⟨hs0, hs1, hs2⟩
            go_simp
          simp only [Act.put, List.setIfInBounds_toArray, List.set_cons_zero, List.set_cons_succ]
          refine wpAnyH_take (i := 9) (oi := { dst := some 149, op := Op.binOp BinOp.add 3 (Operand.tmp 148) (Operand.const (Value.int IntKind.i64 1)) 3, type := 3, pos := "keep.go:292", after := #[{ on := 8, ground := Ground.data }], guard := none }) (v := I ((ℓ : Int) + 1)) rfl (by kernel_rfl) (by kernel_rfl) (by kernel_rfl) (fun _ _ _ h => h) (Or.inl ⟨by rfl, ?_⟩) hHeld ?_
          · rintro wx ⟨hs0, hs1, hs2⟩
            go_simp
          simp only [Act.put, List.setIfInBounds_toArray, List.set_cons_zero, List.set_cons_succ]
          refine wpAnyH_take (i := 10) (oi := { dst := some 150, op := Op.fieldAddr 38 (Operand.tmp 3) 2, type := 0, pos := "keep.go:292", after := #[], guard := none }) (v := .pointer (some ⟨gb, 2, none⟩)) rfl (by kernel_rfl) (by kernel_rfl) (by kernel_rfl) (fun _ _ _ h => h) (Or.inl ⟨by rfl, ?_⟩) hHeld ?_
          · rintro wx ⟨hs0, hs1, hs2⟩
            go_simp
          simp only [Act.put, List.setIfInBounds_toArray, List.set_cons_zero, List.set_cons_succ]
          refine wpAnyH_take (i := 11) (oi := { dst := some 151, op := Op.load 3 (Operand.tmp 150), type := 3, pos := "keep.go:292", after := #[{ on := 10, ground := Ground.data }], guard := none }) (v := I x.n) rfl (by kernel_rfl) (by kernel_rfl) (by kernel_rfl) (fun _ _ _ h => h) (Or.inl ⟨by rfl, ?_⟩) hHeld ?_
          · rintro wx ⟨hs0, hs1, hs2⟩
            go_simp
          simp only [Act.put, List.setIfInBounds_toArray, List.set_cons_zero, List.set_cons_succ]
          refine wpAnyH_take (i := 15) (oi := { dst := some 155, op := Op.fieldAddr 38 (Operand.tmp 3) 5, type := 0, pos := "keep.go:292", after := #[], guard := none }) (v := .pointer (some ⟨gb, 28, none⟩)) rfl (by kernel_rfl) (by kernel_rfl) (by kernel_rfl) (fun _ _ _ h => h) (Or.inl ⟨by rfl, ?_⟩) hHeld ?_
          · rintro wx ⟨hs0, hs1, hs2⟩
            go_simp
          simp only [Act.put, List.setIfInBounds_toArray, List.set_cons_zero, List.set_cons_succ]
          refine wpAnyH_take (i := 16) (oi := { dst := some 156, op := Op.load 36 (Operand.tmp 155), type := 36, pos := "keep.go:292", after := #[{ on := 15, ground := Ground.data }], guard := none }) (v := .slice A x.bytes.length c) rfl (by kernel_rfl) (by kernel_rfl) (by kernel_rfl) (fun _ _ _ h => h) (Or.inl ⟨by rfl, ?_⟩) hHeld ?_
          · rintro wx ⟨hs0, hs1, hs2⟩
            go_simp
          simp only [Act.put, List.setIfInBounds_toArray, List.set_cons_zero, List.set_cons_succ]
          refine wpAnyH_ready (rs := [12]) (by kernel_rfl) (by simp) (AllReadyH.cons (o := { dst := some 152, op := Op.call { callee := Callee.value (Operand.func 26), args := #[Operand.tmp 151, Operand.const (Value.int IntKind.i64 3)], argTypes := #[3, 3] }, type := 3, pos := "keep.go:292", after := #[{ on := 11, ground := Ground.data }], guard := none }) rfl (fun K hK => ?_) AllReadyH.nil)
          go_simp
          go_at_call 26; refine (pick_nat x.n 3 (by decide) (by decide) _).mono ?_; rintro e w' ⟨rfl, he⟩; cases he.symm
          refine hK.out _ _ hHeld (fun hHeld => ?_)
          clear hK K
          try simp only [Act.put, List.setIfInBounds_toArray, List.set_cons_zero, List.set_cons_succ]
          refine wpAnyH_take (i := 13) (oi := { dst := some 153, op := Op.binOp BinOp.add 3 (Operand.tmp 149) (Operand.tmp 152) 3, type := 3, pos := "keep.go:292", after := #[{ on := 9, ground := Ground.data }, { on := 12, ground := Ground.data }], guard := none }) (v := I ((ℓ : Int) + 1 + (pkN x.n 3 : Nat))) rfl (by kernel_rfl) (by kernel_rfl) (by kernel_rfl) (fun _ _ _ h => h) (Or.inl ⟨by rfl, ?_⟩) hHeld ?_
          · rintro wx ⟨hs0, hs1, hs2⟩
            go_simp
          simp only [Act.put, List.setIfInBounds_toArray, List.set_cons_zero, List.set_cons_succ]
          refine wpAnyH_take (i := 14) (oi := { dst := some 154, op := Op.binOp BinOp.rem 3 (Operand.tmp 153) (Operand.const (Value.int IntKind.i64 4)) 3, type := 3, pos := "keep.go:292", after := #[{ on := 13, ground := Ground.data }], guard := none }) (v := I (toWhom ℓ x.n : Nat)) rfl (by kernel_rfl) (by kernel_rfl) (by kernel_rfl) (fun _ _ _ h => h) (Or.inl ⟨by rfl, ?_⟩) hHeld ?_
          · rintro wx ⟨hs0, hs1, hs2⟩
            go_simp
          simp only [Act.put, List.setIfInBounds_toArray, List.set_cons_zero, List.set_cons_succ]
          refine wpAnyH_ready (rs := [17]) (by kernel_rfl) (by simp) (AllReadyH.cons (o := { dst := some 157, op := Op.call { callee := Callee.value (Operand.func 37), args := #[Operand.tmp 140, Operand.tmp 144, Operand.tmp 154, Operand.tmp 156], argTypes := #[41, 3, 3, 36] }, type := 53, pos := "keep.go:292", after := #[{ on := 0, ground := Ground.data }, { on := 4, ground := Ground.data }, { on := 14, ground := Ground.data }, { on := 16, ground := Ground.data }, { on := 12, ground := Ground.chain }], guard := none }) rfl (fun K hK => ?_) AllReadyH.nil)
          go_simp
          go_at_call 37; refine HCL.out.mono ?_; rintro e wb ⟨⟨v1, rfl, hv1⟩, hin, hst⟩; have HZ := Lib.hid (HDW.out.fromIn hin); have kbz := hst _ _ _ KBW.out rfl; have ktz := hst _ _ _ HDW.out.has rfl; clear hin hst
          refine hK.out _ _ ⟨ktz.cellv 4 _ rfl, kbz.cellv 2 _ rfl, kbz.cellv 28 _ (stpC_28 hx.1 _)⟩ (fun hHeld => ?_)
          clear hK K
          try simp only [Act.put, List.setIfInBounds_toArray, List.set_cons_zero, List.set_cons_succ]
          refine wpAnyH_done (by kernel_rfl) ?_ _
          go_wp2_with fail
          go_end0
          obtain ⟨y', h1, h2⟩ := HZ.out
          exact ⟨rfl, y', by rw [HE.out]; exact h1, ((AMoved.of_below (by rw [HG.out]; exact HB2.out)).trans (AMoved.of_below ((Below.refl _ _).drew))).trans h2⟩
        · rw [if_neg hl3] at HE
          have hli : ¬ (ℓ : Int) < 3 := by omega
          have l4 := HY2.out.lcell
          clear hl3
          go_wp2
          go_end0
          exact ⟨rfl, y, by rw [HE.out]; exact HY2.out, AMoved.of_below (by rw [HG.out]; exact HB2.out)⟩
      · have HE := Lib.hid (does_10 (L := L) (ℓ := ℓ) (N := N) HI0.out hw)
        rw [show x.what = 10 from hw] at b0
        clear hw
        have HYS := Lib.hid (And.intro HY2.out (AMoved.refl w2 y))
        go_wp2_with fail
        clear b0 b2 b3 b4 hgb2 hgy2
        go_loopw [11] (fun jv wr => ∃ j : Nat, j ≤ 3 ∧ jv = I j ∧ ∃ y', Hid (TaAt wr B y' L ℓ (lookTo Ta j)) ∧ Hid (AMoved w2 wr y y')) (fun jv _ => 3 - (intOf jv).toNat)
        case atStart => exact ⟨0, by omega, rfl, y, Lib.hid HYS.out.1, Lib.hid HYS.out.2⟩
        case round =>
          clear HYS
          obtain ⟨j, hj, rfl, y1, HT1, HM1⟩ := hrel
          by_cases hj3 : j < 3
          · have HJ := Lib.hid hj3
            have hji : (j : Int) < 3 := by omega
            have hcl := ta_looks HT1.out (by rw [lookTo_s]; exact HF.out) (by have := lookTo_len Ta j; omega) j hj3 true
            rw [HM1.out.same] at hcl
            have HCL := Lib.hid hcl
            clear hcl hj3 hj
            go_wp2_with (go_at_call 28; refine HCL.out.mono ?_; rintro e wa ⟨rfl, y2, hy2, hm2⟩; have HY3 := Lib.hid hy2; have HM2 := Lib.hid (HM1.out.trans hm2); clear hy2 hm2)
            go_roundw
            case rel => exact ⟨j + 1, HJ.out, by rfl, y2, HY3, HM2⟩
            case measure => have := HJ.out; simp [intOf]; omega
          · have hj4 : j = 3 := by omega
            subst hj4
            have kb := (HM1.out.keep KB.out HNF.out).1
            have b2 := kb.cellv 2 (I x.n) rfl
            have hgb := kb.lt
            have hn4 := pkN_lt x.n (n := 4) (by decide)
            have hcl := in_calm N HN.out (SyIn.start HT1.out.sys HT1.out.hB) HF.out hL (pkN x.n 4) (by omega) (by omega)
            rw [HM1.out.samex] at hcl
            have HCL := Lib.hid hcl
            clear hcl
            go_wp2_with (first
              | (go_at_call 26; refine (pick_nat x.n 4 (by decide) (by decide) _).mono ?_; rintro e w' ⟨rfl, he⟩; cases he.symm)
              | (go_at_call 20; refine HCL.out.mono ?_; rintro e wb ⟨⟨v1, rfl, hv1⟩, hin, hst⟩; have HZ := Lib.hid (HT1.out.fromIn hin); clear hin))
            go_end0
            obtain ⟨y', h1, h2⟩ := HZ.out
            exact ⟨rfl, y', by rw [HE.out]; exact h1, ((AMoved.of_below (by rw [HG.out]; exact HB2.out)).trans HM1.out).trans h2⟩
      · have HE := Lib.hid (does_11 (L := L) (ℓ := ℓ) (N := N) HI0.out hw)
        rw [show x.what = 11 from hw] at b0
        clear hw
        have HCL := Lib.hid (in_tick3 (SyIn.start HY2.out.sys HY2.out.hB) HF.out.vo)
        try rw [HZ0.out] at HCL
        go_wp2_with (go_at_call 29; refine HCL.out.mono ?_; rintro e wb ⟨⟨v1, rfl, hv1⟩, hin, hst⟩; have HZ := Lib.hid (HY2.out.fromIn hin); clear hin)
        go_end0
        obtain ⟨y', h1, h2⟩ := HZ.out
        exact ⟨rfl, y', by rw [HE.out]; exact h1, (AMoved.of_below (by rw [HG.out]; exact HB2.out)).trans h2⟩
      · have HE := Lib.hid (does_12 (L := L) (ℓ := ℓ) (N := N) HI0.out hw)
        rw [show x.what = 12 from hw] at b0
        clear hw
        have HCL := Lib.hid (in_latch (SyIn.start HY2.out.sys HY2.out.hB))
        try rw [HZ0.out] at HCL
        go_wp2_with (go_at_call 38; refine HCL.out.mono ?_; rintro e wb ⟨⟨v1, rfl, hv1⟩, hin, hst⟩; have HZ := Lib.hid (HY2.out.fromIn hin); clear hin)
        go_end0
        obtain ⟨y', h1, h2⟩ := HZ.out
        exact ⟨rfl, y', by rw [HE.out]; exact h1, (AMoved.of_below (by rw [HG.out]; exact HB2.out)).trans h2⟩
    · have HE := Lib.hid (does_13 (L := L) (ℓ := ℓ) (N := N) (Ta := Ta) (fun (c : Int) (h0 : 0 ≤ c) (hc : c ≤ 12) (e : x.what = c) => hw ⟨c.toNat, by omega, by omega⟩))
      have n0 : (x.what == 0) = false := by simpa using (fun e => hw ⟨0, by decide, e⟩ : ¬ x.what = 0)
      have n1 : (x.what == 1) = false := by simpa using (fun e => hw ⟨1, by decide, e⟩ : ¬ x.what = 1)
      have n2 : (x.what == 2) = false := by simpa using (fun e => hw ⟨2, by decide, e⟩ : ¬ x.what = 2)
      have n3 : (x.what == 3) = false := by simpa using (fun e => hw ⟨3, by decide, e⟩ : ¬ x.what = 3)
      have n4 : (x.what == 4) = false := by simpa using (fun e => hw ⟨4, by decide, e⟩ : ¬ x.what = 4)
      have n5 : (x.what == 5) = false := by simpa using (fun e => hw ⟨5, by decide, e⟩ : ¬ x.what = 5)
      have n6 : (x.what == 6) = false := by simpa using (fun e => hw ⟨6, by decide, e⟩ : ¬ x.what = 6)
      have n7 : (x.what == 7) = false := by simpa using (fun e => hw ⟨7, by decide, e⟩ : ¬ x.what = 7)
      have n8 : (x.what == 8) = false := by simpa using (fun e => hw ⟨8, by decide, e⟩ : ¬ x.what = 8)
      have n9 : (x.what == 9) = false := by simpa using (fun e => hw ⟨9, by decide, e⟩ : ¬ x.what = 9)
      have n10 : (x.what == 10) = false := by simpa using (fun e => hw ⟨10, by decide, e⟩ : ¬ x.what = 10)
      have n11 : (x.what == 11) = false := by simpa using (fun e => hw ⟨11, by decide, e⟩ : ¬ x.what = 11)
      have n12 : (x.what == 12) = false := by simpa using (fun e => hw ⟨12, by decide, e⟩ : ¬ x.what = 12)
      clear hw
      go_wp2
      go_end0
      exact ⟨rfl, y, by rw [HE.out]; exact HY2.out, AMoved.of_below (by rw [HG.out]; exact HB2.out)⟩
end
end Go.Proofs.Ytdhekhlmdefcnab
