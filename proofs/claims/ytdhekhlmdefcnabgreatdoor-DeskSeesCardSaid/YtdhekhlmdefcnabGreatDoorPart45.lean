/- Part 45 of the proof: DkSame, DkSess, DkZer, DkKeep, DkAns, DkTalk, DkLines. -/
import Derived.Test.YtdhekhlmdefcnabGreatDoorPart43
import Derived.Test.YtdhekhlmdefcnabGreatDoorPart37
import Derived.Test.YtdhekhlmdefcnabGreatDoorPart44
namespace Go.Proofs.YtdhekhlmdefcnabGreatDoor
open Go.RowKit
def Zer (s : Sys) : Prop := ∀ gm ∈ s.way, ∃ t, gm.bytes = 0 :: t
def Oth (v : Value) (l : By) : Prop := v.ownBlock = none ∨ ∃ c t, l = c :: t ∧ c ≠ 0
def buT (t : TypeId) : Bool := t == 52 || t == 5
section
variable {w w' : World} {B B' b g : Nat} {v vr : Value} {l : By} {x : SyX} {d : Dk}
theorem FB.own (hb : BuAt w B' b v l) : ∀ k, FB b v k → Own buT w k := fun k hk => by
 rcases hk with rfl | hk
 ·obtain ⟨p, _, hh⟩ := hb.has
  exact ⟨_, _, hh, rfl⟩
 ·obtain ⟨_, cur, hh⟩ := own_block hb.own hk
  exact ⟨_, _, hh, rfl⟩
theorem byte_apart (hb : BuAt w B' b v l) (hl : Oth v l) {u : Value} {t : By} (hu : BAt w u (0 :: t)) (ht : Turned (FB b v) w w') : BAt w' u (0 :: t) := by
 obtain ⟨A, c, h1, h2, h3⟩ := hu
 refine ⟨A, c, h1, h2, fun hn => ?_⟩
 obtain ⟨k, cur, e, hh, htk⟩ := h3 hn
 refine ⟨k, cur, e, hh.turned ht fun hf => ?_, htk⟩
 rcases hf with rfl | hf
 ·obtain ⟨p, _, hp⟩ := hb.has
  exact hp.ne hh (by decide) rfl
 ·rcases hl with hl | ⟨c0, t0, rfl, hc0⟩
  ·rw [hl] at hf; cases hf
  ·rcases hb.own.2 with ⟨rfl, _⟩ | ⟨k', cap, cur', rfl, _, hh', _, _, _, htk'⟩
   ·cases hf
   ·have : k' = k := by simpa [Value.ownBlock] using hf
    subst this
    have ec : cur' = cur := by
     unfold Has at hh
     have := hh'.symm.trans hh
     injection this with this
     injection this
    subst ec
    have e0 : cur'.toList[0]? = some (.int .u8 (c0.toNat : Int)) := by
     have : (cur'.toList.take ((c0 :: t0).length * 1))[0]? = some (.int .u8 (c0.toNat : Int)) := by rw [htk']; rfl
     rwa [List.getElem?_take, if_pos (by simp)] at this
    have e1 : cur'.toList[0]? = (bytes (0 :: t))[0]? := by rw [← htk, List.getElem?_take, if_pos (by simp)]
    rw [e0] at e1
    have e2 : (bytes (0 :: t))[0]? = some (.int .u8 0) := rfl
    rw [e2] at e1
    injection e1 with e1
    injection e1 with _ e1
    apply hc0
    have : c0.toNat = 0 := by omega
    exact UInt8.toNat_inj.1 this
theorem DkAt.write (h : DkAt w B g x vr d) (hz : Zer d.s) (hb : BuAt w B' b v l) (hl : Oth v l) (ht : Turned (FB b v) w w') : DkAt w' B g x vr d := by
 have hF := FB.own hb
 refine ⟨h.has.keepG ht hF rfl, h.routes.keep fun _ _ hh => hh.keepG ht hF rfl, ?_, h.low, h.ok, Nat.le_trans h.hB ht.size⟩
 have s := h.sys
 refine ⟨s.has.keepG ht hF rfl, own_keepG s.routes ht hF rfl, s.n3, fun k hk => ⟨(s.rep k hk).has.keepG ht hF rfl, (s.rep k hk).core.keepG ht hF rfl rfl⟩, s.apart, ⟨s.vo.has.keepG ht hF rfl, own_keepG s.vo.own ht hF rfl, s.vo.low⟩, own_keepG s.way ht hF rfl, s.len, fun i gm u e1 e2 => ?_, s.low, s.lows⟩
 obtain ⟨t, et⟩ := hz gm (List.mem_of_getElem? e1)
 have := s.bytes i gm u e1 e2
 rw [et] at this ⊢
 exact byte_apart hb hl this ht
theorem DkAt.mild {N sb : Nat} {t : Value} (h : DkAt w B g x vr d) (hs : Has w sb 9 #[t]) (m : Mild N sb w w') : DkAt w' B g x vr d := by
 have hk : ∀ {k : Nat} {ty : TypeId} {cs : Array Value}, Has w k ty cs → (ty == 9) = false → Has w' k ty cs := fun hh hn => m.has hh fun e => by
  subst e
  unfold Has at hh hs
  rw [hs] at hh
  injection hh with hh
  injection hh with _ e
  subst e
  cases hn
 have ok : ∀ {base : Nat} {e : TypeId} {size n : Nat} {v : Value} {xs : List Value}, w.ownsRow base e size v n xs → (e == 9) = false → w'.ownsRow base e size v n xs := fun ho hn => own_keep ho fun g _ _ hh => (show w'.heap[g]? = w.heap[g]? from (hk hh hn).trans hh.symm)
 refine ⟨hk h.has rfl, h.routes.keep fun _ _ hh => hk hh rfl, ?_, h.low, h.ok, Nat.le_trans h.hB m.size⟩
 have s := h.sys
 refine ⟨hk s.has rfl, ok s.routes rfl, s.n3, fun k hkk => ⟨hk (s.rep k hkk).has rfl, ?_⟩, s.apart, ⟨hk s.vo.has rfl, ok s.vo.own rfl, s.vo.low⟩, ok s.way rfl, s.len, fun i gm u e1 e2 => (s.bytes i gm u e1 e2).keep fun _ _ hh => hk hh rfl, s.low, s.lows⟩
 obtain ⟨v1, v2, a1, a2, a3⟩ := (s.rep k hkk).core
 exact ⟨v1, v2, hk a1 rfl, ok a2 rfl, ok a3 rfl⟩
theorem BuAt.mild {N sb : Nat} {t : Value} (h : BuAt w B b v l) (hs : Has w sb 9 #[t]) (m : Mild N sb w w') : BuAt w' B b v l := by
 have hk : ∀ {k : Nat} {ty : TypeId} {cs : Array Value}, Has w k ty cs → (ty == 9) = false → Has w' k ty cs := fun hh hn => m.has hh fun e => by
  subst e
  unfold Has at hh hs
  rw [hs] at hh
  injection hh with hh
  injection hh with _ e
  subst e
  cases hn
 obtain ⟨p, hp, hh⟩ := h.has
 exact ⟨⟨p, hp, hk hh rfl⟩, own_keep h.own fun g _ _ hh => (show w'.heap[g]? = w.heap[g]? from (hk hh rfl).trans hh.symm), h.low⟩
theorem BuAt.moved {x' : SyX} (h : BuAt w B b v l) (hd : DkAt w B' g x vr d) (m : DMv w w' g x x') : BuAt w' B b v l := by
 have hF : ∀ k, FD g x k → Own (fun t => t == 46 || mutT t) w k := fun k hk => by
  rcases hk with rfl | hk
  ·exact ⟨_, _, hd.has, rfl⟩
  ·obtain ⟨t, cs, hh, hm⟩ := hd.sys.mut hk
   exact ⟨t, cs, hh, by simp [hm]⟩
 obtain ⟨p, hp, hh⟩ := h.has
 exact ⟨⟨p, hp, hh.keepG m.turned hF rfl⟩, own_keepG h.own m.turned hF rfl, h.low⟩
end
end Go.Proofs.YtdhekhlmdefcnabGreatDoor
namespace Go.Proofs.YtdhekhlmdefcnabGreatDoor
open Go.RowKit Go.Shelf
attribute [local go_sem] Oper.semAt_some
def runD (d : Dk) (l : List ByteArray) : Dk × By := l.foldl (fun r s => ((lineOf r.1 s).1, r.2 ++ ((lineOf r.1 s).2 ++ [10]))) (d, [])
theorem runD_snoc (d : Dk) (l : List ByteArray) (s : ByteArray) : runD d (l ++ [s]) = ((lineOf (runD d l).1 s).1, (runD d l).2 ++ ((lineOf (runD d l).1 s).2 ++ [10])) := by
 unfold runD
 rw [List.foldl_append]
 rfl
def deskL : Lay := ⟨4, [3, 12, 6], 2⟩
def desk0 : Dk := ⟨deskL, Sys.new 10⟩
theorem deskL_ok : deskL.Ok := ⟨by decide, by decide, by decide, by decide, by decide, by decide, by decide, by decide⟩
def words0 : List ByteArray := [⟨#[49, 48]⟩, ⟨#[50]⟩, ⟨#[52]⟩, ⟨#[51]⟩, ⟨#[49, 50]⟩, ⟨#[54]⟩]
theorem words0_nums : numsOf words0 (-4) = some [10, 2, 4, 3, 12, 6] := by kernel_rfl
set_option maxHeartbeats 1000000 in
theorem inner_ok (t : ByteArray) (w : World) : Calls Tryz.prog 29 #[.string t, .string ⟨#[10]⟩, I 0] w fun e w' => e = .returned (.func (.func 46) #[] #[.pointer (some ⟨w.heap.size + 1, 0, none⟩), .pointer (some ⟨w.heap.size, 0, none⟩), .pointer (some ⟨w.heap.size + 2, 0, none⟩)]) ∧ w' = ((w.alloc (.cells #[.string t] 9)).alloc (.cells #[.string ⟨#[10]⟩] 9)).alloc (.cells #[I 0] 3) := by
 have hmf : ∀ (fn : Fn) (first cap : Array Value) (w : World), (Instr.makeFunc fn first cap).run Tryz.prog w = .ok (.func fn first cap) w := fun _ _ _ _ => rfl
 go_enter Tryz.func29, Tryz.ntmps29
 go_wp2
 go_ret
 exact ⟨by simp, rfl⟩
theorem split_ok (t : ByteArray) (w : World) : Calls Tryz.prog 14 #[.string t, .string ⟨#[10]⟩] w fun e w' => e = .returned (.func (.func 46) #[] #[.pointer (some ⟨w.heap.size + 1, 0, none⟩), .pointer (some ⟨w.heap.size, 0, none⟩), .pointer (some ⟨w.heap.size + 2, 0, none⟩)]) ∧ w' = ((w.alloc (.cells #[.string t] 9)).alloc (.cells #[.string ⟨#[10]⟩] 9)).alloc (.cells #[I 0] 3) := by
 go_enter Tryz.func14, Tryz.ntmps14
 go_wp2_with (go_at_call 29; refine (inner_ok t w).mono ?_; rintro e w' ⟨rfl, rfl⟩)
 go_ret
 exact ⟨rfl, rfl⟩
theorem pieces_size : ∀ (k : Nat) (s : ByteArray), ∀ y ∈ piecesB k s, y.size ≤ s.size
 | 0, s, y, hy => by
  have : y = s := by simpa [piecesB] using hy
  rw [this]
  exact Nat.le_refl _
 | k + 1, s, y, hy => by
  unfold piecesB at hy
  split at hy
  ·have : y = s := by simpa using hy
   rw [this]
   exact Nat.le_refl _
  ·rcases List.mem_cons.1 hy with rfl | hy
   ·rw [ByteArray.size_extract]; omega
   ·have := pieces_size k _ y hy
    rw [ByteArray.size_extract] at this
    omega
theorem trim_size (s : ByteArray) {n : Nat} (h : s.size ≤ n) : (⟨(Lib.trimSuffix s.data.toList [10]).toArray⟩ : ByteArray).size ≤ n := by
 show (Lib.trimSuffix s.data.toList [10]).toArray.size ≤ n
 have e : s.size = s.data.toList.length := by rw [Array.length_toList]; rfl
 unfold Lib.trimSuffix
 split <;> simp <;> simp at e <;> omega
theorem keeps_of_turned {F : Nat → Prop} {W W' : World} (ht : Turned F W W') (hF : ∀ k, F k → ∃ t cs, Has W k t cs) : KeepsOthers W W' := ⟨ht.size, fun k o hk ho => (ht.block k (Array.getElem?_eq_some_iff.1 hk).1 fun hf => by
 obtain ⟨t, cs, hh⟩ := hF k hf
 unfold Has at hh
 rw [hh] at hk
 injection hk with hk
 rw [← hk] at ho
 cases ho).trans hk⟩
theorem piecesB_ne : ∀ (k : Nat) (s : ByteArray), piecesB k s ≠ []
 | 0, _ => by simp [piecesB]
 | k + 1, s => by unfold piecesB; split <;> simp
theorem runD_some (d : Dk) {l : List ByteArray} (h : l ≠ []) : (runD d l).2 ≠ [] := by
 rw [← List.dropLast_concat_getLast h, runD_snoc]
 simp
theorem freeze_other {W : World} {gg D : Nat} {t : TypeId} {cs : Array Value} {o : Obj} (hh : Has W gg t cs) (n : Nat) (hK : W.heap[D]? = some o) (ho : o.isCells = false) : (W.drew.freeze ⟨gg, 0, none⟩ n).heap[D]? = some o := by
 have hne : gg ≠ D := fun e => by
  subst e
  unfold Has at hh
  rw [hh] at hK
  injection hK with hK
  rw [← hK] at ho
  cases ho
 unfold World.freeze
 split
 ·exact hK
 ·show (W.heap.modify gg _)[D]? = some o
  rw [Array.getElem?_modify, if_neg hne]
  exact hK
structure SIn (w : World) (g bb : Nat) (pre : List ByteArray) (W : World) : Prop where
 desk : ∃ x vr, DkAt W g g x vr (runD desk0 pre).1
 bu : ∃ v, BuAt W g bb v (runD desk0 pre).2 ∧ Oth v (runD desk0 pre).2
 first : ∀ c t, (runD desk0 pre).2 = c :: t → c ≠ 0
 dv : Has W (g + 1) 44 #[.pointer (some ⟨g, 0, none⟩)]
 sbx : ∃ u, Has W (bb + 1) 9 #[u]
 pbx : Has W (bb + 1 + 1) 9 #[.string ⟨#[10]⟩]
 vbx : Has W (bb + 1 + 2) 3 #[I 0]
 low : Below g w W
 std : Std W
theorem SIn.mild {w W W' : World} {g bb N : Nat} {pre : List ByteArray} (h : SIn w g bb pre W) (m : Mild N (bb + 1) W W') (hN : g ≤ N) (hg : g + 1 < bb) (hng : 9 ≤ g) : SIn w g bb pre W' := by
 obtain ⟨u, hu⟩ := h.sbx
 obtain ⟨x, vr, hd⟩ := h.desk
 obtain ⟨v, hb, ho⟩ := h.bu
 have hlo : Below g W W' := m.below hN (by omega) (by have := h.dv.lt; omega)
 exact ⟨⟨x, vr, hd.mild hu m⟩, ⟨v, hb.mild hu m, ho⟩, h.first, m.has h.dv (by omega), m.box u hu, m.has h.pbx (by omega), m.has h.vbx (by omega), h.low.trans hlo, h.std.below hng hlo⟩
theorem sess_step {w W : World} {g bb : Nat} {pre : List ByteArray} {y : ByteArray} {x1 : SyX} {vr1 v : Value} (h : SIn w g bb pre W) (hd : DkAt W g g x1 vr1 (runD desk0 pre).1) (hb : BuAt W g bb v (runD desk0 pre).2) (ho : Oth v (runD desk0 pre).2) (hg : g + 1 < bb) (hng : 9 ≤ g)
  (hz : Zer (lineOf (runD desk0 pre).1 y).1.s) (hc : ∀ c u, (lineOf (runD desk0 pre).1 y).2 = c :: u → c ≠ 0) (TA : ByteArray) (w3 w4 : World) (x' : SyX) (vr' v' : Value) (hta : TA.data.toList = (lineOf (runD desk0 pre).1 y).2)
  (hd3 : DkAt w3 g g x' vr' (lineOf (runD desk0 pre).1 y).1) (hm3 : DMv W w3 g x1 x') (hb4 : BuAt w4 g bb v' ((runD desk0 pre).2 ++ (TA ++ ⟨#[10]⟩).data.toList)) (ht4 : Turned (FB bb v) w3 w4) :
  Exit.normal = .normal ∧ KeepsOthers W w4 ∧ (∀ k, k = bb + 1 ∨ k = bb + 1 + 1 ∨ k = bb + 1 + 2 → w4.heap[k]? = W.heap[k]?) ∧ SIn w g bb (pre ++ [y]) w4 := by
 have hF1 : ∀ k, FD g x1 k → Own (fun t => t == 46 || mutT t) W k := fun k hk => by
  rcases hk with rfl | hk
  ·exact ⟨_, _, hd.has, rfl⟩
  ·obtain ⟨t, cs, hh, hm⟩ := hd.sys.mut hk
   exact ⟨t, cs, hh, by simp [hm]⟩
 have hb3 := hb.moved hd hm3
 have hF2 := FB.own hb3
 have hkeep : ∀ {k : Nat} {t : TypeId} {cs : Array Value}, Has W k t cs → (t == 46 || mutT t) = false → buT t = false → Has w4 k t cs := fun hh h1 h2 => (hh.keepG hm3.turned hF1 h1).keepG ht4 hF2 h2
 obtain ⟨u, hu⟩ := h.sbx
 have hbw : Below g W w4 := (hm3.below hd).trans (ht4.below (fun k hk => by
  rcases hk with rfl | hk
  ·omega
  ·exact (own_block hb3.own hk).1) (Nat.le_trans hd.hB hm3.turned.size))
 have hq : ∃ c t, (runD desk0 (pre ++ [y])).2 = c :: t ∧ c ≠ 0 := by
  rw [runD_snoc]
  show ∃ c t, (runD desk0 pre).2 ++ ((lineOf (runD desk0 pre).1 y).2 ++ [10]) = c :: t ∧ c ≠ 0
  cases hl : (runD desk0 pre).2 with
  | cons c t =>
   refine ⟨c, t ++ ((lineOf (runD desk0 pre).1 y).2 ++ [10]), rfl, ?_⟩
   exact h.first c t hl
  | nil =>
   cases ha : (lineOf (runD desk0 pre).1 y).2 with
   | nil => exact ⟨10, [], rfl, by decide⟩
   | cons c t => exact ⟨c, t ++ [10], rfl, hc c t ha⟩
 refine ⟨rfl, (keeps_of_turned hm3.turned fun k hk => ?_).trans (keeps_of_turned ht4 fun k hk => ?_), fun k hk => ?_, ⟨x', vr', ?_⟩, ⟨v', ?_, .inr hq⟩, (fun c t e => by obtain ⟨c', t', e', hc'⟩ := hq; rw [e'] at e; injection e with e; subst e; exact hc'), hkeep h.dv rfl rfl, ⟨u, hkeep hu rfl rfl⟩, hkeep h.pbx rfl rfl, hkeep h.vbx rfl rfl, h.low.trans hbw, h.std.below hng hbw⟩
 ·obtain ⟨t, cs, hh, _⟩ := hF1 k hk
  exact ⟨t, cs, hh⟩
 ·obtain ⟨t, cs, hh, _⟩ := hF2 k hk
  exact ⟨t, cs, hh⟩
 ·rcases hk with rfl | rfl | rfl
  ·exact (hkeep hu rfl rfl).trans hu.symm
  ·exact (hkeep h.pbx rfl rfl).trans h.pbx.symm
  ·exact (hkeep h.vbx rfl rfl).trans h.vbx.symm
 ·rw [runD_snoc]
  exact hd3.write hz hb3 ho ht4
 ·rw [runD_snoc]
  have e : (TA ++ (⟨#[10]⟩ : ByteArray)).data.toList = (lineOf (runD desk0 pre).1 y).2 ++ [10] := by
   rw [ByteArray.data_append, Array.toList_append, hta]
  rw [← e]
  exact hb4
def linesOf (text : ByteArray) : List ByteArray := piecesB (⟨(Lib.trimSuffix text.data.toList [10]).toArray⟩ : ByteArray).size ⟨(Lib.trimSuffix text.data.toList [10]).toArray⟩
set_option maxHeartbeats 4000000 in
set_option maxRecDepth 100000 in
theorem session_ok (text : ByteArray) (hz : text.size ≤ 20000) (w : World) (hs : Std w) (hfi : ∀ pre rest, pre ++ rest = linesOf text → (runD desk0 pre).2.length ≤ 90000000000 ∧ ∃ T, T ≤ 9900000000 ∧ Fine T (runD desk0 pre).1.s ∧ Zer (runD desk0 pre).1.s) (han : ∀ pre x rest, pre ++ x :: rest = linesOf text → (lineOf (runD desk0 pre).1 x).2.length ≤ 1000000 ∧ ∀ c u, (lineOf (runD desk0 pre).1 x).2 = c :: u → c ≠ 0) : Calls Tryz.prog 6 #[.string text] w fun e w' => e = .returned (.string ⟨(runD desk0 (linesOf text)).2.toArray⟩) ∧ Below w.heap.size w w' := by
 have hzi : ¬ (20000 : Int) < (text.size : Int) := by omega
 obtain ⟨wa, hwa⟩ : ∃ wa, wa = (((w.alloc (.cells #[I 0, .slice none 0 0, I 0, .pointer none] 46)).alloc (.cells #[.pointer (some ⟨w.heap.size, 0, none⟩)] 44)).alloc (.cells #[.string ⟨#[49, 48]⟩, .string ⟨#[50]⟩, .string ⟨#[52]⟩, .string ⟨#[51]⟩, .string ⟨#[49, 50]⟩, .string ⟨#[54]⟩] 9)) := ⟨_, rfl⟩
 have hba : Below w.heap.size w wa := by
  rw [hwa]
  exact (((Below.refl _ _).alloc (Nat.le_refl _) _).alloc (by simp) _).alloc (by simp; omega) _
 have kg : Has wa w.heap.size 46 #[I 0, .slice none 0 0, I 0, .pointer none] := by
  rw [hwa]; exact ((Has.new _ _ _).alloc _).alloc _
 have kd : Has wa (w.heap.size + 1) 44 #[.pointer (some ⟨w.heap.size, 0, none⟩)] := by
  rw [hwa]; exact (Has.new' _ _ _ _ (by simp)).alloc _
 have kw : Has wa (w.heap.size + 1 + 1) 9 #[.string ⟨#[49, 48]⟩, .string ⟨#[50]⟩, .string ⟨#[52]⟩, .string ⟨#[51]⟩, .string ⟨#[49, 50]⟩, .string ⟨#[54]⟩] := by
  rw [hwa]; exact Has.new' _ _ _ _ (by simp)
 have hwd : Words wa (some ⟨w.heap.size + 1 + 1, 0, none⟩) words0 := ⟨by decide, by decide, Reads.of_has kw kw.lt⟩
 have hsa : Std wa := hs.after hba
 have HBG := Lib.hid (begin_ok deskL (B := w.heap.size) kg (Nat.le_refl _) hba.size (Lib.hid ⟨deskL_ok, rfl, rfl, rfl⟩) (Lib.hid ⟨by decide, by decide⟩) (Lib.hid words0_nums) (Lib.hid hwd) 6 (Lib.hid hsa))
 have HSA := Lib.hid hsa
 have HBA := Lib.hid hba
 have HNG := Lib.hid hs.size
 have HKD := Lib.hid kd
 have HFI := Lib.hid hfi
 have HAN := Lib.hid han
 clear hba kg kd kw hwd hsa hs hfi han
 refine (callsIn_wide (n := 4)).1 ?_
 refine callsIn_of_wp_marks Tryz.func6 rfl trivial ?_ rfl
 simp only [Tryz.ntmps6, List.size_toArray, List.length_cons, List.length_nil, Nat.reduceAdd, Nat.reduceSub, Array.replicate_succ, Array.replicate_zero, List.push_toArray, List.append_toArray, List.nil_append, List.cons_append]
 gi_wp2_with fail
 refine ⟨trivial, ?_⟩
 rw [← hwa]
 refine (callsIn_wide.2 HBG.out).mono ?_
 rintro e w2 ⟨rfl, x, vr, hdk, ht, hfs⟩
 have HDK := Lib.hid hdk
 have HB2 : Hid (Below w.heap.size w w2) := Lib.hid (HBA.out.trans (ht.below (fun k hk => by omega) HBA.out.size))
 have HS2 : Hid (Std w2) := Lib.hid (HSA.out.below HNG.out (ht.below (B := w.heap.size) (fun k hk => by omega) HBA.out.size))
 have HKD2 : Hid (Has w2 (w.heap.size + 1) 44 #[.pointer (some ⟨w.heap.size, 0, none⟩)]) := Lib.hid (HKD.out.turned ht (by omega))
 clear hdk ht hfs hwa HBG HKD HSA HBA
 generalize hG : w.heap.size = g at *
 have HG := Lib.hid hG
 clear hG
 have HTS := fun wx => Lib.hid (Tryz.strings_TrimSuffix text ⟨#[10]⟩ wx (by omega))
 gi_wp2_with (first
  | (refine ⟨trivial, ?_⟩; gi_at_call 15; refine (callsIn_wide.2 (HTS _).out).mono ?_; rintro e w3 ⟨rfl, rfl⟩)
  | (refine ⟨trivial, ?_⟩; gi_at_call 14; refine (callsIn_wide.2 (split_ok _ _)).mono ?_; rintro e w4 ⟨rfl, rfl⟩))
 have hsz2 : (⟨(Lib.trimSuffix text.data.toList [10]).toArray⟩ : ByteArray).size ≤ 20000 := trim_size text hz
 obtain ⟨wL, hwL⟩ : ∃ wL, wL = (((w2.alloc (.cells #[.pointer none, .slice none 0 0] 52)).alloc (.cells #[.string ⟨(Lib.trimSuffix text.data.toList [10]).toArray⟩] 9)).alloc (.cells #[.string ⟨#[10]⟩] 9)).alloc (.cells #[I 0] 3) := ⟨_, rfl⟩
 have kB : Has wL w2.heap.size 52 #[.pointer none, .slice none 0 0] := by rw [hwL]; exact (((Has.new _ _ _).alloc _).alloc _).alloc _
 have kS : Has wL (w2.heap.size + 1) 9 #[.string ⟨(Lib.trimSuffix text.data.toList [10]).toArray⟩] := by rw [hwL]; exact ((Has.new' _ _ _ _ (by simp)).alloc _).alloc _
 have kP : Has wL (w2.heap.size + 1 + 1) 9 #[.string ⟨#[10]⟩] := by rw [hwL]; exact (Has.new' _ _ _ _ (by simp)).alloc _
 have kV : Has wL (w2.heap.size + 1 + 2) 3 #[I 0] := by rw [hwL]; exact Has.new' _ _ _ _ (by simp)
 have hbL : Below w2.heap.size w2 wL := by rw [hwL]; exact ((((Below.refl _ _).alloc (Nat.le_refl _) _).alloc (by simp) _).alloc (by simp; omega) _).alloc (by simp; omega) _
 have hgs : g + 1 < w2.heap.size := HKD2.out.lt
 have hI0 : SIn w g w2.heap.size [] wL := ⟨⟨x, vr, HDK.out.after hbL⟩, ⟨.slice none 0 0, ⟨⟨_, .inl rfl, kB⟩, World.ownsRow_nil _ _ _ _, by omega⟩, .inl rfl⟩, (fun c t hh => by cases hh), HKD2.out.after hbL, ⟨_, kS⟩, kP, kV, HB2.out.trans (hbL.mono (by omega)), HS2.out.after hbL⟩
 have HNG2 : Hid (9 ≤ g) := Lib.hid HNG.out
 have hNL : w2.heap.size + 3 < wL.heap.size := kV.lt
 rw [← hwL]
 have HBL := Lib.hid (And.intro kS (And.intro kP kV))
 have HI0 := Lib.hid hI0
 clear kB kS kP kV hbL hwL hI0
 generalize w2.heap.size = bb at *
 refine range_split (by decide) (⟨(Lib.trimSuffix text.data.toList [10]).toArray⟩ : ByteArray) (by omega) (bb + 1) (bb + 1 + 1) (bb + 1 + 2) (by omega) rfl rfl HBL.out.1 HBL.out.2.1 HBL.out.2.2 (SIn w g bb) (fun pre W W' hI m => hI.mild m (by omega) hgs HNG2.out) HI0.out
  (fun y => { tmps := #[.string text, undef, .string ⟨#[]⟩, .pointer (some ⟨g + 1, 0, none⟩), .pointer (some ⟨bb, 0, none⟩), .string y, .string text, .int .i64 text.size, .bool false, .agg #[.int .i64 0, .slice none 0 0, .int .i64 0, .pointer none], .pointer (some ⟨g, 0, none⟩), .pointer (some ⟨g, 0, none⟩), .slice (some ⟨g + 1 + 1, 0, none⟩) 6 6, .string ⟨#[98, 101, 103, 105, 110]⟩, .string text, .string ⟨(Lib.trimSuffix text.data.toList [10]).toArray⟩, .func (.func 46) #[] #[.pointer (some ⟨bb + 1 + 1, 0, none⟩), .pointer (some ⟨bb + 1, 0, none⟩), .pointer (some ⟨bb + 1 + 2, 0, none⟩)], .string y, undef, undef, undef, undef, undef, undef], defers := [] }) ?assign ?body ?done
 case assign =>
  intro l y W K hK
  gi_wp2
  exact hK
 case body =>
  rintro l pre y W hI ⟨rest, hr⟩
  obtain ⟨hlen, T, hT, hF, hZ0⟩ := HFI.out pre (y :: rest) hr
  obtain ⟨_, _, _, _, hZ1⟩ := HFI.out (pre ++ [y]) rest (by rw [List.append_assoc]; exact hr)
  obtain ⟨hal, hac⟩ := HAN.out pre y rest hr
  rw [runD_snoc] at hZ1
  have hys : y.size ≤ 20000 := Nat.le_trans (pieces_size _ _ y (by rw [← hr]; simp)) hsz2
  obtain ⟨x1, vr1, hd⟩ := hI.desk
  obtain ⟨v, hb, ho⟩ := hI.bu
  have HLN := Lib.hid (line_ok hd HNG2.out hF hT hI.std y (by omega))
  have c0 := hI.dv.cellv 0 (.pointer (some ⟨g, 0, none⟩)) rfl
  have g0 := hI.dv.lt
  have HD := Lib.hid hd
  have HBU := Lib.hid hb
  have HI := Lib.hid hI
  have HZ1 := Lib.hid hZ1
  have HSTEP := Lib.hid (sess_step (pre := pre) (y := y) hI hd hb ho hgs HNG2.out hZ1 hac)
  have hta : (⟨(lineOf (runD desk0 pre).1 y).2.toArray⟩ : ByteArray).data.toList = (lineOf (runD desk0 pre).1 y).2 := by simp
  have hts : (⟨(lineOf (runD desk0 pre).1 y).2.toArray⟩ : ByteArray).size ≤ 1000000 := by show (lineOf (runD desk0 pre).1 y).2.toArray.size ≤ _; simpa using hal
  unfold LPost at HLN
  generalize (⟨(lineOf (runD desk0 pre).1 y).2.toArray⟩ : ByteArray) = TA at *
  have hadd : ¬ 9223372036854775807 < TA.size + 1 := by omega
  have HTA := Lib.hid (And.intro hta hts)
  have HLE := Lib.hid hlen
  clear hr hlen hT hF hZ0 hal hac hZ1 hys hd hb hI ho hta hts
  gi_wp2_with (first
   | (refine ⟨trivial, ?_⟩; gi_at_call 17; refine (CallsIn.inRound l (callsIn_wide.2 HLN.out)).mono ?_; rintro e w3 ⟨rfl, x', vr', hd3, hm3⟩; have HD3 := Lib.hid hd3; have HM3 := Lib.hid hm3; have HW := Lib.hid (write_ok (HBU.out.moved HD.out hm3) (TA ++ ⟨#[10]⟩) (by rw [ByteArray.size_append]; have := HTA.out.2; have := HLE.out; show _ + (TA.size + 1) ≤ _; omega) hd3.hB); clear hd3 hm3)
   | (refine ⟨trivial, ?_⟩; gi_at_call 16; refine (CallsIn.inRound l (callsIn_wide.2 HW.out)).mono ?_; rintro e w4 ⟨⟨_, rfl⟩, v', hb4, ht4⟩; have H4 := Lib.hid (And.intro hb4 ht4); clear hb4 ht4))
  have hst := HSTEP.out TA _ _ _ _ _ HTA.out.1 HD3.out HM3.out H4.out.1 H4.out.2
  simpa using hst
 case done =>
  intro D W hDN hI hK
  obtain ⟨v, hb, _⟩ := hI.bu
  have HST := Lib.hid (str_ok hb (runD_some _ (piecesB_ne _ _)))
  have HLW := Lib.hid hI.low
  clear hb hI
  gi_wp2_with (refine ⟨trivial, ?_⟩; gi_at_call 18; refine (callsIn_wide.2 HST.out).mono ?_; rintro e w5 ⟨rfl, gg, n, hgg, ⟨t9, cs9, hh9⟩, rfl⟩)
  have hK5 := freeze_other hh9 n hK rfl
  have hb5 : Below g w (W.drew.freeze ⟨gg, 0, none⟩ n) := Lib.below_freeze (Below.drew HLW.out) (p := ⟨gg, 0, none⟩) hgg n
  refine ⟨by simp, .inl ⟨_, _, rfl, run_takeDeferred hK5, ?_⟩⟩
  refine ⟨_, results_tmp rfl _ _ _, rfl, ?_⟩
  rw [HG.out]
  exact hb5.trans ((Below.refl g _).grown (grownBy_putObj' _ D (.deferred none)) (Nat.le_trans (by omega) (Nat.le_of_lt (Array.getElem?_eq_some_iff.1 hK5).1)) (fun k e => by cases e; omega))
end Go.Proofs.YtdhekhlmdefcnabGreatDoor
namespace Go.Proofs.YtdhekhlmdefcnabGreatDoor
theorem idx_first (k : Int) : ∃ l, idx k = 0 :: l := by
 unfold idx
 repeat' split
 all_goals exact ⟨_, rfl⟩
theorem enc_first {f : List Int} (h : f.getD 0 0 < 65536) : ∃ t, encB f = 0 :: t := by
 obtain ⟨l, hl⟩ := idx_first (f.getD 0 0)
 unfold encB body bodyTo
 rw [hl, List.length_cons, List.take_succ_cons, List.flatMap_cons]
 have e : ∃ u, three (f.getD 0 0) = 0 :: u := ⟨_, by unfold three; rw [show (f.getD 0 0).toNat / 65536 = 0 by omega]; rfl⟩
 obtain ⟨u, hu⟩ := e
 rw [hu]
 exact ⟨_, rfl⟩
theorem may_kind {f : List Int} (h : mayB f = true) : f.getD 0 0 < 65536 := by
 unfold mayB headB at h
 simp only [Bool.and_eq_true, decide_eq_true_eq] at h
 omega
section
variable {s : Sys} {L : Lay}
theorem Zer.put (h : Zer s) {g : Gram} (hg : ∃ t, g.bytes = 0 :: t) : Zer (sysPut s g) := by
 unfold sysPut
 split
 ·exact h
 ·intro gm hm
  rcases List.mem_append.1 hm with hm | hm
  ·exact h gm hm
  ·rw [List.mem_singleton.1 hm]; exact hg
theorem Zer.send (h : Zer s) (a b : Nat) (f : List Int) : Zer (sysSend s a b f) := by
 unfold sysSend
 split
 ·rename_i hm
  exact h.put (enc_first (may_kind hm))
 ·exact h
theorem Zer.fold {α : Type} {F : Sys → α → Sys} (hF : ∀ s x, Zer s → Zer (F s x)) : ∀ (l : List α) {s : Sys}, Zer s → Zer (l.foldl F s)
 | [], _, h => h
 | x :: l, _, h => Zer.fold hF l (hF _ x h)
theorem Zer.way {s' : Sys} (h : Zer s) (e : ∀ g ∈ s'.way, g ∈ s.way) : Zer s' := fun g hg => h g (e g hg)
theorem Zer.sendAll (h : Zer s) (a : Nat) (l : List Nat) (f : List Int) : Zer (Go.Proofs.YtdhekhlmdefcnabGreatDoor.sendAll s a l f) := Zer.fold (fun _ _ hs => hs.send _ _ _) l h
theorem Zer.tickR (h : Zer s) (k : Nat) : Zer (Go.Proofs.YtdhekhlmdefcnabGreatDoor.tickR L s k) := by
 have h1 : Zer (Go.Proofs.YtdhekhlmdefcnabGreatDoor.sendAll { s with rs := s.rs.set k (reTick L (re s k)).1 } k (others k) (reTick L (re s k)).2.1) := Zer.sendAll (s := { s with rs := s.rs.set k (reTick L (re s k)).1 }) h _ _ _
 unfold Go.Proofs.YtdhekhlmdefcnabGreatDoor.tickR
 dsimp only
 split
 ·exact h1.send _ _ _
 ·exact h1
theorem Zer.tick (h : Zer s) (k : Nat) : Zer (sysTick L s k) := by
 unfold sysTick
 split
 ·exact h
 ·exact h.tickR k
theorem Zer.asks (h : Zer s) (k : Nat) : Zer (sysAsks s k) := h.sendAll _ _ _
theorem Zer.erase (h : Zer s) (i : Nat) : Zer { s with way := s.way.eraseIdx i } := h.way fun _ hg => List.mem_of_mem_eraseIdx hg
theorem Zer.twice (h : Zer s) (i : Nat) : Zer (sysTwice s i) := by
 unfold sysTwice
 split
 ·exact h
 ·rename_i g hg
  exact h.put (h g (List.mem_of_getElem? hg))
theorem Zer.toAll (h : Zer s) (all : Bool) (b : Nat) (f : List Int) : Zer (Go.Proofs.YtdhekhlmdefcnabGreatDoor.toAll s all b f) := Zer.fold (fun s x hs => by
 split
 ·exact hs.send _ _ _
 ·exact hs) _ h
theorem Zer.deliver (h : Zer s) (i : Nat) : Zer (Go.Proofs.YtdhekhlmdefcnabGreatDoor.deliver L s i) := by
 unfold Go.Proofs.YtdhekhlmdefcnabGreatDoor.deliver
 split
 ·exact h
 ·dsimp only
  split
  ·split
   ·exact Zer.fold (fun _ _ hs => hs.toAll _ _ _) _ (h.erase i)
   ·exact Zer.fold (fun _ _ hs => hs.send _ _ _) _ (h.erase i)
  ·exact h.erase i
theorem Zer.flows : ∀ (n : Nat) {s : Sys}, Zer s → Zer (Go.Proofs.YtdhekhlmdefcnabGreatDoor.flows L s n)
 | 0, _, h => h
 | n + 1, _, h => by
  unfold Go.Proofs.YtdhekhlmdefcnabGreatDoor.flows
  split
  ·exact h
  ·exact Zer.flows n (h.deliver 0)
theorem Zer.half (h : Zer s) (N : Nat) : Zer (halfRound L N s) := Zer.flows N (((h.tickR 0).tickR 1).tickR 2)
theorem Zer.calm (N : Nat) : ∀ (n : Nat) {s : Sys}, Zer s → Zer (Go.Proofs.YtdhekhlmdefcnabGreatDoor.calm L N s n)
 | 0, _, h => h
 | n + 1, s, h => by
  have h3 : Zer (halfRound L N (halfRound L N (Go.Proofs.YtdhekhlmdefcnabGreatDoor.flows L s N))) := ((Zer.flows N h).half N).half N
  unfold Go.Proofs.YtdhekhlmdefcnabGreatDoor.calm
  exact Zer.calm N n (s := { halfRound L N (halfRound L N (Go.Proofs.YtdhekhlmdefcnabGreatDoor.flows L s N)) with v := voTick (halfRound L N (halfRound L N (Go.Proofs.YtdhekhlmdefcnabGreatDoor.flows L s N))).v }) h3
end
end Go.Proofs.YtdhekhlmdefcnabGreatDoor
namespace Go.Proofs.YtdhekhlmdefcnabGreatDoor
theorem new_fine {n : Int} (h1 : 1 ≤ n) (h2 : n ≤ 20) : Fine 0 (Sys.new n) := by
 refine ⟨rfl, fun k hk => ?_, voNew_wf h1 h2, (fun c hc => by cases hc), (fun y hy => ?_), Nat.zero_le _, Nat.le_refl _, (fun g hg => by cases hg)⟩
 ·have : k = 0 ∨ k = 1 ∨ k = 2 := by omega
  rcases this with rfl | rfl | rfl
  ·exact new_fits (by decide)
  ·exact new_fits (by decide)
  ·exact new_fits (by decide)
 ·have e : y = (Cm.zero, false) := List.eq_of_mem_replicate (n := 3) hy
  rw [e]; exact cm64_zero
structure DOk (T : Nat) (d : Dk) : Prop where
 ok : d.L.Ok
 fine : Fine T d.s
 zer : Zer d.s
theorem numsTo_64 : ∀ {l : List ByteArray} {n : List Int}, numsTo l = some n → ∀ v ∈ n, I64 v
 | [], n, h, v, hv => by
  have : n = [] := by simpa [numsTo] using h.symm
  rw [this] at hv
  cases hv
 | s :: l, n, h, v, hv => by
  unfold numsTo at h
  split at h
  ·cases h
  ·rename_i u hu
   cases hl : numsTo l with
   | none => rw [hl] at h; cases h
   | some m =>
    rw [hl] at h
    have e : u :: m = n := by simpa using h
    rw [← e] at hv
    rcases List.mem_cons.1 hv with rfl | hv
    ·exact numOf_64 hu
    ·exact numsTo_64 hl v hv
theorem numsOf_64 {l : List ByteArray} {k : Int} {n : List Int} (h : numsOf l k = some n) : ∀ v ∈ n, I64 v := by
 unfold numsOf at h
 split at h
 ·cases h
 ·exact numsTo_64 h
theorem getD_64 {n : List Int} (h : ∀ v ∈ n, I64 v) (i : Nat) : I64 (n.getD i 0) := by
 rw [List.getD_eq_getElem?_getD]
 cases hi : n[i]? with
 | none => exact ⟨by decide, by decide⟩
 | some v => exact h v (List.mem_of_getElem? hi)
theorem DOk.mono {T U : Nat} {d : Dk} (h : DOk T d) (hU : T ≤ U) : DOk U d := ⟨h.ok, h.fine.mono hU, h.zer⟩
theorem DOk.sys {T U : Nat} {d : Dk} (h : DOk T d) {s : Sys} (hf : Fine U s) (hz : Zer s) : DOk U { d with s := s } := ⟨h.ok, hf, hz⟩
theorem DOk.one {T U : Nat} {d : Dk} (h : DOk T d) (hU : T ≤ U) {ok : Bool} {s : Sys} {t : By} (hs : ok = true → Fine U s ∧ Zer s) : DOk U (dOne d ok s t).1 := by
 unfold dOne
 split
 ·rename_i hk
  exact h.sys (hs hk).1 (hs hk).2
 ·exact h.mono hU
theorem isRep_lt {i : Int} (h : isRep i = true) : i.toNat < 3 := by
 unfold isRep at h
 simp only [Bool.and_eq_true, decide_eq_true_eq] at h
 omega
theorem DOk.begin {T U : Nat} {d : Dk} (h : DOk T d) (hU : T ≤ U) {n : List Int} (h4 : 4 ≤ n.length) : DOk U (doBegin d n).1 := by
 match n, h4 with
 | n0 :: n1 :: n2 :: rs, _ =>
  unfold doBegin
  split
  ·rename_i hc
   split
   ·rename_i hw
    have hc' : chk n2 rs n1 = .ok := hc
    obtain ⟨L, hL, rfl, rfl, rfl⟩ := lay_of_chk hc'
    have hlo : layOf (n0 :: (L.delay : Int) :: (L.secs : Int) :: zs L.routes) = L := by
     show (⟨Int.toNat (L.secs : Int), (zs L.routes).map Int.toNat, Int.toNat (L.delay : Int)⟩ : Lay) = L
     have : (zs L.routes).map Int.toNat = L.routes := by
      unfold zs
      rw [List.map_map]
      exact (List.map_congr_left (g := id) fun _ _ => rfl).trans (List.map_id _)
     rw [this]
     rfl
    rw [hlo]
    exact ⟨hL, (new_fine hw.1 hw.2).mono (Nat.zero_le _), fun g hg => by cases hg⟩
   ·exact h.mono hU
  ·exact h.mono hU
theorem DOk.does {T : Nat} {d : Dk} (h : DOk T d) (c : Cmd) (l : List ByteArray) : DOk (T + 5050000) (does' c d l).1 := by
 have hm := h.mono (U := T + 5050000) (by omega)
 have hf := h.fine
 have hz := h.zer
 have hL := h.ok
 cases c with
 | ask =>
  simp only [does']
  split
  ·exact hm
  ·rename_i n hn
   exact h.one (by omega) fun hk => ⟨(hf.asks (isRep_lt hk)).mono (by omega), hz.asks _⟩
 | begin =>
  simp only [does']
  split
  ·exact hm
  ·rename_i n hn
   exact h.begin (by omega) (numsOf_four hn)
 | calm =>
  simp only [does']
  split
  ·exact hm
  ·rename_i n hn
   refine h.one (by omega) fun hk => ⟨(Fine.calm hL 1200 (at0 n).toNat hf).mono ?_, Zer.calm 1200 (at0 n).toNat hz⟩
   simp only [Bool.and_eq_true, decide_eq_true_eq] at hk
   have : (at0 n).toNat ≤ 100 := by omega
   have h2 := Nat.mul_le_mul_left (30 + 42 * 1200) this
   omega
 | conflicts =>
  simp only [does']
  split
  ·exact hm
  ·exact hm
 | crash =>
  simp only [does']
  split
  ·exact hm
  ·rename_i n hn
   exact h.one (by omega) fun hk => ⟨(hf.crash (isRep_lt hk)).mono (by omega), hz.way fun _ hg => hg⟩
 | deliver =>
  simp only [does']
  split
  ·exact hm
  ·rename_i n hn
   exact h.one (by omega) fun _ => ⟨(hf.deliver hL _).mono (by omega), hz.deliver _⟩
 | help =>
  simp only [does']
  split
  ·exact hm
  ·exact hm
 | latch =>
  simp only [does']
  split
  ·exact hm
  ·rename_i n hn
   exact h.sys (hf.latch.mono (by omega)) (hz.way fun _ hg => hg)
 | lose =>
  simp only [does']
  split
  ·exact hm
  ·rename_i n hn
   exact h.one (by omega) fun _ => ⟨(hf.lose _).mono (by omega), hz.erase _⟩
 | many =>
  simp only [does']
  split
  ·exact hm
  ·exact hm
 | most =>
  simp only [does']
  split
  ·exact hm
  ·exact hm
 | replica =>
  simp only [does']
  split
  ·exact hm
  ·rename_i n hn
   split <;> exact hm
 | see =>
  simp only [does']
  split
  ·exact hm
  ·rename_i n hn
   refine h.one (by omega) fun hk => ⟨(hf.see (isRep_lt hk) ⟨?_, ?_⟩).mono (by omega), hz.way fun _ hg => hg⟩
   ·exact getD_64 (numsOf_64 hn) 1
   ·exact getD_64 (numsOf_64 hn) 2
 | «show» =>
  simp only [does']
  split
  ·exact hm
  ·exact hm
 | tick =>
  simp only [does']
  split
  ·exact hm
  ·rename_i n hn
   refine h.one (by omega) fun hk => ⟨(hf.tick hL ?_).mono (by omega), hz.tick _⟩
   simp only [Bool.or_eq_true, decide_eq_true_eq] at hk
   rcases hk with hk | hk
   ·exact Nat.le_of_lt (isRep_lt hk)
   ·omega
 | trace =>
  simp only [does']
  split
  ·exact hm
  ·exact hm
 | twice =>
  simp only [does']
  split
  ·exact hm
  ·rename_i n hn
   exact h.one (by omega) fun _ => ⟨(hf.twice _).mono (by omega), hz.twice _⟩
theorem DOk.line {T : Nat} {d : Dk} (h : DOk T d) (s : ByteArray) : DOk (T + 5050000) (lineOf d s).1 := by
 unfold lineOf
 split
 ·exact h.mono (by omega)
 ·split
  ·exact h.mono (by omega)
  ·exact h.does _ _
theorem DOk.fold : ∀ (l : List ByteArray) {T : Nat} {r : Dk × By}, DOk T r.1 → DOk (T + 5050000 * l.length) (l.foldl (fun r s => ((lineOf r.1 s).1, r.2 ++ ((lineOf r.1 s).2 ++ [10]))) r).1
 | [], _, _, h => h
 | s :: l, T, r, h => by
  rw [List.foldl_cons, List.length_cons]
  exact (DOk.fold l (r := ((lineOf r.1 s).1, r.2 ++ ((lineOf r.1 s).2 ++ [10]))) (h.line s)).mono (by omega)
theorem DOk.run {T : Nat} (l : List ByteArray) {d : Dk} (h : DOk T d) : DOk (T + 5050000 * l.length) (runD d l).1 := DOk.fold l (r := (d, [])) h
theorem desk0_ok : DOk 0 desk0 := ⟨deskL_ok, new_fine (by decide) (by decide), fun g hg => by cases hg⟩
end Go.Proofs.YtdhekhlmdefcnabGreatDoor
namespace Go.Proofs.YtdhekhlmdefcnabGreatDoor
open Go.RowKit
def Pr (l : By) : Prop := ∀ c ∈ l, c ≠ 0
theorem Pr.app {a b : By} (h : Pr a) (k : Pr b) : Pr (a ++ b) := fun c hc => (List.mem_append.1 hc).elim (h c) (k c)
theorem dec_pr (u : Nat) : Pr (Lib.decDigits u) := by
 induction u using Nat.strongRecOn with
 | _ u ih =>
  unfold Lib.decDigits
  have hd : ∀ k, k < 10 → UInt8.ofNat (48 + k) ≠ 0 := by decide
  split
  ·intro c hc
   rw [List.mem_singleton.1 hc]
   exact hd _ (by omega)
  ·refine (ih (u / 10) (by omega)).app fun c hc => ?_
   rw [List.mem_singleton.1 hc]
   exact hd _ (by omega)
theorem itoa_pr (n : Int) : Pr (Lib.itoa n) := by
 unfold Lib.itoa
 split
 ·intro c hc
  rcases List.mem_cons.1 hc with rfl | hc
  ·decide
  ·exact dec_pr _ c hc
 ·exact dec_pr _
theorem join_pr {sep : By} (hs : Pr sep) : ∀ (l : List By), (∀ x ∈ l, Pr x) → Pr (Lib.join l sep)
 | [], _ => by intro c hc; simp [Lib.join] at hc
 | [a], h => by
  have := h a (by simp)
  simpa [Lib.join] using this
 | a :: b :: l, h => by
  have ih := join_pr hs (b :: l) (fun x hx => h x (List.mem_cons_of_mem _ hx))
  have e : Lib.join (a :: b :: l) sep = a ++ sep ++ Lib.join (b :: l) sep := by simp [Lib.join, List.intercalate, List.intersperse]
  rw [e]
  exact ((h a (by simp)).app hs).app ih
theorem joinI_pr (l : List Int) : Pr (joinI l) := join_pr (by intro c hc; rw [List.mem_singleton.1 hc]; decide) _ fun x hx => by
 obtain ⟨z, _, rfl⟩ := List.mem_map.1 hx
 exact itoa_pr z
theorem joinI_len {l : List Int} (h : ∀ x ∈ l, I64 x) : (joinI l).length ≤ 22 * l.length := by
 refine Nat.le_trans (join_le 21 [32] _ fun x hx => ?_) (by simp)
 obtain ⟨z, hz, rfl⟩ := List.mem_map.1 hx
 exact Lib.itoa_length_le z (h z hz).1 (h z hz).2
def Gut (t : By) : Prop := Pr t ∧ t.length ≤ 100000
theorem one_txt {d : Dk} {ok : Bool} {s : Sys} {t u : By} (hg : Gut u) (h : (dOne d ok s u).2 = .txt t) : Gut t := by
 unfold dOne at h
 split at h
 ·injection h with h
  rw [← h]; exact hg
 ·cases h
theorem two_good {a b : Int} (ha : I64 a) (hb : I64 b) : Gut (joinI [a, b]) := ⟨joinI_pr _, Nat.le_trans (joinI_len (l := [a, b]) (by intro x hx; simp at hx; rcases hx with rfl | rfl <;> assumption)) (by simp)⟩
theorem trace_good {l : List Cm} (hl : l.length ≤ 1000) (h : ∀ c ∈ l, Cm64 c) : Gut (Lib.join (l.map cmText) [44, 32]) := by
 refine ⟨join_pr (by unfold Pr; decide) _ fun x hx => ?_, Nat.le_trans (join_le 66 [44, 32] _ fun x hx => ?_) ?_⟩
 ·obtain ⟨z, _, rfl⟩ := List.mem_map.1 hx
  exact joinI_pr _
 ·obtain ⟨z, hz, rfl⟩ := List.mem_map.1 hx
  exact cmText_le (h z hz)
 ·rw [List.length_map]
  have : (66 + [44, 32].length) * l.length ≤ 68 * 1000 := Nat.mul_le_mul (by simp) hl
  omega
theorem does_good {T : Nat} {d : Dk} (h : DOk T d) (hT : T ≤ 9900000000) (c : Cmd) (l : List ByteArray) (t : By) (e : (does' c d l).2 = .txt t) : Gut t := by
 have hf := h.fine
 have hw := hf.vo
 cases c <;> simp only [does'] at e <;> split at e <;> first
  | (cases e; done)
  | exact one_txt (by unfold Gut Pr; decide) e
  | skip
 ·unfold doBegin at e
  split at e
  ·split at e
   ·injection e with e
    rw [← e]
    unfold Gut Pr
    decide
   ·cases e
  ·cases e
 ·injection e with e
  rw [← e]
  refine ⟨joinI_pr _, Nat.le_trans (joinI_len fun x hx => ?_) ?_⟩
  ·obtain ⟨z, hz, rfl⟩ := List.mem_map.1 hx
   unfold confs at hz
   obtain ⟨q, hq, rfl⟩ := List.mem_map.1 hz
   have : conf d.L.routes q < 256 := confTo_small _ _ _ h.ok.many2
   exact I64.nat (by omega)
  ·rw [zs_length, confs_length]
   have := h.ok.many2
   omega
 ·injection e with e
  rw [← e]
  unfold Gut Pr
  decide
 ·injection e with e
  rw [← e]
  unfold Gut Pr
  decide
 ·injection e with e
  rw [← e]
  exact two_good (I64.nat (by have := hf.way; omega)) (I64.nat (by have := hf.lost; omega))
 ·injection e with e
  rw [← e]
  have hb := bestTo_le (confs d.L.routes) (2 ^ d.L.routes.length)
  have hi : I64 ((bestTo (confs d.L.routes) (2 ^ d.L.routes.length) : Nat) : Int) := I64.nat (by omega)
  exact ⟨itoa_pr _, Nat.le_trans (Lib.itoa_length_le _ hi.1 hi.2) (by omega)⟩
 ·split at e
  ·rename_i hk
   injection e with e
   rw [← e]
   have hfit := hf.fits _ (isRep_lt hk)
   exact two_good (I64.nat (by have := hfit.cycle; omega)) (I64.nat (by have := hfit.state.set; omega))
  ·cases e
 ·injection e with e
  rw [← e]
  have h2 := two_good (shown64 hf) (I64.nat (n := d.s.v.out) (by have := hf.vo.out; omega))
  have h3 : Gut (Lib.formatBool d.s.v.latched) := by cases d.s.v.latched <;> (unfold Gut Pr; decide)
  refine ⟨(h2.1.app (by unfold Pr; decide)).app h3.1, ?_⟩
  rw [List.length_append, List.length_append]
  have h5 : (joinI [voShown d.s.v, (d.s.v.out : Int)]).length ≤ 44 := Nat.le_trans (joinI_len (by intro x hx; simp at hx; rcases hx with rfl | rfl; exact shown64 hf; exact I64.nat (by have := hf.vo.out; omega))) (by simp)
  have h6 : (Lib.formatBool d.s.v.latched).length ≤ 5 := by cases d.s.v.latched <;> decide
  simp
  omega
 ·injection e with e
  rw [← e]
  exact trace_good hf.vo.many hf.trace
theorem line_good {T : Nat} {d : Dk} (h : DOk T d) (hT : T ≤ 9900000000) (s : ByteArray) : Gut (lineOf d s).2 := by
 have he : ∀ n : Int, 0 ≤ n → n ≤ 9 → Gut (anT (.err n)) := fun n h0 h9 => ⟨(show Pr [101, 114, 114, 111, 114, 32] by unfold Pr; decide).app (itoa_pr n), by
  show ([101, 114, 114, 111, 114, 32] ++ Lib.itoa n).length ≤ _
  rw [List.length_append]
  have := Lib.itoa_length_le n (by omega) (by omega)
  simp
  omega⟩
 unfold lineOf
 split
 ·show Gut [111, 107]
  unfold Gut Pr
  decide
 ·split
  ·exact he 3 (by decide) (by decide)
  ·rename_i p _
   show Gut (anT (does' p.2.1 d _).2)
   cases hr : (does' p.2.1 d _).2 with
   | txt t => exact does_good h hT _ _ t hr
   | err n =>
    have := err_small _ _ _ _ hr
    exact he n this.1 this.2
theorem sess_pre {pre : List ByteArray} (h : pre.length ≤ 1950) : DOk 9900000000 (runD desk0 pre).1 := (desk0_ok.run pre).mono (by omega)
theorem run_len : ∀ (n : Nat) (pre : List ByteArray), pre.length = n → n ≤ 1950 → (runD desk0 pre).2.length ≤ 100001 * n
 | 0, pre, h, _ => by
  have : pre = [] := List.eq_nil_of_length_eq_zero h
  subst this
  exact Nat.le_refl _
 | n + 1, pre, h, hn => by
  have hne : pre ≠ [] := fun e => by rw [e] at h; cases h
  have hd : pre.dropLast.length = n := by rw [List.length_dropLast, h]; rfl
  have ih := run_len n pre.dropLast hd (by omega)
  rw [← List.dropLast_concat_getLast hne, runD_snoc]
  have hg := (line_good (sess_pre (pre := pre.dropLast) (by omega)) (Nat.le_refl _) (pre.getLast hne)).2
  simp only [List.length_append, List.length_singleton]
  omega
theorem sess_fine {text : ByteArray} (h : (linesOf text).length ≤ 1950) : ∀ pre rest, pre ++ rest = linesOf text → (runD desk0 pre).2.length ≤ 90000000000 ∧ ∃ T, T ≤ 9900000000 ∧ Fine T (runD desk0 pre).1.s ∧ Zer (runD desk0 pre).1.s := fun pre rest e => by
 have hl : pre.length ≤ 1950 := by have := congrArg List.length e; rw [List.length_append] at this; omega
 have := run_len _ pre rfl hl
 exact ⟨by omega, _, Nat.le_refl _, (sess_pre hl).fine, (sess_pre hl).zer⟩
theorem sess_ans {text : ByteArray} (h : (linesOf text).length ≤ 1950) : ∀ pre x rest, pre ++ x :: rest = linesOf text → (lineOf (runD desk0 pre).1 x).2.length ≤ 1000000 ∧ ∀ c u, (lineOf (runD desk0 pre).1 x).2 = c :: u → c ≠ 0 := fun pre x rest e => by
 have hl : pre.length ≤ 1950 := by have := congrArg List.length e; rw [List.length_append] at this; omega
 have hg := line_good (sess_pre hl) (Nat.le_refl _) x
 exact ⟨Nat.le_trans hg.2 (by decide), fun c u hc => hg.1 c (by rw [hc]; simp)⟩
theorem session_answers (text : ByteArray) (hz : text.size ≤ 20000) (hl : (linesOf text).length ≤ 1950) (w : World) (hs : Std w) : Calls Tryz.prog 6 #[.string text] w fun e w' => e = .returned (.string ⟨(runD desk0 (linesOf text)).2.toArray⟩) ∧ Below w.heap.size w w' :=
 session_ok text hz w hs (sess_fine hl) (sess_ans hl)
end Go.Proofs.YtdhekhlmdefcnabGreatDoor
namespace Go.Proofs.YtdhekhlmdefcnabGreatDoor
open Go.RowKit
def talkT : ByteArray := ⟨#[99, 111, 110, 102, 108, 105, 99, 116, 115, 10, 109, 111, 115, 116, 10, 115, 104, 111, 119, 10, 120, 10]⟩
def talkA : ByteArray := ⟨#[52, 32, 52, 32, 51, 10, 50, 10, 48, 32, 48, 32, 102, 97, 108, 115, 101, 10, 101, 114, 114, 111, 114, 32, 51, 10]⟩
theorem talk_lines : (linesOf talkT).length = 4 := by kernel_rfl
theorem talk_answers : (⟨(runD desk0 (linesOf talkT)).2.toArray⟩ : ByteArray) = talkA := by kernel_rfl
theorem talks_ok (w : World) (hs : Std w) : Calls Tryz.prog 5 #[] w fun e w' => e = .returned (.bool true) ∧ Below w.heap.size w w' := by
 have HS := Lib.hid (session_answers talkT (by decide) (by rw [talk_lines]; decide) w hs)
 rw [talk_answers] at HS
 unfold talkT talkA at HS
 clear hs
 go_enter Tryz.func5, Tryz.ntmps5
 go_wp2_with (go_at_call 6; refine HS.out.mono ?_; rintro e w2 ⟨rfl, hb2⟩)
 go_ret
 exact ⟨rfl, hb2⟩
end Go.Proofs.YtdhekhlmdefcnabGreatDoor
namespace Go.Proofs.YtdhekhlmdefcnabGreatDoor
theorem fold_out : ∀ (l : List ByteArray) (d : Dk) (o : By), l.foldl (fun r s => ((lineOf r.1 s).1, r.2 ++ ((lineOf r.1 s).2 ++ [10]))) (d, o) = ((runD d l).1, o ++ (runD d l).2)
 | [], d, o => by simp [runD]
 | s :: l, d, o => by
  have h1 := fold_out l (lineOf d s).1 (o ++ ((lineOf d s).2 ++ [10]))
  have h2 := fold_out l (lineOf d s).1 ([] ++ ((lineOf d s).2 ++ [10]))
  unfold runD
  rw [List.foldl_cons, List.foldl_cons]
  rw [h1, h2]
  simp
theorem runD_app (d : Dk) (l m : List ByteArray) : (runD d (l ++ m)).2 = (runD d l).2 ++ (runD (runD d l).1 m).2 := by
 have h : runD d (l ++ m) = m.foldl (fun r s => ((lineOf r.1 s).1, r.2 ++ ((lineOf r.1 s).2 ++ [10]))) (runD d l) := by
  unfold runD
  rw [List.foldl_append]
 rw [h, fold_out m (runD d l).1 (runD d l).2]
theorem piecesB_fuel : ∀ (k m : Nat) (s : ByteArray), s.size ≤ k → s.size ≤ m → piecesB k s = piecesB m s := fun k => by
 induction k with
 | zero =>
  intro m s h _
  have hn : Lib.indexByte s.data.toList 10 < 0 := by
   have h1 := Lib.indexByte_ge s.data.toList 10
   by_cases hi : Lib.indexByte s.data.toList 10 < 0
   ·exact hi
   ·have := index_lt (r := s) (i := (Lib.indexByte s.data.toList 10).toNat) (by omega)
    omega
  rw [piecesB_none hn, piecesB_none hn]
 | succ k ih =>
  intro m s h hm
  by_cases hi : Lib.indexByte s.data.toList 10 < 0
  ·rw [piecesB_none hi, piecesB_none hi]
  ·have e : Lib.indexByte s.data.toList 10 = ((Lib.indexByte s.data.toList 10).toNat : Int) := by omega
   have hl := index_lt e
   obtain ⟨m', rfl⟩ : ∃ m', m = m' + 1 := ⟨m - 1, by omega⟩
   rw [piecesB_some e, piecesB_some e, ih m' _ (by rw [ByteArray.size_extract]; omega) (by rw [ByteArray.size_extract]; omega)]
theorem index_app_none (c : UInt8) (m : By) : ∀ (l : By), Lib.indexByte l c < 0 → Lib.indexByte (l ++ c :: m) c = l.length
 | [], _ => by simp [Lib.indexByte]
 | b :: l, h => by
  have hg := Lib.indexByte_ge l c
  rw [List.cons_append]
  unfold Lib.indexByte at h ⊢
  split at h
  ·omega
  ·rename_i hb
   have hn : Lib.indexByte l c = -1 := by
    split at h
    ·rename_i e; simpa using e
    ·omega
   rw [if_neg hb, index_app_none c m l (by omega)]
   rw [if_neg (by simp)]
   simp
theorem index_app_some (c : UInt8) (m : By) : ∀ (l : By), 0 ≤ Lib.indexByte l c → Lib.indexByte (l ++ m) c = Lib.indexByte l c
 | [], h => by simp [Lib.indexByte] at h
 | b :: l, h => by
  have hg := Lib.indexByte_ge l c
  rw [List.cons_append]
  unfold Lib.indexByte at h ⊢
  split at h
  ·rename_i hb
   rw [if_pos hb, if_pos hb]
  ·rename_i hb
   have hn : ¬ Lib.indexByte l c = -1 := fun e => by
    rw [e] at h
    simp at h
   rw [if_neg hb, if_neg hb, index_app_some c m l (by omega)]
theorem ext_head (a c : ByteArray) {i : Nat} (h : i ≤ a.size) : (a ++ c).extract 0 i = a.extract 0 i := by
 apply ByteArray.ext
 apply Array.ext'
 simp [ByteArray.data_extract, ByteArray.data_append, Array.toList_extract, h]
theorem ext_all (a : ByteArray) : a.extract 0 a.size = a := by simp
def nl : ByteArray := ⟨#[10]⟩
theorem ext_tail (a c : ByteArray) {i : Nat} (h : i ≤ a.size) : (a ++ c).extract i (a ++ c).size = a.extract i a.size ++ c := by
 apply ByteArray.ext
 apply Array.ext'
 have e : a.data.toList.length = a.size := by rw [Array.length_toList]; rfl
 simp only [ByteArray.data_extract, ByteArray.data_append, Array.toList_extract, Array.toList_append, ByteArray.size_append]
 simp [List.drop_append_of_le_length, e, h, List.take_of_length_le, List.length_drop]
 rw [List.take_of_length_le (by simp; omega)]
theorem app_size (a b : ByteArray) : (a ++ b).size = a.size + b.size := ByteArray.size_append
theorem app_list (a b : ByteArray) : (a ++ b).data.toList = a.data.toList ++ b.data.toList := by simp
theorem pieces_app : ∀ (k : Nat) (a b : ByteArray), a.size ≤ k → piecesB (k + 1 + b.size) (a ++ nl ++ b) = piecesB a.size a ++ piecesB b.size b := fun k => by
 induction k with
 | zero =>
  intro a b h
  have ha : a.data.toList.length = a.size := by rw [Array.length_toList]; rfl
  have hn : Lib.indexByte a.data.toList 10 < 0 := by
   have h1 := Lib.indexByte_ge a.data.toList 10
   by_cases hi : Lib.indexByte a.data.toList 10 < 0
   ·exact hi
   ·have := index_lt (r := a) (i := (Lib.indexByte a.data.toList 10).toNat) (by omega)
    omega
  have hi : Lib.indexByte (a ++ nl ++ b).data.toList 10 = ((a.size : Nat) : Int) := by
   rw [app_list, app_list, List.append_assoc]
   exact (index_app_none 10 _ _ hn).trans (by rw [ha])
  rw [show 0 + 1 + b.size = b.size + 1 by omega, piecesB_some hi, piecesB_none hn]
  have e1 : (a ++ nl ++ b).extract 0 a.size = a := by rw [ByteArray.append_assoc, ext_head _ _ (Nat.le_refl _), ext_all]
  have e2 : (a ++ nl ++ b).extract (a.size + 1) (a ++ nl ++ b).size = b := by
   rw [ext_tail (a ++ nl) b (by rw [app_size]; exact Nat.le_refl _)]
   rw [show a.size + 1 = (a ++ nl).size by rw [app_size]; rfl]
   simp
  rw [e1, e2]
  rfl
 | succ k ih =>
  intro a b h
  have ha : a.data.toList.length = a.size := by rw [Array.length_toList]; rfl
  by_cases hn : Lib.indexByte a.data.toList 10 < 0
  ·have hi : Lib.indexByte (a ++ nl ++ b).data.toList 10 = ((a.size : Nat) : Int) := by
    rw [app_list, app_list, List.append_assoc]
    exact (index_app_none 10 _ _ hn).trans (by rw [ha])
   rw [show k + 1 + 1 + b.size = (k + 1 + b.size) + 1 by omega, piecesB_some hi, piecesB_none hn]
   have e1 : (a ++ nl ++ b).extract 0 a.size = a := by rw [ByteArray.append_assoc, ext_head _ _ (Nat.le_refl _), ext_all]
   have e2 : (a ++ nl ++ b).extract (a.size + 1) (a ++ nl ++ b).size = b := by
    rw [ext_tail (a ++ nl) b (by rw [app_size]; exact Nat.le_refl _)]
    rw [show a.size + 1 = (a ++ nl).size by rw [app_size]; rfl]
    simp
   rw [e1, e2, piecesB_fuel (k + 1 + b.size) b.size b (by omega) (Nat.le_refl _)]
   rfl
  ·have e : Lib.indexByte a.data.toList 10 = ((Lib.indexByte a.data.toList 10).toNat : Int) := by omega
   generalize (Lib.indexByte a.data.toList 10).toNat = i at e
   have hl := index_lt e
   have hi : Lib.indexByte (a ++ nl ++ b).data.toList 10 = (i : Int) := by
    rw [app_list, app_list, List.append_assoc, index_app_some 10 _ _ (by omega)]
    exact e
   rw [show k + 1 + 1 + b.size = (k + 1 + b.size) + 1 by omega, piecesB_some hi]
   obtain ⟨m, hm⟩ : ∃ m, a.size = m + 1 := ⟨a.size - 1, by omega⟩
   have e1 : (a ++ nl ++ b).extract 0 i = a.extract 0 i := by rw [ByteArray.append_assoc, ext_head _ _ (Nat.le_of_lt hl)]
   have e2 : (a ++ nl ++ b).extract (i + 1) (a ++ nl ++ b).size = a.extract (i + 1) a.size ++ nl ++ b := by
    rw [ByteArray.append_assoc, ext_tail _ _ (by omega), ByteArray.append_assoc]
   have hz : (a.extract (i + 1) a.size).size ≤ k := by rw [ByteArray.size_extract]; omega
   have e3 : piecesB a.size a = a.extract 0 i :: piecesB (a.extract (i + 1) a.size).size (a.extract (i + 1) a.size) := by
    conv => lhs; rw [hm]
    rw [piecesB_some e, piecesB_fuel m _ _ (by rw [ByteArray.size_extract]; omega) (Nat.le_refl _)]
   rw [e1, e2, e3, ih _ b hz, List.cons_append]
theorem suf_last (l : By) (c : UInt8) : Lib.hasSuffix l [c] = (l.getLast? == some c) := by
 unfold Lib.hasSuffix
 rw [Bool.eq_iff_iff, List.isSuffixOf_iff_suffix, beq_iff_eq]
 constructor
 ·rintro ⟨t, rfl⟩
  simp
 ·intro h
  obtain ⟨t, rfl⟩ := List.getLast?_eq_some_iff.1 h
  exact ⟨t, rfl⟩
theorem trim_nl (a : ByteArray) : Lib.trimSuffix (a ++ nl).data.toList [10] = a.data.toList := by
 rw [app_list]
 unfold Lib.trimSuffix
 rw [suf_last]
 simp [nl]
theorem linesOf_nl (a : ByteArray) : linesOf (a ++ nl) = piecesB a.size a := by
 unfold linesOf
 rw [trim_nl]
theorem trim_app (p b : By) (hb : b ≠ []) : Lib.trimSuffix (p ++ b) [10] = p ++ Lib.trimSuffix b [10] := by
 have hl := List.length_pos_iff.2 hb
 unfold Lib.trimSuffix
 have e : (p ++ b).getLast? = b.getLast? := by
  rw [List.getLast?_append]
  cases h : b.getLast? with
  | none => exact absurd (List.getLast?_eq_none_iff.1 h) hb
  | some x => rfl
 rw [suf_last, suf_last, e]
 split
 ·rw [List.take_append, List.take_of_length_le (by simp; omega)]
  congr 2
  simp
  omega
 ·rfl
theorem linesOf_app (a b : ByteArray) (hb : b.data.toList ≠ []) : linesOf (a ++ nl ++ b) = linesOf (a ++ nl) ++ linesOf b := by
 rw [linesOf_nl]
 conv => lhs; unfold linesOf
 have e : (⟨(Lib.trimSuffix (a ++ nl ++ b).data.toList [10]).toArray⟩ : ByteArray) = a ++ nl ++ ⟨(Lib.trimSuffix b.data.toList [10]).toArray⟩ := by
  apply ByteArray.ext
  apply Array.ext'
  rw [app_list, app_list (a ++ nl), trim_app _ _ hb]
 rw [e]
 unfold linesOf
 generalize (⟨(Lib.trimSuffix b.data.toList [10]).toArray⟩ : ByteArray) = c
 have hs : (a ++ nl ++ c).size = a.size + 1 + c.size := by
  rw [app_size, app_size]
  rfl
 rw [hs]
 exact pieces_app a.size a c (Nat.le_refl _)
end Go.Proofs.YtdhekhlmdefcnabGreatDoor
