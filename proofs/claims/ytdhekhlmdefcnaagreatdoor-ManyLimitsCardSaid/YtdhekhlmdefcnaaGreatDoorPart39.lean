/- Part 39 of the proof: DkSame, DkSess, LAns, LTalk. -/
import Derived.Test.YtdhekhlmdefcnaaGreatDoorPart37
import Derived.Test.YtdhekhlmdefcnaaGreatDoorPart35
import Derived.Test.YtdhekhlmdefcnaaGreatDoorPart38
import Derived.Lib.TrimUEq
import Derived.Laws.IdiomStrings
namespace Go.Proofs.YtdhekhlmdefcnaaGreatDoor
open Go.RowKit
def Zer (s : Sys) : Prop := ∀ gm ∈ s.way, ∃ t, gm.bytes = 0 :: t
def Oth (v : Value) (l : By) : Prop := v.ownBlock = none ∨ ∃ c t, l = c :: t ∧ c ≠ 0
def buT (t : TypeId) : Bool := t == 58 || t == 5
section
variable {w w' : World} {B B' b g : Nat} {v vr : Value} {l : By} {x : SyX} {d : Dk}
theorem FB.own (hb : BuAt w B' b v l) : ∀ k, FB b v k → Own buT w k := fun k hk => by
 rcases hk with rfl | hk
 ·obtain ⟨p, _, hh⟩ := hb.has
  exact ⟨_, _, hh, rfl⟩
 ·obtain ⟨_, cur, hh⟩ := own_block hb.own hk
  exact ⟨_, _, hh, rfl⟩
theorem byte_apart (hb : BuAt w B' b v l) (hl : Oth v l) {u : Value} {t : By} (hu : BAt w u (0 :: t)) (ht : Turned (FB b v) w w') : BAt w' u (0 :: t) := by
 obtain ⟨A, c, h1, h2, h3⟩ := hu
 refine ⟨A, c, h1, h2, fun hn => ?_⟩
 obtain ⟨k, cur, e, hh, htk⟩ := h3 hn
 refine ⟨k, cur, e, hh.turned ht fun hf => ?_, htk⟩
 rcases hf with rfl | hf
 ·obtain ⟨p, _, hp⟩ := hb.has
  exact hp.ne hh (by decide) rfl
 ·rcases hl with hl | ⟨c0, t0, rfl, hc0⟩
  ·rw [hl] at hf; cases hf
  ·rcases hb.own.2 with ⟨rfl, _⟩ | ⟨k', cap, cur', rfl, _, hh', _, _, _, htk'⟩
   ·cases hf
   ·have : k' = k := by simpa [Value.ownBlock] using hf
    subst this
    have ec : cur' = cur := by
     unfold Has at hh
     have := hh'.symm.trans hh
     injection this with this
     injection this
    subst ec
    have e0 : cur'.toList[0]? = some (.int .u8 (c0.toNat : Int)) := by
     have : (cur'.toList.take ((c0 :: t0).length * 1))[0]? = some (.int .u8 (c0.toNat : Int)) := by rw [htk']; rfl
     rwa [List.getElem?_take, if_pos (by simp)] at this
    have e1 : cur'.toList[0]? = (bytes (0 :: t))[0]? := by rw [← htk, List.getElem?_take, if_pos (by simp)]
    rw [e0] at e1
    have e2 : (bytes (0 :: t))[0]? = some (.int .u8 0) := rfl
    rw [e2] at e1
    injection e1 with e1
    injection e1 with _ e1
    apply hc0
    have : c0.toNat = 0 := by omega
    exact UInt8.toNat_inj.1 this
theorem DkAt.write (h : DkAt w B g x vr d) (hz : Zer d.s) (hb : BuAt w B' b v l) (hl : Oth v l) (ht : Turned (FB b v) w w') : DkAt w' B g x vr d := by
 have hF := FB.own hb
 refine ⟨h.has.keepG ht hF rfl, h.routes.keep fun _ _ hh => hh.keepG ht hF rfl, ?_, h.low, h.ok, Nat.le_trans h.hB ht.size⟩
 have s := h.sys
 refine ⟨s.has.keepG ht hF rfl, own_keepG s.routes ht hF rfl, s.n3, fun k hk => ⟨(s.rep k hk).has.keepG ht hF rfl, (s.rep k hk).core.keepG ht hF rfl rfl⟩, s.apart, ⟨s.vo.has.keepG ht hF rfl, own_keepG s.vo.own ht hF rfl, s.vo.low⟩, own_keepG s.way ht hF rfl, s.len, fun i gm u e1 e2 => ?_, s.low, s.lows⟩
 obtain ⟨t, et⟩ := hz gm (List.mem_of_getElem? e1)
 have := s.bytes i gm u e1 e2
 rw [et] at this ⊢
 exact byte_apart hb hl this ht
theorem DkAt.mild {N sb : Nat} {t : Value} (h : DkAt w B g x vr d) (hs : Has w sb 9 #[t]) (m : Mild N sb w w') : DkAt w' B g x vr d := by
 have hk : ∀ {k : Nat} {ty : TypeId} {cs : Array Value}, Has w k ty cs → (ty == 9) = false → Has w' k ty cs := fun hh hn => m.has hh fun e => by
  subst e
  unfold Has at hh hs
  rw [hs] at hh
  injection hh with hh
  injection hh with _ e
  subst e
  cases hn
 have ok : ∀ {base : Nat} {e : TypeId} {size n : Nat} {v : Value} {xs : List Value}, w.ownsRow base e size v n xs → (e == 9) = false → w'.ownsRow base e size v n xs := fun ho hn => own_keep ho fun g _ _ hh => (show w'.heap[g]? = w.heap[g]? from (hk hh hn).trans hh.symm)
 refine ⟨hk h.has rfl, h.routes.keep fun _ _ hh => hk hh rfl, ?_, h.low, h.ok, Nat.le_trans h.hB m.size⟩
 have s := h.sys
 refine ⟨hk s.has rfl, ok s.routes rfl, s.n3, fun k hkk => ⟨hk (s.rep k hkk).has rfl, ?_⟩, s.apart, ⟨hk s.vo.has rfl, ok s.vo.own rfl, s.vo.low⟩, ok s.way rfl, s.len, fun i gm u e1 e2 => (s.bytes i gm u e1 e2).keep fun _ _ hh => hk hh rfl, s.low, s.lows⟩
 obtain ⟨v1, v2, a1, a2, a3⟩ := (s.rep k hkk).core
 exact ⟨v1, v2, hk a1 rfl, ok a2 rfl, ok a3 rfl⟩
theorem BuAt.mild {N sb : Nat} {t : Value} (h : BuAt w B b v l) (hs : Has w sb 9 #[t]) (m : Mild N sb w w') : BuAt w' B b v l := by
 have hk : ∀ {k : Nat} {ty : TypeId} {cs : Array Value}, Has w k ty cs → (ty == 9) = false → Has w' k ty cs := fun hh hn => m.has hh fun e => by
  subst e
  unfold Has at hh hs
  rw [hs] at hh
  injection hh with hh
  injection hh with _ e
  subst e
  cases hn
 obtain ⟨p, hp, hh⟩ := h.has
 exact ⟨⟨p, hp, hk hh rfl⟩, own_keep h.own fun g _ _ hh => (show w'.heap[g]? = w.heap[g]? from (hk hh rfl).trans hh.symm), h.low⟩
theorem BuAt.moved {x' : SyX} (h : BuAt w B b v l) (hd : DkAt w B' g x vr d) (m : DMv w w' g x x') : BuAt w' B b v l := by
 have hF : ∀ k, FD g x k → Own (fun t => t == 54 || mutT t) w k := fun k hk => by
  rcases hk with rfl | hk
  ·exact ⟨_, _, hd.has, rfl⟩
  ·obtain ⟨t, cs, hh, hm⟩ := hd.sys.mut hk
   exact ⟨t, cs, hh, by simp [hm]⟩
 obtain ⟨p, hp, hh⟩ := h.has
 exact ⟨⟨p, hp, hh.keepG m.turned hF rfl⟩, own_keepG h.own m.turned hF rfl, h.low⟩
end
end Go.Proofs.YtdhekhlmdefcnaaGreatDoor
namespace Go.Proofs.YtdhekhlmdefcnaaGreatDoor
open Go.RowKit Go.Shelf
attribute [local go_sem] Oper.semAt_some
def runD (d : Dk) (l : List ByteArray) : Dk × By := l.foldl (fun r s => ((lineOf r.1 s).1, r.2 ++ ((lineOf r.1 s).2 ++ [10]))) (d, [])
theorem runD_snoc (d : Dk) (l : List ByteArray) (s : ByteArray) : runD d (l ++ [s]) = ((lineOf (runD d l).1 s).1, (runD d l).2 ++ ((lineOf (runD d l).1 s).2 ++ [10])) := by
 unfold runD
 rw [List.foldl_append]
 rfl
def deskL : Lay := ⟨4, [3, 12, 6], 2⟩
def desk0 : Dk := ⟨deskL, Sys.new 10⟩
theorem deskL_ok : deskL.Ok := ⟨by decide, by decide, by decide, by decide, by decide, by decide, by decide, by decide⟩
def words0 : List ByteArray := [⟨#[49, 48]⟩, ⟨#[50]⟩, ⟨#[52]⟩, ⟨#[51]⟩, ⟨#[49, 50]⟩, ⟨#[54]⟩]
theorem words0_nums : numsOf words0 (-4) = some [10, 2, 4, 3, 12, 6] := by kernel_rfl
set_option maxHeartbeats 1000000 in
theorem inner_ok (t : ByteArray) (w : World) : Calls Tryz.prog 42 #[.string t, .string ⟨#[10]⟩, I 0] w fun e w' => e = .returned (.func (.func 63) #[] #[.pointer (some ⟨w.heap.size + 1, 0, none⟩), .pointer (some ⟨w.heap.size, 0, none⟩), .pointer (some ⟨w.heap.size + 2, 0, none⟩)]) ∧ w' = ((w.alloc (.cells #[.string t] 9)).alloc (.cells #[.string ⟨#[10]⟩] 9)).alloc (.cells #[I 0] 3) := by
 have hmf : ∀ (fn : Fn) (first cap : Array Value) (w : World), (Instr.makeFunc fn first cap).run Tryz.prog w = .ok (.func fn first cap) w := fun _ _ _ _ => rfl
 go_enter Tryz.func42, Tryz.ntmps42
 go_wp2
 go_ret
 exact ⟨by simp, rfl⟩
theorem split_ok (t : ByteArray) (w : World) : Calls Tryz.prog 15 #[.string t, .string ⟨#[10]⟩] w fun e w' => e = .returned (.func (.func 63) #[] #[.pointer (some ⟨w.heap.size + 1, 0, none⟩), .pointer (some ⟨w.heap.size, 0, none⟩), .pointer (some ⟨w.heap.size + 2, 0, none⟩)]) ∧ w' = ((w.alloc (.cells #[.string t] 9)).alloc (.cells #[.string ⟨#[10]⟩] 9)).alloc (.cells #[I 0] 3) := by
 go_enter Tryz.func15, Tryz.ntmps15
 go_wp2_with (go_at_call 42; refine (inner_ok t w).mono ?_; rintro e w' ⟨rfl, rfl⟩)
 go_ret
 exact ⟨rfl, rfl⟩
theorem pieces_size : ∀ (k : Nat) (s : ByteArray), ∀ y ∈ piecesB k s, y.size ≤ s.size
 | 0, s, y, hy => by
  have : y = s := by simpa [piecesB] using hy
  rw [this]
  exact Nat.le_refl _
 | k + 1, s, y, hy => by
  unfold piecesB at hy
  split at hy
  ·have : y = s := by simpa using hy
   rw [this]
   exact Nat.le_refl _
  ·rcases List.mem_cons.1 hy with rfl | hy
   ·rw [ByteArray.size_extract]; omega
   ·have := pieces_size k _ y hy
    rw [ByteArray.size_extract] at this
    omega
theorem trim_size (s : ByteArray) {n : Nat} (h : s.size ≤ n) : (⟨(Lib.trimSuffix s.data.toList [10]).toArray⟩ : ByteArray).size ≤ n := by
 show (Lib.trimSuffix s.data.toList [10]).toArray.size ≤ n
 have e : s.size = s.data.toList.length := by rw [Array.length_toList]; rfl
 unfold Lib.trimSuffix
 split <;> simp <;> simp at e <;> omega
theorem keeps_of_turned {F : Nat → Prop} {W W' : World} (ht : Turned F W W') (hF : ∀ k, F k → ∃ t cs, Has W k t cs) : KeepsOthers W W' := ⟨ht.size, fun k o hk ho => (ht.block k (Array.getElem?_eq_some_iff.1 hk).1 fun hf => by
 obtain ⟨t, cs, hh⟩ := hF k hf
 unfold Has at hh
 rw [hh] at hk
 injection hk with hk
 rw [← hk] at ho
 cases ho).trans hk⟩
theorem piecesB_ne : ∀ (k : Nat) (s : ByteArray), piecesB k s ≠ []
 | 0, _ => by simp [piecesB]
 | k + 1, s => by unfold piecesB; split <;> simp
theorem runD_some (d : Dk) {l : List ByteArray} (h : l ≠ []) : (runD d l).2 ≠ [] := by
 rw [← List.dropLast_concat_getLast h, runD_snoc]
 simp
theorem freeze_other {W : World} {gg D : Nat} {t : TypeId} {cs : Array Value} {o : Obj} (hh : Has W gg t cs) (n : Nat) (hK : W.heap[D]? = some o) (ho : o.isCells = false) : (W.drew.freeze ⟨gg, 0, none⟩ n).heap[D]? = some o := by
 have hne : gg ≠ D := fun e => by
  subst e
  unfold Has at hh
  rw [hh] at hK
  injection hK with hK
  rw [← hK] at ho
  cases ho
 unfold World.freeze
 split
 ·exact hK
 ·show (W.heap.modify gg _)[D]? = some o
  rw [Array.getElem?_modify, if_neg hne]
  exact hK
structure SIn (w : World) (g bb : Nat) (pre : List ByteArray) (W : World) : Prop where
 desk : ∃ x vr, DkAt W g g x vr (runD desk0 pre).1
 bu : ∃ v, BuAt W g bb v (runD desk0 pre).2 ∧ Oth v (runD desk0 pre).2
 first : ∀ c t, (runD desk0 pre).2 = c :: t → c ≠ 0
 dv : Has W (g + 1) 48 #[.pointer (some ⟨g, 0, none⟩)]
 sbx : ∃ u, Has W (bb + 1) 9 #[u]
 pbx : Has W (bb + 1 + 1) 9 #[.string ⟨#[10]⟩]
 vbx : Has W (bb + 1 + 2) 3 #[I 0]
 low : Below g w W
 std : Std W
theorem SIn.mild {w W W' : World} {g bb N : Nat} {pre : List ByteArray} (h : SIn w g bb pre W) (m : Mild N (bb + 1) W W') (hN : g ≤ N) (hg : g + 1 < bb) (hng : 9 ≤ g) : SIn w g bb pre W' := by
 obtain ⟨u, hu⟩ := h.sbx
 obtain ⟨x, vr, hd⟩ := h.desk
 obtain ⟨v, hb, ho⟩ := h.bu
 have hlo : Below g W W' := m.below hN (by omega) (by have := h.dv.lt; omega)
 exact ⟨⟨x, vr, hd.mild hu m⟩, ⟨v, hb.mild hu m, ho⟩, h.first, m.has h.dv (by omega), m.box u hu, m.has h.pbx (by omega), m.has h.vbx (by omega), h.low.trans hlo, h.std.below hng hlo⟩
theorem sess_step {w W : World} {g bb : Nat} {pre : List ByteArray} {y : ByteArray} {x1 : SyX} {vr1 v : Value} (h : SIn w g bb pre W) (hd : DkAt W g g x1 vr1 (runD desk0 pre).1) (hb : BuAt W g bb v (runD desk0 pre).2) (ho : Oth v (runD desk0 pre).2) (hg : g + 1 < bb) (hng : 9 ≤ g)
  (hz : Zer (lineOf (runD desk0 pre).1 y).1.s) (hc : ∀ c u, (lineOf (runD desk0 pre).1 y).2 = c :: u → c ≠ 0) (TA : ByteArray) (w3 w4 : World) (x' : SyX) (vr' v' : Value) (hta : TA.data.toList = (lineOf (runD desk0 pre).1 y).2)
  (hd3 : DkAt w3 g g x' vr' (lineOf (runD desk0 pre).1 y).1) (hm3 : DMv W w3 g x1 x') (hb4 : BuAt w4 g bb v' ((runD desk0 pre).2 ++ (TA ++ ⟨#[10]⟩).data.toList)) (ht4 : Turned (FB bb v) w3 w4) :
  Exit.normal = .normal ∧ KeepsOthers W w4 ∧ (∀ k, k = bb + 1 ∨ k = bb + 1 + 1 ∨ k = bb + 1 + 2 → w4.heap[k]? = W.heap[k]?) ∧ SIn w g bb (pre ++ [y]) w4 := by
 have hF1 : ∀ k, FD g x1 k → Own (fun t => t == 54 || mutT t) W k := fun k hk => by
  rcases hk with rfl | hk
  ·exact ⟨_, _, hd.has, rfl⟩
  ·obtain ⟨t, cs, hh, hm⟩ := hd.sys.mut hk
   exact ⟨t, cs, hh, by simp [hm]⟩
 have hb3 := hb.moved hd hm3
 have hF2 := FB.own hb3
 have hkeep : ∀ {k : Nat} {t : TypeId} {cs : Array Value}, Has W k t cs → (t == 54 || mutT t) = false → buT t = false → Has w4 k t cs := fun hh h1 h2 => (hh.keepG hm3.turned hF1 h1).keepG ht4 hF2 h2
 obtain ⟨u, hu⟩ := h.sbx
 have hbw : Below g W w4 := (hm3.below hd).trans (ht4.below (fun k hk => by
  rcases hk with rfl | hk
  ·omega
  ·exact (own_block hb3.own hk).1) (Nat.le_trans hd.hB hm3.turned.size))
 have hq : ∃ c t, (runD desk0 (pre ++ [y])).2 = c :: t ∧ c ≠ 0 := by
  rw [runD_snoc]
  show ∃ c t, (runD desk0 pre).2 ++ ((lineOf (runD desk0 pre).1 y).2 ++ [10]) = c :: t ∧ c ≠ 0
  cases hl : (runD desk0 pre).2 with
  | cons c t =>
   refine ⟨c, t ++ ((lineOf (runD desk0 pre).1 y).2 ++ [10]), rfl, ?_⟩
   exact h.first c t hl
  | nil =>
   cases ha : (lineOf (runD desk0 pre).1 y).2 with
   | nil => exact ⟨10, [], rfl, by decide⟩
   | cons c t => exact ⟨c, t ++ [10], rfl, hc c t ha⟩
 refine ⟨rfl, (keeps_of_turned hm3.turned fun k hk => ?_).trans (keeps_of_turned ht4 fun k hk => ?_), fun k hk => ?_, ⟨x', vr', ?_⟩, ⟨v', ?_, .inr hq⟩, (fun c t e => by obtain ⟨c', t', e', hc'⟩ := hq; rw [e'] at e; injection e with e; subst e; exact hc'), hkeep h.dv rfl rfl, ⟨u, hkeep hu rfl rfl⟩, hkeep h.pbx rfl rfl, hkeep h.vbx rfl rfl, h.low.trans hbw, h.std.below hng hbw⟩
 ·obtain ⟨t, cs, hh, _⟩ := hF1 k hk
  exact ⟨t, cs, hh⟩
 ·obtain ⟨t, cs, hh, _⟩ := hF2 k hk
  exact ⟨t, cs, hh⟩
 ·rcases hk with rfl | rfl | rfl
  ·exact (hkeep hu rfl rfl).trans hu.symm
  ·exact (hkeep h.pbx rfl rfl).trans h.pbx.symm
  ·exact (hkeep h.vbx rfl rfl).trans h.vbx.symm
 ·rw [runD_snoc]
  exact hd3.write hz hb3 ho ht4
 ·rw [runD_snoc]
  have e : (TA ++ (⟨#[10]⟩ : ByteArray)).data.toList = (lineOf (runD desk0 pre).1 y).2 ++ [10] := by
   rw [ByteArray.data_append, Array.toList_append, hta]
  rw [← e]
  exact hb4
def linesOf (text : ByteArray) : List ByteArray := piecesB (⟨(Lib.trimSuffix text.data.toList [10]).toArray⟩ : ByteArray).size ⟨(Lib.trimSuffix text.data.toList [10]).toArray⟩
set_option maxHeartbeats 4000000 in
set_option maxRecDepth 100000 in
theorem session_ok (text : ByteArray) (hz : text.size ≤ 20000) (w : World) (hs : Std w) (hfew : ∀ x ∈ linesOf text, FewL x) (hfi : ∀ pre rest, pre ++ rest = linesOf text → (runD desk0 pre).2.length ≤ 90000000000 ∧ ∃ T, T ≤ 9900000000 ∧ Fine T (runD desk0 pre).1.s ∧ Zer (runD desk0 pre).1.s) (han : ∀ pre x rest, pre ++ x :: rest = linesOf text → (lineOf (runD desk0 pre).1 x).2.length ≤ 1000000 ∧ ∀ c u, (lineOf (runD desk0 pre).1 x).2 = c :: u → c ≠ 0) : Calls Tryz.prog 8 #[.string text] w fun e w' => e = .returned (.string ⟨(runD desk0 (linesOf text)).2.toArray⟩) ∧ Below w.heap.size w w' := by
 have hzi : ¬ (20000 : Int) < (text.size : Int) := by omega
 obtain ⟨wa, hwa⟩ : ∃ wa, wa = (((w.alloc (.cells #[I 0, .slice none 0 0, I 0, .pointer none] 54)).alloc (.cells #[.pointer (some ⟨w.heap.size, 0, none⟩)] 48)).alloc (.cells #[.string ⟨#[49, 48]⟩, .string ⟨#[50]⟩, .string ⟨#[52]⟩, .string ⟨#[51]⟩, .string ⟨#[49, 50]⟩, .string ⟨#[54]⟩] 9)) := ⟨_, rfl⟩
 have hba : Below w.heap.size w wa := by
  rw [hwa]
  exact (((Below.refl _ _).alloc (Nat.le_refl _) _).alloc (by simp) _).alloc (by simp; omega) _
 have kg : Has wa w.heap.size 54 #[I 0, .slice none 0 0, I 0, .pointer none] := by
  rw [hwa]; exact ((Has.new _ _ _).alloc _).alloc _
 have kd : Has wa (w.heap.size + 1) 48 #[.pointer (some ⟨w.heap.size, 0, none⟩)] := by
  rw [hwa]; exact (Has.new' _ _ _ _ (by simp)).alloc _
 have kw : Has wa (w.heap.size + 1 + 1) 9 #[.string ⟨#[49, 48]⟩, .string ⟨#[50]⟩, .string ⟨#[52]⟩, .string ⟨#[51]⟩, .string ⟨#[49, 50]⟩, .string ⟨#[54]⟩] := by
  rw [hwa]; exact Has.new' _ _ _ _ (by simp)
 have hwd : Words wa (some ⟨w.heap.size + 1 + 1, 0, none⟩) words0 := ⟨by decide, by decide, Reads.of_has kw kw.lt⟩
 have hsa : Std wa := hs.after hba
 have HBG := Lib.hid (begin_ok deskL (B := w.heap.size) kg (Nat.le_refl _) hba.size (Lib.hid ⟨deskL_ok, rfl, rfl, rfl⟩) (Lib.hid ⟨by decide, by decide⟩) (Lib.hid words0_nums) (Lib.hid hwd) 6 (Lib.hid hsa))
 have HSA := Lib.hid hsa
 have HBA := Lib.hid hba
 have HNG := Lib.hid hs.size
 have HKD := Lib.hid kd
 have HFI := Lib.hid hfi
 have HAN := Lib.hid han
 have HFW := Lib.hid hfew
 clear hfew
 clear hba kg kd kw hwd hsa hs hfi han
 refine (callsIn_wide (n := 4)).1 ?_
 refine callsIn_of_wp_marks Tryz.func8 rfl trivial ?_ rfl
 simp only [Tryz.ntmps8, List.size_toArray, List.length_cons, List.length_nil, Nat.reduceAdd, Nat.reduceSub, Array.replicate_succ, Array.replicate_zero, List.push_toArray, List.append_toArray, List.nil_append, List.cons_append]
 gi_wp2_with fail
 refine ⟨trivial, ?_⟩
 rw [← hwa]
 refine (callsIn_wide.2 HBG.out).mono ?_
 rintro e w2 ⟨rfl, x, vr, hdk, ht, hfs⟩
 have HDK := Lib.hid hdk
 have HB2 : Hid (Below w.heap.size w w2) := Lib.hid (HBA.out.trans (ht.below (fun k hk => by omega) HBA.out.size))
 have HS2 : Hid (Std w2) := Lib.hid (HSA.out.below HNG.out (ht.below (B := w.heap.size) (fun k hk => by omega) HBA.out.size))
 have HKD2 : Hid (Has w2 (w.heap.size + 1) 48 #[.pointer (some ⟨w.heap.size, 0, none⟩)]) := Lib.hid (HKD.out.turned ht (by omega))
 clear hdk ht hfs hwa HBG HKD HSA HBA
 generalize hG : w.heap.size = g at *
 have HG := Lib.hid hG
 clear hG
 have HTS := fun wx => Lib.hid (Tryz.strings_TrimSuffix text ⟨#[10]⟩ wx (by omega))
 gi_wp2_with (first
  |(refine ⟨trivial, ?_⟩; gi_at_call 16; refine (callsIn_wide.2 (HTS _).out).mono ?_; rintro e w3 ⟨rfl, rfl⟩)
  |(refine ⟨trivial, ?_⟩; gi_at_call 15; refine (callsIn_wide.2 (split_ok _ _)).mono ?_; rintro e w4 ⟨rfl, rfl⟩))
 have hsz2 : (⟨(Lib.trimSuffix text.data.toList [10]).toArray⟩ : ByteArray).size ≤ 20000 := trim_size text hz
 obtain ⟨wL, hwL⟩ : ∃ wL, wL = (((w2.alloc (.cells #[.pointer none, .slice none 0 0] 58)).alloc (.cells #[.string ⟨(Lib.trimSuffix text.data.toList [10]).toArray⟩] 9)).alloc (.cells #[.string ⟨#[10]⟩] 9)).alloc (.cells #[I 0] 3) := ⟨_, rfl⟩
 have kB : Has wL w2.heap.size 58 #[.pointer none, .slice none 0 0] := by rw [hwL]; exact (((Has.new _ _ _).alloc _).alloc _).alloc _
 have kS : Has wL (w2.heap.size + 1) 9 #[.string ⟨(Lib.trimSuffix text.data.toList [10]).toArray⟩] := by rw [hwL]; exact ((Has.new' _ _ _ _ (by simp)).alloc _).alloc _
 have kP : Has wL (w2.heap.size + 1 + 1) 9 #[.string ⟨#[10]⟩] := by rw [hwL]; exact (Has.new' _ _ _ _ (by simp)).alloc _
 have kV : Has wL (w2.heap.size + 1 + 2) 3 #[I 0] := by rw [hwL]; exact Has.new' _ _ _ _ (by simp)
 have hbL : Below w2.heap.size w2 wL := by rw [hwL]; exact ((((Below.refl _ _).alloc (Nat.le_refl _) _).alloc (by simp) _).alloc (by simp; omega) _).alloc (by simp; omega) _
 have hgs : g + 1 < w2.heap.size := HKD2.out.lt
 have hI0 : SIn w g w2.heap.size [] wL := ⟨⟨x, vr, HDK.out.after hbL⟩, ⟨.slice none 0 0, ⟨⟨_, .inl rfl, kB⟩, World.ownsRow_nil _ _ _ _, by omega⟩, .inl rfl⟩, (fun c t hh => by cases hh), HKD2.out.after hbL, ⟨_, kS⟩, kP, kV, HB2.out.trans (hbL.mono (by omega)), HS2.out.after hbL⟩
 have HNG2 : Hid (9 ≤ g) := Lib.hid HNG.out
 have hNL : w2.heap.size + 3 < wL.heap.size := kV.lt
 rw [← hwL]
 have HBL := Lib.hid (And.intro kS (And.intro kP kV))
 have HI0 := Lib.hid hI0
 clear kB kS kP kV hbL hwL hI0
 generalize w2.heap.size = bb at *
 refine range_split (by decide) (⟨(Lib.trimSuffix text.data.toList [10]).toArray⟩ : ByteArray) (by omega) (bb + 1) (bb + 1 + 1) (bb + 1 + 2) (by omega) rfl rfl HBL.out.1 HBL.out.2.1 HBL.out.2.2 (SIn w g bb) (fun pre W W' hI m => hI.mild m (by omega) hgs HNG2.out) HI0.out
  (fun y => { tmps := #[.string text, undef, .string ⟨#[]⟩, .pointer (some ⟨g + 1, 0, none⟩), .pointer (some ⟨bb, 0, none⟩), .string y, .string text, .int .i64 text.size, .bool false, .agg #[.int .i64 0, .slice none 0 0, .int .i64 0, .pointer none], .pointer (some ⟨g, 0, none⟩), .pointer (some ⟨g, 0, none⟩), .slice (some ⟨g + 1 + 1, 0, none⟩) 6 6, .string ⟨#[98, 101, 103, 105, 110]⟩, .string text, .string ⟨(Lib.trimSuffix text.data.toList [10]).toArray⟩, .func (.func 63) #[] #[.pointer (some ⟨bb + 1 + 1, 0, none⟩), .pointer (some ⟨bb + 1, 0, none⟩), .pointer (some ⟨bb + 1 + 2, 0, none⟩)], .string y, undef, undef, undef, undef, undef, undef], defers := [] }) ?assign ?body ?done
 case assign =>
  intro l y W K hK
  gi_wp2
  exact hK
 case body =>
  rintro l pre y W hI ⟨rest, hr⟩
  obtain ⟨hlen, T, hT, hF, hZ0⟩ := HFI.out pre (y :: rest) hr
  obtain ⟨_, _, _, _, hZ1⟩ := HFI.out (pre ++ [y]) rest (by rw [List.append_assoc]; exact hr)
  obtain ⟨hal, hac⟩ := HAN.out pre y rest hr
  rw [runD_snoc] at hZ1
  have hys : y.size ≤ 20000 := Nat.le_trans (pieces_size _ _ y (by rw [← hr]; simp)) hsz2
  obtain ⟨x1, vr1, hd⟩ := hI.desk
  obtain ⟨v, hb, ho⟩ := hI.bu
  have HLN := Lib.hid (line_ok hd HNG2.out hF hT hI.std y (by omega) (HFW.out y (by show y ∈ piecesB _ _; rw [← hr]; simp)))
  have c0 := hI.dv.cellv 0 (.pointer (some ⟨g, 0, none⟩)) rfl
  have g0 := hI.dv.lt
  have HD := Lib.hid hd
  have HBU := Lib.hid hb
  have HI := Lib.hid hI
  have HZ1 := Lib.hid hZ1
  have HSTEP := Lib.hid (sess_step (pre := pre) (y := y) hI hd hb ho hgs HNG2.out hZ1 hac)
  have hta : (⟨(lineOf (runD desk0 pre).1 y).2.toArray⟩ : ByteArray).data.toList = (lineOf (runD desk0 pre).1 y).2 := by simp
  have hts : (⟨(lineOf (runD desk0 pre).1 y).2.toArray⟩ : ByteArray).size ≤ 1000000 := by show (lineOf (runD desk0 pre).1 y).2.toArray.size ≤ _; simpa using hal
  unfold LPost at HLN
  generalize (⟨(lineOf (runD desk0 pre).1 y).2.toArray⟩ : ByteArray) = TA at *
  have hadd : ¬ 9223372036854775807 < TA.size + 1 := by omega
  have HTA := Lib.hid (And.intro hta hts)
  have HLE := Lib.hid hlen
  clear hr hlen hT hF hZ0 hal hac hZ1 hys hd hb hI ho hta hts
  gi_wp2_with (first
   |(refine ⟨trivial, ?_⟩; gi_at_call 18; refine (CallsIn.inRound l (callsIn_wide.2 HLN.out)).mono ?_; rintro e w3 ⟨rfl, x', vr', hd3, hm3⟩; have HD3 := Lib.hid hd3; have HM3 := Lib.hid hm3; have HW := Lib.hid (write_ok (HBU.out.moved HD.out hm3) (TA ++ ⟨#[10]⟩) (by rw [ByteArray.size_append]; have := HTA.out.2; have := HLE.out; show _ + (TA.size + 1) ≤ _; omega) hd3.hB); clear hd3 hm3)
   |(refine ⟨trivial, ?_⟩; gi_at_call 17; refine (CallsIn.inRound l (callsIn_wide.2 HW.out)).mono ?_; rintro e w4 ⟨⟨_, rfl⟩, v', hb4, ht4⟩; have H4 := Lib.hid (And.intro hb4 ht4); clear hb4 ht4))
  have hst := HSTEP.out TA _ _ _ _ _ HTA.out.1 HD3.out HM3.out H4.out.1 H4.out.2
  simpa using hst
 case done =>
  intro D W hDN hI hK
  obtain ⟨v, hb, _⟩ := hI.bu
  have HST := Lib.hid (str_ok hb (runD_some _ (piecesB_ne _ _)))
  have HLW := Lib.hid hI.low
  clear hb hI
  gi_wp2_with (refine ⟨trivial, ?_⟩; gi_at_call 19; refine (callsIn_wide.2 HST.out).mono ?_; rintro e w5 ⟨rfl, gg, n, hgg, ⟨t9, cs9, hh9⟩, rfl⟩)
  have hK5 := freeze_other hh9 n hK rfl
  have hb5 : Below g w (W.drew.freeze ⟨gg, 0, none⟩ n) := Lib.below_freeze (Below.drew HLW.out) (p := ⟨gg, 0, none⟩) hgg n
  refine ⟨by simp, .inl ⟨_, _, rfl, run_takeDeferred hK5, ?_⟩⟩
  refine ⟨_, results_tmp rfl _ _ _, rfl, ?_⟩
  rw [HG.out]
  exact hb5.trans ((Below.refl g _).grown (grownBy_putObj' _ D (.deferred none)) (Nat.le_trans (by omega) (Nat.le_of_lt (Array.getElem?_eq_some_iff.1 hK5).1)) (fun k e => by cases e; omega))
end Go.Proofs.YtdhekhlmdefcnaaGreatDoor
namespace Go.Proofs.YtdhekhlmdefcnaaGreatDoor
open Go.RowKit
theorem new_fine {n : Int} (h1 : 1 ≤ n) (h2 : n ≤ 20) : Fine 0 (Sys.new n) := by
 refine ⟨rfl, fun k hk => ?_, voNew_wf h1 h2, (fun c hc => by cases hc), (fun y hy => ?_), Nat.zero_le _, Nat.le_refl _, (fun g hg => by cases hg)⟩
 ·have : k = 0 ∨ k = 1 ∨ k = 2 := by omega
  rcases this with rfl | rfl | rfl
  ·exact new_fits (by decide)
  ·exact new_fits (by decide)
  ·exact new_fits (by decide)
 ·have e : y = (Cm.zero, false) := List.eq_of_mem_replicate (n := 3) hy
  rw [e]; exact cm64_zero
def few0 : List By := [[111, 107], [101, 114, 114, 111, 114, 32, 51], [52, 32, 52, 32, 51], [50], [48, 32, 48, 32, 102, 97, 108, 115, 101]]
theorem zero_bad {l : List ByteArray} (a : ByteArray) : numsOf (a :: l) 0 = none := by
 unfold numsOf lenBad
 rw [if_pos (by simp; omega)]
theorem does_few {c : Cmd} (h : Few c) (l : List ByteArray) : (does' c desk0 l).1 = desk0 ∧ anT (does' c desk0 l).2 ∈ few0 := by
 cases l with
 | nil => rcases h with rfl | rfl | rfl <;> exact ⟨rfl, by decide +kernel⟩
 | cons a l =>
  have e : numsOf (a :: l) 0 = none := zero_bad a
  rcases h with rfl | rfl | rfl <;> (simp only [does', e]; exact ⟨trivial, by decide +kernel⟩)
theorem line_few {s : ByteArray} (h : FewL s) : (lineOf desk0 s).1 = desk0 ∧ (lineOf desk0 s).2 ∈ few0 := by
 cases hn : fieldsB s with
 | nil =>
  have e : lineOf desk0 s = (desk0, [111, 107]) := by unfold lineOf; rw [hn]
  rw [e]
  exact ⟨rfl, by decide⟩
 | cons a l =>
  cases hq : cmdL.find? (isNm a.data.toList) with
  | none =>
   have e : lineOf desk0 s = (desk0, anT (.err 3)) := by unfold lineOf; rw [hn]; dsimp only; rw [hq]
   rw [e]
   exact ⟨rfl, by decide +kernel⟩
  | some p =>
   have e : lineOf desk0 s = ((does' p.2.1 desk0 l).1, anT (does' p.2.1 desk0 l).2) := by unfold lineOf; rw [hn]; dsimp only; rw [hq]
   rw [e]
   exact does_few (h a l p hn hq) l
theorem few_len : ∀ t ∈ few0, t.length ≤ 9 ∧ ∀ c u, t = c :: u → c ≠ 0 := by
 have h : ∀ t ∈ few0, t.length ≤ 9 ∧ t.head? ≠ some 0 := by decide
 intro t ht
 refine ⟨(h t ht).1, fun c u e hc => ?_⟩
 have := (h t ht).2
 rw [e, hc] at this
 exact this rfl
theorem fold_few : ∀ (l : List ByteArray) (r : Dk × By), r.1 = desk0 → (∀ x ∈ l, FewL x) → (l.foldl (fun r s => ((lineOf r.1 s).1, r.2 ++ ((lineOf r.1 s).2 ++ [10]))) r).1 = desk0 ∧ (l.foldl (fun r s => ((lineOf r.1 s).1, r.2 ++ ((lineOf r.1 s).2 ++ [10]))) r).2.length ≤ r.2.length + 10 * l.length
 | [], r, h, _ => ⟨h, Nat.le_refl _⟩
 | s :: l, r, h, hl => by
  rw [List.foldl_cons, List.length_cons]
  have h3 := line_few (hl s (by simp))
  have h4 := (few_len _ h3.2).1
  have ih := fold_few l ((lineOf r.1 s).1, r.2 ++ ((lineOf r.1 s).2 ++ [10])) (by rw [h]; exact h3.1) fun x hx => hl x (by simp [hx])
  refine ⟨ih.1, Nat.le_trans ih.2 ?_⟩
  rw [h]
  simp only [List.length_append, List.length_cons, List.length_nil]
  omega
theorem run_few (l : List ByteArray) (h : ∀ x ∈ l, FewL x) : (runD desk0 l).1 = desk0 ∧ (runD desk0 l).2.length ≤ 10 * l.length := by
 have := fold_few l (desk0, []) rfl h
 exact ⟨this.1, Nat.le_trans this.2 (by simp)⟩
theorem pieces_many : ∀ (k : Nat) (s : ByteArray), (piecesB k s).length ≤ k + 1
 | 0, s => by simp [piecesB]
 | k + 1, s => by
  unfold piecesB
  split
  ·simp
  ·have := pieces_many k
   rw [List.length_cons]
   exact Nat.succ_le_succ (this _)
theorem lines_many {text : ByteArray} {n : Nat} (h : text.size ≤ n) : (linesOf text).length ≤ n + 1 := Nat.le_trans (pieces_many _ _) (Nat.succ_le_succ (trim_size text h))
theorem session_few (text : ByteArray) (hz : text.size ≤ 20000) (hfew : ∀ x ∈ linesOf text, FewL x) (w : World) (hs : Std w) : Calls Tryz.prog 8 #[.string text] w fun e w' => e = .returned (.string ⟨(runD desk0 (linesOf text)).2.toArray⟩) ∧ Below w.heap.size w w' := by
 have hp : ∀ pre rest, pre ++ rest = linesOf text → (∀ x ∈ pre, FewL x) ∧ pre.length ≤ 20001 := fun pre rest e => ⟨fun x hx => hfew x (by rw [← e]; simp [hx]), by
  have := lines_many hz
  rw [← e, List.length_append] at this
  omega⟩
 refine session_ok text hz w hs hfew (fun pre rest e => ?_) fun pre x rest e => ?_
 ·obtain ⟨h1, h2⟩ := hp pre rest e
  obtain ⟨h3, h4⟩ := run_few pre h1
  rw [h3]
  exact ⟨by omega, 0, by decide, new_fine (by decide) (by decide), fun g hg => by cases hg⟩
 ·obtain ⟨h1, h2⟩ := hp pre (x :: rest) e
  obtain ⟨h3, h4⟩ := run_few pre h1
  rw [h3]
  have h5 := line_few (hfew x (by rw [← e]; simp))
  have h6 := few_len _ h5.2
  exact ⟨by omega, h6.2⟩
end Go.Proofs.YtdhekhlmdefcnaaGreatDoor
namespace Go.Proofs.YtdhekhlmdefcnaaGreatDoor
open Go.RowKit
def pk (a n : Int) : Int := (a % 18446744073709551616) % n
theorem pk_in (a n : Int) (h : 0 < n) : 0 ≤ pk a n ∧ pk a n < n := ⟨Int.emod_nonneg _ (by omega), Int.emod_lt_of_pos _ h⟩
theorem pk_walk (a n : Int) (h : 0 < n) (hn : n ≤ 4611686018427387904) : wrap64 ((IntKind.u64.wrap a).tmod n) = pk a n := by
 rw [IntKind.wrap_u64, Int.tmod_eq_emod_of_nonneg (by omega)]
 have := pk_in a n h
 unfold pk at *
 exact IntWalk.wrap64_in _ (by omega)
theorem pick_any (a n : Int) (h : 0 < n) (hn : n ≤ 4611686018427387904) (w : World) :
  Calls Tryz.prog 7 #[.int .i64 a, .int .i64 n] w fun e w' => e = .returned (I (pk a n)) ∧ w' = w := by
 have HP := Lib.hid (pk_walk a n h hn)
 go_enter Tryz.func7, Tryz.ntmps7
 go_wp2
 go_ret
 exact ⟨by rw [← HP.out]; rfl, rfl⟩
def fewB (s : ByteArray) : Bool := match fieldsB s with
 | [] => true
 | a :: _ => match cmdL.find? (isNm a.data.toList) with
  | none => true
  | some p => match p.2.1 with | .conflicts | .most | .show => true | _ => false
theorem few_of {s : ByteArray} (h : fewB s = true) : FewL s := by
 intro a l p h1 h2
 unfold fewB at h
 rw [h1] at h
 dsimp only at h
 rw [h2] at h
 dsimp only at h
 unfold Few
 split at h
 ·rename_i e; exact .inl e
 ·rename_i e; exact .inr (.inl e)
 ·rename_i e; exact .inr (.inr e)
 ·cases h
def okA : ByteArray := ⟨#[111, 107, 10]⟩
theorem empty_few : (linesOf ⟨#[]⟩).all fewB = true := by kernel_rfl
theorem empty_ans : (⟨(runD desk0 (linesOf ⟨#[]⟩)).2.toArray⟩ : ByteArray) = okA := by kernel_rfl
theorem session_empty (w : World) (hs : Std w) : Calls Tryz.prog 8 #[.string ⟨#[]⟩] w fun e w' => e = .returned (.string okA) ∧ Below w.heap.size w w' := by
 have h := session_few ⟨#[]⟩ (by decide) (fun x hx => few_of (List.all_eq_true.1 empty_few x hx)) w hs
 rw [empty_ans] at h
 exact h
def talkT : ByteArray := ⟨#[99, 111, 110, 102, 108, 105, 99, 116, 115, 10, 109, 111, 115, 116, 10, 115, 104, 111, 119, 10, 120, 10]⟩
def talkA : ByteArray := ⟨#[52, 32, 52, 32, 51, 10, 50, 10, 48, 32, 48, 32, 102, 97, 108, 115, 101, 10, 101, 114, 114, 111, 114, 32, 51, 10]⟩
theorem talk_few : (linesOf talkT).all fewB = true := by kernel_rfl
theorem talk_answers : (⟨(runD desk0 (linesOf talkT)).2.toArray⟩ : ByteArray) = talkA := by kernel_rfl
theorem talks_ok (w : World) (hs : Std w) : Calls Tryz.prog 5 #[] w fun e w' => e = .returned (.bool true) ∧ Below w.heap.size w w' := by
 have HS := Lib.hid (session_few talkT (by decide) (fun x hx => few_of (List.all_eq_true.1 talk_few x hx)) w hs)
 rw [talk_answers] at HS
 unfold talkT talkA at HS
 clear hs
 go_enter Tryz.func5, Tryz.ntmps5
 go_wp2_with (go_at_call 8; refine HS.out.mono ?_; rintro e w2 ⟨rfl, hb2⟩)
 go_ret
 exact ⟨rfl, hb2⟩
theorem no_nl (l : By) (h : Lib.indexByte l 10 < 0) : piecesB (⟨l.toArray⟩ : ByteArray).size ⟨l.toArray⟩ = [⟨l.toArray⟩] := piecesB_none (r := ⟨l.toArray⟩) h
theorem line_one (l : By) (h : Lib.indexByte l 10 < 0) (hl : Lib.hasSuffix l [10] = false) : linesOf ⟨l.toArray⟩ = [⟨l.toArray⟩] := by
 unfold linesOf
 have e : Lib.trimSuffix (⟨l.toArray⟩ : ByteArray).data.toList [10] = l := by
  show Lib.trimSuffix l [10] = l
  unfold Lib.trimSuffix
  rw [hl]
  rfl
 rw [e]
 exact no_nl l h
def xsT (n : Nat) : ByteArray := ⟨(List.replicate n (120 : UInt8)).toArray⟩
theorem xs_size (n : Nat) : (xsT n).size = n := by show (List.replicate n (120 : UInt8)).toArray.size = n; simp
theorem xs_no : ∀ n, Lib.indexByte (List.replicate n (120 : UInt8)) 10 < 0
 | 0 => by decide
 | n + 1 => by
  have := xs_no n
  have h2 := Lib.indexByte_ge (List.replicate n (120 : UInt8)) 10
  rw [List.replicate_succ]
  unfold Lib.indexByte
  rw [if_neg (by decide), if_pos (by simp; omega)]
  decide
theorem xs_suf (n : Nat) : Lib.hasSuffix (List.replicate n (120 : UInt8)) [10] = false := by
 unfold Lib.hasSuffix List.isSuffixOf
 rw [List.reverse_replicate]
 cases n with
 | zero => rfl
 | succ n => rfl
theorem xs_lines (n : Nat) : linesOf (xsT n) = [xsT n] := line_one _ (xs_no n) (xs_suf n)
theorem xs_decode {n pos : Nat} (h : pos < n) : Utf8.decode (xsT n) pos = (120, 1) := by
 have e : (xsT n).get! pos = 120 := by
  show (List.replicate n (120 : UInt8)).toArray[pos]! = 120
  simp [h]
 rw [Lib.decode_at, e]
 exact Lib.decodeN_ascii _ _ _ _ _ (by decide)
theorem xs_spans {n : Nat} : ∀ (f pos : Nat), n - pos ≤ f → Lib.spansFromP isBl (xsT n) f pos (some 0) [] = ([], some 0)
 | 0, _, _ => rfl
 | f + 1, pos, h => by
  unfold Lib.spansFromP
  rw [xs_size]
  split
  ·rename_i hp
   rw [xs_decode hp]
   exact xs_spans f (pos + 1) (by omega)
  ·rfl
theorem xs_fields {n : Nat} (h : 0 < n) : fieldsB (xsT n) = [xsT n] := by
 obtain ⟨m, rfl⟩ : ∃ m, n = m + 1 := ⟨n - 1, by omega⟩
 have e : Lib.spansFromP isBl (xsT (m + 1)) (xsT (m + 1)).size 0 none [] = ([], some 0) := by
  rw [xs_size]
  unfold Lib.spansFromP
  rw [xs_size, if_pos h, xs_decode h]
  exact xs_spans m 1 (by omega)
 unfold fieldsB Lib.goFieldsP Lib.spansOfP
 rw [e]
 show [(xsT (m + 1)).extract 0 (xsT (m + 1)).size] = _
 rw [ByteArray.extract_zero_size]
theorem xs_none {n : Nat} (h : 0 < n) : cmdL.find? (isNm (xsT n).data.toList) = none := by
 obtain ⟨m, rfl⟩ : ∃ m, n = m + 1 := ⟨n - 1, by omega⟩
 rw [List.find?_eq_none]
 have hh : ∀ p ∈ cmdL, p.1.head? ≠ some 120 := by decide
 intro p hp hq
 have e : p.1 = (xsT (m + 1)).data.toList := by simpa [isNm] using hq
 refine hh p hp ?_
 rw [e]
 show (List.replicate (m + 1) (120 : UInt8)).head? = _
 rfl
theorem xs_few {n : Nat} (h : 0 < n) : FewL (xsT n) := by
 intro a l p h1 h2
 rw [xs_fields h] at h1
 injection h1 with h1 h3
 subst h1
 rw [xs_none h] at h2
 cases h2
def err3A : ByteArray := ⟨#[101, 114, 114, 111, 114, 32, 51, 10]⟩
theorem xs_ans {n : Nat} (h : 0 < n) : (⟨(runD desk0 (linesOf (xsT n))).2.toArray⟩ : ByteArray) = err3A := by
 rw [xs_lines]
 have e : lineOf desk0 (xsT n) = (desk0, anT (.err 3)) := by
  unfold lineOf
  rw [xs_fields h]
  dsimp only
  rw [xs_none h]
 have e2 : (runD desk0 [xsT n]).2 = anT (.err 3) ++ [10] := by
  show (([] : By) ++ ((lineOf desk0 (xsT n)).2 ++ [10])) = _
  rw [e]
  rfl
 rw [e2]
 decide +kernel
def err4A : ByteArray := ⟨#[101, 114, 114, 111, 114, 32, 52, 10]⟩
def xsA (n : Nat) : ByteArray := if n = 0 then okA else if 20000 < n then err4A else err3A
theorem session_big (s : ByteArray) (h : 20000 < s.size) (h2 : s.size ≤ 1000000) (w : World) : Calls Tryz.prog 8 #[.string s] w fun e w' => e = .returned (.string err4A) ∧ Below w.heap.size w w' := by
 have hz : (20000 : Int) < (s.size : Int) := by omega
 unfold err4A
 go_enter Tryz.func8, Tryz.ntmps8
 go_wp2_with fail
 go_ret
 exact ⟨rfl, Below.refl _ _⟩
theorem session_xs (n : Nat) (hn : n ≤ 30000) (w : World) (hs : Std w) : Calls Tryz.prog 8 #[.string (xsT n)] w fun e w' => e = .returned (.string (xsA n)) ∧ Below w.heap.size w w' := by
 unfold xsA
 split
 ·rename_i h
  subst h
  exact session_empty w hs
 ·rename_i h
  split
  ·rename_i h2
   exact session_big _ (by rw [xs_size]; exact h2) (by rw [xs_size]; omega) w
  ·rename_i h2
   have := session_few (xsT n) (by rw [xs_size]; omega) (fun x hx => by
    rw [xs_lines] at hx
    rw [List.mem_singleton.1 hx]
    exact xs_few (by omega)) w hs
   rw [xs_ans (by omega)] at this
   exact this
end Go.Proofs.YtdhekhlmdefcnaaGreatDoor
