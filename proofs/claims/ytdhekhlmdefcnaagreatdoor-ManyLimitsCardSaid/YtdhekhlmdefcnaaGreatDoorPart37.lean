/- Part 37 of the proof: DkLine. -/
import Derived.Test.YtdhekhlmdefcnaaGreatDoorPart36
namespace Go.Proofs.YtdhekhlmdefcnaaGreatDoor
open Go.RowKit
theorem spans_len (p : Nat → Bool) (s : ByteArray) : ∀ (f pos : Nat) (st : Option Nat) (acc : List (Nat × Nat)), (Lib.spansFromP p s f pos st acc).1.length ≤ acc.length + f
 | 0, _, _, acc => Nat.le_refl _
 | f + 1, pos, st, acc => by
  have ih := spans_len p s f
  unfold Lib.spansFromP
  split
  ·split
   ·split
    ·rename_i a
     have h := ih (pos + (Utf8.decode s pos).2) none (acc ++ [(a, pos)])
     rw [List.length_append, List.length_singleton] at h
     omega
    ·have h := ih (pos + (Utf8.decode s pos).2) none acc
     omega
   ·split
    ·rename_i a
     have h := ih (pos + (Utf8.decode s pos).2) (some a) acc
     omega
    ·have h := ih (pos + (Utf8.decode s pos).2) (some pos) acc
     omega
  ·show acc.length ≤ _
   omega
theorem fields_len (s : ByteArray) : (fieldsB s).length ≤ s.size + 1 := by
 unfold fieldsB Lib.goFieldsP Lib.spansOfP
 have h := spans_len isBl s s.size 0 none []
 rw [List.length_map]
 unfold Lib.closeSpans
 split <;> simp at h ⊢ <;> omega
theorem fields_size (s : ByteArray) : ∀ t ∈ fieldsB s, t.size ≤ s.size := fun t ht => by
 unfold fieldsB Lib.goFieldsP at ht
 obtain ⟨y, _, rfl⟩ := List.mem_map.1 ht
 rw [ByteArray.size_extract]
 omega
theorem run_fn_nil (w : World) : (binOp .eql 55 .nilFunc .nilFunc).run Tryz.prog w = .ok (.bool true) w := by
 have he : ∀ d, (Op.equalIn (d + 1) 55 .nilFunc .nilFunc).run Tryz.prog w = .ok true w := fun d => by simp [Op.equalIn, run_underlying Tryz.underlying55]
 simp only [binOp]
 simp [Op.equal, Op.maxDepth, he 9999]
theorem run_fn_some (fn : Fn) (a b : Array Value) (w : World) : (binOp .eql 55 (.func fn a b) .nilFunc).run Tryz.prog w = .ok (.bool false) w := by
 have he : ∀ d, (Op.equalIn (d + 1) 55 (.func fn a b) .nilFunc).run Tryz.prog w = .ok false w := fun d => by simp [Op.equalIn, run_underlying Tryz.underlying55]
 simp only [binOp]
 simp [Op.equal, Op.maxDepth, he 9999]
section
variable {w w' : World} {B g : Nat} {x : SyX} {vr : Value} {d : Dk} {T : Nat}
theorem DkAt.put (h : DkAt w B g x vr d) {gl : Nat} {cs : Array Value} (hh : Has w gl 9 cs) (i : Nat) (v : Value) : DkAt (w.setCell ⟨gl, i, none⟩ v) B g x vr d := by
 have ht : Turned (fun b => b = gl) w (w.setCell ⟨gl, i, none⟩ v) := (Turned.refl _ _).setCell _ _ (.inl rfl)
 have hF : ∀ b, b = gl → Own dkT w b := fun b e => ⟨_, _, e ▸ hh, rfl⟩
 exact ⟨h.has.far (h.has.ne hh (by decide)) _, h.routes.keep fun b cs k => k.keepG ht hF rfl, h.sys.desk ht hF, h.low, h.ok, Nat.le_trans h.hB ht.size⟩
def LPost (w : World) (B g : Nat) (x : SyX) (r : Dk × By) (e : Ending) (w' : World) : Prop := e = .returned (.string ⟨r.2.toArray⟩) ∧ ∃ x' vr', DkAt w' B g x' vr' r.1 ∧ DMv w w' g x x'
set_option maxHeartbeats 4000000 in
set_option maxRecDepth 100000 in
theorem line_none (h : DkAt w B g x vr d) (s : ByteArray) (hz : s.size ≤ 50000) (hn : fieldsB s = []) : Calls Tryz.prog 18 #[.pointer (some ⟨g, 0, none⟩), .string s] w (LPost w B g x (d, [111, 107])) := by
 have hmf : ∀ (fn : Fn) (first cap : Array Value) (w : World), (Instr.makeFunc fn first cap).run Tryz.prog w = .ok (.func fn first cap) w := fun _ _ _ _ => rfl
 have HH := Lib.hid h
 have k0 := Has.new w 9 #[.string ⟨#[]⟩]
 have hb0 : Below w.heap.size w (w.alloc (.cells #[.string ⟨#[]⟩] 9)) := (Below.refl _ _).alloc (Nat.le_refl _) _
 have HFF := Lib.hid (Tryz.strings_FieldsFunc 48 #[] (enters_of Tryz.func48 (by kernel_rfl) rfl) isBl s (w.alloc (.cells #[.string ⟨#[]⟩] 9)) (by omega) (blank_at _))
 rw [show Lib.goFieldsP isBl s = [] from hn] at HFF
 have HK := Lib.hid k0
 have HB0 := Lib.hid hb0
 clear h k0 hb0 hn
 go_enter_defers Tryz.func18, Tryz.ntmps18
 go_upto_region 1 with fail
 generalize w.alloc (.cells #[.string ⟨#[]⟩] 9) = w1 at *
 generalize hG : w.heap.size = gl at *
 have HG := Lib.hid hG
 clear hG
 go_upto_region 3 with (go_at_call 47; refine HFF.out.mono ?_; rintro e w2 ⟨A2, rfl, -, ho, hb2⟩; have HB2 : Hid (Below gl w w2) := Lib.hid (HB0.out.trans (hb2.mono (Nat.le_of_lt HK.out.lt))); have HK2 := Lib.hid (HK.out.after hb2); clear ho hb2)
 have q0 := HK2.out.cellv 0 _ rfl
 have q1 := HK2.out.free 0
 have q2 := HK2.out.lt
 go_wp2
 refine leaves_cons (f := 45) (args := #[.pointer (some ⟨gl, 0, none⟩)]) (by simp) (by simp [go_sem]) ?_
 refine (catch_idle ⟨gl, 0, none⟩ _).mono ?_
 rintro e u' w'' ⟨rfl, rfl, rfl⟩
 have kz := HK2.out.set 0 (.string ⟨#[111, 107]⟩)
 have z0 := kz.cellv 0 (.string ⟨#[111, 107]⟩) rfl
 refine ⟨.string ⟨#[111, 107]⟩, ?_, rfl, x, vr, (HH.out.after (HG.out ▸ HB2.out)).put HK2.out 0 _, ?_⟩
 ·simp [results, Tryz.results18, go_sem, z0]
 ·have hm : Below gl w (w2.setCell ⟨gl, 0, none⟩ (.string ⟨#[111, 107]⟩)) := HB2.out.setCell (p := ⟨gl, 0, none⟩) (Nat.le_refl _) _
  exact DMv.of_below (HG.out ▸ hm)
set_option maxHeartbeats 4000000 in
set_option maxRecDepth 100000 in
theorem line_bad (h : DkAt w B g x vr d) (hs : Std w) (s : ByteArray) (hz : s.size ≤ 50000) {a : ByteArray} {l : List ByteArray} (hn : fieldsB s = a :: l) (hq : cmdL.find? (isNm a.data.toList) = none) : Calls Tryz.prog 18 #[.pointer (some ⟨g, 0, none⟩), .string s] w (LPost w B g x (d, anT (.err 3))) := by
 have HV : Hid (doesV g a = .nilFunc) := Lib.hid (by unfold doesV; rw [hq])
 have hmf : ∀ (fn : Fn) (first cap : Array Value) (w : World), (Instr.makeFunc fn first cap).run Tryz.prog w = .ok (.func fn first cap) w := fun _ _ _ _ => rfl
 have HH := Lib.hid h
 have k0 := Has.new w 9 #[.string ⟨#[]⟩]
 have hb0 : Below w.heap.size w (w.alloc (.cells #[.string ⟨#[]⟩] 9)) := (Below.refl _ _).alloc (Nat.le_refl _) _
 have HFF := Lib.hid (Tryz.strings_FieldsFunc 48 #[] (enters_of Tryz.func48 (by kernel_rfl) rfl) isBl s (w.alloc (.cells #[.string ⟨#[]⟩] 9)) (by omega) (blank_at _))
 rw [show Lib.goFieldsP isBl s = a :: l from hn] at HFF
 have HK := Lib.hid k0
 have HB0 := Lib.hid hb0
 have hl1 : l.length ≤ 100000 := by have := fields_len s; rw [hn] at this; simp at this; omega
 have HL1 := Lib.hid hl1
 have HL2 : Hid (∀ t ∈ l, t.size ≤ 100000) := Lib.hid fun t ht => by have := fields_size s t (by rw [hn]; exact List.mem_cons_of_mem _ ht); omega
 have HS := Lib.hid hs
 clear h hs k0 hb0 hn
 go_enter_defers Tryz.func18, Tryz.ntmps18
 go_upto_region 1 with fail
 generalize w.alloc (.cells #[.string ⟨#[]⟩] 9) = w1 at *
 generalize hG : w.heap.size = gl at *
 have HG := Lib.hid hG
 clear hG
 go_upto_region 3 with (go_at_call 47; refine HFF.out.mono ?_; rintro e w2 ⟨A2, rfl, -, ho, hb2⟩; have HB2 : Hid (Below gl w w2) := Lib.hid (HB0.out.trans (hb2.mono (Nat.le_of_lt HK.out.lt))); have HK2 := Lib.hid (HK.out.after hb2); have HO := Lib.hid ho; clear ho hb2)
 obtain ⟨b9, c9, cs, he9, -, hh, hcs⟩ := own_cells HO.out (by simp)
 injection he9 with e1 e2 e3
 injection e1 with e1
 injection e1 with e1
 subst e1 e3
 have hq0 : w2.cell? ⟨A2, 0, none⟩ = some (.string a) := by rw [hh.cell]; exact hcs 0 _ rfl
 have hbl := hh.lt
 have hi0 : 0 < l.length + 1 := by omega
 have hi1 : (1 : Int) ≤ ((l.length + 1 : Nat) : Int) := by omega
 have hne : ¬ ((l.length + 1 : Nat) : Int) = 0 := by omega
 have HWD : Hid (∀ c3, Words w2 (if c3 = 1 then some ⟨A2, 0, none⟩ else some ⟨A2, 1, none⟩) l ∨ c3 ≠ l.length + 1) := Lib.hid fun c3 => by
  by_cases hc : c3 = l.length + 1
  ·refine .inl ⟨HL1.out, HL2.out, fun hx => ?_⟩
   have hl0 : l ≠ [] := fun e => hx (by rw [e]; rfl)
   have : ¬ c3 = 1 := by have := List.length_pos_iff.2 hl0; omega
   rw [if_neg this]
   exact ⟨A2, 1, rfl, hbl, fun j u hu => by rw [hh.cell]; exact hcs (1 + j) u (by rw [Nat.add_comm]; exact hu)⟩
  ·exact .inr hc
 have HDO := Lib.hid (desk_does g a w2)
 have HH2 := Lib.hid (HH.out.after (HG.out ▸ HB2.out))
 have HS2 : Hid (Std w2) := Lib.hid (HS.out.after (HG.out ▸ HB2.out))
 clear hh hcs HO hl1
 rw [HV.out] at HDO
 have hfn := run_fn_nil
 go_wp2_with (first
  |(go_at_call 49; refine HDO.out.mono ?_; rintro e w3 ⟨rfl, hb3⟩; have HB3 := Lib.hid (HB2.out.trans (hb3.mono (Nat.le_of_lt HK2.out.lt))); have HK3 := Lib.hid (HK2.out.after hb3); have HS3 : Hid (Std w3) := Lib.hid (HS2.out.after hb3); clear hb3 hq0 hbl)
  |(go_at_call 41; refine (must_errno 3 _ (Lib.hid HS3.out.et)).mono ?_; rintro e w4 ⟨rfl, hb4⟩; have HB4 := Lib.hid (HB3.out.trans (hb4.mono (Nat.le_of_lt HK3.out.lt))); have HK4 := Lib.hid (HK3.out.after hb4); have HS4 : Hid (Std w4) := Lib.hid (HS3.out.after hb4); clear hb4))
 refine leaves_cons (f := 45) (args := #[.pointer (some ⟨gl, 0, none⟩)]) (by simp) (by simp [go_sem]) ?_
 refine (catch_wrong gl ⟨#[]⟩ 3 ⟨by decide, by decide⟩ w4 HK4.out HS4.out).mono ?_
 rintro e u' w'' ⟨rfl, rfl, w5, hb5, rfl⟩
 have hk5 := HK4.out.after hb5
 have hb6 : Below gl w w5 := HB4.out.trans (hb5.mono (Nat.le_of_lt HK4.out.lt))
 have z0 := (hk5.set 0 (.string (⟨#[101, 114, 114, 111, 114, 32]⟩ ++ ⟨(Lib.itoa 3).toArray⟩))).cellv 0 (.string (⟨#[101, 114, 114, 111, 114, 32]⟩ ++ ⟨(Lib.itoa 3).toArray⟩)) rfl
 refine ⟨.string (⟨#[101, 114, 114, 111, 114, 32]⟩ ++ ⟨(Lib.itoa 3).toArray⟩), ?_, ?_, x, vr, (HH.out.after (HG.out ▸ hb6)).put hk5 0 _, ?_⟩
 ·simp [results, Tryz.results18, go_sem, z0]
 ·exact congrArg (fun b => Ending.returned (.string b)) (ba_app [101, 114, 114, 111, 114, 32] (Lib.itoa 3))
 ·have hm : Below gl w (w5.setCell ⟨gl, 0, none⟩ (.string (⟨#[101, 114, 114, 111, 114, 32]⟩ ++ ⟨(Lib.itoa 3).toArray⟩))) := hb6.setCell (p := ⟨gl, 0, none⟩) (Nat.le_refl _) _
  exact DMv.of_below (HG.out ▸ hm)
theorem line_moved {gl : Nat} {x' : SyX} {w2 w3 : World} {t : Value} (h2 : Below gl w w2) (hg : w.heap.size = gl) (hm : DMv w2 w3 g x x') (_hx : ∀ b, FD g x b → b < w.heap.size) (hk : Has w3 gl 9 #[t]) (v : Value) : DMv w (w3.setCell ⟨gl, 0, none⟩ v) g x x' := by
 subst hg
 have h1 : DMv w w3 g x x' := (DMv.of_below h2).trans hm
 refine ⟨h1.turned.trans ((Turned.refl (fun b => b = w.heap.size) _).setCell ⟨w.heap.size, 0, none⟩ v (.inl rfl)) fun k hkk hf => ?_, h1.blocks⟩
 omega
set_option maxHeartbeats 4000000 in
set_option maxRecDepth 100000 in
theorem line_cmd (h : DkAt w B g x vr d) (hB : 9 ≤ B) (hf : Fine T d.s) (hT : T ≤ 9900000000) (hs : Std w) (s : ByteArray) (hz : s.size ≤ 50000) {a : ByteArray} {l : List ByteArray} (hn : fieldsB s = a :: l) {p : By × Cmd × Nat} (hq : cmdL.find? (isNm a.data.toList) = some p) (hfew : Few p.2.1) : Calls Tryz.prog 18 #[.pointer (some ⟨g, 0, none⟩), .string s] w (LPost w B g x ((does' p.2.1 d l).1, anT (does' p.2.1 d l).2)) := by
 have HV : Hid (doesV g a = valE g p) := Lib.hid (by unfold doesV; rw [hq])
 have hp := List.mem_of_find?_eq_some hq
 have HEX := Lib.hid (cmd_enters p hp)
 have HCM : Hid (∀ (w3 : World) (AA : Option Addr) (c : Nat), DkAt w3 B g x vr d → Words w3 AA l → Std w3 → Calls Tryz.prog p.2.2 #[.pointer (some ⟨g, 0, none⟩), .slice AA l.length c] w3 (MPost w3 B g x (does' p.2.1 d l))) := Lib.hid fun w3 AA c h3 hw3 hs3 => cmd_ok h3 hf hT hw3 c hs3 p hp hfew
 have HER : Hid (∀ n, (does' p.2.1 d l).2 = .err n → I64 n) := Lib.hid fun n hh => by
  have := err_small _ _ _ _ hh
  exact ⟨by omega, by omega⟩
 have HNB := Lib.hid hB
 clear hf hT hp hB hfew
 unfold valE at HV
 generalize does' p.2.1 d l = r at *
 generalize p.2.2 = X at *
 obtain ⟨d', ans⟩ := r
 have hmf : ∀ (fn : Fn) (first cap : Array Value) (w : World), (Instr.makeFunc fn first cap).run Tryz.prog w = .ok (.func fn first cap) w := fun _ _ _ _ => rfl
 have HH := Lib.hid h
 have k0 := Has.new w 9 #[.string ⟨#[]⟩]
 have hb0 : Below w.heap.size w (w.alloc (.cells #[.string ⟨#[]⟩] 9)) := (Below.refl _ _).alloc (Nat.le_refl _) _
 have HFF := Lib.hid (Tryz.strings_FieldsFunc 48 #[] (enters_of Tryz.func48 (by kernel_rfl) rfl) isBl s (w.alloc (.cells #[.string ⟨#[]⟩] 9)) (by omega) (blank_at _))
 rw [show Lib.goFieldsP isBl s = a :: l from hn] at HFF
 have HK := Lib.hid k0
 have HB0 := Lib.hid hb0
 have hl1 : l.length ≤ 100000 := by have := fields_len s; rw [hn] at this; simp at this; omega
 have HL1 := Lib.hid hl1
 have HL2 : Hid (∀ t ∈ l, t.size ≤ 100000) := Lib.hid fun t ht => by have := fields_size s t (by rw [hn]; exact List.mem_cons_of_mem _ ht); omega
 have HS := Lib.hid hs
 clear h hs k0 hb0 hn
 go_enter_defers Tryz.func18, Tryz.ntmps18
 go_upto_region 1 with fail
 generalize w.alloc (.cells #[.string ⟨#[]⟩] 9) = w1 at *
 generalize hG : w.heap.size = gl at *
 have HG := Lib.hid hG
 clear hG
 go_upto_region 3 with (go_at_call 47; refine HFF.out.mono ?_; rintro e w2 ⟨A2, rfl, -, ho, hb2⟩; have HB2 : Hid (Below gl w w2) := Lib.hid (HB0.out.trans (hb2.mono (Nat.le_of_lt HK.out.lt))); have HK2 := Lib.hid (HK.out.after hb2); have HO := Lib.hid ho; clear ho hb2)
 obtain ⟨b9, c9, cs, he9, -, hh, hcs⟩ := own_cells HO.out (by simp)
 injection he9 with e1 e2 e3
 injection e1 with e1
 injection e1 with e1
 subst e1 e3
 have hq0 : w2.cell? ⟨A2, 0, none⟩ = some (.string a) := by rw [hh.cell]; exact hcs 0 _ rfl
 have hbl := hh.lt
 have hi0 : 0 < l.length + 1 := by omega
 have hi1 : (1 : Int) ≤ ((l.length + 1 : Nat) : Int) := by omega
 have hne : ¬ ((l.length + 1 : Nat) : Int) = 0 := by omega
 have HWD : Hid (∀ c3, Words w2 (if c3 = 1 then some ⟨A2, 0, none⟩ else some ⟨A2, 1, none⟩) l ∨ c3 ≠ l.length + 1) := Lib.hid fun c3 => by
  by_cases hc : c3 = l.length + 1
  ·refine .inl ⟨HL1.out, HL2.out, fun hx => ?_⟩
   have hl0 : l ≠ [] := fun e => hx (by rw [e]; rfl)
   have : ¬ c3 = 1 := by have := List.length_pos_iff.2 hl0; omega
   rw [if_neg this]
   exact ⟨A2, 1, rfl, hbl, fun j u hu => by rw [hh.cell]; exact hcs (1 + j) u (by rw [Nat.add_comm]; exact hu)⟩
  ·exact .inr hc
 have HDO := Lib.hid (desk_does g a w2)
 have HH2 := Lib.hid (HH.out.after (HG.out ▸ HB2.out))
 have HS2 : Hid (Std w2) := Lib.hid (HS.out.after (HG.out ▸ HB2.out))
 clear hh hcs HO hl1
 rw [HV.out] at HDO
 have hfs := run_fn_some
 have hEX := HEX.out
 go_upto_region 8 with (first
  |(go_at_call 49; refine HDO.out.mono ?_; rintro e w3 ⟨rfl, hb3⟩; have HB3 := Lib.hid (HB2.out.trans (hb3.mono (Nat.le_of_lt HK2.out.lt))); have HK3 := Lib.hid (HK2.out.after hb3); have HS3 : Hid (Std w3) := Lib.hid (HS2.out.after hb3); have HH3 := Lib.hid (HH2.out.after hb3); have HWD3 : Hid (∀ c3, Words w3 (if c3 = 1 then some ⟨A2, 0, none⟩ else some ⟨A2, 1, none⟩) l ∨ c3 ≠ l.length + 1) := Lib.hid (fun c3 => (HWD.out c3).imp (fun hh => hh.after hb3) id); clear hb3 hq0 hbl))
 have HFX : Hid (∀ b, FD g x b → b < gl) := Lib.hid fun b hb => by
  rw [← HG.out]
  rcases hb with rfl | hb
  ·exact HH.out.has.lt
  ·exact HH.out.sys.lt hb
 have HKX : Hid (∀ w4 x', DMv w3 w4 g x x' → Has w4 gl 9 #[.string ⟨#[]⟩]) := Lib.hid fun w4 x' hm => HK3.out.turned hm.turned fun hf => by have := HFX.out _ hf; omega
 have HSX : Hid (∀ w4 x', DMv w3 w4 g x x' → Std w4) := Lib.hid fun w4 x' hm => HS3.out.below HNB.out (hm.below HH3.out)
 have hl : (l.length = 0 → Hid (Words w3 (some ⟨A2, 0, none⟩) l)) ∧ (0 < l.length → Hid (Words w3 (some ⟨A2, 1, none⟩) l)) := by
  rcases HWD3.out (l.length + 1) with hw | hw
  ·refine ⟨fun h0 => Lib.hid ?_, fun h0 => Lib.hid ?_⟩
   ·rw [if_pos (by omega)] at hw; exact hw
   ·rw [if_neg (by omega)] at hw; exact hw
  ·exact absurd rfl hw
 rcases Nat.eq_zero_or_pos l.length with hl0 | hl0
 ·have HW4 := hl.1 hl0
  have hle : l = [] := List.eq_nil_of_length_eq_zero hl0
  subst hle
  clear hl hl0 HWD HWD3 HDO
  go_wp2_with fail
  refine (HCM.out w3 _ _ HH3.out HW4.out HS3.out).mono ?_
  rintro e w4 ⟨he, x', vr', hd4, hm4⟩
  have HD4 := Lib.hid hd4
  have HM4 := Lib.hid hm4
  have HK4 := Lib.hid (HKX.out w4 x' hm4)
  have HS4 := Lib.hid (HSX.out w4 x' hm4)
  clear hd4 hm4
  cases ans with
  | txt t =>
   obtain rfl : e = .returned (.string ⟨t.toArray⟩) := he
   have q0 := HK4.out.cellv 0 _ rfl
   have q1 := HK4.out.free 0
   have q2 := HK4.out.lt
   go_wp2
   refine leaves_cons (f := 45) (args := #[.pointer (some ⟨gl, 0, none⟩)]) (by simp) (by simp [go_sem]) ?_
   refine (catch_idle ⟨gl, 0, none⟩ _).mono ?_
   rintro e u' w'' ⟨rfl, rfl, rfl⟩
   have z0 := (HK4.out.set 0 (.string ⟨t.toArray⟩)).cellv 0 (.string ⟨t.toArray⟩) rfl
   refine ⟨.string ⟨t.toArray⟩, ?_, rfl, x', vr', HD4.out.put HK4.out 0 _, line_moved HB3.out HG.out HM4.out (fun b hb => HG.out ▸ HFX.out b hb) HK4.out _⟩
   simp [results, Tryz.results18, go_sem, z0]
  | err n =>
   obtain rfl : e = .panicked (pan n) := he
   refine leaves_cons (f := 45) (args := #[.pointer (some ⟨gl, 0, none⟩)]) (by simp) (by simp [go_sem]) ?_
   refine (catch_wrong gl ⟨#[]⟩ n (HER.out n rfl) w4 HK4.out HS4.out).mono ?_
   rintro e u' w'' ⟨rfl, rfl, w5, hb5, rfl⟩
   have hk5 := HK4.out.after hb5
   have z0 := (hk5.set 0 (.string (⟨#[101, 114, 114, 111, 114, 32]⟩ ++ ⟨(Lib.itoa n).toArray⟩))).cellv 0 (.string (⟨#[101, 114, 114, 111, 114, 32]⟩ ++ ⟨(Lib.itoa n).toArray⟩)) rfl
   refine ⟨.string (⟨#[101, 114, 114, 111, 114, 32]⟩ ++ ⟨(Lib.itoa n).toArray⟩), ?_, ?_, x', vr', (HD4.out.after hb5).put hk5 0 _, line_moved HB3.out HG.out (HM4.out.trans (DMv.of_below hb5)) (fun b hb => HG.out ▸ HFX.out b hb) hk5 _⟩
   ·simp [results, Tryz.results18, go_sem, z0]
   ·exact congrArg (fun b => Ending.returned (.string b)) (ba_app [101, 114, 114, 111, 114, 32] (Lib.itoa n))
 ·have HW4 := hl.2 hl0
  have hl1 : ¬ l.length = 0 := by omega
  clear hl HWD HWD3 HDO
  go_wp2_with fail
  refine (HCM.out w3 _ _ HH3.out HW4.out HS3.out).mono ?_
  rintro e w4 ⟨he, x', vr', hd4, hm4⟩
  have HD4 := Lib.hid hd4
  have HM4 := Lib.hid hm4
  have HK4 := Lib.hid (HKX.out w4 x' hm4)
  have HS4 := Lib.hid (HSX.out w4 x' hm4)
  clear hd4 hm4
  cases ans with
  | txt t =>
   obtain rfl : e = .returned (.string ⟨t.toArray⟩) := he
   have q0 := HK4.out.cellv 0 _ rfl
   have q1 := HK4.out.free 0
   have q2 := HK4.out.lt
   go_wp2
   refine leaves_cons (f := 45) (args := #[.pointer (some ⟨gl, 0, none⟩)]) (by simp) (by simp [go_sem]) ?_
   refine (catch_idle ⟨gl, 0, none⟩ _).mono ?_
   rintro e u' w'' ⟨rfl, rfl, rfl⟩
   have z0 := (HK4.out.set 0 (.string ⟨t.toArray⟩)).cellv 0 (.string ⟨t.toArray⟩) rfl
   refine ⟨.string ⟨t.toArray⟩, ?_, rfl, x', vr', HD4.out.put HK4.out 0 _, line_moved HB3.out HG.out HM4.out (fun b hb => HG.out ▸ HFX.out b hb) HK4.out _⟩
   simp [results, Tryz.results18, go_sem, z0]
  | err n =>
   obtain rfl : e = .panicked (pan n) := he
   refine leaves_cons (f := 45) (args := #[.pointer (some ⟨gl, 0, none⟩)]) (by simp) (by simp [go_sem]) ?_
   refine (catch_wrong gl ⟨#[]⟩ n (HER.out n rfl) w4 HK4.out HS4.out).mono ?_
   rintro e u' w'' ⟨rfl, rfl, w5, hb5, rfl⟩
   have hk5 := HK4.out.after hb5
   have z0 := (hk5.set 0 (.string (⟨#[101, 114, 114, 111, 114, 32]⟩ ++ ⟨(Lib.itoa n).toArray⟩))).cellv 0 (.string (⟨#[101, 114, 114, 111, 114, 32]⟩ ++ ⟨(Lib.itoa n).toArray⟩)) rfl
   refine ⟨.string (⟨#[101, 114, 114, 111, 114, 32]⟩ ++ ⟨(Lib.itoa n).toArray⟩), ?_, ?_, x', vr', (HD4.out.after hb5).put hk5 0 _, line_moved HB3.out HG.out (HM4.out.trans (DMv.of_below hb5)) (fun b hb => HG.out ▸ HFX.out b hb) hk5 _⟩
   ·simp [results, Tryz.results18, go_sem, z0]
   ·exact congrArg (fun b => Ending.returned (.string b)) (ba_app [101, 114, 114, 111, 114, 32] (Lib.itoa n))
theorem line_ok (h : DkAt w B g x vr d) (hB : 9 ≤ B) (hf : Fine T d.s) (hT : T ≤ 9900000000) (hs : Std w) (s : ByteArray) (hz : s.size ≤ 50000) (hfew : FewL s) : Calls Tryz.prog 18 #[.pointer (some ⟨g, 0, none⟩), .string s] w (LPost w B g x (lineOf d s)) := by
 unfold lineOf
 cases hn : fieldsB s with
 | nil => exact line_none h s hz hn
 | cons a l =>
  show Calls _ _ _ _ (LPost w B g x (match cmdL.find? (isNm a.data.toList) with | none => (d, anT (.err 3)) | some p => ((does' p.2.1 d l).1, anT (does' p.2.1 d l).2)))
  cases hq : cmdL.find? (isNm a.data.toList) with
  | none => exact line_bad h hs s hz hn hq
  | some p => exact line_cmd h hB hf hT hs s hz hn hq (hfew a l p hn hq)
end
end Go.Proofs.YtdhekhlmdefcnaaGreatDoor
