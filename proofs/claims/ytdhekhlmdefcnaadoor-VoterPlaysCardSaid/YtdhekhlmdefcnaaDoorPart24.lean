/- Part 24 of the proof: FrameDecodes. -/
import Derived.Test.YtdhekhlmdefcnaaDoorPart22
import Derived.Test.YtdhekhlmdefcnaaDoorPart23
import Derived.Test.YtdhekhlmdefcnaaDoorPart6
import Derived.Laws.AppendOwnNone
/- The walk over FrameDecodes. -/
namespace Go.Proofs.YtdhekhlmdefcnaaDoor
open Go.RowKit
section
variable {P : Program} {w : World}
/-- append of a slice that is read, nil or not, to a row of the call's own -/
theorem wpList_append_reads {ops : Array Oper} {rest : List Oper} {o : Oper} {a : Act} {Q : Exit → Act → World → Prop} (hgd : o.guard = none) (s x : Operand) (t : TypeId)
    (ho : o.op = .call { callee := .builtin .append, args := #[s, x], argTypes := #[t, t] })
    (base : Nat) (e : TypeId) (i : TypeInfo) (z : Value) (bytes : Nat) (ht : P.underlying t = some (.slice e)) (hi : P.info? e = some i) (hz : i.zero = some z)
    (hsize : i.size = 1) (hby : i.bytes = bytes) (hzs : z.cells.size = 1)
    (v : Value) (n : Nat) (xs : List Value) (hs : a.eval s = v) (hown : w.ownsRow base e 1 v n xs)
    (B : Nat) (A : Option Addr) (m c : Nat) (news : List Value) (hx : a.eval x = .slice A m c) (hA : A = none → m = 0 ∧ c = 0) (hl : news.length = m) (hr : Reads w B A news) (h1 : ∀ u ∈ news, u.oneCell' = true)
    (h63 : n + m ≤ maxLen) (hbytes : (n + m) * bytes ≤ 140737488355328) (hbase : base ≤ w.heap.size)
    (h : ∀ v' w', w'.ownsRow base e 1 v' (n + m) (xs ++ news) → w.grownBy w' v.ownBlock → wpList P ops Q rest (a.put o.dst v') w') : wpList P ops Q (o :: rest) a w := by
  cases A with
  | none =>
    obtain ⟨rfl, rfl⟩ := hA rfl
    have hn : news = [] := List.eq_nil_of_length_eq_zero hl
    subst hn
    rw [List.append_nil] at h
    exact wpList_append_own_none hgd s x t ho base e i 1 ht hi v n xs hs hown hx (h v w hown (World.grownBy.refl w _))
  | some ad =>
    refine wpList_append_own w hgd s x t ho base e i z 1 bytes ht hi hz hsize hby hzs (by decide) v n xs hs hown ad m c news hx (by omega) (fun j u hu => ?_) h1 h63 hbytes hbase fun v' w' h2 h3 _ => h v' w' h2 h3
    obtain ⟨b, o', e', _, hc⟩ := hr (by rintro rfl; simp at hu)
    cases e'
    rw [add_at]
    exact hc j u hu
end
section
variable {ty : TypeId} {ps : String} {af : Array Edge} {g : Option (Nat × Bool)} {a : Act} {w : World} {K : Act → World → Prop} {Q : Exit → Act → World → Prop}
theorem wp_callBare {d s1 s2 : Nat} {ts : Array TypeId} {x y : Value} {R : Ending → World → Prop} (e1 : a.tmps.getD s1 undef = x) (e2 : a.tmps.getD s2 undef = y)
    (hc : Calls Tryd.prog 19 #[x, y] w R) (h : ∀ e w', R e w' → ∃ v, e = .returned v ∧ K (a.put (some d) v) w') :
    Oper.wp Tryd.prog { dst := some d, op := .call { callee := .value (.func 19), args := #[.tmp s1, .tmp s2], argTypes := ts }, type := ty, pos := ps, after := af, guard := g } a w K Q := by
  have e1' : a.eval (.tmp s1) = x := e1
  have e2' : a.eval (.tmp s2) = y := e2
  go_simp
  refine hc.mono ?_
  intro e w' hr
  obtain ⟨v, rfl, hk⟩ := h e w' hr
  exact hk
theorem wp_callGiven {d s1 : Nat} {ts : Array TypeId} {x : Value} {R : Ending → World → Prop} (e1 : a.tmps.getD s1 undef = x)
    (hc : Calls Tryd.prog 17 #[x] w R) (h : ∀ e w', R e w' → ∃ v, e = .returned v ∧ K (a.put (some d) v) w') :
    Oper.wp Tryd.prog { dst := some d, op := .call { callee := .value (.func 17), args := #[.tmp s1], argTypes := ts }, type := ty, pos := ps, after := af, guard := g } a w K Q := by
  have e1' : a.eval (.tmp s1) = x := e1
  go_simp
  refine hc.mono ?_
  intro e w' hr
  obtain ⟨v, rfl, hk⟩ := h e w' hr
  exact hk
end
theorem dec_wf (l : List UInt8) : Wf (dec l).2 := by
  have hz : Wf zeroF := ⟨rfl, fun x hx => by have := List.eq_of_mem_replicate hx; omega⟩
  unfold dec
  split
  · exact hz
  · split
    · exact hz
    · split
      · exact hz
      · split
        · exact hz
        · split
          · exact decTo_wf l _
          · exact hz
theorem bytes_one (l : List UInt8) : ∀ u ∈ bytes l, u.oneCell' = true := by
  intro u hu
  obtain ⟨x, _, rfl⟩ := List.mem_map.1 hu
  rfl
set_option maxHeartbeats 4000000 in
set_option maxRecDepth 100000 in
theorem decodes_long (A : Option Addr) (n c : Nat) (w : World) (h : 200 < n) :
    Calls Tryd.prog 7 #[.slice A n c] w fun e w' => e = .returned (.bool true) ∧ Below w.heap.size w w' := by
  go_enter Tryd.func7, Tryd.ntmps7
  go_wp2
  go_ret
  exact ⟨rfl, Below.refl _ _⟩
set_option maxHeartbeats 4000000 in
set_option maxRecDepth 100000 in
theorem decodes_in (A : Option Addr) (n c : Nat) (l : List UInt8) (w : World) (h : n ≤ 200) (hl : Hid (l.length = n)) (hc : n ≤ c) (hA : Hid (A = none → n = 0 ∧ c = 0)) (hr : Reads w w.heap.size A (bytes l)) (hg : Hid (EType w)) :
    Calls Tryd.prog 7 #[.slice A n c] w fun e w' => e = .returned (.bool true) ∧ Below w.heap.size w w' := by
  obtain ⟨i0, hi0, hz0, hz1, hz2⟩ := info_parts infoU8
  have HR := Lib.hid hr
  clear hr
  go_enter Tryd.func7, Tryd.ntmps7
  go_wp2_with (first
    | (go_at_call 21; refine (refSum_ok A n c l _ hl (by omega) HR.out).mono ?_; rintro e w9 ⟨rfl, rfl⟩)
    | (at_builtin; refine wpList_append_reads rfl (.tmp 16) (.tmp 17) 41 rfl w.heap.size 5 i0 (.int .u8 0) 1 Tryd.underlying41 hi0 hz0 hz1 hz2 rfl _ _ _ rfl (World.ownsRow_lit w #[] 0 (Nat.le_refl _) (Nat.zero_le _) rfl) w.heap.size A n c (bytes l) rfl hA.out ?c1 ?c2 (bytes_one l) ?c3 ?c4 ?c5 ?_))
  case c1 => rw [bytes_length, hl.out]
  case c2 => exact HR.out.alloc (Nat.le_refl _) _
  case c3 => unfold maxLen; omega
  case c4 => omega
  case c5 => simp
  intro v1 w1 hown1 hgrow1
  have hs32 := (Crc.sum l).isLt
  have hb1 : Below w.heap.size w w1 := ((Below.refl _ _).alloc (Nat.le_refl _) _).grown hgrow1 (by simp) (fun q hq => by simp [Value.ownBlock] at hq; omega)
  have HO1 : Hid (w1.ownsRow w.heap.size 5 1 v1 n (bytes l)) := Lib.hid (by simpa using hown1)
  clear hown1 hgrow1
  generalize hG : w.heap.size = g0 at *
  have HG := Lib.hid hG
  clear hG
  have hg1 : g0 ≤ w1.heap.size := by have := hb1.size; have := HG.out; omega
  go_wp2_with (at_builtin; refine wpList_append_own _ rfl _ _ 41 rfl g0 5 i0 (.int .u8 0) 1 1 Tryd.underlying41 hi0 hz0 hz1 hz2 rfl (by decide) _ n _ rfl (World.ownsRow.alloc HO1.out _) ⟨w1.heap.size, 0, none⟩ 4 4 (bytes (four (Crc.sum l))) rfl rfl ?d1 ?d2 ?d3 ?d4 ?d5 ?_)
  case d1 => rw [← four_vals]; exact cells_new _ _ _
  case d2 => intro u hu; simp [bytes, four] at hu; rcases hu with rfl | rfl | rfl | rfl <;> rfl
  case d3 => unfold maxLen; omega
  case d4 => omega
  case d5 => simp <;> omega
  intro v2 w2 hown2 hgrow2 _
  have hb2 : Below g0 w w2 := (hb1.alloc hg1 _).grown hgrow2 (by simp <;> omega) (fun q hq => (HO1.out.lt q hq).1)
  obtain ⟨A2, c2, rfl, hc2, hl2, hr2⟩ := own_reads hown2
  have e2 : bytes l ++ bytes (four (Crc.sum l)) = bytes (l ++ four (Crc.sum l)) := by simp [bytes]
  rw [e2] at hr2
  have HL2 : Hid ((l ++ four (Crc.sum l)).length = n + 4) := Lib.hid (by rw [List.length_append, hl.out]; rfl)
  have HR2 := Lib.hid hr2
  clear hown2 hgrow2 hr2 hl2 e2 HO1
  have hg2 : g0 ≤ w2.heap.size := by have := hb2.size; have := HG.out; omega
  generalize l ++ four (Crc.sum l) = l2 at *
  go_wp2_with fail
  have k3 := Has.new w2 41 #[.slice A n c, .slice A2 (n + 4) c2]
  have hb3 : Below g0 w (w2.alloc (.cells #[.slice A n c, .slice A2 (n + 4) c2] 41)) := hb2.alloc hg2 _
  have HR3 : Hid (Reads (w2.alloc (.cells #[.slice A n c, .slice A2 (n + 4) c2] 41)) w2.heap.size A2 (bytes l2)) := Lib.hid (HR2.out.alloc (Nat.le_refl _) _)
  have hg3 : w2.heap.size < (w2.alloc (.cells #[.slice A n c, .slice A2 (n + 4) c2] 41)).heap.size := by simp
  generalize w2.alloc (.cells #[.slice A n c, .slice A2 (n + 4) c2] 41) = w3 at *
  have HR1 : Hid (Reads w3 g0 A (bytes l)) := Lib.hid (HR.out.below hb3)
  have hg0 : Hid (EType w3) := Lib.hid (hg.out.after (HG.out ▸ hb3))
  clear hb2 HR2 HR hg hb1 hg1
  generalize w2.heap.size = g5 at *
  go_loopw [34] (fun i wr => ∃ k : Nat, k ≤ 2 ∧ i = I k ∧ Below w3.heap.size w3 wr) (fun i _ => 2 - (intOf i).toNat)
  case atStart => exact ⟨0, by omega, rfl, Below.refl _ _⟩
  case round =>
    obtain ⟨k, hk, rfl, hbr⟩ := hrel
    by_cases hlt : k < 2
    · obtain ⟨A', n', c', l', hcell, hl', hc', hR'⟩ : ∃ A' n' c' l', wr.cell? ⟨g5, k, none⟩ = some (.slice A' n' c') ∧ Hid (List.length l' = n') ∧ n' ≤ c' ∧ Hid (Reads wr wr.heap.size A' (bytes l')) := by
        have kr := k3.below hbr hg3
        have hz := hbr.size
        have : k = 0 ∨ k = 1 := by omega
        rcases this with rfl | rfl
        · exact ⟨A, n, c, l, kr.cellv 0 _ rfl, hl, hc, Lib.hid (((HR1.out.more (by omega)).below hbr).more hz)⟩
        · exact ⟨A2, n + 4, c2, l2, kr.cellv 1 _ rfl, HL2, hc2, Lib.hid (((HR3.out.more (Nat.le_of_lt hg3)).below hbr).more hz)⟩
      have hgr : Hid (EType wr) := Lib.hid (hg0.out.after hbr)
      have hbw := hb3.trans (hbr.mono (by omega))
      clear k3 HR1 HR3 hg0
      obtain ⟨e, f, hef⟩ : ∃ e f, dec l' = (e, f) := ⟨_, _, rfl⟩
      have hwf : Wf f := by have := dec_wf l'; rw [hef] at this; exact this
      have HD := Lib.hid hef
      have HW := Lib.hid hwf
      clear hef hwf
      have hs4 : Hid ((Tryd.prog.info? 45).map (·.size) = some (frC f).size) := Lib.hid (refSize _ HW.out.1)
      have hs6 : Hid ((Tryd.prog.info? 40).map (·.size) = some (frC f).size) := Lib.hid (by rw [frC_size _ HW.out.1]; exact infoFrame)
      have hs5 : Hid ((frC zeroF).size = (frC f).size) := Lib.hid (by rw [frC_size _ HW.out.1]; rfl)
      go_upto_region 8 with (first
        | (go_at_call 25; refine (refDecode_ok A' n' c' l' _ hl'.out hc' hR'.out).mono ?_; rintro q w6 ⟨rfl, hb6⟩; rw [HD.out]
           have k6 : Has (w6.alloc (.cells #[I 0, I 0, I 0, I 0, I 0, I 0, I 0, I 0, I 0, I 0, I 0, I 0, I 0, I 0, I 0, I 0, I 0, I 0, I 0, I 0, I 0, I 0, I 0] 45)) w6.heap.size 45 (frC zeroF) := by rw [zeroFrameR]; exact Has.new _ _ _)
        | (refine wpList_store_row rfl 45 (.tmp 6) _ rfl w6.heap.size (frC f) rfl rfl 45 _ k6 hs4.out hs5.out (frC_one _) ?_))
      have ka := k6.setRow (frC f)
      have hbw6 : Below wr.heap.size wr ((w6.alloc (.cells #[I 0, I 0, I 0, I 0, I 0, I 0, I 0, I 0, I 0, I 0, I 0, I 0, I 0, I 0, I 0, I 0, I 0, I 0, I 0, I 0, I 0, I 0, I 0] 45)).setRow w6.heap.size (frC f)) := below_setRow (hb6.alloc hb6.size _) hb6.size (frC f)
      have hR6 : Hid (Reads ((w6.alloc (.cells #[I 0, I 0, I 0, I 0, I 0, I 0, I 0, I 0, I 0, I 0, I 0, I 0, I 0, I 0, I 0, I 0, I 0, I 0, I 0, I 0, I 0, I 0, I 0] 45)).setRow w6.heap.size (frC f)) ((w6.alloc (.cells #[I 0, I 0, I 0, I 0, I 0, I 0, I 0, I 0, I 0, I 0, I 0, I 0, I 0, I 0, I 0, I 0, I 0, I 0, I 0, I 0, I 0, I 0, I 0] 45)).setRow w6.heap.size (frC f)).heap.size A' (bytes l')) := Lib.hid ((hR'.out.below hbw6).more hbw6.size)
      clear k6 hb6 hR'
      generalize (w6.alloc (.cells #[I 0, I 0, I 0, I 0, I 0, I 0, I 0, I 0, I 0, I 0, I 0, I 0, I 0, I 0, I 0, I 0, I 0, I 0, I 0, I 0, I 0, I 0, I 0] 45)).setRow w6.heap.size (frC f) = w7 at *
      generalize w6.heap.size = g6 at *
      go_upto_region 9 with (first
        | (go_at_call 23; refine (decode_ok A' n' c' l' _ hl'.out hc' hR6.out).mono ?_; rintro q w8 ⟨rfl, hb8⟩; rw [HD.out]
           have k8 : Has (w8.alloc (.cells #[I 0, I 0, I 0, I 0, I 0, I 0, I 0, I 0, I 0, I 0, I 0, I 0, I 0, I 0, I 0, I 0, I 0, I 0, I 0, I 0, I 0, I 0, I 0] 40)) w8.heap.size 40 (frC zeroF) := by rw [zeroFrame]; exact Has.new _ _ _)
        | (refine wpList_store_row rfl 40 (.tmp 8) _ rfl w8.heap.size (frC f) rfl rfl 40 _ k8 hs6.out hs5.out (frC_one _) ?_))
      have kb := k8.setRow (frC f)
      have hbw8 : Below w7.heap.size w7 ((w8.alloc (.cells #[I 0, I 0, I 0, I 0, I 0, I 0, I 0, I 0, I 0, I 0, I 0, I 0, I 0, I 0, I 0, I 0, I 0, I 0, I 0, I 0, I 0, I 0, I 0] 40)).setRow w8.heap.size (frC f)) := below_setRow (hb8.alloc hb8.size _) hb8.size (frC f)
      have ka8 := ka.after hbw8
      have hb9 : Below wr.heap.size wr ((w8.alloc (.cells #[I 0, I 0, I 0, I 0, I 0, I 0, I 0, I 0, I 0, I 0, I 0, I 0, I 0, I 0, I 0, I 0, I 0, I 0, I 0, I 0, I 0, I 0, I 0] 40)).setRow w8.heap.size (frC f)) := hbw6.trans (hbw8.mono hbw6.size)
      have hg9 : Hid (EType ((w8.alloc (.cells #[I 0, I 0, I 0, I 0, I 0, I 0, I 0, I 0, I 0, I 0, I 0, I 0, I 0, I 0, I 0, I 0, I 0, I 0, I 0, I 0, I 0, I 0, I 0] 40)).setRow w8.heap.size (frC f))) := Lib.hid (hgr.out.after hb9)
      clear k8 hb8 hR6 hbw8 ka hbw6
      generalize (w8.alloc (.cells #[I 0, I 0, I 0, I 0, I 0, I 0, I 0, I 0, I 0, I 0, I 0, I 0, I 0, I 0, I 0, I 0, I 0, I 0, I 0, I 0, I 0, I 0, I 0] 40)).setRow w8.heap.size (frC f) = w9 at *
      generalize w8.heap.size = g8 at *
      generalize hev : errV e = ev at *
      have HEV : Hid (errOf e = ev) := Lib.hid hev
      clear hev
      go_cut [57] (fun s57 wx => s57 = .bool false ∧ Below w9.heap.size w9 wx)
      case first =>
        rename_i J0 K0 hJ0 hK0
        have HK := Lib.hid hK0
        refine region_tabF (by kernel_rfl) (fun b0 => b0.tmps.getD 9 undef = ev ∧ b0.tmps.getD 7 undef = I e ∧ b0.tmps.getD 8 undef = .pointer (some ⟨g8, 0, none⟩) ∧ b0.tmps.getD 6 undef = .pointer (some ⟨g6, 0, none⟩)) ⟨rfl, rfl, rfl, rfl⟩ 59 rfl
          (fun i => ([ev, I e, .bool true, .bool false, .bool false, .agg (frC f), .agg (frC f), .agg (frC f), .bool false, .bool false] : List Value).getD i undef)
          (fun _ wx => Below w9.heap.size w9 wx) [48, 49, 50, 51, 52, 53, 54, 55, 56, 57] (by kernel_rfl) (by kernel_rfl) ((Below.refl _ _).drew) ?_ ?_
        · intro b0 hb0 i o ho
          have hi : i < 10 := (Array.getElem?_eq_some_iff.1 ho).1
          obtain ⟨f9, f7, f8, f6⟩ := hb0
          have hcase : i = 0 ∨ i = 1 ∨ i = 2 ∨ i = 3 ∨ i = 4 ∨ i = 5 ∨ i = 6 ∨ i = 7 ∨ i = 8 ∨ i = 9 := by omega
          rcases hcase with rfl | rfl | rfl | rfl | rfl | rfl | rfl | rfl | rfl | rfl
          · cases ho
            exact does_quiet rfl (fun li w _ h => h) (fun li a w hF hed hK hW K hk => wp_move_at rfl (by rw [hF.slot (by decide)]; exact f9) hk)
          · cases ho
            exact does_quiet rfl (fun li w _ h => h) (fun li a w hF hed hK hW K hk => wp_move_at rfl (by rw [hF.slot (by decide)]; exact f7) hk)
          · cases ho
            refine does_turn rfl (fun li a w hs hn hF hed hK hW K hk => ?_)
            refine wp_callBare (hK 0 _ rfl (hed ⟨0, .data⟩ (by simp) rfl) 48 rfl) (hK 1 _ rfl (hed ⟨1, .data⟩ (by simp) rfl) 49 rfl) (x := ev) (y := I e) (HEV.out ▸ bare_ok e e w (Lib.hid (hg9.out.after hW))) ?_
            rintro r w' ⟨rfl, hb⟩
            exact ⟨_, rfl, by rw [show (e == e) = true by simp]; exact hk _ (hW.trans (hb.mono hW.size))⟩
          · cases ho
            exact does_quiet rfl (fun li w _ h => h) (fun li a w hF hed hK hW K hk => wp_not_at (b := true) (hK 2 _ rfl (hed ⟨2, .data⟩ (by simp) rfl) 50 rfl) hk)
          · cases ho
            exact does_quiet rfl (fun li w _ h => h) (fun li a w hF hed hK hW K hk => wp_move_at rfl (hK 3 _ rfl (hed ⟨3, .data⟩ (by simp) rfl) 51 rfl) hk)
          · cases ho
            exact does_w (fun li a hed hK => wanted_at rfl rfl rfl (hK 4 _ rfl (hed ⟨4, .guard⟩ (by simp) rfl) 52 rfl)) (fun li a w hs hn hF hed hK hW K hk =>
              wp_load_row 40 (.tmp 8) rfl g8 (by show a.tmps.getD 8 undef = _; rw [hF.slot (by decide)]; exact f8) 40 (frC f) (0, 0) _ (kb.after hW) Tryd.underlying40 rfl hs6.out (hk _ hW))
          · cases ho
            refine does_w (fun li a hed hK => wanted_at rfl rfl rfl (hK 4 _ rfl (hed ⟨4, .guard⟩ (by simp) rfl) 52 rfl)) (fun li a w hs hn hF hed hK hW K hk => ?_)
            refine wp_callGiven (hK 5 _ rfl (hed ⟨5, .data⟩ (by simp) rfl) 53 rfl) (given_ok f HW.out w) ?_
            rintro r w' ⟨rfl, hb⟩
            exact ⟨_, rfl, hk _ (hW.trans (hb.mono hW.size))⟩
          · cases ho
            exact does_w (fun li a hed hK => wanted_at rfl rfl rfl (hK 4 _ rfl (hed ⟨4, .guard⟩ (by simp) rfl) 52 rfl)) (fun li a w hs hn hF hed hK hW K hk =>
              wp_load_row 45 (.tmp 6) rfl g6 (by show a.tmps.getD 6 undef = _; rw [hF.slot (by decide)]; exact f6) 45 (frC f) (0, 0) _ (ka8.after hW) Tryd.underlying45 rfl hs4.out (hk _ hW))
          · cases ho
            exact does_w (fun li a hed hK => wanted_at rfl rfl rfl (hK 4 _ rfl (hed ⟨4, .guard⟩ (by simp) rfl) 52 rfl)) (fun li a w hs hn hF hed hK hW K hk =>
              wp_neq_row 45 45 5 (frC f) (frC f) (List.replicate 23 (some .i64)) (.tmp 54) (.tmp 55) rfl (hK 6 _ rfl (hed ⟨6, .data⟩ (by simp) rfl) 54 rfl) (hK 7 _ rfl (hed ⟨7, .data⟩ (by simp) rfl) 55 rfl) (by decide) (by kernel_rfl) sigRef (by kernel_rfl) (by kernel_rfl) (by kernel_rfl) (fit_frame HW.out) (fit_frame HW.out) true (by simp) (hk _ hW))
          · cases ho
            exact does_quiet rfl (fun li w _ h => h) (fun li a w hF hed hK hW K hk => wp_pick_no (hK 4 _ rfl (hed ⟨4, .data⟩ (by simp) rfl) 52 rfl) (hK 8 _ rfl (hed ⟨8, .data⟩ (by simp) rfl) 56 rfl) hk)
        · intro li a w' hF hK hall hW
          have e57 := hK 9 _ rfl (hall 9 (by decide)) 57 rfl
          have hM := hF.meet
          simp only [List.foldl_cons, List.foldl_nil, List.setIfInBounds_toArray, List.set_cons_succ, List.set_cons_zero, e57] at hM
          refine HK.out _ _ (Met.intro (hJ0 _ _ ?_))
          (repeat apply Exists.intro)
          exact ⟨⟨rfl, hW⟩, hM⟩
      case rest =>
        obtain ⟨rfl, hbc⟩ := hcut
        go_wp2_with fail
        go_roundw
        case rel => exact ⟨k + 1, by omega, by go_num, (hbr.trans (hb9.mono hbr.size)).trans (hbc.mono (Nat.le_trans hbr.size hb9.size))⟩
        case measure => simp [intOf]; omega
    · have hk2 : k = 2 := by omega
      subst hk2
      go_wp2
      go_ret
      exact ⟨rfl, HG.out ▸ hb3.trans (hbr.mono (by omega))⟩
end Go.Proofs.YtdhekhlmdefcnaaDoor
