/- Part 40 of the proof: Mb2, Mb3, Mb4, Mb5, Mb6, Mb7, Mb8, Mb9, Mb10, Mb11. -/
import Derived.Test.YtdhekhlmdefcnaaGreatDoorPart11
import Derived.Test.YtdhekhlmdefcnaaGreatDoorPart39
import Derived.Conc.AppendEvents3
import Derived.Laws.IdiomStrings
import Derived.Conc.Pipeline3
namespace Go.Mx
open Go Go.Conc Go.Pr
open Go.RowKit Go.Conc.Lib Go.ConcR.Gen Go.ConcN.Gen Go.Proofs
open Go.ConcN (WgLive sumTo)
open Go.ConcR (KK WgAt stA smA rd wr mk DC0)
open Go.Proofs.YtdhekhlmdefcnaaGreatDoor (xsT xsA pk okA pk_in)
structure LCon (ρ : Rn) (wL : World) : Prop where
 ok : ∀ f, 5 ≤ f → f ≤ 9 → f ≠ 6 → ρ.ok f
 talks : ∀ T, Calls Tryz.prog 5 #[] (on wL T) fun e _ => ∃ u, e = .returned u ∧ u = .bool true
 pick : ∀ (a n : Int), 0 < n → n ≤ 4611686018427387904 → ∀ T, Calls Tryz.prog 7 #[.int .i64 a, .int .i64 n] (on wL T) fun e _ => ∃ u, e = .returned u ∧ u = .int .i64 (pk a n)
 tell : ∀ T, Calls Tryz.prog 9 #[.iface 31 (.int .i64 4)] (on wL T) fun e _ => ∃ u, e = .returned u ∧ u = .int .i64 4
 xs : ∀ n, n ≤ 30000 → ∀ T, Calls Tryz.prog 8 #[.string (xsT n)] (on wL T) fun e _ => ∃ u, e = .returned u ∧ u = .string (xsA n)
theorem vr_bool (b : Bool) (σ : Rn) (u : Value) (h : VR σ (.bool b) u) : u = .bool b := by cases h; rfl
theorem vr_int (k : IntKind) (n : Int) (σ : Rn) (u : Value) (h : VR σ (.int k n) u) : u = .int k n := by cases h; rfl
theorem vr_string (s : ByteArray) (σ : Rn) (u : Value) (h : VR σ (.string s) u) : u = .string s := by cases h; rfl
structure FF (S : Nat → Prop) (ρ : Rn) (wL W : World) (w : World) : Prop where
 low : Low S ρ wL w
 kept : Kept W w
section
variable {S : Nat → Prop} {L : CS → Prop} {cs : List Frame} {ρ : Rn} {wL W w w1 : World}
theorem FF.next (h : FF S ρ wL W w) (k : Kept w w1) : FF S ρ wL W w1 := ⟨h.low.kept k, h.kept.trans k⟩
theorem ff_rely (h : FF S ρ wL W w) (r : AtR w w1) : FF S ρ wL W w1 := h.next (Kept.at r)
theorem callF (hL : ∀ s d, L s → L { s with w := s.w.at d }) (h : FF S ρ wL W w) {b : Frame} {a : Act} {ops : Array Oper} {i : Nat} {rest : List Nat} {k : List Item} {o : Oper} {f : FuncId} {fn : Func} {args : Array Operand} {ats : Array TypeId} {c : Code} {t : Tmp} {xs : Array Value} {v : Value}
  (ho : ops[i]? = some o) (hw : Region.wanted o (yielded ops a.tmps) = true) (hk : b.kind ≠ .early) (hop : o.op = .call { callee := .value (.func f), args, argTypes := ats }) (hf : Tryz.prog.funcs[f]? = some fn) (hname : (fn.name == "runtime.NumGoroutine") = false) (hb : fn.body = some c) (hx : args.map a.eval = xs)
  (hr : fn.results = #[.tmp t]) (hok : ρ.ok f) (hxx : AR ρ xs xs) (hv : ∀ (σ : Rn) (u : Value), VR σ v u → u = v) (hc : ∀ T, Calls Tryz.prog f xs (on wL T) fun e _ => ∃ u, e = .returned u ∧ u = v)
  (hend : ∀ w1, Kept w w1 → FF S ρ wL W w1 → EBF S L (Conc.G (b.at (a.put o.dst v) (.inRegion ops rest :: k)) cs) w1) : EBF S L (Conc.G (b.at a (.inRegion ops (i :: rest) :: k)) cs) w := by
 refine EBF.step1 rfl fun w1 h1 => ?_
 have hF := ff_rely h h1
 rw [stepG_callE ho hw hk hop hf hname hb hx]
 refine ⟨by intro e he; simp at he, Nat.le_refl _, ?_⟩
 show EBF S L (gr (Frame.enter Tryz.prog f xs .normal) (b.at a (.inRegion ops (i :: rest) :: k) :: cs)) w1
 refine callC hL hF.low hf hr hok hxx hv hc fun w2 h2 => ?_
 show EBF S L (Conc.G ((b.at a (.inRegion ops (i :: rest) :: k)).finish v) cs) w2
 rw [Frame.finish_at, ho]
 exact hend w2 ((Kept.at h1).trans h2) (hF.next h2)
end
theorem array83 (T : Array Value) (h : T.size = 83) : ∃ v0 v1 v2 v3 v4 v5 v6 v7 v8 v9 v10 v11 v12 v13 v14 v15 v16 v17 v18 v19 v20 v21 v22 v23 v24 v25 v26 v27 v28 v29 v30 v31 v32 v33 v34 v35 v36 v37 v38 v39 v40 v41 v42 v43 v44 v45 v46 v47 v48 v49 v50 v51 v52 v53 v54 v55 v56 v57 v58 v59 v60 v61 v62 v63 v64 v65 v66 v67 v68 v69 v70 v71 v72 v73 v74 v75 v76 v77 v78 v79 v80 v81 v82 : Value, T = #[v0, v1, v2, v3, v4, v5, v6, v7, v8, v9, v10, v11, v12, v13, v14, v15, v16, v17, v18, v19, v20, v21, v22, v23, v24, v25, v26, v27, v28, v29, v30, v31, v32, v33, v34, v35, v36, v37, v38, v39, v40, v41, v42, v43, v44, v45, v46, v47, v48, v49, v50, v51, v52, v53, v54, v55, v56, v57, v58, v59, v60, v61, v62, v63, v64, v65, v66, v67, v68, v69, v70, v71, v72, v73, v74, v75, v76, v77, v78, v79, v80, v81, v82] := by
 obtain ⟨l⟩ := T
 match l, h with
 | v0 :: v1 :: v2 :: v3 :: v4 :: v5 :: v6 :: v7 :: v8 :: v9 :: v10 :: v11 :: v12 :: v13 :: v14 :: v15 :: v16 :: v17 :: v18 :: v19 :: v20 :: v21 :: v22 :: v23 :: v24 :: v25 :: v26 :: v27 :: v28 :: v29 :: v30 :: v31 :: v32 :: v33 :: v34 :: v35 :: v36 :: v37 :: v38 :: v39 :: v40 :: v41 :: v42 :: v43 :: v44 :: v45 :: v46 :: v47 :: v48 :: v49 :: v50 :: v51 :: v52 :: v53 :: v54 :: v55 :: v56 :: v57 :: v58 :: v59 :: v60 :: v61 :: v62 :: v63 :: v64 :: v65 :: v66 :: v67 :: v68 :: v69 :: v70 :: v71 :: v72 :: v73 :: v74 :: v75 :: v76 :: v77 :: v78 :: v79 :: v80 :: v81 :: v82 :: [], _ => exact ⟨v0, v1, v2, v3, v4, v5, v6, v7, v8, v9, v10, v11, v12, v13, v14, v15, v16, v17, v18, v19, v20, v21, v22, v23, v24, v25, v26, v27, v28, v29, v30, v31, v32, v33, v34, v35, v36, v37, v38, v39, v40, v41, v42, v43, v44, v45, v46, v47, v48, v49, v50, v51, v52, v53, v54, v55, v56, v57, v58, v59, v60, v61, v62, v63, v64, v65, v66, v67, v68, v69, v70, v71, v72, v73, v74, v75, v76, v77, v78, v79, v80, v81, v82, rfl⟩
theorem nm5 : (Tryz.f5.name == "runtime.NumGoroutine") = false := by kernel_rfl
theorem nm7 : (Tryz.f7.name == "runtime.NumGoroutine") = false := by kernel_rfl
theorem nm9 : (Tryz.f9.name == "runtime.NumGoroutine") = false := by kernel_rfl
theorem nm6 : (Tryz.f6.name == "runtime.NumGoroutine") = false := by kernel_rfl
noncomputable def body4 : Code := Tryz.f4.body.getD .skip
noncomputable def r4 : Code := sndC (sndC (sndC (sndC body4)))
noncomputable def c5 : Code := sndC r4
noncomputable def o5 : Array Oper := opsC (fstC r4)
section
variable {S : Nat → Prop} {L : CS → Prop} {ρ : Rn} {wL W : World}
set_option maxRecDepth 100000 in
set_option maxHeartbeats 8000000 in
theorem lim1 (hL : ∀ s d, L s → L { s with w := s.w.at d }) (hcon : LCon ρ wL) (a0 a1 a2 : Int) (m1 m2 : Nat) (hm1 : pk a0 55 = (m1 : Int)) (hm2 : pk a2 30000 = (m2 : Int)) (hb1 : m1 < 55) (hF : FF S ρ wL W W)
  (hend : ∀ (T : Array Value) (w1 : World) (bl : Nat), T.size = 83 → T[0]? = some (.int .i64 m1) → T[1]? = some (.int .i64 a1) → T[2]? = some (.int .i64 m2) → T[23]? = some (.slice (some ⟨bl, 0, none⟩) m1 m1) → T[24]? = some (.int .i64 a1) → W.heap.size ≤ bl → FF S ρ wL W w1 → w1.heap[bl]? = some (.cells (Array.replicate m1 (.string ⟨#[]⟩)) 9 (0, 0)) →
   EBF S L (Conc.G ((base 4).at ⟨T, []⟩ [.inRegion o5 [2, 3, 4, 5, 6, 7], .code c5]) []) w1) :
  EBF S L (Conc.G (Frame.enter Tryz.prog 4 #[.int .i64 a0, .int .i64 a1, .int .i64 a2] .normal) []) W := by
 rw [enter_at (c := body4) _ Tryz.func4 rfl]
 have hlx : ∀ {cc}, c5 = cc → cc = c5 := fun h => h.symm
 refine EBF.walk (n := 40) hL ?_
 simp only [body4, Tryz.f4, Option.getD_some]
 generalize hrr : (Code.seq (Code.seq (Code.region 6 _ false) _) _) = rr
 walk_nrm
 u_c stepG_seq ff_rely hF
 u_reg ff_rely hF
 u_op ff_rely hF
 u_c stepG_region_end ff_rely hF
 u_c stepG_seq ff_rely hF
 u_c stepG_seq ff_rely hF
 u_reg ff_rely hF
 refine Goes.stop (fun w1 h1 _ => ?_)
 replace hF := ff_rely hF h1
 clear h1
 refine callF hL hF (xs := #[]) (v := (.bool true)) rfl rfl (by k_ne) rfl Tryz.func5 nm5 rfl (by simp [Act.eval]) rfl (hcon.ok 5 (by decide) (by decide) (by decide)) .nil (vr_bool _) (hcon.talks) (fun w2 hk hF2 => ?_)
 replace hF := hF2
 clear hF2 hk
 refine EBF.walk (n := 40) hL ?_
 try walk_nrm
 u_op ff_rely hF
 u_c stepG_region_end ff_rely hF
 u_cond false ff_rely hF
 u_c stepG_skip ff_rely hF
 u_c stepG_seq ff_rely hF
 u_reg ff_rely hF
 u_op ff_rely hF
 refine Goes.stop (fun w1 h1 _ => ?_)
 replace hF := ff_rely hF h1
 clear h1
 refine callF hL hF (xs := #[.int .i64 a0, .int .i64 55]) (v := (.int .i64 (pk a0 55))) rfl rfl (by k_ne) rfl Tryz.func7 nm7 rfl (by simp [Act.eval]) rfl (hcon.ok 7 (by decide) (by decide) (by decide)) (.cons (.int _ _) (.cons (.int _ _) .nil)) (vr_int _ _) (hcon.pick a0 55 (by decide) (by decide)) (fun w2 hk hF2 => ?_)
 replace hF := hF2
 clear hF2 hk
 refine EBF.walk (n := 40) hL ?_
 try walk_nrm
 u_op ff_rely hF
 refine Goes.stop (fun w1 h1 _ => ?_)
 replace hF := ff_rely hF h1
 clear h1
 refine callF hL hF (xs := #[.int .i64 a2, .int .i64 30000]) (v := (.int .i64 (pk a2 30000))) rfl rfl (by k_ne) rfl Tryz.func7 nm7 rfl (by simp [Act.eval]) rfl (hcon.ok 7 (by decide) (by decide) (by decide)) (.cons (.int _ _) (.cons (.int _ _) .nil)) (vr_int _ _) (hcon.pick a2 30000 (by decide) (by decide)) (fun w2 hk hF2 => ?_)
 replace hF := hF2
 clear hF2 hk
 refine EBF.walk (n := 40) hL ?_
 try walk_nrm
 try simp only [hm1, hm2]
 u_op ff_rely hF
 u_op ff_rely hF
 u_c stepG_region_end ff_rely hF
 u_c stepG_seq ff_rely hF
 u_reg ff_rely hF
 u_op ff_rely hF
 refine Goes.stop (fun w1 h1 _ => ?_)
 replace hF := ff_rely hF h1
 clear h1
 refine EBF.step1 rfl (fun w2 h2 => ?_)
 replace hF := ff_rely hF h2
 clear h2
 refine goes_oper_k rfl rfl (by k_ne) (fun Kx hKx => ?_)
 have hmk := make_run w2 m1 (by omega)
 have hmv := make_ev w2 m1 (by omega)
 go_simp
 refine hKx _ _ ⟨fun e he => ?_, by simp, ?_⟩
 ·have hm := mem_listed he
  clear hKx
  simp [go_sem, hmv] at hm
 clear hKx Kx hmk hmv
 have hbl := hF.kept.size
 have hrow : (w2.alloc (.cells (Array.replicate m1 (.string ⟨#[]⟩)) 9)).heap[w2.heap.size]? = some (.cells (Array.replicate m1 (.string ⟨#[]⟩)) 9 (0, 0)) := by
  show (w2.heap.push _)[w2.heap.size]? = _
  simp
 replace hF := hF.next (Kept.alloc w2 (.cells (Array.replicate m1 (.string ⟨#[]⟩)) 9))
 generalize w2.alloc (.cells (Array.replicate m1 (.string ⟨#[]⟩)) 9) = w3 at hF hrow ⊢
 generalize w2.heap.size = bl at hrow hbl ⊢
 refine EBF.walk (n := 40) hL ?_
 try walk_nrm
 u_op ff_rely hF
 u_c stepG_region_end ff_rely hF
 u_c stepG_seq ff_rely hF
 u_reg ff_rely hF
 u_op ff_rely hF
 u_op ff_rely hF
 refine Goes.stop (fun w4 h4 h5 => ?_)
 subst hrr
 refine hend _ w4 bl ?_ ?_ ?_ ?_ ?_ ?_ hbl (ff_rely hF h4) ((Kept.at h5).heap hrow)
 all_goals simp
end
end Go.Mx
namespace Go.Mx
open Go Go.Conc Go.Pr
open Go.RowKit Go.Conc.Lib Go.ConcR.Gen Go.ConcN.Gen Go.Proofs
open Go.ConcN (WgLive sumTo)
open Go.ConcR (KK WgAt stA smA rd wr mk DC0)
open Go.Proofs.YtdhekhlmdefcnaaGreatDoor (xsT xsA pk okA pk_in)
theorem i5 : (Tryz.prog.info? 5).map (fun i => (i.zero, i.bytes, i.size)) = some (some (.int .u8 0), 1, 1) := by kernel_rfl
theorem make_runB (w : World) (n : Nat) (hn : n ≤ 30000) : (Instr.makeSlice 33 (.int .i64 n) (.int .i64 n)).run Tryz.prog w = .ok (.slice (some ⟨w.heap.size, 0, none⟩) n n) (w.alloc (.cells (Array.replicate n (.int .u8 0)) 5)) := by
 obtain ⟨i, hi, e⟩ := Option.map_eq_some_iff.1 i5
 simp only [Prod.mk.injEq] at e
 obtain ⟨hz, hb, hs⟩ := e
 have h := run_makeSlice (P := Tryz.prog) w 33 5 i (.int .u8 0) Tryz.underlying33 hi hz .i64 .i64 n n (by omega) (Int.le_refl _) (by rw [hs]; omega) (by rw [hb]; omega) (by omega)
 have e : madeCells (Value.int .u8 0).cells n = Array.replicate n (.int .u8 0) := by
  apply Array.ext
  ·simp [size_madeCells]
  ·intro j h1 h2
   simp [madeCells, Value.cells, Nat.mod_one]
 rw [h]
 simp only [Int.toNat_natCast, hs, Nat.mul_one, e]
theorem make_evB (w : World) (n : Nat) (hn : n ≤ 30000) (es : Array Event) : (Instr.makeSlice 33 (.int .i64 n) (.int .i64 n)).events Tryz.prog w es = es := by
 obtain ⟨i, hi, e⟩ := Option.map_eq_some_iff.1 i5
 simp only [Prod.mk.injEq] at e
 obtain ⟨hz, hb, hs⟩ := e
 exact Go.Conc.events_make (P := Tryz.prog) w 33 5 i (.int .u8 0) Tryz.underlying33 hi hz .i64 .i64 n n (by omega) (Int.le_refl _) (by rw [hb]; omega) (by omega) (by rw [hb]; omega) es
theorem loads_ev {P : Program} (a : Addr) : ∀ (n i : Nat) (acc : Array Value) (w : World) (es : Array Event), (∀ j, j < n → (w.cell? (a.add (i + j))).isSome) →
  ∀ ev ∈ (loadCellsFrom a i n acc).events P w es, ev ∈ es ∨ ∃ b : Addr, ev = ⟨.cell b, false, false⟩ ∧ b.block = a.block
 | 0, _, _, _, _, _ => fun ev h => .inl (by simpa [loadCellsFrom] using h)
 | n + 1, i, acc, w, es, hc => fun ev h => by
  simp only [loadCellsFrom, Sem.events_bind] at h
  obtain ⟨u, hu⟩ := Option.isSome_iff_exists.1 (hc 0 (by omega))
  simp only [Nat.add_zero] at hu
  have hr : (load (a.add i)).run P w = .ok u w := by simp [hu]
  rw [hr] at h
  rcases loads_ev a n (i + 1) (acc.push u) w _ (fun j hj => by have := hc (j + 1) (by omega); rwa [show i + (j + 1) = i + 1 + j by omega] at this) ev h with h | h
  ·rw [events_load, hu] at h
   rcases Array.mem_push.1 h with h | rfl
   ·exact .inl h
   ·exact .inr ⟨_, rfl, Pr.add_block _ _⟩
  ·exact .inr h
def rowX (n i : Nat) : Array Value := (List.replicate i (Value.int .u8 120) ++ List.replicate (n - i) (Value.int .u8 0)).toArray
theorem rowX_zero (n : Nat) : Array.replicate n (Value.int .u8 0) = rowX n 0 := by simp [rowX]
theorem rowX_set (n i : Nat) (h : i < n) : (rowX n i).setIfInBounds i (.int .u8 120) = rowX n (i + 1) := by
 obtain ⟨k, rfl⟩ : ∃ k, n = i + 1 + k := ⟨n - (i + 1), by omega⟩
 unfold rowX
 rw [show i + 1 + k - i = k + 1 by omega, show i + 1 + k - (i + 1) = k by omega, List.replicate_succ, List.setIfInBounds_toArray]
 congr 1
 rw [List.set_append_right _ _ (by simp)]
 simp [List.replicate_succ', List.append_assoc]
theorem rowX_get (n i j : Nat) (h : j < n) (hi : i ≤ n) : ∃ v, (rowX n i)[j]? = some v := by
 have : j < (rowX n i).size := by simp [rowX]; omega
 exact ⟨_, Array.getElem?_eq_getElem this⟩
theorem rowX_all (n j : Nat) (h : j < n) : (rowX n n)[j]? = some (.int .u8 120) := by
 simp [rowX, h]
theorem conv_run (w : World) (n bb : Nat) (h : w.heap[bb]? = some (.cells (rowX n n) 5 (0, 0))) : (convert 33 9 (.slice (some ⟨bb, 0, none⟩) n n)).run Tryz.prog w = .ok (.string (xsT n)) w := by
 have := run_convert_bytes_back (P := Tryz.prog) w 33 9 5 ⟨bb, 0, none⟩ n (List.replicate n (120 : UInt8)) Tryz.underlying33 Tryz.underlying5 Tryz.underlying9 (fun j hj => by
  have hj' : j < n := by simpa using hj
  have e : (Addr.add ⟨bb, 0, none⟩ j) = ⟨bb, j, none⟩ := by simp [Addr.add]; omega
  rw [e]
  unfold World.cell?
  rw [h]
  have := rowX_all n j hj'
  simpa using this)
 rw [List.length_replicate] at this
 exact this
theorem forIn_ev {P : Program} {w : World} (f : Value → ByteArray → Sem (ForInStep ByteArray))
  (hf : ∀ (n : Int) (r : ByteArray), (f (.int .u8 n) r).run P w = .ok (.yield (r.push (UInt8.ofNat n.toNat))) w) (he : ∀ (n : Int) (r : ByteArray) (es : Array Event), (f (.int .u8 n) r).events P w es = es) :
  ∀ (ns : List Int) (s : ByteArray) (es : Array Event), (forIn (ns.map (Value.int .u8)) s f).events P w es = es := by
 intro ns
 induction ns with
 | nil => intro s es; simp
 | cons n ns ih =>
  intro s es
  simp only [List.map_cons, List.forIn_cons, Sem.events_bind, hf, he]
  exact ih _ es
theorem conv_ev (w : World) (n bb : Nat) (h : w.heap[bb]? = some (.cells (rowX n n) 5 (0, 0))) : ∀ e ∈ (convert 33 9 (.slice (some ⟨bb, 0, none⟩) n n)).events Tryz.prog w #[], ∃ a : Addr, e = ⟨.cell a, false, false⟩ ∧ a.block = bb := by
 have hc : ∀ j, j < n → w.cell? (Addr.add ⟨bb, 0, none⟩ (0 + j)) = some (.int .u8 120) := fun j hj => by
  have e : (Addr.add ⟨bb, 0, none⟩ (0 + j)) = ⟨bb, j, none⟩ := by simp [Addr.add]; omega
  rw [e]
  unfold World.cell?
  rw [h]
  have := rowX_all n j hj
  simpa using this
 intro e he
 have e1 : (convert 33 9 (.slice (some ⟨bb, 0, none⟩) n n)).events Tryz.prog w #[] = (Conv.bytesToString (.slice (some ⟨bb, 0, none⟩) n n)).events Tryz.prog w #[] := by
  simp [convert, run_underlying Tryz.underlying33, run_underlying Tryz.underlying5, run_underlying Tryz.underlying9]
 rw [e1] at he
 have hl := run_loadCells_list (P := Tryz.prog) w ⟨bb, 0, none⟩ ((List.replicate n (120 : Int)).map (Value.int .u8)) (fun j v hj => by
  have hj' : j < n := by
   have := (List.getElem?_eq_some_iff.1 hj).1
   simpa using this
  have := hc j hj'
  rw [Nat.zero_add] at this
  rw [this]
  simp [hj'] at hj
  rw [← hj])
 simp only [List.length_map, List.length_replicate] at hl
 unfold Conv.bytesToString at he
 simp only [Sem.events_bind, hl] at he
 simp only [Result.evThen_ok, List.forIn_toArray] at he
 rw [run_forIn_bytes _ (by intro n r; simp [Sem.run_pure])] at he
 simp only [Result.evThen_ok, Sem.events_pure] at he
 rw [forIn_ev _ (by intro n r; simp [Sem.run_pure]) (by intro n r es; simp)] at he
 rcases loads_ev ⟨bb, 0, none⟩ n 0 #[] w #[] (fun j hj => by rw [hc j hj]; rfl) e he with h1 | ⟨b, h1, h2⟩
 ·simp at h1
 ·exact ⟨b, h1, h2⟩
end Go.Mx
namespace Go.Mx
open Go Go.Conc Go.Pr
open Go.RowKit Go.Conc.Lib Go.ConcR.Gen Go.ConcN.Gen Go.Proofs
open Go.ConcN (WgLive sumTo)
open Go.ConcR (KK WgAt stA smA rd wr mk DC0)
open Go.Proofs.YtdhekhlmdefcnaaGreatDoor (xsT xsA pk okA pk_in)
def lop (c : Code) : Code := match c with | .seq _ (.block _ (.loop c)) => c | _ => .skip
noncomputable def tail4 : Code := sndC c5
noncomputable def okb4 : Code := match fstC c5 with | .seq _ (.cond _ _ c) => c | _ => .skip
noncomputable def lb4 : Code := lop (sndC okb4)
noncomputable def lf4 : Code := lop (fstC (sndC tail4))
noncomputable def e4 : Code := sndC (sndC tail4)
section
variable {S : Nat → Prop} {L : CS → Prop} {ρ : Rn} {wL W : World}
theorem neq_ok : (okA.toList == [111, 107, 10]) = true := by decide +kernel
set_option maxRecDepth 100000 in
set_option maxHeartbeats 8000000 in
theorem lim2l (hL : ∀ s d, L s → L { s with w := s.w.at d }) {m1 m2 bo : Nat} (hb1 : m1 ≤ 50) {row : Array Value} (hrow : W.heap[bo]? = some (.cells row 9 (0, 0))) (hok : ∀ i, i < m1 → row[i]? = some (.string okA)) (hbo : ¬ S bo)
  (hend : ∀ (T : Array Value) (w : World), T.size = 83 → T[2]? = some (.int .i64 m2) → FF S ρ wL W w → EBF S L (Conc.G ((base 4).at ⟨T, []⟩ [.code tail4]) []) w) :
  ∀ (r i : Nat) (T : Array Value) (w : World), i + r = m1 → T.size = 83 → T[0]? = some (.int .i64 m1) → T[2]? = some (.int .i64 m2) → T[8]? = some (.slice (some ⟨bo, 0, none⟩) m1 m1) → T[10]? = some (.int .i64 i) → FF S ρ wL W w →
   EBF S L (Conc.G ((base 4).at ⟨T, []⟩ [.code lb4, .inLoop lb4, .inBlock 0, .code tail4]) []) w := by
 intro r
 induction r with
 | zero =>
  intro i T w hi hs t0 t2 t8 t10 hF
  obtain rfl : i = m1 := by omega
  obtain ⟨v0, v1, v2, v3, v4, v5, v6, v7, v8, v9, v10, v11, v12, v13, v14, v15, v16, v17, v18, v19, v20, v21, v22, v23, v24, v25, v26, v27, v28, v29, v30, v31, v32, v33, v34, v35, v36, v37, v38, v39, v40, v41, v42, v43, v44, v45, v46, v47, v48, v49, v50, v51, v52, v53, v54, v55, v56, v57, v58, v59, v60, v61, v62, v63, v64, v65, v66, v67, v68, v69, v70, v71, v72, v73, v74, v75, v76, v77, v78, v79, v80, v81, v82, rfl⟩ := array83 T hs
  simp only [List.getElem?_toArray, List.getElem?_cons_succ, List.getElem?_cons_zero, Option.some.injEq] at t0 t2 t8 t10
  subst t0 t2 t8 t10
  have hnl : ¬ ((i : Int) < (i : Int)) := by omega
  refine EBF.walk (n := 40) hL ?_
  simp only [lb4, okb4, c5, r4, body4, Tryz.f4, Option.getD_some, sndC, fstC, lp, opsC, lop]
  generalize htt : tail4 = tt
  u_c stepG_seq ff_rely hF
  u_c stepG_seq ff_rely hF
  u_reg ff_rely hF
  u_op ff_rely hF
  u_op ff_rely hF
  u_op ff_rely hF
  u_c stepG_region_end ff_rely hF
  u_cond false ff_rely hF
  u_exit ff_rely hF
  refine Goes.stop (fun w1 h1 _ => ?_)
  subst htt
  exact hend _ w1 (by simp) (by simp) (ff_rely hF h1)
 | succ r ih =>
  intro i T w hi hs t0 t2 t8 t10 hF
  obtain ⟨v0, v1, v2, v3, v4, v5, v6, v7, v8, v9, v10, v11, v12, v13, v14, v15, v16, v17, v18, v19, v20, v21, v22, v23, v24, v25, v26, v27, v28, v29, v30, v31, v32, v33, v34, v35, v36, v37, v38, v39, v40, v41, v42, v43, v44, v45, v46, v47, v48, v49, v50, v51, v52, v53, v54, v55, v56, v57, v58, v59, v60, v61, v62, v63, v64, v65, v66, v67, v68, v69, v70, v71, v72, v73, v74, v75, v76, v77, v78, v79, v80, v81, v82, rfl⟩ := array83 T hs
  simp only [List.getElem?_toArray, List.getElem?_cons_succ, List.getElem?_cons_zero, Option.some.injEq] at t0 t2 t8 t10
  subst t0 t2 t8 t10
  have hlt : (i : Int) < (m1 : Int) := by omega
  have hi0 : (0 : Int) ≤ (i : Int) := by omega
  have hwr : IntKind.i64.wrap ((i : Int) + 1) = ((i + 1 : Nat) : Int) := by rw [IntKind.wrap_i64]; omega
  refine EBF.walk (n := 40) hL ?_
  simp only [lb4, okb4, c5, r4, body4, Tryz.f4, Option.getD_some, sndC, fstC, lp, opsC, lop]
  generalize htt : tail4 = tt
  u_c stepG_seq ff_rely hF
  u_c stepG_seq ff_rely hF
  u_reg ff_rely hF
  u_op ff_rely hF
  u_op ff_rely hF
  u_op ff_rely hF
  u_c stepG_region_end ff_rely hF
  u_cond true ff_rely hF
  u_c stepG_skip ff_rely hF
  u_c stepG_seq ff_rely hF
  u_c stepG_block ff_rely hF
  u_c stepG_seq ff_rely hF
  u_reg ff_rely hF
  u_op ff_rely hF
  u_op ff_rely hF
  u_op ff_rely hF
  refine Goes.stop (fun w1 h1 _ => ?_)
  replace hF := ff_rely hF h1
  clear h1
  refine EBF.step1 rfl (fun w2 h2 => ?_)
  replace hF := ff_rely hF h2
  clear h2
  refine goes_oper_k rfl rfl (by k_ne) (fun Kx hKx => ?_)
  have hrw := hF.kept.heap hrow
  have hld : w2.cell? ⟨bo, i, none⟩ = some (.string okA) := by
   unfold World.cell?
   rw [hrw]
   simpa using hok i (by omega)
  have hlt2 := (Array.getElem?_eq_some_iff.1 hrw).1
  go_simp
  refine hKx _ _ ⟨fun e he => ?_, Nat.le_refl _, ?_⟩
  ·have hm := mem_listed he
   clear hKx ih
   simp [go_sem, hld] at hm
   exact ⟨_, false, hm, hlt2, hbo⟩
  clear hKx Kx hrw hld hlt2
  have hnq := neq_ok
  refine EBF.walk (n := 40) hL ?_
  try walk_nrm
  u_op ff_rely hF
  clear hnq
  u_c stepG_region_end ff_rely hF
  u_cond false ff_rely hF
  u_c stepG_skip ff_rely hF
  u_c stepG_inBlock ff_rely hF
  u_reg ff_rely hF
  u_op ff_rely hF
  u_op ff_rely hF
  u_op ff_rely hF
  u_c stepG_region_end ff_rely hF
  u_c stepG_inLoop ff_rely hF
  refine Goes.stop (fun w3 h3 _ => ?_)
  subst htt
  exact ih (i + 1) _ w3 (by omega) (by simp) (by simp) (by simp) (by simp) (by simp) (ff_rely hF h3)
end
end Go.Mx
namespace Go.Mx
open Go Go.Conc Go.Pr
open Go.RowKit Go.Conc.Lib Go.ConcR.Gen Go.ConcN.Gen Go.Proofs
open Go.ConcN (WgLive sumTo)
open Go.ConcR (KK WgAt stA smA rd wr mk DC0)
open Go.Proofs.YtdhekhlmdefcnaaGreatDoor (xsT xsA pk okA pk_in)
section
variable {S : Nat → Prop} {L : CS → Prop} {ρ : Rn} {wL W : World}
theorem nil_ev (w : World) (es : Array Event) : (binOp .neq 25 .nilIface .nilIface).events Tryz.prog w es = es := by kernel_rfl
set_option maxRecDepth 100000 in
set_option maxHeartbeats 8000000 in
theorem lim2 (hL : ∀ s d, L s → L { s with w := s.w.at d }) {m1 m2 bo : Nat} {a1 : Int} (hb1 : m1 ≤ 50) (ha1 : 1 ≤ a1) (ha2 : a1 ≤ 16) {row : Array Value} (hrow : W.heap[bo]? = some (.cells row 9 (0, 0))) (hok : ∀ i, i < m1 → row[i]? = some (.string okA)) (hbo : ¬ S bo)
  (hend : ∀ (T : Array Value) (w : World), T.size = 83 → T[2]? = some (.int .i64 m2) → FF S ρ wL W w → EBF S L (Conc.G ((base 4).at ⟨T, []⟩ [.code tail4]) []) w)
  (T : Array Value) (w : World) (hs : T.size = 83) (t0 : T[0]? = some (.int .i64 m1)) (t1 : T[1]? = some (.int .i64 a1)) (t2 : T[2]? = some (.int .i64 m2)) (t25 : T[25]? = some (.tuple #[.slice (some ⟨bo, 0, none⟩) m1 m1, .nilIface])) (hF : FF S ρ wL W w) :
   EBF S L (Conc.G ((base 4).at ⟨T, []⟩ [.inRegion o5 [3, 4, 5, 6, 7], .code c5]) []) w := by
 have hlp := lim2l (ρ := ρ) (wL := wL) hL hb1 hrow hok hbo hend m1 0
 obtain ⟨v0, v1, v2, v3, v4, v5, v6, v7, v8, v9, v10, v11, v12, v13, v14, v15, v16, v17, v18, v19, v20, v21, v22, v23, v24, v25, v26, v27, v28, v29, v30, v31, v32, v33, v34, v35, v36, v37, v38, v39, v40, v41, v42, v43, v44, v45, v46, v47, v48, v49, v50, v51, v52, v53, v54, v55, v56, v57, v58, v59, v60, v61, v62, v63, v64, v65, v66, v67, v68, v69, v70, v71, v72, v73, v74, v75, v76, v77, v78, v79, v80, v81, v82, rfl⟩ := array83 T hs
 simp only [List.getElem?_toArray, List.getElem?_cons_succ, List.getElem?_cons_zero, Option.some.injEq] at t0 t1 t2 t25
 subst t0 t1 t2 t25
 have q1 : ¬ (50 : Int) < (m1 : Int) := by omega
 have q2 : ¬ a1 < 1 := by omega
 have q3 : ¬ 16 < a1 := by omega
 refine EBF.walk (n := 60) hL ?_
 simp only [o5, c5, r4, body4, Tryz.f4, Option.getD_some, sndC, fstC, lp, opsC, lop]
 generalize htt : (Code.seq (Code.region 16 _ false) _) = tt
 u_op ff_rely hF
 u_op ff_rely hF
 u_op ff_rely hF
 u_op ff_rely hF
 u_op ff_rely hF
 u_c stepG_region_end ff_rely hF
 u_c stepG_seq ff_rely hF
 u_c stepG_seq ff_rely hF
 u_reg ff_rely hF
 u_op ff_rely hF
 u_op ff_rely hF
 u_op ff_rely hF
 u_op ff_rely hF
 u_op ff_rely hF
 u_op ff_rely hF
 u_op ff_rely hF
 u_op ff_rely hF
 u_op ff_rely hF
 u_op ff_rely hF
 u_c stepG_region_end ff_rely hF
 u_cond false ff_rely hF
 u_c stepG_seq ff_rely hF
 u_c stepG_seq ff_rely hF
 u_reg ff_rely hF
 have hne := nil_ev
 u_op ff_rely hF
 u_op ff_rely hF
 u_op ff_rely hF
 u_op ff_rely hF
 u_op ff_rely hF
 u_op ff_rely hF
 u_op ff_rely hF
 u_op ff_rely hF
 clear hne
 u_c stepG_region_end ff_rely hF
 u_cond false ff_rely hF
 u_c stepG_skip ff_rely hF
 u_c stepG_seq ff_rely hF
 u_reg ff_rely hF
 u_op ff_rely hF
 u_c stepG_region_end ff_rely hF
 u_c stepG_block ff_rely hF
 u_c stepG_loop ff_rely hF
 refine Goes.stop (fun w1 h1 _ => ?_)
 subst htt
 exact hlp _ w1 (by omega) (by simp) (by simp) (by simp) (by simp) (by simp) (ff_rely hF h1)
end
end Go.Mx
namespace Go.Mx
open Go Go.Conc Go.Pr
open Go.RowKit Go.Conc.Lib Go.ConcR.Gen Go.ConcN.Gen Go.Proofs
open Go.ConcN (WgLive sumTo)
open Go.ConcR (KK WgAt stA smA rd wr mk DC0)
open Go.Proofs.YtdhekhlmdefcnaaGreatDoor (xsT xsA pk okA pk_in)
section
variable {S : Nat → Prop} {L : CS → Prop} {ρ : Rn} {wL W : World}
set_option maxRecDepth 100000 in
set_option maxHeartbeats 16000000 in
theorem lim2e (hL : ∀ s d, L s → L { s with w := s.w.at d }) (hcon : LCon ρ wL) {m1 m2 : Nat} {a1 : Int} (hbad : 50 < m1 ∨ a1 < 1 ∨ 16 < a1)
  (hend : ∀ (T : Array Value) (w : World), T.size = 83 → T[2]? = some (.int .i64 m2) → FF S ρ wL W w → EBF S L (Conc.G ((base 4).at ⟨T, []⟩ [.code tail4]) []) w)
  (T : Array Value) (w : World) (hs : T.size = 83) (t0 : T[0]? = some (.int .i64 m1)) (t1 : T[1]? = some (.int .i64 a1)) (t2 : T[2]? = some (.int .i64 m2)) (t25 : T[25]? = some (.tuple #[.slice none 0 0, .iface 31 (.int .i64 4)])) (hF : FF S ρ wL W w) :
   EBF S L (Conc.G ((base 4).at ⟨T, []⟩ [.inRegion o5 [3, 4, 5, 6, 7], .code c5]) []) w := by
 obtain ⟨v0, v1, v2, v3, v4, v5, v6, v7, v8, v9, v10, v11, v12, v13, v14, v15, v16, v17, v18, v19, v20, v21, v22, v23, v24, v25, v26, v27, v28, v29, v30, v31, v32, v33, v34, v35, v36, v37, v38, v39, v40, v41, v42, v43, v44, v45, v46, v47, v48, v49, v50, v51, v52, v53, v54, v55, v56, v57, v58, v59, v60, v61, v62, v63, v64, v65, v66, v67, v68, v69, v70, v71, v72, v73, v74, v75, v76, v77, v78, v79, v80, v81, v82, rfl⟩ := array83 T hs
 simp only [List.getElem?_toArray, List.getElem?_cons_succ, List.getElem?_cons_zero, Option.some.injEq] at t0 t1 t2 t25
 subst t0 t1 t2 t25
 refine EBF.walk (n := 60) hL ?_
 simp only [o5, c5, r4, body4, Tryz.f4, Option.getD_some, sndC, fstC, lp, opsC, lop]
 generalize htt : (Code.seq (Code.region 16 _ false) _) = tt
 u_op ff_rely hF
 u_op ff_rely hF
 u_op ff_rely hF
 u_op ff_rely hF
 u_op ff_rely hF
 u_c stepG_region_end ff_rely hF
 u_c stepG_seq ff_rely hF
 u_c stepG_seq ff_rely hF
 u_reg ff_rely hF
 u_op ff_rely hF
 u_op ff_rely hF
 rcases Nat.lt_or_ge 50 m1 with q | q
 ·have q1 : (50 : Int) < (m1 : Int) := by omega
  u_op ff_rely hF
  u_skip ff_rely hF
  u_skip ff_rely hF
  u_op ff_rely hF
  u_op ff_rely hF
  u_skip ff_rely hF
  u_skip ff_rely hF
  u_op ff_rely hF
  u_c stepG_region_end ff_rely hF
  u_cond true ff_rely hF
  u_c stepG_seq ff_rely hF
  u_reg ff_rely hF
  u_op ff_rely hF
  refine Goes.stop (fun w1 h1 _ => ?_)
  replace hF := ff_rely hF h1
  clear h1
  refine callF hL hF (xs := #[.iface 31 (.int .i64 4)]) (v := (.int .i64 4)) rfl rfl (by k_ne) rfl Tryz.func9 nm9 rfl (by simp [Act.eval]) rfl (hcon.ok 9 (by decide) (by decide) (by decide)) (.cons (.iface _ (.int _ _)) .nil) (vr_int _ _) (hcon.tell) (fun w2 hk hF2 => ?_)
  replace hF := hF2
  clear hF2 hk
  refine EBF.walk (n := 40) hL ?_
  try walk_nrm
  u_op ff_rely hF
  u_op ff_rely hF
  u_op ff_rely hF
  u_op ff_rely hF
  u_op ff_rely hF
  u_op ff_rely hF
  u_c stepG_region_end ff_rely hF
  u_cond false ff_rely hF
  u_c stepG_skip ff_rely hF
  refine Goes.stop (fun w1 h1 _ => ?_)
  subst htt
  exact hend _ w1 (by simp) (by simp) (ff_rely hF h1)
 ·have q1 : ¬ (50 : Int) < (m1 : Int) := by omega
  replace hbad := hbad.resolve_left (by omega)
  rcases Int.lt_or_le a1 1 with q2 | q2
  ·u_op ff_rely hF
   u_op ff_rely hF
   u_op ff_rely hF
   u_op ff_rely hF
   u_op ff_rely hF
   u_skip ff_rely hF
   u_skip ff_rely hF
   u_op ff_rely hF
   u_c stepG_region_end ff_rely hF
   u_cond true ff_rely hF
   u_c stepG_seq ff_rely hF
   u_reg ff_rely hF
   u_op ff_rely hF
   refine Goes.stop (fun w1 h1 _ => ?_)
   replace hF := ff_rely hF h1
   clear h1
   refine callF hL hF (xs := #[.iface 31 (.int .i64 4)]) (v := (.int .i64 4)) rfl rfl (by k_ne) rfl Tryz.func9 nm9 rfl (by simp [Act.eval]) rfl (hcon.ok 9 (by decide) (by decide) (by decide)) (.cons (.iface _ (.int _ _)) .nil) (vr_int _ _) (hcon.tell) (fun w2 hk hF2 => ?_)
   replace hF := hF2
   clear hF2 hk
   refine EBF.walk (n := 40) hL ?_
   try walk_nrm
   u_op ff_rely hF
   u_op ff_rely hF
   u_op ff_rely hF
   u_op ff_rely hF
   u_op ff_rely hF
   u_op ff_rely hF
   u_c stepG_region_end ff_rely hF
   u_cond false ff_rely hF
   u_c stepG_skip ff_rely hF
   refine Goes.stop (fun w1 h1 _ => ?_)
   subst htt
   exact hend _ w1 (by simp) (by simp) (ff_rely hF h1)
  ·have q3 : 16 < a1 := by omega
   have q2 : ¬ a1 < 1 := by omega
   u_op ff_rely hF
   u_op ff_rely hF
   u_op ff_rely hF
   u_op ff_rely hF
   u_op ff_rely hF
   u_op ff_rely hF
   u_op ff_rely hF
   u_op ff_rely hF
   u_c stepG_region_end ff_rely hF
   u_cond true ff_rely hF
   u_c stepG_seq ff_rely hF
   u_reg ff_rely hF
   u_op ff_rely hF
   refine Goes.stop (fun w1 h1 _ => ?_)
   replace hF := ff_rely hF h1
   clear h1
   refine callF hL hF (xs := #[.iface 31 (.int .i64 4)]) (v := (.int .i64 4)) rfl rfl (by k_ne) rfl Tryz.func9 nm9 rfl (by simp [Act.eval]) rfl (hcon.ok 9 (by decide) (by decide) (by decide)) (.cons (.iface _ (.int _ _)) .nil) (vr_int _ _) (hcon.tell) (fun w2 hk hF2 => ?_)
   replace hF := hF2
   clear hF2 hk
   refine EBF.walk (n := 40) hL ?_
   try walk_nrm
   u_op ff_rely hF
   u_op ff_rely hF
   u_op ff_rely hF
   u_op ff_rely hF
   u_op ff_rely hF
   u_op ff_rely hF
   u_c stepG_region_end ff_rely hF
   u_cond false ff_rely hF
   u_c stepG_skip ff_rely hF
   refine Goes.stop (fun w1 h1 _ => ?_)
   subst htt
   exact hend _ w1 (by simp) (by simp) (ff_rely hF h1)
end
end Go.Mx
namespace Go.Mx
open Go Go.Conc Go.Pr
open Go.RowKit Go.Conc.Lib Go.ConcR.Gen Go.ConcN.Gen Go.Proofs
open Go.ConcN (WgLive sumTo)
open Go.ConcR (KK WgAt stA smA rd wr mk DC0)
open Go.Proofs.YtdhekhlmdefcnaaGreatDoor (xsT xsA pk okA pk_in)
section
variable {S : Nat → Prop} {L : CS → Prop} {ρ : Rn} {wL W : World}
theorem FF.store (hW : Low S ρ wL W) {w : World} (h : FF S ρ wL W w) {bb i : Nat} (hbb : W.heap.size ≤ bb) (v : Value) : FF S ρ wL W (w.setCell ⟨bb, i, none⟩ v) := by
 have hA := aside_setCell w ⟨bb, i, none⟩ v
 have hk : Kept W (w.setCell ⟨bb, i, none⟩ v) := ⟨fun b hb => (hA.block b (by show b ≠ bb; omega)).trans (h.kept.old b hb), hA.os.trans h.kept.os, hA.tape.trans h.kept.tape, hA.output.trans h.kept.output, by rw [hA.size]; exact h.kept.size⟩
 exact ⟨hW.kept hk, hk⟩
set_option maxRecDepth 100000 in
set_option maxHeartbeats 8000000 in
theorem fill4 (hL : ∀ s d, L s → L { s with w := s.w.at d }) (hW : Low S ρ wL W) {m2 bb : Nat} (hb2 : m2 ≤ 30000) (hbb : W.heap.size ≤ bb) (hSb : ¬ S bb)
  (hend : ∀ (T : Array Value) (w : World), T.size = 83 → T[2]? = some (.int .i64 m2) → T[11]? = some (.slice (some ⟨bb, 0, none⟩) m2 m2) → w.heap[bb]? = some (.cells (rowX m2 m2) 5 (0, 0)) → FF S ρ wL W w → EBF S L (Conc.G ((base 4).at ⟨T, []⟩ [.code e4]) []) w) :
  ∀ (r i : Nat) (T : Array Value) (w : World), i + r = m2 → T.size = 83 → T[2]? = some (.int .i64 m2) → T[11]? = some (.slice (some ⟨bb, 0, none⟩) m2 m2) → T[12]? = some (.int .i64 i) → w.heap[bb]? = some (.cells (rowX m2 i) 5 (0, 0)) → FF S ρ wL W w →
   EBF S L (Conc.G ((base 4).at ⟨T, []⟩ [.code lf4, .inLoop lf4, .inBlock 2, .code e4]) []) w := by
 intro r
 induction r with
 | zero =>
  intro i T w hi hs t2 t11 t12 hrow hF
  obtain rfl : i = m2 := by omega
  obtain ⟨v0, v1, v2, v3, v4, v5, v6, v7, v8, v9, v10, v11, v12, v13, v14, v15, v16, v17, v18, v19, v20, v21, v22, v23, v24, v25, v26, v27, v28, v29, v30, v31, v32, v33, v34, v35, v36, v37, v38, v39, v40, v41, v42, v43, v44, v45, v46, v47, v48, v49, v50, v51, v52, v53, v54, v55, v56, v57, v58, v59, v60, v61, v62, v63, v64, v65, v66, v67, v68, v69, v70, v71, v72, v73, v74, v75, v76, v77, v78, v79, v80, v81, v82, rfl⟩ := array83 T hs
  simp only [List.getElem?_toArray, List.getElem?_cons_succ, List.getElem?_cons_zero, Option.some.injEq] at t2 t11 t12
  subst t2 t11 t12
  have hnl : ¬ ((i : Int) < (i : Int)) := by omega
  refine EBF.walk (n := 40) hL ?_
  simp only [lf4, tail4, c5, r4, body4, Tryz.f4, Option.getD_some, sndC, fstC, lp, opsC, lop]
  generalize htt : e4 = tt
  u_c stepG_seq ff_rely hF
  u_c stepG_seq ff_rely hF
  u_reg ff_rely hF
  u_op ff_rely hF
  u_op ff_rely hF
  u_op ff_rely hF
  u_c stepG_region_end ff_rely hF
  u_cond false ff_rely hF
  u_exit ff_rely hF
  refine Goes.stop (fun w1 h1 h2 => ?_)
  subst htt
  exact hend _ w1 (by simp) (by simp) (by simp) ((Kept.at h2).heap hrow) (ff_rely hF h1)
 | succ r ih =>
  intro i T w hi hs t2 t11 t12 hrow hF
  obtain ⟨v0, v1, v2, v3, v4, v5, v6, v7, v8, v9, v10, v11, v12, v13, v14, v15, v16, v17, v18, v19, v20, v21, v22, v23, v24, v25, v26, v27, v28, v29, v30, v31, v32, v33, v34, v35, v36, v37, v38, v39, v40, v41, v42, v43, v44, v45, v46, v47, v48, v49, v50, v51, v52, v53, v54, v55, v56, v57, v58, v59, v60, v61, v62, v63, v64, v65, v66, v67, v68, v69, v70, v71, v72, v73, v74, v75, v76, v77, v78, v79, v80, v81, v82, rfl⟩ := array83 T hs
  simp only [List.getElem?_toArray, List.getElem?_cons_succ, List.getElem?_cons_zero, Option.some.injEq] at t2 t11 t12
  subst t2 t11 t12
  have hlt : (i : Int) < (m2 : Int) := by omega
  have hi0 : (0 : Int) ≤ (i : Int) := by omega
  have hwr : IntKind.i64.wrap ((i : Int) + 1) = ((i + 1 : Nat) : Int) := by rw [IntKind.wrap_i64]; omega
  refine EBF.walk (n := 40) hL ?_
  simp only [lf4, tail4, c5, r4, body4, Tryz.f4, Option.getD_some, sndC, fstC, lp, opsC, lop]
  generalize htt : e4 = tt
  u_c stepG_seq ff_rely hF
  u_c stepG_seq ff_rely hF
  u_reg ff_rely hF
  u_op ff_rely hF
  u_op ff_rely hF
  u_op ff_rely hF
  u_c stepG_region_end ff_rely hF
  u_cond true ff_rely hF
  u_c stepG_skip ff_rely hF
  u_c stepG_seq ff_rely hF
  u_c stepG_block ff_rely hF
  u_reg ff_rely hF
  u_op ff_rely hF
  u_op ff_rely hF
  u_op ff_rely hF
  refine Goes.stop (fun w1 h1 h0 => ?_)
  replace hF := ff_rely hF h1
  replace hrow := (Kept.at h0).heap hrow
  clear h1 h0
  refine EBF.step1 rfl (fun w2 h2 => ?_)
  replace hF := ff_rely hF h2
  replace hrow := (Kept.at h2).heap hrow
  clear h2
  refine goes_oper_k rfl rfl (by k_ne) (fun Kx hKx => ?_)
  obtain ⟨v0, hv0⟩ := rowX_get m2 i i (by omega) (by omega)
  have hld : w2.cell? ⟨bb, i, none⟩ = some v0 := by
   unfold World.cell?
   rw [hrow]
   simpa using hv0
  have hlf : w2.frozen? ⟨bb, i, none⟩ = false := by
   unfold World.frozen?
   rw [hrow]
   simp
  have hse := fun es => events_store Tryz.prog w2 es ⟨bb, i, none⟩ (.int .u8 120) .plain rfl
  have hlt2 := (Array.getElem?_eq_some_iff.1 hrow).1
  go_simp
  have hrow2 : (w2.setCell ⟨bb, i, none⟩ (.int .u8 120)).heap[bb]? = some (.cells (rowX m2 (i + 1)) 5 (0, 0)) := by
   rw [setCell_eq_setRow w2 bb i _ _ (0, 0) _ hrow, setRow_heap w2 bb _ _ _ _ hrow, rowX_set m2 i (by omega)]
  have hF2 := FF.store hW hF (i := i) hbb (.int .u8 120)
  refine hKx _ _ ⟨fun e he => ?_, by simp, ?_⟩
  ·have hm := mem_listed he
   clear hKx ih
   simp [go_sem, hld, hlf, hse, storedEv] at hm
   exact ⟨_, true, hm, by simpa using hlt2, hSb⟩
  clear hKx Kx hld hlf hse hlt2 hF hrow hv0
  generalize w2.setCell ⟨bb, i, none⟩ (.int .u8 120) = w3 at hrow2 hF2 ⊢
  have hF := hF2
  clear hF2
  refine EBF.walk (n := 40) hL ?_
  try walk_nrm
  u_c stepG_region_end ff_rely hF
  u_c stepG_inBlock ff_rely hF
  u_reg ff_rely hF
  u_op ff_rely hF
  u_op ff_rely hF
  u_op ff_rely hF
  u_c stepG_region_end ff_rely hF
  u_c stepG_inLoop ff_rely hF
  refine Goes.stop (fun w4 h4 h5 => ?_)
  subst htt
  exact ih (i + 1) _ w4 (by omega) (by simp) (by simp) (by simp) (by simp) ((Kept.at h5).heap hrow2) (ff_rely hF h4)
end
end Go.Mx
namespace Go.Mx
open Go Go.Conc Go.Pr
open Go.RowKit Go.Conc.Lib Go.ConcR.Gen Go.ConcN.Gen Go.Proofs
open Go.ConcN (WgLive sumTo)
open Go.ConcR (KK WgAt stA smA rd wr mk DC0)
open Go.Proofs.YtdhekhlmdefcnaaGreatDoor (xsT xsA pk okA pk_in)
open Go.Proofs.YtdhekhlmdefcnaaGreatDoor (err3A err4A)
section
variable {S : Nat → Prop} {L : CS → Prop} {ρ : Rn} {wL W : World}
set_option maxRecDepth 100000 in
set_option maxHeartbeats 16000000 in
theorem end4 (hL : ∀ s d, L s → L { s with w := s.w.at d }) (hcon : LCon ρ wL) {m2 bb : Nat} (hb2 : m2 ≤ 30000) (hSb : ¬ S bb)
  (hend : ∀ (T : Array Value) (todo : List Item) (w : World), T.size = 83 → T[6]? = some (.bool true) → FF S ρ wL W w → EBF S L (Conc.G { (base 4).at ⟨T, []⟩ todo with mode := .returning } []) w)
  (T : Array Value) (w : World) (hs : T.size = 83) (t2 : T[2]? = some (.int .i64 m2)) (t11 : T[11]? = some (.slice (some ⟨bb, 0, none⟩) m2 m2)) (hrow : w.heap[bb]? = some (.cells (rowX m2 m2) 5 (0, 0))) (hF : FF S ρ wL W w) :
   EBF S L (Conc.G ((base 4).at ⟨T, []⟩ [.code e4]) []) w := by
 obtain ⟨v0, v1, v2, v3, v4, v5, v6, v7, v8, v9, v10, v11, v12, v13, v14, v15, v16, v17, v18, v19, v20, v21, v22, v23, v24, v25, v26, v27, v28, v29, v30, v31, v32, v33, v34, v35, v36, v37, v38, v39, v40, v41, v42, v43, v44, v45, v46, v47, v48, v49, v50, v51, v52, v53, v54, v55, v56, v57, v58, v59, v60, v61, v62, v63, v64, v65, v66, v67, v68, v69, v70, v71, v72, v73, v74, v75, v76, v77, v78, v79, v80, v81, v82, rfl⟩ := array83 T hs
 simp only [List.getElem?_toArray, List.getElem?_cons_succ, List.getElem?_cons_zero, Option.some.injEq] at t2 t11
 subst t2 t11
 refine EBF.walk (n := 60) hL ?_
 simp only [e4, tail4, c5, r4, body4, Tryz.f4, Option.getD_some, sndC, fstC, lp, opsC, lop]
 rcases Nat.lt_or_ge 20000 m2 with q | q
 ·have q1 : (20000 : Int) < (m2 : Int) := by omega
  have b2 : decide ((m2 : Int) = 0) = false := by simp; omega
  have b1 : ((m2 : Int) == 0) = false := by simp; omega
  u_c stepG_seq ff_rely hF
  u_reg ff_rely hF
  u_op ff_rely hF
  u_c stepG_region_end ff_rely hF
  u_c stepG_seq ff_rely hF
  u_c stepG_seq ff_rely hF
  u_reg ff_rely hF
  u_op ff_rely hF
  u_op ff_rely hF
  u_c stepG_region_end ff_rely hF
  u_cond true ff_rely hF
  u_reg ff_rely hF
  u_op ff_rely hF
  u_c stepG_region_end ff_rely hF
  u_c stepG_seq ff_rely hF
  u_c stepG_seq ff_rely hF
  u_reg ff_rely hF
  u_op ff_rely hF
  u_op ff_rely hF
  u_c stepG_region_end ff_rely hF
  u_cond false ff_rely hF
  u_c stepG_skip ff_rely hF
  u_c stepG_seq ff_rely hF
  u_reg ff_rely hF
  u_op ff_rely hF
  refine Goes.stop (fun w1 h1 h0 => ?_)
  replace hF := ff_rely hF h1
  replace hrow := (Kept.at h0).heap hrow
  clear h1 h0
  refine EBF.step1 rfl (fun w2 h2 => ?_)
  replace hF := ff_rely hF h2
  replace hrow := (Kept.at h2).heap hrow
  clear h2
  refine goes_oper_k rfl rfl (by k_ne) (fun Kx hKx => ?_)
  have hcv := conv_run w2 m2 bb hrow
  have hce := conv_ev w2 m2 bb hrow
  have hlt := (Array.getElem?_eq_some_iff.1 hrow).1
  go_simp
  refine hKx _ _ ⟨fun e he => ?_, Nat.le_refl _, ?_⟩
  ·have hm := mem_listed he
   clear hKx
   have hm2 : e ∈ (convert 33 9 (.slice (some ⟨bb, 0, none⟩) m2 m2)).events Tryz.prog w2 #[] := by simpa [go_sem] using hm
   obtain ⟨a, h1, h2⟩ := hce e hm2
   exact ⟨a, false, h1, by rw [h2]; exact hlt, by rw [h2]; exact hSb⟩
  clear hKx Kx hcv hce hlt
  refine EBF.walk (n := 40) hL ?_
  try walk_nrm
  refine Goes.stop (fun w1 h1 _ => ?_)
  replace hF := ff_rely hF h1
  clear h1
  refine callF hL hF (xs := #[.string (xsT m2)]) (v := (.string (xsA m2))) rfl rfl (by k_ne) rfl Tryz.func8 nm8 rfl (by simp [Act.eval]) rfl (hcon.ok 8 (by decide) (by decide) (by decide)) (.cons (.string _) .nil) (vr_string _) (hcon.xs m2 hb2) (fun w2 hk hF2 => ?_)
  replace hF := hF2
  clear hF2 hk
  refine EBF.walk (n := 40) hL ?_
  try walk_nrm
  have hxe : xsA m2 = err4A := by
   rw [xsA, if_neg (by omega)]; split <;> first | rfl | omega
  rw [hxe]
  unfold err4A
  u_op ff_rely hF
  u_op ff_rely hF
  u_op ff_rely hF
  u_c stepG_region_end ff_rely hF
  u_c stepG_ret' ff_rely hF
  refine Goes.stop (fun w5 h5 _ => ?_)
  exact hend _ _ w5 (by simp) (by simp) (ff_rely hF h5)
 ·have q1 : ¬ (20000 : Int) < (m2 : Int) := by omega
  have q4 : ¬ 20000 < m2 := by omega
  rcases Nat.eq_zero_or_pos m2 with q2 | q2
  ·have hxe : xsA m2 = okA := by subst q2; rfl
   have b2 : decide ((m2 : Int) = 0) = true := by simp; omega
   have b1 : ((m2 : Int) == 0) = true := by simp; omega
   clear q2
   u_c stepG_seq ff_rely hF
   u_reg ff_rely hF
   u_op ff_rely hF
   u_c stepG_region_end ff_rely hF
   u_c stepG_seq ff_rely hF
   u_c stepG_seq ff_rely hF
   u_reg ff_rely hF
   u_op ff_rely hF
   u_op ff_rely hF
   u_c stepG_region_end ff_rely hF
   u_cond false ff_rely hF
   u_c stepG_skip ff_rely hF
   u_c stepG_seq ff_rely hF
   u_c stepG_seq ff_rely hF
   u_reg ff_rely hF
   u_op ff_rely hF
   u_op ff_rely hF
   u_c stepG_region_end ff_rely hF
   u_cond true ff_rely hF
   u_reg ff_rely hF
   u_op ff_rely hF
   u_c stepG_region_end ff_rely hF
   u_c stepG_seq ff_rely hF
   u_reg ff_rely hF
   u_op ff_rely hF
   refine Goes.stop (fun w1 h1 h0 => ?_)
   replace hF := ff_rely hF h1
   replace hrow := (Kept.at h0).heap hrow
   clear h1 h0
   refine EBF.step1 rfl (fun w2 h2 => ?_)
   replace hF := ff_rely hF h2
   replace hrow := (Kept.at h2).heap hrow
   clear h2
   refine goes_oper_k rfl rfl (by k_ne) (fun Kx hKx => ?_)
   have hcv := conv_run w2 m2 bb hrow
   have hce := conv_ev w2 m2 bb hrow
   have hlt := (Array.getElem?_eq_some_iff.1 hrow).1
   go_simp
   refine hKx _ _ ⟨fun e he => ?_, Nat.le_refl _, ?_⟩
   ·have hm := mem_listed he
    clear hKx
    have hm2 : e ∈ (convert 33 9 (.slice (some ⟨bb, 0, none⟩) m2 m2)).events Tryz.prog w2 #[] := by simpa [go_sem] using hm
    obtain ⟨a, h1, h2⟩ := hce e hm2
    exact ⟨a, false, h1, by rw [h2]; exact hlt, by rw [h2]; exact hSb⟩
   clear hKx Kx hcv hce hlt
   refine EBF.walk (n := 40) hL ?_
   try walk_nrm
   refine Goes.stop (fun w1 h1 _ => ?_)
   replace hF := ff_rely hF h1
   clear h1
   refine callF hL hF (xs := #[.string (xsT m2)]) (v := (.string (xsA m2))) rfl rfl (by k_ne) rfl Tryz.func8 nm8 rfl (by simp [Act.eval]) rfl (hcon.ok 8 (by decide) (by decide) (by decide)) (.cons (.string _) .nil) (vr_string _) (hcon.xs m2 hb2) (fun w2 hk hF2 => ?_)
   replace hF := hF2
   clear hF2 hk
   refine EBF.walk (n := 40) hL ?_
   try walk_nrm
   rw [hxe]
   unfold okA
   u_op ff_rely hF
   u_op ff_rely hF
   u_op ff_rely hF
   u_c stepG_region_end ff_rely hF
   u_c stepG_ret' ff_rely hF
   refine Goes.stop (fun w5 h5 _ => ?_)
   exact hend _ _ w5 (by simp) (by simp) (ff_rely hF h5)
  ·have b2 : decide ((m2 : Int) = 0) = false := by simp; omega
   have b1 : ((m2 : Int) == 0) = false := by simp; omega
   u_c stepG_seq ff_rely hF
   u_reg ff_rely hF
   u_op ff_rely hF
   u_c stepG_region_end ff_rely hF
   u_c stepG_seq ff_rely hF
   u_c stepG_seq ff_rely hF
   u_reg ff_rely hF
   u_op ff_rely hF
   u_op ff_rely hF
   u_c stepG_region_end ff_rely hF
   u_cond false ff_rely hF
   u_c stepG_skip ff_rely hF
   u_c stepG_seq ff_rely hF
   u_c stepG_seq ff_rely hF
   u_reg ff_rely hF
   u_op ff_rely hF
   u_op ff_rely hF
   u_c stepG_region_end ff_rely hF
   u_cond false ff_rely hF
   u_c stepG_skip ff_rely hF
   u_c stepG_seq ff_rely hF
   u_reg ff_rely hF
   u_op ff_rely hF
   refine Goes.stop (fun w1 h1 h0 => ?_)
   replace hF := ff_rely hF h1
   replace hrow := (Kept.at h0).heap hrow
   clear h1 h0
   refine EBF.step1 rfl (fun w2 h2 => ?_)
   replace hF := ff_rely hF h2
   replace hrow := (Kept.at h2).heap hrow
   clear h2
   refine goes_oper_k rfl rfl (by k_ne) (fun Kx hKx => ?_)
   have hcv := conv_run w2 m2 bb hrow
   have hce := conv_ev w2 m2 bb hrow
   have hlt := (Array.getElem?_eq_some_iff.1 hrow).1
   go_simp
   refine hKx _ _ ⟨fun e he => ?_, Nat.le_refl _, ?_⟩
   ·have hm := mem_listed he
    clear hKx
    have hm2 : e ∈ (convert 33 9 (.slice (some ⟨bb, 0, none⟩) m2 m2)).events Tryz.prog w2 #[] := by simpa [go_sem] using hm
    obtain ⟨a, h1, h2⟩ := hce e hm2
    exact ⟨a, false, h1, by rw [h2]; exact hlt, by rw [h2]; exact hSb⟩
   clear hKx Kx hcv hce hlt
   refine EBF.walk (n := 40) hL ?_
   try walk_nrm
   refine Goes.stop (fun w1 h1 _ => ?_)
   replace hF := ff_rely hF h1
   clear h1
   refine callF hL hF (xs := #[.string (xsT m2)]) (v := (.string (xsA m2))) rfl rfl (by k_ne) rfl Tryz.func8 nm8 rfl (by simp [Act.eval]) rfl (hcon.ok 8 (by decide) (by decide) (by decide)) (.cons (.string _) .nil) (vr_string _) (hcon.xs m2 hb2) (fun w2 hk hF2 => ?_)
   replace hF := hF2
   clear hF2 hk
   refine EBF.walk (n := 40) hL ?_
   try walk_nrm
   have hxe : xsA m2 = err3A := by
    rw [xsA, if_neg (by omega)]; split <;> first | rfl | omega
   rw [hxe]
   unfold err3A
   u_op ff_rely hF
   u_op ff_rely hF
   u_op ff_rely hF
   u_c stepG_region_end ff_rely hF
   u_c stepG_ret' ff_rely hF
   refine Goes.stop (fun w5 h5 _ => ?_)
   exact hend _ _ w5 (by simp) (by simp) (ff_rely hF h5)
set_option maxRecDepth 100000 in
set_option maxHeartbeats 8000000 in
theorem lim3 (hL : ∀ s d, L s → L { s with w := s.w.at d }) (hcon : LCon ρ wL) (hW : Low S ρ wL W) {m2 : Nat} (hb2 : m2 ≤ 30000)
  (hend : ∀ (T : Array Value) (todo : List Item) (w : World), T.size = 83 → T[6]? = some (.bool true) → FF S ρ wL W w → EBF S L (Conc.G { (base 4).at ⟨T, []⟩ todo with mode := .returning } []) w)
  (T : Array Value) (w : World) (hs : T.size = 83) (t2 : T[2]? = some (.int .i64 m2)) (hF : FF S ρ wL W w) :
   EBF S L (Conc.G ((base 4).at ⟨T, []⟩ [.code tail4]) []) w := by
 have hfl : ∀ bb, W.heap.size ≤ bb → ¬ S bb → _ := fun bb h1 h2 => fill4 (ρ := ρ) (wL := wL) (m2 := m2) hL hW hb2 h1 h2 (fun T w hs t2 t11 hrow hF => end4 hL hcon hb2 h2 hend T w hs t2 t11 hrow hF) m2 0
 obtain ⟨v0, v1, v2, v3, v4, v5, v6, v7, v8, v9, v10, v11, v12, v13, v14, v15, v16, v17, v18, v19, v20, v21, v22, v23, v24, v25, v26, v27, v28, v29, v30, v31, v32, v33, v34, v35, v36, v37, v38, v39, v40, v41, v42, v43, v44, v45, v46, v47, v48, v49, v50, v51, v52, v53, v54, v55, v56, v57, v58, v59, v60, v61, v62, v63, v64, v65, v66, v67, v68, v69, v70, v71, v72, v73, v74, v75, v76, v77, v78, v79, v80, v81, v82, rfl⟩ := array83 T hs
 simp only [List.getElem?_toArray, List.getElem?_cons_succ, List.getElem?_cons_zero, Option.some.injEq] at t2
 subst t2
 have q0 : (0 : Int) ≤ (m2 : Int) := by omega
 refine EBF.walk (n := 60) hL ?_
 simp only [tail4, c5, r4, body4, Tryz.f4, Option.getD_some, sndC, fstC, lp, opsC, lop]
 generalize htt : (Code.seq (Code.region 21 _ false) _) = tt
 u_c stepG_seq ff_rely hF
 u_reg ff_rely hF
 u_op ff_rely hF
 refine Goes.stop (fun w1 h1 _ => ?_)
 replace hF := ff_rely hF h1
 clear h1
 refine EBF.step1 rfl (fun w2 h2 => ?_)
 replace hF := ff_rely hF h2
 clear h2
 refine goes_oper_k rfl rfl (by k_ne) (fun Kx hKx => ?_)
 have hmk := make_runB w2 m2 hb2
 have hmv := make_evB w2 m2 hb2
 go_simp
 refine hKx _ _ ⟨fun e he => ?_, by simp, ?_⟩
 ·have hm := mem_listed he
  clear hKx
  simp [go_sem, hmv] at hm
 clear hKx Kx hmk hmv
 have hbl := hF.kept.size
 have hsn : ¬ S w2.heap.size := fun h => by have := hF.low.sN _ h; omega
 have hrow : (w2.alloc (.cells (Array.replicate m2 (.int .u8 0)) 5)).heap[w2.heap.size]? = some (.cells (rowX m2 0) 5 (0, 0)) := by
  rw [← rowX_zero]
  show (w2.heap.push _)[w2.heap.size]? = _
  simp
 replace hF := hF.next (Kept.alloc w2 (.cells (Array.replicate m2 (.int .u8 0)) 5))
 generalize w2.alloc (.cells (Array.replicate m2 (.int .u8 0)) 5) = w3 at hF hrow ⊢
 generalize w2.heap.size = bb at hrow hbl hsn ⊢
 refine EBF.walk (n := 40) hL ?_
 try walk_nrm
 u_op ff_rely hF
 u_c stepG_region_end ff_rely hF
 u_c stepG_seq ff_rely hF
 u_c stepG_seq ff_rely hF
 u_reg ff_rely hF
 u_op ff_rely hF
 u_c stepG_region_end ff_rely hF
 u_c stepG_block ff_rely hF
 u_c stepG_loop ff_rely hF
 refine Goes.stop (fun w4 h4 h5 => ?_)
 subst htt
 exact hfl bb hbl hsn _ w4 (by omega) (by simp) (by simp) (by simp) (by simp) ((Kept.at h5).heap hrow) (ff_rely hF h4)
end
end Go.Mx
namespace Go.Mx
open Go Go.Conc Go.Pr
open Go.RowKit Go.Conc.Lib Go.ConcR.Gen Go.ConcN.Gen Go.Proofs
open Go.ConcN (WgLive sumTo upd upd_same upd_ne sumTo_upd)
open Go.ConcR (KK WgAt stA smA rd wr mk DC0)
theorem stepG_last {P : Program} {b : Frame} {a : Act} {w : World} {fn : Func} {todo : List Item} {v : Value} (hn : b.kind = .normal) (hd : a.defers = []) (hf : P.funcs[b.fn]? = some fn) (hi : P.inits.idxOf? b.fn = none)
  (hr : (results fn a.tmps).run P w = .ok v w) (he : (results fn a.tmps).events P w #[] = #[]) :
  stepG P true (Conc.G { b.at a todo with mode := .returning } []) w = .ended (.done v) w := by
 simp [Conc.G, stepG, unwind, doReturn, Frame.at, hn, hd, hf, hr, he, hi, seen, GStep.after]
section
variable {P : Program} {S : Nat → Prop}
theorem calm_end {Post : Value → World → Prop} {v : Value} {a : Goroutine} (hr : a.status = .running) : ∀ (q : Nat) {T : Nat → Prop} {n : Nat} {gs : Array Goroutine} {w : World} {t : Trace} {Q : Nat → Nat} {sl : Option (Nat × Nat)}, sumTo n Q < q → Calm P S T n gs w t Q → gs[0]? = some a →
  (∀ w1, AtR w w1 → stepG P true a w1 = .ended (.done v) w1 ∧ Post v w1) →
  ∃ N last o w' t', runNT P (N + 1) (crowd gs w sl) t = (.ended o w', t') ∧ runN P N (crowd gs w sl) = .next last ∧ step P last = .ended o w' ∧ Conc.Good P Post last o w' t' := by
 intro q
 induction q with
 | zero => exact fun hq => absurd hq (by omega)
 | succ q ih =>
  intro T n gs w t Q sl hq h ha hst
  have haw : ∀ g ∈ gs, awake g := by
   intro g hg
   obtain ⟨i, hi⟩ := Array.mem_iff_getElem?.1 hg
   cases i with
   | zero => rw [ha] at hi; cases hi; exact awake_running hr
   | succ i =>
    have hlt := (Array.getElem?_eq_some_iff.1 hi).1
    obtain ⟨g', h1, h2⟩ := h.lv (i + 1) (by omega) (by rw [← h.sz]; exact hlt)
    rw [hi] at h1; cases h1
    exact QuitsD.awake h2
  obtain ⟨i, g, d, sl', hg, hrun, hstep⟩ := crowd_pick (P := P) (w := w) (sl := sl) haw ⟨0, a, ha, hr⟩
  cases i with
  | zero =>
   rw [ha] at hg; cases hg
   obtain ⟨he, hp⟩ := hst (w.at d) ⟨d, rfl⟩
   have hrunT := ConcN.runT_crowd_ended (P := P) (sl := sl') (i := 0) ha (show stepG P (0 == 0) a (w.at d) = _ from he)
   have hev : MemOp.ofEvents 0 a.frame.fn a.frame.place #[] = #[] := by rw [ofEvents_eq]; simp
   rw [hev] at hrunT
   have hs : stepT P (crowd gs w sl) = (.ended (.done v) (w.at d), #[]) := hstep.trans hrunT
   refine ⟨0, _, _, _, t, by simp [runNT, hs], rfl, by simp [step, hs], v, rfl, hp, h.tr.nr, h.ho.handedOver h.tr.gs, ⟨fun x hx => ?_, rfl⟩, fun j x hx hj => ?_⟩
   ·obtain ⟨j, hj⟩ := List.mem_iff_getElem?.1 hx
    rw [List.getElem?_drop] at hj
    have hj' : gs[1 + j]? = some x := by simpa [crowd] using hj
    have hlt := (Array.getElem?_eq_some_iff.1 hj').1
    obtain ⟨g', h1, h2⟩ := h.lv (1 + j) (by omega) (by rw [← h.sz]; exact hlt)
    rw [hj'] at h1; cases h1
    exact ⟨_, h2.leaves⟩
   ·have hj' : gs[j]? = some x := hx
    have hlt := (Array.getElem?_eq_some_iff.1 hj').1
    obtain ⟨g', h1, h2⟩ := h.lv j (by omega) (by rw [← h.sz]; exact hlt)
    rw [hj'] at h1; cases h1
    exact ⟨_, h2.hears _⟩
  | succ i =>
   have hlt := (Array.getElem?_eq_some_iff.1 hg).1
   rw [h.sz] at hlt
   obtain ⟨g2, h1, h2⟩ := h.lv (i + 1) (by omega) hlt
   rw [hg] at h1; cases h1
   obtain ⟨q', g', es, hq1, hq2, hm, _, hrT⟩ := leaver_step (w := w.at d) (sl := sl') (by omega) hg h2 hrun
   have hmu : mute (MemOp.ofEvents (i + 1) g.frame.fn g.frame.place es) := mute_ofEvents fun e he => mute_touch (hm e he)
   have hc : Calm P S T n ((gs.map (woken P g g' (w.at d))).setIfInBounds (i + 1) g') (w.at d) (t ++ MemOp.ofEvents (i + 1) g.frame.fn g.frame.place es) (upd Q (i + 1) q') := by
    refine ⟨h.n1, h.tr.mute (Nat.le_refl _) hmu fun op hop => by rw [ofEvents_g op hop]; exact hlt, h.kn.mute hmu, h.ho.app fun op hop _ _ => hmu op hop, fun a => (h.nrl a).app (norel_events fun e he a e2 => mute_norel (hm e he) a e2), by rw [deaf_leaver, if_neg (by omega)]; exact h.d0, by simp [h.sz], h.tb, h.sb, fun k k1 k2 => ?_⟩
    by_cases hki : k = i + 1
    ·subst hki
     exact ⟨g', get_map_set_same' _ _ _ _ (by rw [h.sz]; exact hlt), by rw [deaf_leaver, if_pos rfl, upd_same]; exact hq2⟩
    ·obtain ⟨g3, h3, h4⟩ := h.lv k k1 k2
     exact ⟨g3, by rw [get_map_set' _ _ _ _ _ (fun e => hki e.symm), h3]; simp [woken_quitsD h4], by rw [deaf_leaver, if_neg hki, upd_ne _ _ hki]; exact h4⟩
   have hsum : sumTo n (upd Q (i + 1) q') + Q (i + 1) = sumTo n Q + q' := sumTo_upd Q q' id hlt
   obtain ⟨N, last, o, w', t', k1, k2, k3, k4⟩ := ih (sl := sl') (by omega) hc (by rw [get_map_set' _ _ _ _ _ (by omega), ha]; simp [woken_running hr]) (fun w1 hw => hst w1 (AtR.trans ⟨d, rfl⟩ hw))
   have hs := hstep.trans hrT
   exact ⟨N + 1, last, o, w', t', by rw [runNT_succ_next hs]; exact k1, by rw [runN_succ_next hs]; exact k2, k3, k4⟩
theorem no_touch {i : Nat} {a : Touch} (h : touchAt #[] i = some a) : False := by
 obtain ⟨x, hx, _⟩ := touch_of h
 simp at hx
theorem cm_start {a : Goroutine} {w : World} : CM P (fun _ => False) (Fu (fun _ => False) w) a w (solo a w) #[] := by
 refine ⟨1, #[a], none, fun _ => 0, rfl, rfl, Nat.le_refl _, ⟨?_, ?_, ?_, ?_, ?_⟩, ?_, ?_, ?_, ?_, rfl, fun b hb => hb.1, fun b hb => hb.elim, fun k h1 h2 => by omega⟩
 ·intro i op x h
  simp at h
 ·rintro said ⟨i, j, hij, ⟨a, b, ha, hb, hc⟩, _⟩
  exact (no_touch ha).elim
 ·intro i op h
  simp at h
 ·intro i a h
  exact (no_touch h).elim
 ·intro i a h
  exact (no_touch h).elim
 ·intro i a h
  exact (no_touch h).elim
 ·intro i g h
  simp [Trace.g?] at h
 ·intro a i h
  simp [Trace.act?] at h
 ·rfl
theorem runs_end {Post : Value → World → Prop} {m m1 : Machine} {t t1 : Trace} (h : Runs P m t m1 t1) (k : ∃ N last o w' t', runNT P (N + 1) m1 t1 = (.ended o w', t') ∧ runN P N m1 = .next last ∧ step P last = .ended o w' ∧ Conc.Good P Post last o w' t') :
  ∃ N last o w' t', runNT P (N + 1) m t = (.ended o w', t') ∧ runN P N m = .next last ∧ step P last = .ended o w' ∧ Conc.Good P Post last o w' t' := by
 obtain ⟨M, h⟩ := h
 obtain ⟨N, last, o, w', t', k1, k2, k3, k4⟩ := k
 refine ⟨M + N, last, o, w', t', ?_, ?_, k3, k4⟩
 ·rw [Nat.add_assoc, runNT_add, h]
  exact k1
 ·rw [← runNT_fst _ _ _ t, runNT_add, h]
  show (runNT P N m1 t1).1 = _
  rw [runNT_fst]
  exact k2
end
end Go.Mx
namespace Go.Mx
open Go Go.Conc Go.Pr
open Go.RowKit Go.Conc.Lib Go.ConcR.Gen Go.ConcN.Gen Go.Proofs
open Go.ConcN (WgLive sumTo upd upd_same upd_ne sumTo_upd)
open Go.ConcR (KK WgAt stA smA rd wr mk DC0)
open Go.Proofs.YtdhekhlmdefcnaaGreatDoor (xsT xsA pk okA pk_in)
set_option maxRecDepth 100000 in
theorem op52 : ∃ o ats, o5[2]? = some o ∧ o.op = .call { callee := .value (.func 6), args := #[.tmp 23, .tmp 24], argTypes := ats } ∧ o.dst = some 25 ∧ ∀ y, Region.wanted o y = true := ⟨_, _, rfl, rfl, rfl, fun _ => rfl⟩
theorem noInit4 : Tryz.prog.inits.idxOf? 4 = none := by kernel_rfl
def AtRet (W : World) (s : CS) : Prop := (∃ T todo, s.g = Conc.G { (base 4).at ⟨T, []⟩ todo with mode := .returning } [] ∧ T.size = 83 ∧ T[6]? = some (.bool true)) ∧ Kept W s.w
theorem AtRet.at {W : World} : ∀ s d, AtRet W s → AtRet W { s with w := s.w.at d } := fun s d h => ⟨h.1, h.2.trans (Kept.at ⟨d, rfl⟩)⟩
theorem EBF.act {S : Nat → Prop} {L : CS → Prop} {g : Goroutine} {w : World} (h : EBC Tryz.prog S L ⟨g, w, Fu S w⟩) : EBF S L g w := h
theorem fin52 (T : Array Value) (v : Value) (hs : T.size = 83) : ((base 4).at ⟨T, []⟩ (.inRegion o5 [2, 3, 4, 5, 6, 7] :: [.code c5])).finish v = (base 4).at ⟨T.setIfInBounds 25 v, []⟩ [.inRegion o5 [3, 4, 5, 6, 7], .code c5] := by
 obtain ⟨o, ats, h1, h2, h3, h4⟩ := op52
 rw [Frame.finish_at, h1]
 simp [Act.put, h3]
theorem lim_bad {ρ : Rn} {wL W : World} (hcon : LCon ρ wL) (hlow : Low (fun _ => False) ρ wL W) (a0 a1 a2 : Int) (m1 m2 : Nat) (hm1 : pk a0 55 = (m1 : Int)) (hm2 : pk a2 30000 = (m2 : Int)) (hb1 : m1 < 55) (hb2 : m2 ≤ 30000) (hbad : 50 < m1 ∨ a1 < 1 ∨ 16 < a1) :
  EBF (fun _ => False) (AtRet W) (Conc.G (Frame.enter Tryz.prog 4 #[.int .i64 a0, .int .i64 a1, .int .i64 a2] .normal) []) W := by
 refine lim1 AtRet.at hcon a0 a1 a2 m1 m2 hm1 hm2 hb1 ⟨hlow, Kept.refl W⟩ fun T w1 bl hs t0 t1 t2 t23 t24 hbl hF hrow => ?_
 obtain ⟨o, ats, h1, h2, h3, h4⟩ := op52
 refine EBF.step1 rfl fun w2 hw => ?_
 have hF2 := ff_rely hF hw
 rw [stepG_callE (f := 6) (xs := #[.slice (some ⟨bl, 0, none⟩) m1 m1, .int .i64 a1]) h1 (h4 _) (by k_ne) h2 Tryz.func6 nm6 rfl (by simp [Act.eval, Array.getD_eq_getD_getElem?, t23, t24])]
 refine ⟨by intro e he; simp at he, Nat.le_refl _, EBF.act ?_⟩
 refine errC (N := w2.heap.size) AtRet.at hbad _ _ w2 rfl (fun b hb => hb) (fun b hb => hb.elim) fun w3 hA => ?_
 have hT : TT (Fu (fun _ => False) w2) w2.heap.size 1 = Fu (fun _ => False) w3 := by
  funext b
  have hsz := hA.size
  simp only [List.length_cons, List.length_nil] at hsz
  refine propext ⟨fun h => ?_, fun h => ?_⟩
  ·rcases h with ⟨h, _⟩ | ⟨h1, h2, h3⟩
   ·exact ⟨by omega, fun x => x⟩
   ·exact ⟨by omega, fun x => x⟩
  ·have := h.1
   by_cases hb : b < w2.heap.size
   ·exact .inl ⟨hb, fun x => x⟩
   ·exact .inr ⟨by omega, by omega, by omega⟩
 rw [hT]
 have hk : Kept w2 w3 := ⟨fun b hb => hA.old hb, hA.os, hA.tape, hA.output, by rw [hA.size]; omega⟩
 have hF3 := hF2.next hk
 show EBF _ _ (Conc.G (((base 4).at ⟨T, []⟩ (.inRegion o5 [2, 3, 4, 5, 6, 7] :: [.code c5])).finish _) []) w3
 rw [fin52 _ _ hs]
 refine lim2e (W := W) (m1 := m1) (m2 := m2) AtRet.at hcon hbad (fun T w hs t2 hF => ?_) _ w3 (by simp [hs]) (by simp [t0]) (by simp [t1]) (by simp [t2]) (by simp [hs]) hF3
 exact lim3 AtRet.at hcon hlow hb2 (fun T todo w hs t6 hF => EBC.stop rfl ⟨⟨T, todo, rfl, hs, t6⟩, hF.kept⟩) T w hs t2 hF
end Go.Mx
namespace Go.Mx
open Go Go.Conc Go.Pr
open Go.RowKit Go.Conc.Lib Go.ConcR.Gen Go.ConcN.Gen Go.Proofs
open Go.ConcN (WgLive sumTo upd upd_same upd_ne sumTo_upd)
open Go.ConcR (KK WgAt stA smA rd wr mk DC0)
open Go.Proofs.YtdhekhlmdefcnaaGreatDoor (xsT xsA pk okA pk_in)
def AtAll (W : World) (m1 m2 : Nat) (a1 : Int) (ρ : Rn) (wL : World) (s : CS) : Prop :=
 (∃ T bl, s.g = Conc.G (Frame.enter Tryz.prog 6 #[.slice (some ⟨bl, 0, none⟩) m1 m1, .int .i64 a1] .normal) [(base 4).at ⟨T, []⟩ (.inRegion o5 [2, 3, 4, 5, 6, 7] :: [.code c5])] ∧ T.size = 83 ∧ T[0]? = some (.int .i64 m1) ∧ T[1]? = some (.int .i64 a1) ∧ T[2]? = some (.int .i64 m2) ∧
  s.w.heap[bl]? = some (.cells (Array.replicate m1 (.string ⟨#[]⟩)) 9 (0, 0))) ∧ FF (fun _ => False) ρ wL W s.w ∧ s.T = Fu (fun _ => False) s.w
theorem AtAll.at {W : World} {m1 m2 : Nat} {a1 : Int} {ρ : Rn} {wL : World} : ∀ s d, AtAll W m1 m2 a1 ρ wL s → AtAll W m1 m2 a1 ρ wL { s with w := s.w.at d } := fun s d h => ⟨h.1, ff_rely h.2.1 ⟨d, rfl⟩, h.2.2⟩
theorem lim_run {ρ : Rn} {wL W : World} (hcon : LCon ρ wL) (hlow : Low (fun _ => False) ρ wL W) (hempty : ∀ T, Calls Tryz.prog 8 #[.string ⟨#[]⟩] (on wL T) fun e _ => ∃ v, e = .returned v ∧ v = .string okA) (a0 a1 a2 : Int) :
  ∃ m t s S T, Runs Tryz.prog (solo (Conc.G (Frame.enter Tryz.prog 4 #[.int .i64 a0, .int .i64 a1, .int .i64 a2] .normal) []) W) #[] m t ∧ CM Tryz.prog S T s.g s.w m t ∧ s.g.status = .running ∧ AtRet W s := by
 obtain ⟨p1, p2⟩ := pk_in a0 55 (by decide)
 obtain ⟨p3, p4⟩ := pk_in a2 30000 (by decide)
 obtain ⟨m1, hm1⟩ : ∃ m : Nat, pk a0 55 = (m : Int) := ⟨(pk a0 55).toNat, by omega⟩
 obtain ⟨m2, hm2⟩ : ∃ m : Nat, pk a2 30000 = (m : Int) := ⟨(pk a2 30000).toNat, by omega⟩
 have hb1 : m1 < 55 := by omega
 have hb2 : m2 ≤ 30000 := by omega
 by_cases hbad : 50 < m1 ∨ a1 < 1 ∨ 16 < a1
 ·obtain ⟨m, t, g, w, T, k1, k2, k3, k4⟩ := cm_start.run AtRet.at (lim_bad hcon hlow a0 a1 a2 m1 m2 hm1 hm2 hb1 hb2 hbad)
  exact ⟨m, t, ⟨g, w, T⟩, _, T, k1, k2, k3, k4⟩
 have hb3 : m1 ≤ 50 := by omega
 obtain ⟨R, hR⟩ : ∃ R : Nat, a1 = (R : Int) := ⟨a1.toNat, by omega⟩
 have hR1 : 1 ≤ R := by omega
 have hR2 : R ≤ 16 := by omega
 subst hR
 obtain ⟨m, t, g, w1, T1, k1, k2, k3, ⟨TT, bl, hgg, hs, t0, t1, t2, hrow⟩, hF, hTT⟩ := cm_start.run AtAll.at (lim1 (W := W) AtAll.at hcon a0 R a2 m1 m2 hm1 hm2 hb1 ⟨hlow, Kept.refl W⟩ fun T w1 bl hs t0 t1 t2 t23 t24 hbl hF hrow => by
  obtain ⟨o, ats, h1, h2, h3, h4⟩ := op52
  refine EBF.step1 rfl fun w2 hw => ?_
  have hF2 := ff_rely hF hw
  rw [stepG_callE (f := 6) (xs := #[.slice (some ⟨bl, 0, none⟩) m1 m1, .int .i64 R]) h1 (h4 _) (by k_ne) h2 Tryz.func6 nm6 rfl (by simp [Act.eval, Array.getD_eq_getD_getElem?, t23, t24])]
  refine ⟨by intro e he; simp at he, Nat.le_refl _, EBC.stop rfl ⟨⟨T, bl, rfl, hs, t0, t1, t2, (Kept.at hw).heap hrow⟩, hF2, rfl⟩⟩)
 replace hgg : g = _ := hgg
 replace hTT : T1 = Fu (fun _ => False) w1 := hTT
 replace hF : FF (fun _ => False) ρ wL W w1 := hF
 replace hrow : w1.heap[bl]? = _ := hrow
 subst hgg hTT
 have hbl : bl < w1.heap.size := (Array.getElem?_eq_some_iff.1 hrow).1
 have hpre : Pre (fun _ => False) w1.heap.size m1 (some ⟨bl, 0, none⟩) (fun _ => ⟨#[]⟩) (fun _ => okA) ρ wL w1 := by
  refine ⟨rfl, fun b h => h.elim, hb3, fun i hi => ⟨_, rfl, hbl, fun h => h, ?_⟩, hF.low.wr, hF.low.r, hF.low.low, hcon.ok 8 (by decide) (by decide) (by decide), hF.low.sp, hF.low.env, fun i hi => hempty⟩
  show w1.cell? (Addr.add ⟨bl, 0, none⟩ i) = _
  rcases Nat.eq_zero_or_pos i with rfl | h
  ·simp [World.cell?, Addr.add, hrow, hi]
  ·simp [World.cell?, Addr.add, hrow, hi, Nat.ne_of_gt h]
 obtain ⟨m', t', w', S', q1, q2, q3, q4, q5, q6, q7, q8, row, q9, q10, q11⟩ := all_ok (tc := m1) hpre hR1 hR2 (fun b hb => hb) k2
 have hk : Kept w1 w' := ⟨fun b hb => q4 b hb fun h => h, q5, q6, q7, by omega⟩
 have hlow' : Low S' ρ wL w' := by
  have hl := hF.low.kept hk
  refine ⟨hl.wr, fun b hb => ⟨(hl.low b hb).1, fun h => ?_⟩, fun b h => ?_, hl.r, hl.sp, hl.env⟩
  ·have hlt := (hF.low.low b hb).1
   rcases (q3 b).1 h with h | h | h
   ·exact h
   ·omega
   ·omega
  ·rcases (q3 b).1 h with h | h | h
   ·exact h.elim
   ·omega
   ·omega
 have hbo : ¬ S' (w1.heap.size + 1) := fun h => by
  rcases (q3 _).1 h with h | h | h
  ·exact h
  ·omega
  ·omega
 rw [fin52 _ _ hs] at q2
 have hL : ∀ s d, AtRet w' s → AtRet w' { s with w := s.w.at d } := AtRet.at
 obtain ⟨m3, t3, g3, w3, T3, r1, r2, r3, r4⟩ := q2.run hL (lim2 (W := w') (ρ := ρ) (wL := wL) (m1 := m1) (m2 := m2) (a1 := (R : Int)) hL hb3 (by omega) (by omega) q9 q11 hbo (fun T w hs t2 hF => lim3 hL hcon hlow' hb2 (fun T todo w hs t6 hF => EBC.stop rfl ⟨⟨T, todo, rfl, hs, t6⟩, hF.kept⟩) T w hs t2 hF) _ w' (by simp [hs]) (by simp [t0]) (by simp [t1]) (by simp [t2]) (by simp [hs]) ⟨hlow', Kept.refl _⟩)
 exact ⟨m3, t3, ⟨g3, w3, T3⟩, _, T3, (k1.trans q1).trans r1, r2, r3, r4.1, (hF.kept.trans hk).trans r4.2⟩
theorem lim_good {ρ : Rn} {wL W : World} (hcon : LCon ρ wL) (hlow : Low (fun _ => False) ρ wL W) (hempty : ∀ T, Calls Tryz.prog 8 #[.string ⟨#[]⟩] (on wL T) fun e _ => ∃ v, e = .returned v ∧ v = .string okA) (a0 a1 a2 : Int) {Post : Value → World → Prop} (hpost : ∀ w', Kept W w' → Post (.bool true) w') :
  ∃ N last o w' t', runNT Tryz.prog (N + 1) (solo (Conc.G (Frame.enter Tryz.prog 4 #[.int .i64 a0, .int .i64 a1, .int .i64 a2] .normal) []) W) #[] = (.ended o w', t') ∧ runN Tryz.prog N (solo (Conc.G (Frame.enter Tryz.prog 4 #[.int .i64 a0, .int .i64 a1, .int .i64 a2] .normal) []) W) = .next last ∧
   step Tryz.prog last = .ended o w' ∧ Conc.Good Tryz.prog Post last o w' t' := by
 obtain ⟨m, t, ⟨g, w, T0⟩, S, T, h1, ⟨n, gs, sl, Q, rfl, h3, h4⟩, h5, ⟨TV, todo, h6, h7, h8⟩, h9⟩ := lim_run hcon hlow hempty a0 a1 a2
 have h6' : g = _ := h6
 subst h6'
 refine runs_end h1 (calm_end (v := .bool true) h5 _ (Nat.lt_succ_self _) h4 h3 fun w1 hw => ⟨?_, hpost _ (h9.trans (Kept.at hw))⟩)
 refine stepG_last (fn := Tryz.f4) rfl rfl Tryz.func4 noInit4 ?_ (events_results_tmp rfl _ _)
 rw [results_tmp (t := 6) rfl]
 simp [Array.getD_eq_getD_getElem?, h8]
end Go.Mx
