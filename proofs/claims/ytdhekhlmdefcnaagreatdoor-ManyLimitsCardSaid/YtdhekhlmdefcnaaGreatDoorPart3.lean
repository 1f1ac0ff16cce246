/- Part 3 of the proof: Pr24, Pr25, Pr26, Pr27, Pr28, Pr29, Pr30, Pr31, Pr32, Pr33, Pr34, Pr35. -/
import Derived.Test.YtdhekhlmdefcnaaGreatDoorPart2
import GoSem.Machine.Exec
namespace Go.Pr
open Go
def fnOk (ρ : Rn) : Fn → Prop
 | .func f => ρ.ok f
 | .method n | .methodOf _ n => ρ.nm n
 | .via _ _ f _ => ρ.ok f
 | .yield _ => False
def callOk (P : Program) (ρ : Rn) (q : Operand → Prop) (c : Call) : Prop := (∀ o ∈ c.args.toList, q o) ∧ match c.callee with
 | .value f => q f
 | .invoke r n => q r ∧ ρ.nm n
 | .builtin b => builtinOk P b c.argTypes = true
def opOk (P : Program) (ρ : Rn) (q : Operand → Prop) : Op → Prop
 | .move x | .assign x | .box _ x | .load _ x | .nilCheck x | .unOp _ _ x | .makeInterface _ x | .fieldAddr _ x _ | .field _ x _ | .typeAssert x _ _ _ | .extract x _ | .panic x => q x
 | .pick c a b => q c ∧ q a ∧ q b
 | .alloc _ => True
 | .build _ ps | .buildSlice _ _ ps => ∀ p ∈ ps.toList, q p.2
 | .store _ a x => q a ∧ q x
 | .binOp _ _ x y _ => q x ∧ q y
 | .convert s t x => convOk P s t = true ∧ q x
 | .makeFunc fn a b => fnOk ρ fn ∧ (∀ x ∈ a.toList, q x) ∧ ∀ x ∈ b.toList, q x
 | .makeMap _ r => ∀ x, r = some x → q x
 | .makeSlice _ l c => q l ∧ q c
 | .slice _ x lo hi mx => q x ∧ (∀ y, lo = some y → q y) ∧ (∀ y, hi = some y → q y) ∧ ∀ y, mx = some y → q y
 | .indexAddr _ x i | .index _ x i => q x ∧ q i
 | .lookup t x i _ => mapOk P t = true ∧ q x ∧ q i
 | .mapUpdate t m k x | .insert t m k x => mapOk P t = true ∧ q m ∧ q k ∧ q x
 | .range t x => strOk P t = true ∧ q x
 | .next it b => b = true ∧ q it
 | .call c => callOk P ρ q c
 | .defer c => callOk P ρ q c ∧ ∀ b, c.callee ≠ .builtin b
 | _ => False
section
variable {P : Program} {α β γ δ : Type} {A : Rn → α → β → Prop} {C : Rn → γ → δ → Prop} {ρ : Rn}
theorem OVR.map {e e' : Operand → Value} {o : Option Operand} (h : ∀ x, o = some x → VR ρ (e x) (e' x)) : OVR ρ (o.map e) (o.map e') := by
 cases o with
 | none => exact .inl ⟨rfl, rfl⟩
 | some x => exact .inr ⟨_, _, rfl, rfl, h x rfl⟩
theorem AR.ops {e e' : Operand → Value} {l : Array Operand} (h : ∀ o ∈ l.toList, VR ρ (e o) (e' o)) : AR ρ (l.map e) (l.map e') := by
 unfold AR
 rw [Array.toList_map, Array.toList_map]
 revert h
 generalize l.toList = l
 intro h
 induction l with
 | nil => exact .nil
 | cons o l ih => exact .cons (h o (by simp)) (ih fun q hq => h q (by simp [hq]))
theorem PsR.ops {e e' : Operand → Value} {l : Array (Nat × Operand)} (h : ∀ p ∈ l.toList, VR ρ (e p.2) (e' p.2)) : PsR ρ (l.map fun (i, x) => (i, e x)).toList (l.map fun (i, x) => (i, e' x)).toList := by
 rw [Array.toList_map, Array.toList_map]
 revert h
 generalize l.toList = l
 intro h
 induction l with
 | nil => exact .nil
 | cons o l ih => exact .cons (h o (by simp)) (ih fun q hq => h q (by simp [hq]))
theorem fnOk_R {f : Fn} (h : fnOk ρ f) : FnR ρ f f := by
 cases f with
 | func f => exact .func h
 | method n => exact .method h
 | methodOf t n => exact .methodOf t h
 | via t p f q => exact .via h
 | yield l => exact h.elim
set_option maxHeartbeats 1000000 in
theorem R_execOp (hP : PF P) (hK : KF P ρ) (hX : XF P ρ.ok) (hM : ∀ n, ρ.nm n → MF P ρ n) {e e' : Operand → Value} {q : Operand → Prop} (he : ∀ o, q o → VR ρ (e o) (e' o)) (o : Oper) (ho : opOk P ρ q o.op) :
  SemR P NextR ρ (execOp e o) (execOp e' o) := by
 have v : ∀ {s s' : Sem Value}, SemR P VRr ρ s s' → SemR P NextR ρ (do Pure.pure (.value (← s))) (do Pure.pure (.value (← s'))) := fun h => R_bind h fun _ _ _ _ k => R_pure (.value k)
 have u : ∀ {s s' : Sem Unit}, SemR P (TrR Unit Unit) ρ s s' → SemR P NextR ρ (do s; Pure.pure .skip) (do s'; Pure.pure .skip) := fun h => R_bind h fun _ _ _ _ _ => R_pure .skip
 by_cases hnc : ∃ x, o.op = .nilCheck x
 ·obtain ⟨x, h⟩ := hnc
  rw [h] at ho
  exact R_nilCheck hP hK o x h (he x ho)
 obtain ⟨dst, op, ty, pos, after, guard⟩ := o
 unfold execOp
 dsimp only at ho ⊢
 cases op
 case move x => exact R_pure (.value (he x ho))
 case assign x => exact R_pure (.value (he x ho))
 case pick c a b =>
  refine R_bind (R_asBool (he c ho.1)) fun σ z z' l h => ?_
  subst h
  refine R_pure (.value ?_)
  split
  ·exact (he a ho.2.1).mono l
  ·exact (he b ho.2.2).mono l
 case alloc t => exact v (R_alloc hP t)
 case box t x => exact v (R_box t (he x ho))
 case build t ps => exact v (R_build hP t (PsR.ops fun p hp => he _ (ho p hp)))
 case buildSlice t n ps => exact v (R_buildSlice hP t n (PsR.ops fun p hp => he _ (ho p hp)))
 case load t a => exact v (R_loadAt t (he a ho))
 case store t a x => exact u (R_storeAt t (he a ho.1) (he x ho.2))
 case nilCheck x => exact absurd ⟨x, rfl⟩ hnc
 case binOp b t x y t2 => exact v (R_bind (R_eqGuard b t x y (he x ho.1) (he y ho.2)) fun σ _ _ l _ => R_binOp hP (hK.mono l) b t ((he x ho.1).mono l) ((he y ho.2).mono l))
 case unOp b t x => exact v (R_unary b (he x ho))
 case convert s t x => exact v (R_convert s t ho.1 (he x ho.2))
 case makeInterface t x => exact v (R_makeInterface t (he x ho))
 case makeFunc fn a b => exact v (R_makeFunc (fnOk_R ho.1) (AR.ops fun o h => he o (ho.2.1 o h)) (AR.ops fun o h => he o (ho.2.2 o h)))
 case makeMap t r => exact v (R_makeMap t (OVR.map fun x h => he x (ho x h)))
 case makeSlice t l c => exact v (R_makeSlice hP hK t (he l ho.1) (he c ho.2))
 case slice t x lo hi mx => exact v (R_sliceAt hP hK t (he x ho.1) (OVR.map fun y h => he y (ho.2.1 y h)) (OVR.map fun y h => he y (ho.2.2.1 y h)) (OVR.map fun y h => he y (ho.2.2.2 y h)))
 case fieldAddr s x f => exact v (R_fieldAt2 s f (he x ho))
 case field t x f => exact v (R_field t f (he x ho))
 case indexAddr t x i => exact v (R_indexAt hP hK t (he x ho.1) (he i ho.2))
 case index t x i => exact v (R_index hP hK t (he x ho.1) (he i ho.2))
 case lookup t x i b => exact v (R_lookup hP hK t ho.1 (he x ho.2.1) (he i ho.2.2) b)
 case mapUpdate t m k x => exact u (R_mapUpdate hP hK t ho.1 (he m ho.2.1) (he k ho.2.2.1) (he x ho.2.2.2))
 case insert t m k x => exact u (R_mapUpdate hP hK t ho.1 (he m ho.2.1) (he k ho.2.2.1) (he x ho.2.2.2))
 case range t x => exact v (R_range t ho.1 (he x ho.2))
 case next it b =>
  obtain ⟨rfl, ho⟩ := ho
  exact v (R_next ty (he it ho))
 case typeAssert x s t b => exact v (R_typeAssert hP hK (he x ho) s t b)
 case extract x i => exact v (R_extract i (he x ho))
 case call c =>
  obtain ⟨h1, h2⟩ := ho
  cases hc : c.callee with
  | builtin b =>
   rw [hc] at h2
   have r : ∀ f : Operand → Value, resolve f c ty = Pure.pure { target := .builtin b c.argTypes ty (c.args.map fun | .const _ => true | _ => false), args := c.args.map f } := fun f => by
    unfold resolve
    dsimp only
    rw [hc]
    rfl
   show SemR P NextR ρ (do let d ← resolve e c ty; invoke d.target d.args) (do let d ← resolve e' c ty; invoke d.target d.args)
   rw [r, r]
   exact R_builtin hP hK b c.argTypes ty _ h2 (AR.ops fun o h => he o (h1 o h))
  | invoke r n =>
   rw [hc] at h2
   refine R_bind (R_resolve c ty (fun o h => he o (h1 o h)) (by rw [hc]; exact ⟨he r h2.1, h2.2⟩)) fun σ d d' l hd => ?_
   refine R_invoke hP (hK.mono l) (by rw [l.ok]; exact hX) (fun n h => ?_) hd.target hd.args
   intro t i m f q k1 k2 k3
   rw [l.ok]
   exact hM n (by rw [← l.nm]; exact h) t i m f q k1 k2 k3
  | value f =>
   rw [hc] at h2
   refine R_bind (R_resolve c ty (fun o h => he o (h1 o h)) (by rw [hc]; exact he f h2)) fun σ d d' l hd => ?_
   refine R_invoke hP (hK.mono l) (by rw [l.ok]; exact hX) (fun n h => ?_) hd.target hd.args
   intro t i m f q k1 k2 k3
   rw [l.ok]
   exact hM n (by rw [← l.nm]; exact h) t i m f q k1 k2 k3
 case defer c =>
  obtain ⟨⟨h1, h2⟩, h3⟩ := ho
  refine R_bind (R_resolve c ty (fun o h => he o (h1 o h)) ?_) fun σ d d' l hd => R_pure (.defer hd)
  cases hc : c.callee with
  | builtin b => exact (h3 b hc).elim
  | invoke r n => rw [hc] at h2; exact ⟨he r h2.1, h2.2⟩
  | value f => rw [hc] at h2; exact he f h2
 case panic x => exact v (R_panicOp hP hK (he x ho))
 all_goals exact ho.elim
end
end Go.Pr
namespace Go.Pr
open Go
section
variable {P : Program} {ρ : Rn}
theorem R_noEscape {xs xs' : Array Value} (hx : AR ρ xs xs') : SemR P VRr ρ (Extern.AbiNoEscape.same xs) (Extern.AbiNoEscape.same xs') := by
 obtain ⟨xs⟩ := xs
 obtain ⟨xs'⟩ := xs'
 have hx : LR ρ xs xs' := hx
 cases hx with
 | nil => exact R_stuck
 | cons x y =>
  cases y with
  | nil => exact R_pure x
  | cons _ _ => exact R_stuck
theorem digits_pl : ∀ (n t : Nat) (acc : Array Value), (∀ v ∈ acc.toList, Pl v) → ∀ v ∈ (Extern.BytealgMakeNoZero.digits n t acc).toList, Pl v
 | 0, _, _, h => h
 | n + 1, t, acc, h => by
  unfold Extern.BytealgMakeNoZero.digits
  refine digits_pl n _ _ fun v hv => ?_
  simp only [Array.toList_push, List.mem_append, List.mem_singleton] at hv
  rcases hv with hv | rfl
  ·exact h v hv
  ·exact pl_i _ _
theorem R_makeNoZero (hP : PF P) (hK : KF P ρ) (ps rs : Array TypeId) {xs xs' : Array Value} (hx : AR ρ xs xs') : SemR P VRr ρ (Extern.BytealgMakeNoZero.makeNoZero ps rs xs) (Extern.BytealgMakeNoZero.makeNoZero ps rs xs') := by
 obtain ⟨xs⟩ := xs
 obtain ⟨xs'⟩ := xs'
 have hx : LR ρ xs xs' := hx
 unfold Extern.BytealgMakeNoZero.makeNoZero
 cases hx with
 | nil => exact R_stuck
 | cons x y =>
  cases y with
  | cons _ _ => cases x <;> first | exact R_stuck | (rename_i k n; cases k <;> exact R_stuck)
  | nil =>
   cases x
   case int k n =>
    cases k
    case i64 =>
     dsimp only
     cases rs[0]? with
     | none => exact R_stuck
     | some t =>
      refine R_bind (R_underlying t) fun σ d d' l e => ?_
      subst e
      cases d
      case slice e =>
       dsimp only
       refine R_ifB rfl (R_dead (R_runtimePanic hP (hK.mono l) _)) ?_
       refine R_bind (R_choose _) fun τ c c' l2 h => ?_
       subst h
       refine R_bind (R_room _) fun μ _ _ l3 _ => ?_
       refine R_bind (R_choose _) fun ν b b' l4 h => ?_
       subst h
       exact R_bind (R_newRow e (AR.plain (digits_pl _ _ _ (by simp)))) fun _ _ _ _ k => R_pure (.slice _ _ k)
      all_goals exact R_stuck
    all_goals exact R_stuck
   all_goals exact R_stuck
end
end Go.Pr
namespace Go.Pr
open Go
section
variable {P : Program} {ρ : Rn}
theorem R_xBytes : ∀ (n : Nat) {ρ : Rn} {a a' : Addr} (acc : ByteArray), AddrR ρ a a' → SemR P (EqR ByteArray) ρ (Extern.Bytes.loadBytes a n acc) (Extern.Bytes.loadBytes a' n acc)
 | 0, _, _, _, _, _ => R_pure rfl
 | n + 1, ρ, a, a', acc, ha => by
  unfold Extern.Bytes.loadBytes
  refine R_bind (R_load ha) fun σ v v' l hv => ?_
  cases hv
  case int k m => cases k <;> first | exact R_stuck | exact R_xBytes n _ ((ha.mono l).add 1)
  all_goals exact R_stuck
theorem R_bytesOf {x x' : Value} (hx : VR ρ x x') : SemR P (EqR ByteArray) ρ (Extern.Bytes.bytesOf x) (Extern.Bytes.bytesOf x') := by
 cases hx
 case string s => exact R_pure rfl
 case slice0 => exact R_pure rfl
 case slice ha => exact R_xBytes _ _ ha
 all_goals exact R_stuck
theorem R_asByte {x x' : Value} (hx : VR ρ x x') : SemR P (EqR UInt8) ρ (Extern.Bytes.asByte x) (Extern.Bytes.asByte x') := by
 cases hx
 case int k n => cases k <;> first | exact R_stuck | exact R_pure rfl
 all_goals exact R_stuck
theorem R_indexByte {xs xs' : Array Value} (hx : AR ρ xs xs') : SemR P VRr ρ (Extern.BytealgIndexByte.indexByte xs) (Extern.BytealgIndexByte.indexByte xs') := by
 obtain ⟨xs⟩ := xs
 obtain ⟨xs'⟩ := xs'
 have hx : LR ρ xs xs' := hx
 unfold Extern.BytealgIndexByte.indexByte
 cases hx with
 | nil => exact R_stuck
 | cons x y =>
  cases y with
  | nil => exact R_stuck
  | cons y z =>
   cases z with
   | cons _ _ => exact R_stuck
   | nil =>
    refine R_bind (R_bytesOf x) fun σ b b' l e => ?_
    subst e
    refine R_bind (R_asByte (y.mono l)) fun τ c c' l2 e => ?_
    subst e
    split <;> exact R_pure (pl_int _)
theorem R_indexStr (hK : KF P ρ) {xs xs' : Array Value} (hx : AR ρ xs xs') : SemR P VRr ρ (Extern.BytealgIndex.index xs) (Extern.BytealgIndex.index xs') := by
 have hm : ∀ σ : Rn, ρ.Le σ → SemR P (EqR Int) σ Extern.BytealgIndex.maxLen Extern.BytealgIndex.maxLen := fun σ l => by
  unfold Extern.BytealgIndex.maxLen
  refine R_bind (A := AddrR) ?_ fun τ a a' _ ha => R_bind (R_load ha) fun _ _ _ _ hv => R_asInt hv
  unfold globalAddr
  refine R_bind R_prog fun τ p p' l2 e => ?_
  rw [e.1, e.2]
  cases hg : P.globals.findIdx? (·.name == "internal/bytealg.MaxLen") with
  | none => exact R_stuck
  | some g => exact R_pure ⟨.inl ⟨((hK.mono l).mono l2).max g hg, rfl⟩, rfl, rfl⟩
 obtain ⟨xs⟩ := xs
 obtain ⟨xs'⟩ := xs'
 have hx : LR ρ xs xs' := hx
 unfold Extern.BytealgIndex.index
 cases hx with
 | nil => exact R_stuck
 | cons x y =>
  cases y with
  | nil => exact R_stuck
  | cons y z =>
   cases z with
   | cons _ _ => exact R_stuck
   | nil =>
    refine R_bind (R_bytesOf x) fun σ b b' l e => ?_
    subst e
    refine R_bind (R_bytesOf (y.mono l)) fun τ c c' l2 e => ?_
    subst e
    refine R_bind (hm τ (l.trans l2)) fun μ m m' l3 e => ?_
    have e : m = m' := e
    subst e
    dsimp only
    refine R_ifB rfl (R_dead (R_unsup rfl)) ?_
    refine R_if Iff.rfl (fun _ => R_dead (R_unsup rfl)) fun _ => ?_
    split <;> exact R_pure (pl_int _)
end
end Go.Pr
namespace Go.Pr
open Go
def VT (ρ : Rn) (v v' : Value) : Prop := VR ρ v v' ∨ ∃ a : Addr, ρ.T a.block ∧ v = .pointer (some a) ∧ v' = .pointer (some a)
theorem VT.mono {ρ σ : Rn} (h : ρ.Le σ) {v v' : Value} (x : VT ρ v v') : VT σ v v' := x.imp (fun k => k.mono h) fun ⟨a, k, e⟩ => ⟨a, by rw [h.T]; exact k, e⟩
section
variable {P : Program} {ρ : Rn}
theorem add_block (a : Addr) (n : Nat) : (a.add n).block = a.block := by unfold Addr.add; split <;> rfl
theorem R_indexT (hP : PF P) (hK : KF P ρ) (t : TypeId) {a : Addr} (ha : ρ.T a.block) {i i' : Value} (hi : VR ρ i i') : SemR P VT ρ (Instr.indexAt t (.pointer (some a)) i) (Instr.indexAt t (.pointer (some a)) i') := by
 unfold Instr.indexAt
 refine R_bind (R_asIntOf hi) fun σ k k' l hk => ?_
 subst hk
 obtain ⟨k, n⟩ := k
 dsimp only
 refine R_bind (R_underlying t) fun τ d d' l2 hd => ?_
 subst hd
 cases d
 case array len elem =>
  dsimp only
  refine R_bind (A := fun _ x y => x = a ∧ y = a) (R_pure ⟨rfl, rfl⟩) fun μ x y l3 h => ?_
  rw [h.1, h.2]
  refine R_bind (A := fun _ x y => x = (some a, len, elem) ∧ y = (some a, len, elem)) (R_pure ⟨rfl, rfl⟩) fun μ' x y l3' h => ?_
  rw [h.1, h.2]
  dsimp only
  refine R_bind (R_underlying t) fun ν d d' l4 hd => ?_
  subst hd
  refine R_if Iff.rfl (fun _ => ?_) fun _ => R_ifB rfl (R_unsup rfl) (R_boundsPanic hP (((((hK.mono l).mono l2).mono l3).mono l3').mono l4) k n len .index)
  refine R_bind (R_sizeOf _) fun ξ m m' l5 hm => ?_
  subst hm
  exact R_pure (.inr ⟨_, by rw [add_block, l5.T, l4.T, l3'.T, l3.T, l2.T, l.T]; exact ha, rfl, rfl⟩)
 all_goals exact R_stuck
theorem R_loadT {a : Addr} (ha : ρ.T a.block) : SemR P VRr ρ (Go.load a) (Go.load a) := .loadT ha fun _ hv => .pure (hv ρ)
theorem R_cellsT : ∀ (n i : Nat) {ρ : Rn} {a : Addr} {acc acc' : Array Value}, ρ.T a.block → AR ρ acc acc' → SemR P AR ρ (loadCellsFrom a i n acc) (loadCellsFrom a i n acc')
 | 0, _, _, _, _, _, _, h => R_pure h
 | n + 1, i, _, _, _, _, ha, h => R_bind (R_loadT (by rw [add_block]; exact ha)) fun _ _ _ l hv => R_cellsT n (i + 1) (by rw [l.T]; exact ha) ((h.mono l).push hv)
theorem R_loadVarT (t : TypeId) {a : Addr} (ha : ρ.T a.block) : SemR P VRr ρ (Instr.loadAt t (.pointer (some a))) (Instr.loadAt t (.pointer (some a))) := by
 unfold Instr.loadAt
 show SemR P VRr ρ (loadVar t a) (loadVar t a)
 unfold Go.loadVar
 refine R_bind (R_isAgg t) fun σ b b' l hb => R_ifB hb ?_ (R_loadT (by rw [l.T]; exact ha))
 refine R_bind (R_sizeOf t) fun τ n n' l2 hn => ?_
 subst hn
 exact R_bind (R_cellsT n 0 (by rw [l2.T, l.T]; exact ha) LR.nil) fun _ _ _ _ hc => R_pure (.agg hc)
theorem R_loadVT (t : TypeId) {v v' : Value} (h : VT ρ v v') : SemR P VRr ρ (Instr.loadAt t v) (Instr.loadAt t v') := by
 rcases h with h | ⟨a, ha, rfl, rfl⟩
 ·exact R_loadAt t h
 ·exact R_loadVarT t ha
end
end Go.Pr
namespace Go.Pr
open Go
def opd (ρ : Rn) (S : Nat → Bool) : Operand → Prop
 | .tmp t => S t = false
 | .const v => Pl v
 | .global g => ρ.K g
 | .func f => ρ.ok f
def Stp (ρ : Rn) (o : Oper) : Prop := ∃ c f, o.op = .call c ∧ c.callee = .value (.func f) ∧ ρ.sp f
def OperOk (P : Program) (ρ : Rn) (S : Nat → Bool) (inl : Bool) (o : Oper) : Prop :=
 (opOk P ρ (opd ρ S) o.op ∧ (∀ d, o.dst = some d → S d = false) ∧ (inl = true → ∀ c, o.op ≠ .defer c)) ∨
 (inl = false ∧ (∃ c, o.op = .call c ∧ c.callee = .builtin .recover) ∧ ∀ d, o.dst = some d → S d = false) ∨
 (∃ t g i d, o.op = .indexAddr t (.global g) i ∧ ρ.T g ∧ opd ρ S i ∧ o.dst = some d ∧ S d = true) ∨
 (∃ t x, o.op = .load t x ∧ ((∃ s, x = .tmp s) ∨ ∃ g, x = .global g ∧ ρ.T g) ∧ ∀ d, o.dst = some d → S d = false) ∨ Stp ρ o
def CodeOk (P : Program) (ρ : Rn) (f : Nat) (S : Nat → Bool) (inl : Bool) : Code → Prop
 | .seq a b => CodeOk P ρ f S inl a ∧ CodeOk P ρ f S inl b
 | .cond c a b => opd ρ S c ∧ CodeOk P ρ f S inl a ∧ CodeOk P ρ f S inl b
 | .block _ c | .loop c | .scope c => CodeOk P ρ f S inl c
 | .region _ ops _ => ∀ o ∈ ops.toList, OperOk P ρ S inl o
 | .rangeFunc g _ a b => opd ρ S g ∧ (∀ s, S s = false) ∧ ρ.cd f a ∧ ρ.cd f b
 | _ => True
inductive ItR (P : Program) (ρ : Rn) (f : Nat) (S : Nat → Bool) (inl : Bool) : Item → Item → Prop
 | code {c : Code} : CodeOk P ρ f S inl c → ItR P ρ f S inl (.code c) (.code c)
 | inBlock (id : Nat) : ItR P ρ f S inl (.inBlock id) (.inBlock id)
 | inLoop {c : Code} : CodeOk P ρ f S inl c → ItR P ρ f S inl (.inLoop c) (.inLoop c)
 | inScope {c : Code} : CodeOk P ρ f S inl c → ItR P ρ f S inl (.inScope c) (.inScope c)
 | inRegion {ops : Array Oper} (todo : List Nat) : (∀ o ∈ ops.toList, OperOk P ρ S inl o) → ItR P ρ f S inl (.inRegion ops todo) (.inRegion ops todo)
 | inRange {l l' : Nat} : ρ.r l l' → ItR P ρ f S inl (.inRangeFunc l) (.inRangeFunc l')
 | endRange {l l' : Nat} : ρ.r l l' → ItR P ρ f S inl (.endRangeFunc l) (.endRangeFunc l')
 | beginRound : ItR P ρ f S inl .beginRound .beginRound
inductive IsR (P : Program) (ρ : Rn) (f : Nat) (S : Nat → Bool) (inl : Bool) : List Item → List Item → Prop
 | nil : IsR P ρ f S inl [] []
 | cons {x x' : Item} {l l' : List Item} : ItR P ρ f S inl x x' → IsR P ρ f S inl l l' → IsR P ρ f S inl (x :: l) (x' :: l')
structure PeR (ρ : Rn) (e e' : PanicEntry) : Prop where
 v : VR ρ e.v e'.v
 rc : e'.recovered = e.recovered
 gox : e'.goexit = e.goexit
inductive PsR2 (ρ : Rn) : List PanicEntry → List PanicEntry → Prop
 | nil : PsR2 ρ [] []
 | cons {x x' : PanicEntry} {l l' : List PanicEntry} : PeR ρ x x' → PsR2 ρ l l' → PsR2 ρ (x :: l) (x' :: l')
inductive MdR (ρ : Rn) : FrameMode → FrameMode → Prop
 | run : MdR ρ .run .run
 | returning : MdR ρ .returning .returning
 | panicking {c c' : List PanicEntry} : PsR2 ρ c c' → MdR ρ (.panicking c) (.panicking c')
structure TmR (ρ : Rn) (S : Nat → Bool) (t t' : Array Value) : Prop where
 size : t'.size = t.size
 get : ∀ (i : Nat) v v', t[i]? = some v → t'[i]? = some v' → (S i = false → VR ρ v v') ∧ VT ρ v v'
structure FrR (P : Program) (ρ : Rn) (S : Nat → Nat → Bool) (fr fr' : Frame) : Prop where
 fn : fr'.fn = fr.fn
 ok : ρ.ok fr.fn
 tmps : TmR ρ (S fr.fn) fr.tmps fr'.tmps
 todo : IsR P ρ fr.fn (S fr.fn) fr.roundOf.isSome fr.todo fr'.todo
 defers : DsR ρ fr.defers fr'.defers
 mode : MdR ρ fr.mode fr'.mode
 kind : fr'.kind = fr.kind
 kindOk : fr.kind = .normal ∨ fr.kind = .deferred
 round : ORr ρ fr.roundOf fr'.roundOf
inductive FsR (P : Program) (ρ : Rn) (S : Nat → Nat → Bool) : List Frame → List Frame → Prop
 | nil : FsR P ρ S [] []
 | cons {x x' : Frame} {l l' : List Frame} : FrR P ρ S x x' → FsR P ρ S l l' → FsR P ρ S (x :: l) (x' :: l')
section
variable {P : Program} {ρ σ : Rn} {S : Nat → Nat → Bool}
theorem opd.mono (h : ρ.Le σ) {q : Nat → Bool} {o : Operand} (k : opd ρ q o) : opd σ q o := by
 cases o with
 | tmp t => exact k
 | const v => exact k
 | global g => exact (show σ.K g by rw [h.K]; exact k)
 | func f => exact (show σ.ok f by rw [h.ok]; exact k)
theorem opd_eq (h : ρ.Le σ) (q : Nat → Bool) : opd σ q = opd ρ q := by
 funext o
 cases o with
 | tmp t => rfl
 | const v => rfl
 | global g => show σ.K g = ρ.K g; rw [h.K]
 | func f => show σ.ok f = ρ.ok f; rw [h.ok]
theorem opOk_eq (h : ρ.Le σ) (q : Operand → Prop) : opOk P σ q = opOk P ρ q := by
 have e1 : ∀ c, callOk P σ q c = callOk P ρ q c := fun c => by unfold callOk; rw [h.nm]
 have e2 : ∀ f, fnOk σ f = fnOk ρ f := fun f => by cases f <;> simp only [fnOk, h.ok, h.nm]
 funext o
 cases o <;> simp only [opOk, e1, e2]
theorem OperOk_eq (h : ρ.Le σ) (q : Nat → Bool) (inl : Bool) (o : Oper) : OperOk P σ q inl o = OperOk P ρ q inl o := by
 unfold OperOk Stp
 rw [opd_eq h, opOk_eq h, h.T, h.sp]
theorem CodeOk_eq (h : ρ.Le σ) (f : Nat) (q : Nat → Bool) (inl : Bool) : ∀ c, CodeOk P σ f q inl c = CodeOk P ρ f q inl c := by
 intro c
 induction c <;> simp only [CodeOk, opd_eq h, h.cd, *]
 simp only [OperOk_eq h]
theorem ItR.mono (h : ρ.Le σ) {f : Nat} {q : Nat → Bool} {inl : Bool} {x x' : Item} (k : ItR P ρ f q inl x x') : ItR P σ f q inl x x' := by
 cases k with
 | code c => exact .code (by rw [CodeOk_eq h]; exact c)
 | inBlock id => exact .inBlock id
 | inLoop c => exact .inLoop (by rw [CodeOk_eq h]; exact c)
 | inScope c => exact .inScope (by rw [CodeOk_eq h]; exact c)
 | inRegion t o => exact .inRegion t fun x hx => by rw [OperOk_eq h]; exact o x hx
 | inRange r => exact .inRange (h.r r)
 | endRange r => exact .endRange (h.r r)
 | beginRound => exact .beginRound
theorem IsR.mono (h : ρ.Le σ) {f : Nat} {q : Nat → Bool} {inl : Bool} : ∀ {x x' : List Item}, IsR P ρ f q inl x x' → IsR P σ f q inl x x'
 | _, _, .nil => .nil
 | _, _, .cons a b => .cons (a.mono h) (b.mono h)
theorem PeR.mono (h : ρ.Le σ) {x x' : PanicEntry} (k : PeR ρ x x') : PeR σ x x' := ⟨k.v.mono h, k.rc, k.gox⟩
theorem PsR2.mono (h : ρ.Le σ) : ∀ {x x' : List PanicEntry}, PsR2 ρ x x' → PsR2 σ x x'
 | _, _, .nil => .nil
 | _, _, .cons a b => .cons (a.mono h) (b.mono h)
theorem PsR2.app : ∀ {x x' y y' : List PanicEntry}, PsR2 ρ x x' → PsR2 ρ y y' → PsR2 ρ (x ++ y) (x' ++ y')
 | _, _, _, _, .nil, h => h
 | _, _, _, _, .cons a b, h => .cons a (b.app h)
theorem MdR.mono (h : ρ.Le σ) {x x' : FrameMode} (k : MdR ρ x x') : MdR σ x x' := by
 cases k with
 | run => exact .run
 | returning => exact .returning
 | panicking c => exact .panicking (c.mono h)
theorem TmR.mono (h : ρ.Le σ) {q : Nat → Bool} {t t' : Array Value} (k : TmR ρ q t t') : TmR σ q t t' :=
 ⟨k.size, fun i v v' h1 h2 => ⟨fun e => ((k.get i v v' h1 h2).1 e).mono h, (k.get i v v' h1 h2).2.mono h⟩⟩
theorem TmR.of {q : Nat → Bool} {t t' : Array Value} (h : AR ρ t t') : TmR ρ q t t' :=
 ⟨h.size, fun i v v' h1 h2 => by
  rcases h.get i with ⟨k1, _⟩ | ⟨u, u', k1, k2, k3⟩
  ·rw [h1] at k1; cases k1
  ·rw [h1] at k1; rw [h2] at k2; cases k1; cases k2; exact ⟨fun _ => k3, .inl k3⟩⟩
theorem TmR.to {q : Nat → Bool} {t t' : Array Value} (h : TmR ρ q t t') (hq : ∀ s, q s = false) : AR ρ t t' := by
 have key : ∀ (l l' : List Value), l'.length = l.length → (∀ (i : Nat) v v', l[i]? = some v → l'[i]? = some v' → VR ρ v v') → LR ρ l l' := by
  intro l
  induction l with
  | nil => intro l' h1 _; cases l' with
   | nil => exact .nil
   | cons _ _ => simp at h1
  | cons a l ih => intro l' h1 h2; cases l' with
   | nil => simp at h1
   | cons b l' => exact .cons (h2 0 a b rfl rfl) (ih l' (by simpa using h1) fun i v v' k1 k2 => h2 (i + 1) v v' (by simpa using k1) (by simpa using k2))
 exact key _ _ (by simpa using h.size) fun i v v' h1 h2 => (h.get i v v' (by simpa using h1) (by simpa using h2)).1 (hq i)
theorem undefR : VR ρ undef undef := .tuple LR.nil
theorem TmR.getD {q : Nat → Bool} {t t' : Array Value} (h : TmR ρ q t t') (i : Nat) : (q i = false → VR ρ (t.getD i undef) (t'.getD i undef)) ∧ VT ρ (t.getD i undef) (t'.getD i undef) := by
 rw [Array.getD_eq_getD_getElem?, Array.getD_eq_getD_getElem?]
 by_cases hi : i < t.size
 ·have hi' : i < t'.size := by rw [h.size]; exact hi
  rw [Array.getElem?_eq_getElem hi, Array.getElem?_eq_getElem hi']
  exact h.get i _ _ (Array.getElem?_eq_getElem hi) (Array.getElem?_eq_getElem hi')
 ·rw [Array.getElem?_eq_none (by omega), Array.getElem?_eq_none (by rw [h.size]; omega)]
  exact ⟨fun _ => undefR, .inl undefR⟩
theorem TmR.set {q : Nat → Bool} {t t' : Array Value} (h : TmR ρ q t t') (i : Nat) {v v' : Value} (h1 : q i = false → VR ρ v v') (h2 : VT ρ v v') : TmR ρ q (t.setIfInBounds i v) (t'.setIfInBounds i v') := by
 refine ⟨by simp [h.size], fun j u u' k1 k2 => ?_⟩
 rw [Array.getElem?_setIfInBounds] at k1 k2
 by_cases e : i = j
 ·subst e
  rw [if_pos rfl] at k1 k2
  split at k1
  ·rw [if_pos (by rw [h.size]; assumption)] at k2
   cases k1; cases k2
   exact ⟨h1, h2⟩
  ·cases k1
 ·rw [if_neg e] at k1 k2
  exact h.get j u u' k1 k2
theorem FrR.mono (h : ρ.Le σ) {x x' : Frame} (k : FrR P ρ S x x') : FrR P σ S x x' :=
 ⟨k.fn, by rw [h.ok]; exact k.ok, k.tmps.mono h, k.todo.mono h, k.defers.mono h, k.mode.mono h, k.kind, k.kindOk, k.round.imp id fun ⟨a, b, c, d, e⟩ => ⟨a, b, c, d, h.r e⟩⟩
theorem FsR.mono (h : ρ.Le σ) : ∀ {x x' : List Frame}, FsR P ρ S x x' → FsR P σ S x x'
 | _, _, .nil => .nil
 | _, _, .cons a b => .cons (a.mono h) (b.mono h)
theorem FrR.eval {x x' : Frame} (k : FrR P ρ S x x') {o : Operand} (h : opd ρ (S x.fn) o) : VR ρ (x.eval o) (x'.eval o) := by
 cases o with
 | tmp t => exact (k.tmps.getD t).1 h
 | const v => exact h ρ
 | global g => exact .ptr ⟨.inl ⟨h, rfl⟩, rfl, rfl⟩
 | func f => exact .func (.func h) LR.nil LR.nil
theorem FrR.evalT {x x' : Frame} (k : FrR P ρ S x x') (s : Nat) : VT ρ (x.eval (.tmp s)) (x'.eval (.tmp s)) := (k.tmps.getD s).2
theorem FrR.yielded {x x' : Frame} (k : FrR P ρ S x x') (ops : Array Oper) (j : Nat) : Go.yielded ops x'.tmps j = Go.yielded ops x.tmps j := by
 unfold Go.yielded
 cases hd : (ops[j]?).bind (·.dst) with
 | none => rfl
 | some d =>
  show (match x'.tmps[d]? with | some (.bool b) => some b | _ => none) = (match x.tmps[d]? with | some (.bool b) => some b | _ => none)
  by_cases hi : d < x.tmps.size
  ·have hi' : d < x'.tmps.size := by rw [k.tmps.size]; exact hi
   have := (k.tmps.get d _ _ (Array.getElem?_eq_getElem hi) (Array.getElem?_eq_getElem hi')).2
   rw [Array.getElem?_eq_getElem hi, Array.getElem?_eq_getElem hi']
   rcases this with h | ⟨a, _, e1, e2⟩
   ·revert h
    generalize x.tmps[d] = v
    generalize x'.tmps[d] = v'
    intro h
    cases h <;> rfl
   ·rw [e1, e2]
  ·rw [Array.getElem?_eq_none (xs := x'.tmps) (by rw [k.tmps.size]; exact Nat.le_of_not_lt hi), Array.getElem?_eq_none (xs := x.tmps) (Nat.le_of_not_lt hi)]
theorem exitTo_R {f : Nat} {q : Nat → Bool} {inl : Bool} (id : Nat) : ∀ {k k' : List Item}, IsR P ρ f q inl k k' → (exitTo id k = none ∧ exitTo id k' = none) ∨ ∃ r r', exitTo id k = some r ∧ exitTo id k' = some r' ∧ IsR P ρ f q inl r r'
 | _, _, .nil => .inl ⟨rfl, rfl⟩
 | _, _, .cons x y => by
  have ih := exitTo_R id y
  cases x with
  | inBlock i =>
   unfold exitTo
   split
   ·exact .inr ⟨_, _, rfl, rfl, y⟩
   ·exact ih
  | _ => simpa only [exitTo] using ih
theorem findLabel_ok {f : Nat} {q : Nat → Bool} {inl : Bool} (l : Nat) : ∀ {c r : Code}, CodeOk P ρ f q inl c → findLabel c l = some r → CodeOk P ρ f q inl r := by
 intro c
 induction c with
 | seq a b iha ihb =>
  intro r h e
  unfold findLabel at e
  split at e
  ·rename_i rest hr
   cases e
   exact ⟨iha h.1 hr, h.2⟩
  ·exact ihb h.2 e
 | label l' =>
  intro r h e
  unfold findLabel at e
  split at e
  ·cases e; trivial
  ·cases e
 | _ => intro r h e; simp [findLabel] at e
theorem gotoIn_R {f : Nat} {q : Nat → Bool} {inl : Bool} (l : Nat) : ∀ {k k' : List Item}, IsR P ρ f q inl k k' → (gotoIn l k = none ∧ gotoIn l k' = none) ∨ ∃ r r', gotoIn l k = some r ∧ gotoIn l k' = some r' ∧ IsR P ρ f q inl r r'
 | _, _, .nil => .inl ⟨rfl, rfl⟩
 | _, _, .cons x y => by
  have ih := gotoIn_R l y
  cases x with
  | inScope c =>
   unfold gotoIn
   cases hf : findLabel _ l with
   | none => exact ih
   | some r => exact .inr ⟨_, _, rfl, rfl, .cons (.code (findLabel_ok l c hf)) (.cons (.inScope c) y)⟩
  | _ => simpa only [gotoIn] using ih
end
end Go.Pr
namespace Go.Pr
open Go
structure Env (P : Program) (ρ : Rn) (S : Nat → Nat → Bool) : Prop where
 pf : PF P
 kf : KF P ρ
 xf : XF P ρ.ok
 mf : ∀ n, ρ.nm n → MF P ρ n
 code : ∀ f fn c, ρ.ok f → P.funcs[f]? = some fn → fn.body = some c → CodeOk P ρ f (S f) false c
 round : ∀ f c, ρ.cd f c → (∀ s, S f s = false) ∧ CodeOk P ρ f (S f) true c
 res : ∀ f fn, ρ.ok f → P.funcs[f]? = some fn → ∀ r ∈ fn.results.toList, match r with | .tmp t => S f t = false | .cell a _ => S f a = false
 fns : ∀ f, ρ.ok f → f < P.funcs.size
theorem MF.le {P : Program} {ρ σ : Rn} (h : ρ.Le σ) {n : String} (k : MF P ρ n) : MF P σ n := fun t i m f q h1 h2 h3 => by rw [h.ok]; exact k t i m f q h1 h2 h3
theorem Env.mono {P : Program} {ρ σ : Rn} {S : Nat → Nat → Bool} (E : Env P ρ S) (h : ρ.Le σ) : Env P σ S :=
 ⟨E.pf, E.kf.mono h, by rw [h.ok]; exact E.xf, fun n k => (E.mf n (by rw [← h.nm]; exact k)).le h, fun f fn c h1 h2 h3 => by rw [CodeOk_eq h]; exact E.code f fn c (by rw [← h.ok]; exact h1) h2 h3,
  fun f c k => by rw [h.cd] at k; rw [CodeOk_eq h]; exact E.round f c k, fun f fn k => E.res f fn (by rw [← h.ok]; exact k), fun f k => E.fns f (by rw [← h.ok]; exact k)⟩
def Bot (fr : Frame) (l : List Frame) : Prop := ((fr :: l).getLast (by simp)).kind = .normal ∧ ((fr :: l).getLast (by simp)).roundOf = none
theorem Bot.cons {fr c : Frame} {l : List Frame} : Bot fr (c :: l) ↔ Bot c l := by simp [Bot]
theorem Bot.same {fr fr1 : Frame} {l : List Frame} (h : Bot fr l) (hk : fr1.kind = fr.kind) (hr : fr1.roundOf = fr.roundOf) : Bot fr1 l := by
 cases l with
 | nil => simpa [Bot, hk, hr] using h
 | cons c l => exact Bot.cons.2 (Bot.cons.1 h)
def gr (fr : Frame) (cs : List Frame) : Goroutine := { frame := fr, callers := cs, status := .running, dying := none }
def Ans (w : World) (m : Nat) (ts : Nat → Question → Nat) (T : Nat → Question → Nat) : Prop := ∀ i, i < m → T (w.drawn + i) = ts i
def Goes (P : Program) (ρ : Rn) (S : Nat → Nat → Bool) (c0 : Frame) (ext : List Frame) (w w' : World) (L : World → GStep) (R : GStep) : Prop :=
 ∃ m ts, (∀ T, Ans w m ts T → ∃ o w1 es, L (on w T) = .ended o w1 es) ∨
  ∃ fr1 l1 w1 fr1' l1' w1' es es' σ, w1.drawn = w.drawn + m ∧ (∀ T, Ans w m ts T → L (on w T) = .go (gr fr1 (l1 ++ [c0])) (on w1 T) es) ∧ R = .go (gr fr1' (l1' ++ ext)) w1' es' ∧
   FsR P σ S (fr1 :: l1) (fr1' :: l1') ∧ Bot fr1 l1 ∧ Grow ρ σ w' w1' ∧ WR P σ w1 w1' ∧ LsR σ es.toList es'.toList ∧ Frm w' w1' (Own ρ)
section
variable {P : Program} {ρ : Rn} {S : Nat → Nat → Bool} {c0 : Frame} {ext : List Frame}
theorem seenEv_R (fn : FuncId) {es es' : Array Event} (h : LsR ρ es.toList es'.toList) : LsR ρ (seen P fn es).toList (seen P fn es').toList := by
 dsimp only [seen]
 rw [← Array.foldl_toList, ← Array.foldl_toList]
 revert h
 generalize es.toList = l
 generalize es'.toList = l'
 intro h
 have key : ∀ (l l' : List Event), LsR ρ l l' → ∀ (q : Bool) (k k' : Array Event), LsR ρ k.toList k'.toList →
   LsR ρ (l.foldl (fun (q, kept) e => match e.loc with | .mark (.extern f) => ((P.funcs[f]?).any (·.norace), kept) | _ => (q, if q && !e.sync then kept else kept.push e)) (q, k)).2.toList
    (l'.foldl (fun (q, kept) e => match e.loc with | .mark (.extern f) => ((P.funcs[f]?).any (·.norace), kept) | _ => (q, if q && !e.sync then kept else kept.push e)) (q, k')).2.toList := by
  intro l l' h
  induction h with
  | nil => intro q k k' hk; exact hk
  | @cons e e' l l' he _ ih =>
   intro q k k' hk
   rw [List.foldl_cons, List.foldl_cons]
   have push : LsR ρ (k.push e).toList (k'.push e').toList := by
    rw [Array.toList_push, Array.toList_push]
    exact LsR.snoc he hk
   have hl := he.loc
   have hsy := he.sync
   obtain ⟨loc, wr, sy⟩ := e
   obtain ⟨loc', wr', sy'⟩ := e'
   have hsy : sy' = sy := hsy
   subst hsy
   have hl : LocR ρ loc loc' := hl
   cases hl with
   | ext f => exact ih _ _ _ hk
   | _ => dsimp only; refine ih _ _ _ ?_; split <;> assumption
 exact key l l' h _ _ _ .nil
theorem FrR.finish {x x' : Frame} (k : FrR P ρ S x x') {v v' : Value} (h : VT ρ v v') (hd : ∀ ops i r t, x.todo = .inRegion ops (i :: r) :: t → ∀ d, (ops[i]?).bind (·.dst) = some d → S x.fn d = false → VR ρ v v') : FrR P ρ S (x.finish v) (x'.finish v') := by
 obtain ⟨k1, k2, k3, k4, k5, k6, k7, k8, k9⟩ := k
 obtain ⟨g, tmps, todo, defers, mode, kind, rnd⟩ := x
 obtain ⟨g', tmps', todo', defers', mode', kind', rnd'⟩ := x'
 dsimp only at *
 subst k1 k7
 cases k4 with
 | nil => exact ⟨rfl, k2, k3, .nil, k5, k6, rfl, k8, k9⟩
 | cons a b =>
  cases a with
  | inRegion t o =>
   cases t with
   | nil => exact ⟨rfl, k2, k3, .cons (.inRegion [] o) b, k5, k6, rfl, k8, k9⟩
   | cons i r =>
    refine ⟨rfl, k2, ?_, .cons (.inRegion r o) b, k5, k6, rfl, k8, k9⟩
    have key : ∀ o : Option Tmp, (∀ d, o = some d → S g' d = false → VR ρ v v') → TmR ρ (S g') (match o with | some d => tmps.setIfInBounds d v | none => tmps) (match o with | some d => tmps'.setIfInBounds d v' | none => tmps') := fun o ho => by
     cases o with
     | some d => exact k3.set d (ho d rfl) h
     | none => exact k3
    exact key _ fun d hd2 => hd _ i r _ rfl d hd2
  | inRange l => exact ⟨rfl, k2, k3, .cons (.endRange l) b, k5, k6, rfl, k8, k9⟩
  | beginRound => exact ⟨rfl, k2, k3, b, k5, k6, rfl, k8, k9⟩
  | code c => exact ⟨rfl, k2, k3, .cons (.code c) b, k5, k6, rfl, k8, k9⟩
  | inBlock c => exact ⟨rfl, k2, k3, .cons (.inBlock c) b, k5, k6, rfl, k8, k9⟩
  | inLoop c => exact ⟨rfl, k2, k3, .cons (.inLoop c) b, k5, k6, rfl, k8, k9⟩
  | inScope c => exact ⟨rfl, k2, k3, .cons (.inScope c) b, k5, k6, rfl, k8, k9⟩
  | endRange l => exact ⟨rfl, k2, k3, .cons (.endRange l) b, k5, k6, rfl, k8, k9⟩
theorem finish_kind (x : Frame) (v : Value) : (x.finish v).kind = x.kind ∧ (x.finish v).roundOf = x.roundOf := by
 unfold Frame.finish
 split <;> exact ⟨rfl, rfl⟩
theorem FrR.raise {x x' : Frame} (k : FrR P ρ S x x') {c c' : List PanicEntry} (h : PsR2 ρ c c') : FrR P ρ S (x.raise c) (x'.raise c') := by
 have hm := k.mode
 unfold Frame.raise
 revert hm
 generalize e : x.mode = m
 generalize e' : x'.mode = m'
 intro hm
 cases hm with
 | run => exact ⟨k.fn, k.ok, k.tmps, k.todo, k.defers, .panicking h, k.kind, k.kindOk, k.round⟩
 | returning => exact ⟨k.fn, k.ok, k.tmps, k.todo, k.defers, .panicking h, k.kind, k.kindOk, k.round⟩
 | panicking c => exact ⟨k.fn, k.ok, k.tmps, k.todo, k.defers, .panicking (h.app c), k.kind, k.kindOk, k.round⟩
theorem raise_kind (x : Frame) (c : List PanicEntry) : (x.raise c).kind = x.kind ∧ (x.raise c).roundOf = x.roundOf := by
 unfold Frame.raise
 split <;> exact ⟨rfl, rfl⟩
theorem enter_R (E : Env P ρ S) {f : FuncId} (hf : ρ.ok f) {xs xs' : Array Value} (hx : AR ρ xs xs') {kind : CallKind} (hk : kind = .normal ∨ kind = .deferred) : FrR P ρ S (Frame.enter P f xs kind) (Frame.enter P f xs' kind) := by
 unfold Frame.enter
 refine ⟨rfl, hf, ?_, ?_, .nil, .run, rfl, hk, .inl ⟨rfl, rfl⟩⟩
 ·refine TmR.of ?_
  rw [hx.size]
  refine hx.append ?_
  unfold AR
  rw [Array.toList_replicate]
  exact LR.rep undefR _
 ·refine .cons (.code ?_) .nil
  show CodeOk P ρ f (S f) false _
  cases hfn : P.funcs[f]? with
  | none => exact trivial
  | some fn =>
   show CodeOk P ρ f (S f) false (fn.body.getD _)
   cases hb : fn.body with
   | none => exact trivial
   | some c => exact E.code f fn c hf hfn hb
theorem round_R (E : Env P ρ S) {l l' : Nat} (hl : ρ.r l l') {f : FuncId} {xs xs' : Array Value} (hx : AR ρ xs xs') {a b : Code} (ho : ρ.ok f) (ha : ρ.cd f a) (hb : ρ.cd f b) {kind : CallKind} (hk : kind = .normal ∨ kind = .deferred) :
  FrR P ρ S (Frame.round l f xs a b kind) (Frame.round l' f xs' a b kind) :=
 ⟨rfl, ho, .of hx, .cons (.code (E.round f a ha).2) (.cons .beginRound (.cons (.code (E.round f b hb).2) .nil)), .nil, .run, rfl, hk, .inr ⟨l, l', rfl, rfl, hl⟩⟩
end
end Go.Pr
namespace Go.Pr
open Go
def Pt : List Item → Prop
 | .call .. :: _ | .extern .. :: _ => False
 | _ => True
theorem IsR.pt {P : Program} {ρ : Rn} {f : Nat} {q : Nat → Bool} {inl : Bool} {x x' : List Item} (h : IsR P ρ f q inl x x') : Pt x ∧ Pt x' := by
 cases h with
 | nil => exact ⟨trivial, trivial⟩
 | cons a b => cases a <;> exact ⟨trivial, trivial⟩
section
variable {P : Program} {fr : Frame} {cs : List Frame} {s : Sem Next} {w w1 : World} {es : Array Event}
theorem ne_early {fr : Frame} (h : fr.kind = .normal ∨ fr.kind = .deferred) : (fr.kind == CallKind.early) = false := by rcases h with h | h <;> rw [h] <;> rfl
theorem ap_value {v : Value} (hk : (fr.kind == CallKind.early) = false) (hr : s.runT P w #[] = (.ok (.value v) w1, es)) : stepG.apply P true fr cs none s w = .go (gr (fr.finish v) cs) w1 (seen P fr.fn es) := by
 simp only [stepG.apply, hr, hk, GStep.after, gr, if_true, Bool.false_eq_true, if_false, reduceIte, Array.append_empty]
theorem ap_skip (hk : (fr.kind == CallKind.early) = false) (hr : s.runT P w #[] = (.ok .skip w1, es)) : stepG.apply P true fr cs none s w = .go (gr (fr.finish undef) cs) w1 (seen P fr.fn es) := by
 simp only [stepG.apply, hr, hk, GStep.after, gr, if_true, Bool.false_eq_true, if_false, reduceIte, Array.append_empty]
theorem ap_enter {f : FuncId} {xs : Array Value} (ht : Pt fr.todo) (hk : (fr.kind == CallKind.early) = false) (hr : s.runT P w #[] = (.ok (.enter f xs) w1, es)) : stepG.apply P true fr cs none s w = .go (gr (Frame.enter P f xs .normal) (fr :: cs)) w1 (seen P fr.fn es) := by
 obtain ⟨g, tm, td, df, md, kd, rn⟩ := fr
 cases td with
 | nil => (dsimp only at hk ⊢; simp only [stepG.apply, hr, hk, GStep.after, gr, if_true, Bool.false_eq_true, if_false, reduceIte, Array.append_empty])
 | cons x r => cases x <;> first | exact ht.elim | (dsimp only at hk ⊢; simp only [stepG.apply, hr, hk, GStep.after, gr, if_true, Bool.false_eq_true, if_false, reduceIte, Array.append_empty])
theorem ap_round {l : Nat} {f : FuncId} {xs : Array Value} {a b : Code} (hk : (fr.kind == CallKind.early) = false) (hr : s.runT P w #[] = (.ok (.round l f xs a b) w1, es)) : stepG.apply P true fr cs none s w = .go (gr (Frame.round l f xs a b .normal) (fr :: cs)) w1 (seen P fr.fn es) := by
 simp only [stepG.apply, hr, hk, GStep.after, gr, if_true, Bool.false_eq_true, if_false, reduceIte, Array.append_empty]
theorem ap_defer {d : Deferred} (hk : (fr.kind == CallKind.early) = false) (hr : s.runT P w #[] = (.ok (.defer d) w1, es)) : stepG.apply P true fr cs none s w = .go (gr ({ fr with defers := d :: fr.defers }.finish undef) cs) w1 (seen P fr.fn es) := by
 simp only [stepG.apply, hr, hk, GStep.after, gr, if_true, Bool.false_eq_true, if_false, reduceIte, Array.append_empty]
theorem ap_panic {v : Value} (hk : (fr.kind == CallKind.early) = false) (hr : s.runT P w #[] = (.halt (.panic v) w1, es)) : stepG.apply P true fr cs none s w = .go (gr (fr.raise [{ v, recovered := false }]) cs) w1 (seen P fr.fn es) := by
 simp only [stepG.apply, hr, hk, GStep.after, gr, if_true, Bool.false_eq_true, if_false, reduceIte, Array.append_empty]
theorem ap_recover (hro : fr.roundOf = none) (hk : (fr.kind == CallKind.early) = false) (hr : s.runT P w #[] = (.ok .recover w1, es)) : stepG.apply P true fr cs none s w = match tryRecover fr cs with
  | some (v, cs') => .go (gr (fr.finish v) cs') w1 (seen P fr.fn es)
  | none => .go (gr (fr.finish .nilIface) cs) w1 (seen P fr.fn es) := by
 simp only [stepG.apply, hr, hk, hro, gr, if_true]
 cases h : tryRecover fr cs with
 | none => simp [GStep.after, h]
 | some p => obtain ⟨v, c⟩ := p; simp [GStep.after, h]
theorem ap_dull {h : Halt} (hd : dull h = true) (hr : s.runT P w #[] = (.halt h w1, es)) : ∃ o w2 es2, stepG.apply P true fr cs none s w = .ended o w2 es2 := by
 cases h <;> first | (cases hd; done) | skip
 case unsupported u => cases u <;> first | (cases hd; done) | exact ⟨_, _, _, by simp only [stepG.apply, hr, if_true]; rfl⟩
 case stuck => exact ⟨_, _, _, by simp only [stepG.apply, hr, if_true]; rfl⟩
end
section
variable {P : Program} {ρ : Rn} {S : Nat → Nat → Bool} {c0 : Frame} {ext : List Frame}
theorem FsR.cons_inv {x x' : Frame} {l l' : List Frame} (h : FsR P ρ S (x :: l) (x' :: l')) : FrR P ρ S x x' ∧ FsR P ρ S l l' := by cases h with | cons a b => exact ⟨a, b⟩
theorem apply_R (E : Env P ρ S) {fr fr' : Frame} {l l' : List Frame} (hf : FrR P ρ S fr fr') (hl : FsR P ρ S l l') (hb : Bot fr l) {s s' : Sem Next} (hs : SemR P NextR ρ s s') {w w' : World} (hw : WR P ρ w w') :
  Goes P ρ S c0 ext w w' (fun w => stepG.apply P true fr (l ++ [c0]) none s w) (stepG.apply P true fr' (l' ++ ext) none s' w') := by
 obtain ⟨m, ts, res, h1, h2, h3⟩ := hs.run w w' #[] #[] hw .nil
 have k1 := ne_early hf.kindOk
 have k2 : (fr'.kind == CallKind.early) = false := by rw [hf.kind]; exact k1
 have kt := hf.todo.pt
 generalize hr' : s'.runT P w' #[] = r' at h3
 refine ⟨m, ts, ?_⟩
 cases h3 with
 | dull hd => exact .inl fun T hT => ap_dull hd (h1 T hT)
 | @panic σ v v' w1 w1' es1 es1' hg hv hw1 hls hfr =>
  refine .inr ⟨_, l, w1, _, l', w1', _, _, σ, h2, fun T hT => ap_panic k1 (h1 T hT), ap_panic k2 hr', .cons ((hf.mono hg.le).raise (.cons ⟨hv, rfl, rfl⟩ .nil)) (hl.mono hg.le), hb.same (raise_kind _ _).1 (raise_kind _ _).2, hg, hw1, ?_, hfr⟩
  rw [hf.fn]; exact seenEv_R _ hls
 | @ok σ a b w1 w1' es1 es1' hg hA hw1 hls hfr =>
  have hf1 := hf.mono hg.le
  have hl1 := hl.mono hg.le
  have E1 := E.mono hg.le
  have hls' : LsR σ (seen P fr.fn es1).toList (seen P fr'.fn es1').toList := by rw [hf.fn]; exact seenEv_R _ hls
  cases hA with
  | value hv => exact .inr ⟨_, l, w1, _, l', w1', _, _, σ, h2, fun T hT => ap_value k1 (h1 T hT), ap_value k2 hr', .cons (hf1.finish (.inl hv) fun _ _ _ _ _ _ _ _ => hv) hl1, hb.same (finish_kind _ _).1 (finish_kind _ _).2, hg, hw1, hls', hfr⟩
  | skip => exact .inr ⟨_, l, w1, _, l', w1', _, _, σ, h2, fun T hT => ap_skip k1 (h1 T hT), ap_skip k2 hr', .cons (hf1.finish (.inl undefR) fun _ _ _ _ _ _ _ _ => undefR) hl1, hb.same (finish_kind _ _).1 (finish_kind _ _).2, hg, hw1, hls', hfr⟩
  | enter ho hx => exact .inr ⟨_, fr :: l, w1, _, fr' :: l', w1', _, _, σ, h2, fun T hT => ap_enter kt.1 k1 (h1 T hT), ap_enter kt.2 k2 hr', .cons (enter_R E1 ho hx (.inl rfl)) (.cons hf1 hl1), Bot.cons.2 hb, hg, hw1, hls', hfr⟩
  | round a b hr hx ho ha hc => exact .inr ⟨_, fr :: l, w1, _, fr' :: l', w1', _, _, σ, h2, fun T hT => ap_round k1 (h1 T hT), ap_round k2 hr', .cons (round_R E1 hr hx ho ha hc (.inl rfl)) (.cons hf1 hl1), Bot.cons.2 hb, hg, hw1, hls', hfr⟩
  | @defer d d' hd =>
   have hf2 : FrR P σ S { fr with defers := d :: fr.defers } { fr' with defers := d' :: fr'.defers } := ⟨hf1.fn, hf1.ok, hf1.tmps, hf1.todo, .cons hd hf1.defers, hf1.mode, hf1.kind, hf1.kindOk, hf1.round⟩
   exact .inr ⟨_, l, w1, _, l', w1', _, _, σ, h2, fun T hT => ap_defer k1 (h1 T hT), ap_defer k2 hr', .cons (hf2.finish (.inl undefR) fun _ _ _ _ _ _ _ _ => undefR) hl1, hb.same (finish_kind _ _).1 (finish_kind _ _).2, hg, hw1, hls', hfr⟩
theorem apply_T {fr fr' : Frame} {l l' : List Frame} (hf : FrR P ρ S fr fr') (hl : FsR P ρ S l l') (hb : Bot fr l) {s s' : Sem Value} (hs : SemR P VT ρ s s') (hd : ∀ ops i r t, fr.todo = .inRegion ops (i :: r) :: t → ∀ d, (ops[i]?).bind (·.dst) = some d → S fr.fn d = true) {w w' : World} (hw : WR P ρ w w') :
  Goes P ρ S c0 ext w w' (fun w => stepG.apply P true fr (l ++ [c0]) none (do Pure.pure (.value (← s))) w) (stepG.apply P true fr' (l' ++ ext) none (do Pure.pure (.value (← s'))) w') := by
 have hs2 : SemR P (fun σ x y => ∃ v v', x = Next.value v ∧ y = Next.value v' ∧ VT σ v v') ρ (do Pure.pure (.value (← s))) (do Pure.pure (.value (← s'))) := R_bind hs fun σ a b l h => R_pure ⟨a, b, rfl, rfl, h⟩
 obtain ⟨m, ts, res, h1, h2, h3⟩ := hs2.run w w' #[] #[] hw .nil
 have k1 := ne_early hf.kindOk
 have k2 : (fr'.kind == CallKind.early) = false := by rw [hf.kind]; exact k1
 generalize hr' : (do Pure.pure (.value (← s')) : Sem Next).runT P w' #[] = r' at h3
 refine ⟨m, ts, ?_⟩
 cases h3 with
 | dull hd => exact .inl fun T hT => ap_dull hd (h1 T hT)
 | @panic σ v v' w1 w1' es1 es1' hg hv hw1 hls hfr =>
  refine .inr ⟨_, l, w1, _, l', w1', _, _, σ, h2, fun T hT => ap_panic k1 (h1 T hT), ap_panic k2 hr', .cons ((hf.mono hg.le).raise (.cons ⟨hv, rfl, rfl⟩ .nil)) (hl.mono hg.le), hb.same (raise_kind _ _).1 (raise_kind _ _).2, hg, hw1, ?_, hfr⟩
  rw [hf.fn]; exact seenEv_R _ hls
 | @ok σ a b w1 w1' es1 es1' hg hA hw1 hls hfr =>
  obtain ⟨v, v', rfl, rfl, hv⟩ := hA
  have hls' : LsR σ (seen P fr.fn es1).toList (seen P fr'.fn es1').toList := by rw [hf.fn]; exact seenEv_R _ hls
  exact .inr ⟨_, l, w1, _, l', w1', _, _, σ, h2, fun T hT => ap_value k1 (h1 T hT), ap_value k2 hr', .cons ((hf.mono hg.le).finish hv fun ops i r t ht d hd2 hq => by rw [hd ops i r t ht d hd2] at hq; cases hq) (hl.mono hg.le), hb.same (finish_kind _ _).1 (finish_kind _ _).2, hg, hw1, hls', hfr⟩
end
end Go.Pr
namespace Go.Pr
open Go
section
variable {P : Program} {ρ : Rn} {S : Nat → Nat → Bool} {c0 : Frame} {ext : List Frame}
theorem Goes.ctl {w w' : World} {L : World → GStep} {R : GStep} {fr1 fr1' : Frame} {l1 l1' : List Frame} (hL : ∀ W, L W = .go (gr fr1 (l1 ++ [c0])) W #[]) (hR : R = .go (gr fr1' (l1' ++ ext)) w' #[])
  (hf : FrR P ρ S fr1 fr1') (hl : FsR P ρ S l1 l1') (hb : Bot fr1 l1) (hw : WR P ρ w w') : Goes P ρ S c0 ext w w' L R :=
 ⟨0, fun _ _ => 0, .inr ⟨fr1, l1, w, fr1', l1', w', #[], #[], ρ, rfl, fun _ _ => hL _, hR, .cons hf hl, hb, Grow.refl _ _, hw, .nil, Frm.refl _ _⟩⟩
theorem Goes.ended {w w' : World} {L : World → GStep} {R : GStep} (hL : ∀ W, ∃ o w1 es, L W = .ended o w1 es) : Goes P ρ S c0 ext w w' L R := ⟨0, fun _ _ => 0, .inl fun _ _ => hL _⟩
theorem WR.drew {w w' : World} (hw : WR P ρ w w') : WR P ρ { w with drawn := w.drawn + 1 } { w' with drawn := w'.drawn + 1 } :=
 ⟨hw.own, fun x hx => ⟨(hw.low x hx).row⟩, fun x hx => ⟨(hw.tab x hx).row⟩, hw.os, hw.szL, hw.szR⟩
theorem PsR2.drop : ∀ {c c' : List PanicEntry}, PsR2 ρ c c' → PsR2 ρ (c.dropWhile (!·.goexit)) (c'.dropWhile (!·.goexit))
 | _, _, .nil => .nil
 | _, _, .cons (x := x) (x' := x') (l := l) (l' := l') a b => by
  rw [List.dropWhile_cons, List.dropWhile_cons, a.gox]
  split
  ·exact b.drop
  ·exact .cons a b
theorem doReturn_R {main : Bool} {fr fr' c c' : Frame} {l l' : List Frame} (hk : fr'.kind = fr.kind) (hko : fr.kind = .normal ∨ fr.kind = .deferred) (hc : FrR P ρ S c c') {v v' : Value} (hv : VR ρ v v') :
  ∃ c1 c1', (∀ w, doReturn P true fr (c :: l) none v w = .go (gr c1 l) w #[]) ∧ (∀ w, doReturn P main fr' (c' :: l') none v' w = .go (gr c1' l') w #[]) ∧ FrR P ρ S c1 c1' ∧ c1.kind = c.kind ∧ c1.roundOf = c.roundOf := by
 rcases hko with h | h
 ·exact ⟨c.finish v, c'.finish v', fun w => by simp only [doReturn, h]; rfl, fun w => by simp only [doReturn, hk, h]; rfl, hc.finish (.inl hv) fun _ _ _ _ _ _ _ _ => hv, (finish_kind _ _).1, (finish_kind _ _).2⟩
 ·have hm := hc.mode
  obtain ⟨g, tm, td, df, md, kd, rn⟩ := c
  obtain ⟨g', tm', td', df', md', kd', rn'⟩ := c'
  dsimp only at hm
  cases hm with
  | run => exact ⟨_, _, fun w => by simp only [doReturn, h]; rfl, fun w => by simp only [doReturn, hk, h]; rfl, hc, rfl, rfl⟩
  | returning => exact ⟨_, _, fun w => by simp only [doReturn, h]; rfl, fun w => by simp only [doReturn, hk, h]; rfl, hc, rfl, rfl⟩
  | panicking hp =>
   cases hp with
   | nil => exact ⟨_, _, fun w => by simp only [doReturn, h]; rfl, fun w => by simp only [doReturn, hk, h]; rfl, hc, rfl, rfl⟩
   | @cons x x' o o' hx ho =>
    obtain ⟨xv, xr, xg⟩ := x
    obtain ⟨xv', xr', xg'⟩ := x'
    have e1 : xr' = xr := hx.rc
    subst e1
    cases xr' with
    | false => exact ⟨_, _, fun w => by simp only [doReturn, h]; rfl, fun w => by simp only [doReturn, hk, h]; rfl, hc, rfl, rfl⟩
    | true =>
     have hd := ho.drop
     have e1 : ∀ (fr : Frame) (main : Bool) (g : Nat) tm td df xv xg (o : List PanicEntry) kd rn (l : List Frame) (v : Value) (w : World), fr.kind = .deferred → doReturn P main fr ({ fn := g, tmps := tm, todo := td, defers := df, mode := .panicking ({ v := xv, recovered := true, goexit := xg } :: o), kind := kd, roundOf := rn } :: l) none v w =
       .go (gr { fn := g, tmps := tm, todo := td, defers := df, mode := (match o.dropWhile (!·.goexit) with | [] => .returning | r => .panicking r), kind := kd, roundOf := rn } l) w #[] := by
      intro fr main g tm td df xv xg o kd rn l v w h
      simp only [doReturn, h]
      cases o.dropWhile (!·.goexit) <;> rfl
     refine ⟨_, _, fun w => e1 _ _ _ _ _ _ _ _ _ _ _ _ _ _ h, fun w => e1 _ _ _ _ _ _ _ _ _ _ _ _ _ _ (hk.trans h), ⟨hc.fn, hc.ok, hc.tmps, hc.todo, hc.defers, ?_, hc.kind, hc.kindOk, hc.round⟩, rfl, rfl⟩
     show MdR ρ (match o.dropWhile (!·.goexit) with | [] => .returning | r => .panicking r) (match o'.dropWhile (!·.goexit) with | [] => .returning | r => .panicking r)
     revert hd
     generalize o.dropWhile (!·.goexit) = a
     generalize o'.dropWhile (!·.goexit) = b
     intro hd
     cases hd with
     | nil => exact .returning
     | cons p q => exact .panicking (.cons p q)
theorem tryRecover_R {fr fr' : Frame} (hf : FrR P ρ S fr fr') {l l' : List Frame} (hl : FsR P ρ S l l') (hb : Bot fr l) :
  (tryRecover fr (l ++ [c0]) = none ∧ tryRecover fr' (l' ++ ext) = none) ∨ ∃ v v' l1 l1', tryRecover fr (l ++ [c0]) = some (v, l1 ++ [c0]) ∧ tryRecover fr' (l' ++ ext) = some (v', l1' ++ ext) ∧ VR ρ v v' ∧ FsR P ρ S l1 l1' ∧ (∀ x : Frame, Bot x l → Bot x l1) := by
 rcases hf.kindOk with h | h
 ·refine .inl ⟨?_, ?_⟩
  ·unfold tryRecover; rw [h]
  ·unfold tryRecover; rw [hf.kind, h]
 ·have h' : fr'.kind = .deferred := hf.kind.trans h
  cases hl with
  | nil => exact absurd (show fr.kind = .normal by simpa [Bot] using hb.1) (by rw [h]; simp)
  | @cons c c' l l' hc hl =>
   have hm := hc.mode
   obtain ⟨g, tm, td, df, md, kd, rn⟩ := c
   obtain ⟨g', tm', td', df', md', kd', rn'⟩ := c'
   dsimp only at hm
   have e1 : ∀ (fr : Frame) (c : Frame) (l : List Frame), fr.kind = .deferred → tryRecover fr (c :: l) = match c.mode with
     | .panicking ({ v, recovered := false, goexit := false } :: older) => some (v, { c with mode := .panicking ({ v, recovered := true } :: older) } :: l)
     | _ => none := fun fr c l h => by unfold tryRecover; rw [h]; rfl
   rw [List.cons_append, List.cons_append, e1 _ _ _ h, e1 _ _ _ h']
   dsimp only
   cases hm with
   | run => exact .inl ⟨rfl, rfl⟩
   | returning => exact .inl ⟨rfl, rfl⟩
   | panicking hp =>
    cases hp with
    | nil => exact .inl ⟨rfl, rfl⟩
    | @cons x x' o o' hx ho =>
     obtain ⟨xv, xr, xg⟩ := x
     obtain ⟨xv', xr', xg'⟩ := x'
     have e1 : xr' = xr := hx.rc
     have e2 : xg' = xg := hx.gox
     subst e1 e2
     cases xr' <;> cases xg'
     ·refine .inr ⟨xv, xv', _ :: l, _ :: l', rfl, rfl, hx.v, .cons ⟨hc.fn, hc.ok, hc.tmps, hc.todo, hc.defers, .panicking (.cons ⟨hx.v, rfl, rfl⟩ ho), hc.kind, hc.kindOk, hc.round⟩ hl, fun x hx => ?_⟩
      exact Bot.cons.2 ((Bot.cons.1 hx).same rfl rfl)
     all_goals exact .inl ⟨rfl, rfl⟩
theorem results_R (E : Env P ρ S) {f : Nat} {fn : Func} (ho : ρ.ok f) (hf : P.funcs[f]? = some fn) {t t' : Array Value} (ht : TmR ρ (S f) t t') : SemR P VRr ρ (results fn t) (results fn t') := by
 unfold results
 refine R_bind (A := AR) ?_ fun σ a b l h => ?_
 ·have hr := E.res f fn ho hf
  have key : ∀ (l : List ResultVar) (ρ' : Rn), ρ.Le ρ' → (∀ r ∈ l, match r with | .tmp t => S f t = false | .cell a _ => S f a = false) → SemR P (fun σ a b => LR σ a b) ρ' (l.mapM fun
    | .tmp i => Pure.pure (t.getD i undef)
    | .cell a ty => do loadVar ty (← asAddr (t.getD a undef))) (l.mapM fun
    | .tmp i => Pure.pure (t'.getD i undef)
    | .cell a ty => do loadVar ty (← asAddr (t'.getD a undef))) := by
   intro l
   induction l with
   | nil => intro ρ' _ _; exact R_pure .nil
   | cons r l ih =>
    intro ρ' hle h
    rw [List.mapM_cons, List.mapM_cons]
    refine R_bind (A := VRr) ?_ fun σ a b l1 hab => R_bind (ih σ (hle.trans l1) fun r' hr' => h r' (by simp [hr'])) fun τ as bs l2 has => R_pure (.cons (hab.mono l2) has)
    have h0 := h r (by simp)
    cases r with
    | tmp i => exact R_pure ((((ht.mono hle).getD i).1) h0)
    | cell a ty => exact R_bind (R_asAddr E.pf (E.kf.mono hle) ((((ht.mono hle).getD a).1) h0)) fun _ _ _ l k => R_loadVar ty k
  have := key fn.results.toList ρ (Rn.Le.refl _) hr
  rw [Array.mapM_eq_mapM_toList, Array.mapM_eq_mapM_toList]
  exact R_map this fun σ a b h => by unfold AR; simpa using h
 ·have hs := h.size
  have hg : AR σ a b := h
  by_cases h1 : a.size = 1
  ·have h2 : b.size = 1 := by rw [hs]; exact h1
   rw [dif_pos h1, dif_pos h2]
   rcases hg.get 0 with ⟨k1, _⟩ | ⟨v, v', k1, k2, k3⟩
   ·rw [Array.getElem?_eq_none_iff] at k1; omega
   ·rw [Array.getElem?_eq_getElem (by omega)] at k1 k2
    cases k1; cases k2
    exact R_pure k3
  ·rw [dif_neg h1, dif_neg (by rw [hs]; exact h1)]
   exact R_pure (.tuple hg)
end
end Go.Pr
namespace Go.Pr
open Go
section
variable {P : Program} {ρ : Rn} {S : Nat → Nat → Bool} {c0 : Frame} {ext : List Frame}
theorem Goes.of {α : Type} {A : Rn → α → α → Prop} {s s' : Sem α} (hs : SemR P A ρ s s') {w w' : World} (hw : WR P ρ w w') {L : World → GStep} {R : GStep} {fn fn' : Nat} (hfn : fn' = fn)
  (hdull : ∀ h W W1 es, dull h = true → s.runT P W #[] = (.halt h W1, es) → ∃ o w1 es, L W = .ended o w1 es)
  (hpan : ∀ σ v v', ρ.Le σ → VR σ v v' → (∀ W W1 es, s.runT P W #[] = (.halt (.panic v) W1, es) → ∃ o w1 es, L W = .ended o w1 es) ∨
   ∃ fr1 l1 fr1' l1', (∀ W W1 es, s.runT P W #[] = (.halt (.panic v) W1, es) → L W = .go (gr fr1 (l1 ++ [c0])) W1 (seen P fn es)) ∧ (∀ W1 es, s'.runT P w' #[] = (.halt (.panic v') W1, es) → R = .go (gr fr1' (l1' ++ ext)) W1 (seen P fn' es)) ∧ FrR P σ S fr1 fr1' ∧ FsR P σ S l1 l1' ∧ Bot fr1 l1)
  (hok : ∀ σ a b, ρ.Le σ → A σ a b → (∀ W W1 es, s.runT P W #[] = (.ok a W1, es) → ∃ o w1 es, L W = .ended o w1 es) ∨
   ∃ fr1 l1 fr1' l1', (∀ W W1 es, s.runT P W #[] = (.ok a W1, es) → L W = .go (gr fr1 (l1 ++ [c0])) W1 (seen P fn es)) ∧ (∀ W1 es, s'.runT P w' #[] = (.ok b W1, es) → R = .go (gr fr1' (l1' ++ ext)) W1 (seen P fn' es)) ∧ FrR P σ S fr1 fr1' ∧ FsR P σ S l1 l1' ∧ Bot fr1 l1) :
  Goes P ρ S c0 ext w w' L R := by
 obtain ⟨m, ts, res, h1, h2, h3⟩ := hs.run w w' #[] #[] hw .nil
 generalize hr' : s'.runT P w' #[] = r' at h3
 refine ⟨m, ts, ?_⟩
 cases h3 with
 | dull hd => exact .inl fun T hT => hdull _ _ _ _ hd (h1 T hT)
 | @panic σ v v' w1 w1' es1 es1' hg hv hw1 hls hfr =>
  rcases hpan σ v v' hg.le hv with k | ⟨fr1, l1, fr1', l1', k1, k2, k3, k4, k5⟩
  ·exact .inl fun T hT => k _ _ _ (h1 T hT)
  ·exact .inr ⟨fr1, l1, w1, fr1', l1', w1', _, _, σ, h2, fun T hT => k1 _ _ _ (h1 T hT), k2 _ _ hr', .cons k3 k4, k5, hg, hw1, by rw [hfn]; exact seenEv_R _ hls, hfr⟩
 | @ok σ a b w1 w1' es1 es1' hg hA hw1 hls hfr =>
  rcases hok σ a b hg.le hA with k | ⟨fr1, l1, fr1', l1', k1, k2, k3, k4, k5⟩
  ·exact .inl fun T hT => k _ _ _ (h1 T hT)
  ·exact .inr ⟨fr1, l1, w1, fr1', l1', w1', _, _, σ, h2, fun T hT => k1 _ _ _ (h1 T hT), k2 _ _ hr', .cons k3 k4, k5, hg, hw1, by rw [hfn]; exact seenEv_R _ hls, hfr⟩
theorem R_ofValue {f f' : Value} (hf : VR ρ f f') {xs xs' : Array Value} (hx : AR ρ xs xs') : SemR P DfR ρ (Deferred.ofValue f xs) (Deferred.ofValue f' xs') := by
 unfold Deferred.ofValue
 cases hf
 case func hf h1 h2 => exact R_pure ⟨.fn hf h2, AR.append h1 hx⟩
 case nilFunc => exact R_pure ⟨.nil, hx⟩
 all_goals exact R_stuck
theorem after_go (es : Array Event) (g : Goroutine) (w : World) (es' : Array Event) : GStep.after es (.go g w es') = .go g w (es ++ es') := rfl
theorem rangeFunc_R (E : Env P ρ S) {fr fr' : Frame} {l l' : List Frame} (hf : FrR P ρ S fr fr') (hl : FsR P ρ S l l') (hb : Bot fr l) {w w' : World} (hw : WR P ρ w w') {main : Bool}
  {g : Operand} {ps : Array Tmp} {a b : Code} {k k' : List Item} (ht : fr.todo = .code (.rangeFunc g ps a b) :: k) (ht' : fr'.todo = .code (.rangeFunc g ps a b) :: k')
  (hc : CodeOk P ρ fr.fn (S fr.fn) fr.roundOf.isSome (.rangeFunc g ps a b)) (hk : IsR P ρ fr.fn (S fr.fn) fr.roundOf.isSome k k') :
  Goes P ρ S c0 ext w w' (fun w => stepG.exec P true true fr (l ++ [c0]) none w) (stepG.exec P main true fr' (l' ++ ext) none w') := by
 obtain ⟨hg, hS, ha, hb2⟩ := hc
 have hx : AR ρ fr.tmps fr'.tmps := hf.tmps.to hS
 have hs := R_enterLoop (P := P) fr.fn hx ps a b ⟨hf.ok, ha, hb2⟩ hf.round
 obtain ⟨m, ts, res, h1, h2, h3⟩ := hs.run w w' #[] #[] hw .nil
 rw [← hf.fn] at h3
 have er : ∀ (x : Frame) (v : Value), resolve x.eval { callee := .value g, args := #[.const v], argTypes := #[] } 0 = Deferred.ofValue (x.eval g) #[v] := fun x v => by simp [resolve, Frame.eval]
 have ev : ∀ (x : Frame) t d, Frame.eval { x with todo := t, defers := d } g = x.eval g := fun x t d => by cases g <;> rfl
 have eL : ∀ W, stepG.exec P true true fr (l ++ [c0]) none W = match (Instr.enterLoop fr.fn fr.tmps ps a b fr.roundOf).runT P W #[] with
   |(r, es) => GStep.after (seen P fr.fn es) (match r with
    | .ok (i, mark) w => stepG.apply P true { fr with todo := .inRangeFunc i :: k, defers := mark ++ fr.defers } (l ++ [c0]) none (do
      let d ← Deferred.ofValue (fr.eval g) #[.func (.yield i) #[] #[]]
      invoke d.target d.args) w
    | .halt _ w => .ended (.stuck "range over a function: no such loop" (fr.pos P)) w) := fun W => by
  unfold stepG.exec
  rw [ht]
  dsimp only
  simp only [er, ev]
  rfl
 have eR : stepG.exec P main true fr' (l' ++ ext) none w' = match (Instr.enterLoop fr'.fn fr'.tmps ps a b fr'.roundOf).runT P w' #[] with
   |(r, es) => GStep.after (seen P fr'.fn es) (match r with
    | .ok (i, mark) w => stepG.apply P true { fr' with todo := .inRangeFunc i :: k', defers := mark ++ fr'.defers } (l' ++ ext) none (do
      let d ← Deferred.ofValue (fr'.eval g) #[.func (.yield i) #[] #[]]
      invoke d.target d.args) w
    | .halt _ w => .ended (.stuck "range over a function: no such loop" (fr'.pos P)) w) := by
  unfold stepG.exec
  rw [ht']
  dsimp only
  simp only [er, ev]
  rfl
 rw [eR]
 generalize hr' : (Instr.enterLoop fr'.fn fr'.tmps ps a b fr'.roundOf).runT P w' #[] = r' at h3 ⊢
 cases h3 with
 | dull hd => exact ⟨m, ts, .inl fun T hT => ⟨_, _, _, (eL _).trans (by rw [h1 T hT]; rfl)⟩⟩
 | @panic σ v v' w1 w1' es1 es1' hg hv hw1 hls hfr => exact ⟨m, ts, .inl fun T hT => ⟨_, _, _, (eL _).trans (by rw [h1 T hT]; rfl)⟩⟩
 | @ok σ x y w1 w1' es1 es1' hg2 hA hw1 hls hfr =>
  obtain ⟨i, mk⟩ := x
  obtain ⟨i', mk'⟩ := y
  have hi : σ.r i i' := hA.1
  have hm : DsR σ mk mk' := hA.2
  have hf1 := hf.mono hg2.le
  have E1 := E.mono hg2.le
  have hf2 : FrR P σ S { fr with todo := .inRangeFunc i :: k, defers := mk ++ fr.defers } { fr' with todo := .inRangeFunc i' :: k', defers := mk' ++ fr'.defers } :=
   ⟨hf1.fn, hf1.ok, hf1.tmps, .cons (.inRange hi) (hk.mono hg2.le), hm.append hf1.defers, hf1.mode, hf1.kind, hf1.kindOk, hf1.round⟩
  have hs2 : SemR P NextR σ (do
    let d ← Deferred.ofValue (fr.eval g) #[.func (.yield i) #[] #[]]
    invoke d.target d.args) (do
    let d ← Deferred.ofValue (fr'.eval g) #[.func (.yield i') #[] #[]]
    invoke d.target d.args) := by
   refine R_bind (R_ofValue (hf1.eval (hg.mono hg2.le)) (.cons (.func (.yield hi) LR.nil LR.nil) .nil)) fun τ d d' l2 hd => ?_
   have E2 := E1.mono l2
   exact R_invoke E2.pf E2.kf E2.xf E2.mf hd.target hd.args
  obtain ⟨m2, ts2, h⟩ := apply_R (c0 := c0) (ext := ext) E1 hf2 (hl.mono hg2.le) (hb.same (fr1 := { fr with todo := .inRangeFunc i :: k, defers := mk ++ fr.defers }) rfl rfl) hs2 hw1
  have hdr : w1.drawn = w.drawn + m := h2
  refine ⟨m + m2, fun j => if j < m then ts j else ts2 (j - m), ?_⟩
  have sp : ∀ T, Ans w (m + m2) (fun j => if j < m then ts j else ts2 (j - m)) T → Ans w m ts T ∧ Ans w1 m2 ts2 T := fun T hT => ⟨fun j hj => by have := hT j (by omega); dsimp only at this; rwa [if_pos hj] at this, fun j hj => by
   have := hT (m + j) (by omega)
   dsimp only at this
   rw [if_neg (by omega), Nat.add_sub_cancel_left] at this
   rw [hdr, Nat.add_assoc]
   exact this⟩
  rcases h with h | ⟨fr1, l1, w2, fr1', l1', w2', es2, es2', τ, g1, g2, g3, g4, g5, g6, g7, g8, g9⟩
  ·refine .inl fun T hT => ?_
   obtain ⟨q1, q2⟩ := sp T hT
   obtain ⟨o, w3, es3, e⟩ := h T q2
   exact ⟨o, w3, _, (eL _).trans (by rw [h1 T q1]; show GStep.after _ (stepG.apply P true _ (l ++ [c0]) none _ (on w1 T)) = _; dsimp only at e; rw [e]; rfl)⟩
  ·refine .inr ⟨fr1, l1, w2, fr1', l1', w2', seen P fr.fn es1 ++ es2, seen P fr'.fn es1' ++ es2', τ, by rw [g1, hdr]; omega, fun T hT => ?_, ?_, g4, g5, hg2.trans g6 hfr.size g9.size, g7, ?_, hfr.trans g9 fun y hy ⟨x, hx⟩ => ?_⟩
   ·obtain ⟨q1, q2⟩ := sp T hT
    refine (eL _).trans ?_
    rw [h1 T q1]
    show GStep.after _ (stepG.apply P true _ (l ++ [c0]) none _ (on w1 T)) = _
    have e := g2 T q2
    dsimp only at e
    rw [e]
    rfl
   ·dsimp only
    rw [g3]
    rfl
   ·rw [Array.toList_append, Array.toList_append]
    refine LsR.app (LsR.mono g6.le ?_) g8
    rw [hf.fn]
    exact seenEv_R _ hls
   ·rcases hg2.new x y hx with k | k
    ·exact ⟨x, k⟩
    ·omega
end
end Go.Pr
namespace Go.Pr
open Go
section
variable {P : Program} {ρ : Rn} {S : Nat → Nat → Bool} {c0 : Frame} {ext : List Frame}
theorem FrR.to {fr fr' : Frame} (hf : FrR P ρ S fr fr') {t t' : List Item} (h : IsR P ρ fr.fn (S fr.fn) fr.roundOf.isSome t t') : FrR P ρ S { fr with todo := t } { fr' with todo := t' } :=
 ⟨hf.fn, hf.ok, hf.tmps, h, hf.defers, hf.mode, hf.kind, hf.kindOk, hf.round⟩
def rets : Option Code → Bool
 | none | some .ret => true
 | _ => false
theorem leave_R {fr fr' : Frame} {l l' : List Frame} (hf : FrR P ρ S fr fr') (hl : FsR P ρ S l l') (hb : Bot fr l) {w w' : World} (hw : WR P ρ w w') {main : Bool} (j : Option Code) (hj : ∀ c, j = some c → Jump c)
  {L : World → GStep} {R : GStep}
  (hL0 : fr.roundOf = none → ∀ W, L W = if rets j then .go (gr { fr with mode := .returning } (l ++ [c0])) W #[] else .ended (.stuck "exit, goto: no such block or label" (fr.pos P)) W)
  (hL1 : ∀ i, fr.roundOf = some i → ∀ W, L W = match (Instr.endRound i j).runT P W #[] with
    |(r, es) => GStep.after (seen P fr.fn es) (match r with
     | .ok v w => doReturn P true fr (l ++ [c0]) none v w
     | .halt _ w => .ended (.stuck "range over a function: no such loop" (fr.pos P)) w))
  (hR0 : fr'.roundOf = none → R = if rets j then .go (gr { fr' with mode := .returning } (l' ++ ext)) w' #[] else .ended (.stuck "exit, goto: no such block or label" (fr'.pos P)) w')
  (hR1 : ∀ i, fr'.roundOf = some i → R = match (Instr.endRound i j).runT P w' #[] with
    |(r, es) => GStep.after (seen P fr'.fn es) (match r with
     | .ok v w => doReturn P main fr' (l' ++ ext) none v w
     | .halt _ w => .ended (.stuck "range over a function: no such loop" (fr'.pos P)) w)) : Goes P ρ S c0 ext w w' L R := by
 rcases hf.round with ⟨r1, r2⟩ | ⟨i, i', r1, r2, hr⟩
 ·have hL := hL0 r1
  have hR := hR0 r2
  cases hq : rets j with
  | true =>
   rw [hq] at hL hR
   exact Goes.ctl hL hR ⟨hf.fn, hf.ok, hf.tmps, hf.todo, hf.defers, .returning, hf.kind, hf.kindOk, hf.round⟩ hl (hb.same rfl rfl) hw
  | false =>
   rw [hq] at hL
   exact Goes.ended fun W => ⟨_, _, _, hL W⟩
 ·have hL := hL1 i r1
  have hR := hR1 i' r2
  cases hl with
  | nil => exact absurd (show fr.roundOf = none by simpa [Bot] using hb.2) (by rw [r1]; simp)
  | @cons c c' l l' hc hl =>
   refine Goes.of (fn := fr.fn) (fn' := fr'.fn) (R_endRound (P := P) hr j hj) hw hf.fn (fun h W W1 es _ hr => ⟨_, _, _, by rw [hL, hr]; rfl⟩) (fun σ v v' _ _ => .inl fun W W1 es hr => ⟨_, _, _, by rw [hL, hr]; rfl⟩) fun σ v v' hle hv => .inr ?_
   obtain ⟨c1, c1', d1, d2, d3, d4, d5⟩ := doReturn_R (l := l ++ [c0]) (l' := l' ++ ext) (main := main) hf.kind hf.kindOk (hc.mono hle) (show VR σ v v' from hv)
   refine ⟨c1, l, c1', l', fun W W1 es hr => ?_, fun W1 es hr => ?_, d3, hl.mono hle, (Bot.cons.1 hb).same d4 d5⟩
   ·rw [hL, hr]
    show GStep.after _ (doReturn P true fr (c :: (l ++ [c0])) none v W1) = _
    rw [d1, after_go, Array.append_empty]
   ·rw [hR, hr]
    show GStep.after _ (doReturn P main fr' (c' :: (l' ++ ext)) none v' W1) = _
    rw [d2, after_go, Array.append_empty]
theorem oper_R (E : Env P ρ S) {fr fr' : Frame} {l l' : List Frame} (hf : FrR P ρ S fr fr') (hl : FsR P ρ S l l') (hb : Bot fr l) {w w' : World} (hw : WR P ρ w w')
  {ops : Array Oper} {i : Nat} {rest : List Nat} {k k' : List Item} (ht : fr.todo = .inRegion ops (i :: rest) :: k) (ht' : fr'.todo = .inRegion ops (i :: rest) :: k') (ho : ∀ o ∈ ops.toList, OperOk P ρ (S fr.fn) fr.roundOf.isSome o) (hst : ∀ o, ops[i]? = some o → ¬ Stp ρ o) :
  Goes P ρ S c0 ext w w' (fun w => stepG.oper P true fr (l ++ [c0]) none w) (stepG.oper P true fr' (l' ++ ext) none w') := by
 have e1 : fr.oper? = ops[i]? := by unfold Frame.oper?; rw [ht]
 have e2 : fr'.oper? = ops[i]? := by unfold Frame.oper?; rw [ht']
 cases hi : ops[i]? with
 | none => exact Goes.ended fun W => ⟨_, _, _, by unfold stepG.oper; rw [e1, hi]⟩
 | some o =>
  have hm : o ∈ ops.toList := by rw [Array.getElem?_eq_some_iff] at hi; obtain ⟨h, rfl⟩ := hi; simp
  have hd : ∀ ops' i' r t, fr.todo = .inRegion ops' (i' :: r) :: t → ∀ d, (ops'[i']?).bind (·.dst) = some d → o.dst = some d := fun ops' i' r t h d hd => by
   rw [ht] at h
   simp only [List.cons.injEq, Item.inRegion.injEq] at h
   obtain ⟨⟨rfl, rfl, _⟩, _⟩ := h
   rw [hi] at hd
   exact hd
  have ap : ∀ (x : Frame) (cs : List Frame) (W : World), x.oper? = ops[i]? → (x.roundOf = none ∨ ∀ c, o.op ≠ .defer c) → stepG.oper P true x cs none W = stepG.apply P true x cs none (execOp x.eval o) W := fun x cs W h1 h2 => by
   unfold stepG.oper
   rw [h1, hi]
   dsimp only
   split
   ·rename_i h3 h4
    rcases h2 with h2 | h2
    ·rw [h2] at h3; cases h3
    ·exact absurd h4 (h2 _)
   ·rfl
  have hrr : fr.roundOf = none → fr'.roundOf = none := fun h => by
   rcases hf.round with ⟨_, r2⟩ | ⟨a, _, r1, _, _⟩
   ·exact r2
   ·rw [h] at r1; cases r1
  have nd : (fr.roundOf.isSome = true → ∀ c, o.op ≠ .defer c) → (fr.roundOf = none ∨ ∀ c, o.op ≠ .defer c) ∧ (fr'.roundOf = none ∨ ∀ c, o.op ≠ .defer c) := fun h => by
   cases hr : fr.roundOf with
   | none => exact ⟨.inl rfl, .inl (hrr hr)⟩
   | some a => exact ⟨.inr (h (by rw [hr]; rfl)), .inr (h (by rw [hr]; rfl))⟩
  rcases ho o hm with ⟨h1, h2, h3⟩ | ⟨h1, ⟨c, h2, h3⟩, h4⟩ | ⟨t, g, x, d, h1, h2, h3, h4, h5⟩ | ⟨t, x, h1, hx, h2⟩ | h1
  ·obtain ⟨n1, n2⟩ := nd h3
   rw [ap fr' _ _ e2 n2]
   have : (fun w => stepG.oper P true fr (l ++ [c0]) none w) = fun w => stepG.apply P true fr (l ++ [c0]) none (execOp fr.eval o) w := funext fun W => ap fr _ _ e1 n1
   rw [this]
   exact apply_R E hf hl hb (R_execOp E.pf E.kf E.xf E.mf (fun x hx => hf.eval hx) o h1) hw
  ·have hro : fr.roundOf = none := by cases hr : fr.roundOf with
    | none => rfl
    | some a => rw [hr] at h1; cases h1
   have hn : ∀ c', o.op ≠ .defer c' := fun c' h => by rw [h2] at h; cases h
   have ex : ∀ e : Operand → Value, ∃ ts, ∀ W, (execOp e o).runT P W #[] = (.ok .recover W, ts) := fun e => ⟨#[], fun W => by
    unfold execOp
    rw [h2]
    dsimp only
    unfold resolve
    rw [h3]
    rfl⟩
   obtain ⟨ts1, x1⟩ := ex fr.eval
   obtain ⟨ts2, x2⟩ := ex fr'.eval
   have hts : ts1 = #[] ∧ ts2 = #[] := by
    have k : ∀ e : Operand → Value, (execOp e o).runT P w #[] = (.ok .recover w, #[]) := fun e => by
     unfold execOp
     rw [h2]
     dsimp only
     unfold resolve
     rw [h3]
     rfl
    have a1 := (x1 w).symm.trans (k _)
    have a2 := (x2 w).symm.trans (k _)
    simp only [Prod.mk.injEq, true_and] at a1 a2
    exact ⟨a1, a2⟩
   obtain ⟨rfl, rfl⟩ := hts
   have k1 := ne_early hf.kindOk
   have k2 : (fr'.kind == CallKind.early) = false := by rw [hf.kind]; exact k1
   have sn : ∀ f, seen P f #[] = #[] := fun f => by simp [seen]
   rcases tryRecover_R (c0 := c0) (ext := ext) hf hl hb with ⟨t1, t2⟩ | ⟨v, v', l1, l1', t1, t2, t3, t4, t5⟩
   ·refine Goes.ctl (fr1 := fr.finish .nilIface) (fr1' := fr'.finish .nilIface) (l1 := l) (l1' := l') (fun W => ?_) ?_ (hf.finish (.inl .nilIface) fun _ _ _ _ _ _ _ _ => .nilIface) hl (hb.same (finish_kind _ _).1 (finish_kind _ _).2) hw
    ·rw [ap fr _ _ e1 (.inr hn), ap_recover hro k1 (x1 W), t1, sn]
    ·rw [ap fr' _ _ e2 (.inr hn), ap_recover (hrr hro) k2 (x2 w'), t2, sn]
   ·refine Goes.ctl (fr1 := fr.finish v) (fr1' := fr'.finish v') (l1 := l1) (l1' := l1') (fun W => ?_) ?_ (hf.finish (.inl t3) fun _ _ _ _ _ _ _ _ => t3) t4 (t5 _ (hb.same (finish_kind _ _).1 (finish_kind _ _).2)) hw
    ·rw [ap fr _ _ e1 (.inr hn), ap_recover hro k1 (x1 W), t1, sn]
    ·rw [ap fr' _ _ e2 (.inr hn), ap_recover (hrr hro) k2 (x2 w'), t2, sn]
  ·have hn : ∀ c', o.op ≠ .defer c' := fun c' h => by rw [h1] at h; cases h
   have ex : ∀ e : Operand → Value, execOp e o = (do Pure.pure (.value (← Instr.indexAt t (e (.global g)) (e x)))) := fun e => by
    unfold execOp
    rw [h1]
   rw [ap fr' _ _ e2 (.inr hn), ex]
   have : (fun w => stepG.oper P true fr (l ++ [c0]) none w) = fun w => stepG.apply P true fr (l ++ [c0]) none (do Pure.pure (.value (← Instr.indexAt t (fr.eval (.global g)) (fr.eval x)))) w := funext fun W => by rw [ap fr _ _ e1 (.inr hn), ex]
   rw [this]
   refine apply_T hf hl hb (R_indexT E.pf E.kf t (a := ⟨g, 0, none⟩) h2 (hf.eval h3)) (fun ops' i' r t' h d' hd' => ?_) hw
   have := hd ops' i' r t' h d' hd'
   rw [h4] at this
   cases this
   exact h5
  ·have hn : ∀ c', o.op ≠ .defer c' := fun c' h => by rw [h1] at h; cases h
   have hv : VT ρ (fr.eval x) (fr'.eval x) := by
    rcases hx with ⟨s, rfl⟩ | ⟨g, rfl, hg⟩
    ·exact hf.evalT s
    ·exact .inr ⟨⟨g, 0, none⟩, hg, rfl, rfl⟩
   have ex : ∀ e : Operand → Value, execOp e o = (do Pure.pure (.value (← Instr.loadAt t (e x)))) := fun e => by
    unfold execOp
    rw [h1]
   rw [ap fr' _ _ e2 (.inr hn), ex]
   have : (fun w => stepG.oper P true fr (l ++ [c0]) none w) = fun w => stepG.apply P true fr (l ++ [c0]) none (do Pure.pure (.value (← Instr.loadAt t (fr.eval x)))) w := funext fun W => by rw [ap fr _ _ e1 (.inr hn), ex]
   rw [this]
   exact apply_R E hf hl hb (R_bind (R_loadVT t hv) fun _ _ _ _ h => R_pure (.value h)) hw
  ·exact absurd h1 (hst o hi)
end
end Go.Pr
namespace Go.Pr
open Go
section
variable {P : Program} {ρ : Rn} {S : Nat → Nat → Bool} {c0 : Frame} {ext : List Frame}
theorem exec_R (E : Env P ρ S) {fr fr' : Frame} {l l' : List Frame} (hf : FrR P ρ S fr fr') (hl : FsR P ρ S l l') (hb : Bot fr l) {w w' : World} (hw : WR P ρ w w') {main : Bool} (hst : ∀ ops i rest k, fr.todo = .inRegion ops (i :: rest) :: k → ∀ o, ops[i]? = some o → ¬ Stp ρ o) :
  Goes P ρ S c0 ext w w' (fun w => stepG.exec P true true fr (l ++ [c0]) none w) (stepG.exec P main true fr' (l' ++ ext) none w') := by
 have to : ∀ {t t' : List Item}, IsR P ρ fr.fn (S fr.fn) fr.roundOf.isSome t t' → (∀ W, stepG.exec P true true fr (l ++ [c0]) none W = .go (gr { fr with todo := t } (l ++ [c0])) W #[]) → stepG.exec P main true fr' (l' ++ ext) none w' = .go (gr { fr' with todo := t' } (l' ++ ext)) w' #[] →
   Goes P ρ S c0 ext w w' (fun w => stepG.exec P true true fr (l ++ [c0]) none w) (stepG.exec P main true fr' (l' ++ ext) none w') := fun h h1 h2 =>
  Goes.ctl h1 h2 (hf.to h) hl (hb.same rfl rfl) hw
 have hk := hf.todo
 generalize ht : fr.todo = td at hk
 generalize ht' : fr'.todo = td' at hk
 cases hk with
 | nil =>
  refine leave_R (main := main) hf hl hb hw none (fun c h => by cases h) (fun r W => ?_) (fun i r W => ?_) (fun r => ?_) fun i r => ?_
  ·unfold stepG.exec; rw [ht]; dsimp only; rw [r]; rfl
  ·unfold stepG.exec; rw [ht]; dsimp only; rw [r]; rfl
  ·unfold stepG.exec; rw [ht']; dsimp only; rw [r]; rfl
  ·unfold stepG.exec; rw [ht']; dsimp only; rw [r]; rfl
 | @cons x x' k k' hx hk =>
  have lv : ∀ (j : Option Code), (∀ c, j = some c → Jump c) → True := fun _ _ => trivial
  cases hx with
  | inBlock id => exact to hk (fun W => by unfold stepG.exec; rw [ht]; rfl) (by unfold stepG.exec; rw [ht']; rfl)
  | inScope c => exact to hk (fun W => by unfold stepG.exec; rw [ht]; rfl) (by unfold stepG.exec; rw [ht']; rfl)
  | inLoop c => exact to (.cons (.code c) (.cons (.inLoop c) hk)) (fun W => by unfold stepG.exec; rw [ht]; rfl) (by unfold stepG.exec; rw [ht']; rfl)
  | inRange r => exact Goes.ended fun W => ⟨_, _, _, by unfold stepG.exec; rw [ht]⟩
  | endRange r =>
   refine Goes.of (fn := fr.fn) (fn' := fr'.fn) (R_endLoop (P := P) E.pf E.kf r) hw hf.fn (fun h W W1 es hd hr => ?_) (fun σ v v' hle hv => .inr ?_) fun σ a b hle hab => .inr ?_
   ·refine ⟨.stuck "range over a function: no such loop" (fr.pos P), W1, seen P fr.fn es, ?_⟩
    unfold stepG.exec
    rw [ht]
    dsimp only
    rw [hr]
    cases h <;> first | (cases hd; done) | rfl
   ·refine ⟨fr.raise [{ v := v, recovered := false }], l, fr'.raise [{ v := v', recovered := false }], l', fun W W1 es hr => ?_, fun W1 es hr => ?_, (hf.mono hle).raise (.cons ⟨hv, rfl, rfl⟩ .nil), hl.mono hle, hb.same (raise_kind _ _).1 (raise_kind _ _).2⟩
    ·unfold stepG.exec; rw [ht]; dsimp only; rw [hr]; rfl
    ·unfold stepG.exec; rw [ht']; dsimp only; rw [hr]; rfl
   ·obtain ⟨rfl, hj⟩ := hab
    have hk2 : IsR P σ fr.fn (S fr.fn) fr.roundOf.isSome ((a.map Item.code).toList ++ k) ((a.map Item.code).toList ++ k') := by
     cases a with
     | none => exact hk.mono hle
     | some c =>
      refine .cons (.code ?_) (hk.mono hle)
      have := hj c rfl
      cases c <;> first | exact this.elim | trivial
    refine ⟨_, l, _, l', fun W W1 es hr => ?_, fun W1 es hr => ?_, (hf.mono hle).to hk2, hl.mono hle, hb.same rfl rfl⟩
    ·unfold stepG.exec; rw [ht]; dsimp only; rw [hr]; rfl
    ·unfold stepG.exec; rw [ht']; dsimp only; rw [hr]; rfl
  | beginRound =>
   rcases hf.round with ⟨r1, r2⟩ | ⟨i, i', r1, r2, hr⟩
   ·have : (fun W => stepG.exec P true true fr (l ++ [c0]) none W) = fun W => stepG.apply P true fr (l ++ [c0]) none (do (stuck "beginRound: no round" : Sem Unit); Pure.pure .skip) W := funext fun W => by
     unfold stepG.exec; rw [ht]; dsimp only; rw [r1]; rfl
    rw [this]
    have : stepG.exec P main true fr' (l' ++ ext) none w' = stepG.apply P true fr' (l' ++ ext) none (do (stuck "beginRound: no round" : Sem Unit); Pure.pure .skip) w' := by
     unfold stepG.exec; rw [ht']; dsimp only; rw [r2]; rfl
    rw [this]
    exact apply_R E hf hl hb (R_bind (A := TrR Unit Unit) R_stuck fun _ _ _ _ _ => R_pure .skip) hw
   ·have : (fun W => stepG.exec P true true fr (l ++ [c0]) none W) = fun W => stepG.apply P true fr (l ++ [c0]) none (do Instr.beginRound i; Pure.pure .skip) W := funext fun W => by
     unfold stepG.exec; rw [ht]; dsimp only; rw [r1]; rfl
    rw [this]
    have : stepG.exec P main true fr' (l' ++ ext) none w' = stepG.apply P true fr' (l' ++ ext) none (do Instr.beginRound i'; Pure.pure .skip) w' := by
     unfold stepG.exec; rw [ht']; dsimp only; rw [r2]; rfl
    rw [this]
    exact apply_R E hf hl hb (R_bind (R_beginRound E.pf E.kf hr) fun _ _ _ _ _ => R_pure .skip) hw
  | @inRegion ops todo ho =>
   cases todo with
   | nil => exact to hk (fun W => by unfold stepG.exec; rw [ht]; rfl) (by unfold stepG.exec; rw [ht']; rfl)
   | cons i rest =>
    have hy : yielded ops fr'.tmps = yielded ops fr.tmps := funext fun j => hf.yielded ops j
    cases hq : ((ops[i]?).map (Region.wanted · (yielded ops fr.tmps))).getD false with
    | true =>
     have : (fun W => stepG.exec P true true fr (l ++ [c0]) none W) = fun W => stepG.oper P true fr (l ++ [c0]) none W := funext fun W => by
      unfold stepG.exec; rw [ht]; dsimp only; rw [if_pos hq]
     rw [this]
     have : stepG.exec P main true fr' (l' ++ ext) none w' = stepG.oper P true fr' (l' ++ ext) none w' := by
      unfold stepG.exec; rw [ht']; dsimp only; rw [if_pos (by rw [hy]; exact hq)]
     rw [this]
     exact oper_R E hf hl hb hw ht ht' ho (hst _ _ _ _ ht)
    | false =>
     refine Goes.ctl (fr1 := fr.finish undef) (fr1' := fr'.finish undef) (l1 := l) (l1' := l') (fun W => ?_) ?_ (hf.finish (.inl undefR) fun _ _ _ _ _ _ _ _ => undefR) hl (hb.same (finish_kind _ _).1 (finish_kind _ _).2) hw
     ·unfold stepG.exec; rw [ht]; dsimp only; rw [if_neg (by rw [hq]; simp)]; rfl
     ·unfold stepG.exec; rw [ht']; dsimp only; rw [if_neg (by rw [hy, hq]; simp)]; rfl
  | @code c hc =>
   cases c with
   | skip => exact to hk (fun W => by unfold stepG.exec; rw [ht]; rfl) (by unfold stepG.exec; rw [ht']; rfl)
   | label i => exact to hk (fun W => by unfold stepG.exec; rw [ht]; rfl) (by unfold stepG.exec; rw [ht']; rfl)
   | seq a b => exact to (.cons (.code hc.1) (.cons (.code hc.2) hk)) (fun W => by unfold stepG.exec; rw [ht]; rfl) (by unfold stepG.exec; rw [ht']; rfl)
   | block i a => exact to (.cons (.code (c := a) hc) (.cons (.inBlock i) hk)) (fun W => by unfold stepG.exec; rw [ht]; rfl) (by unfold stepG.exec; rw [ht']; rfl)
   | loop a => exact to (.cons (.code (c := a) hc) (.cons (.inLoop (c := a) hc) hk)) (fun W => by unfold stepG.exec; rw [ht]; rfl) (by unfold stepG.exec; rw [ht']; rfl)
   | scope a => exact to (.cons (.code (c := a) hc) (.cons (.inScope (c := a) hc) hk)) (fun W => by unfold stepG.exec; rw [ht]; rfl) (by unfold stepG.exec; rw [ht']; rfl)
   | refuse s => exact Goes.ended fun W => ⟨_, _, _, by unfold stepG.exec; rw [ht]⟩
   | cond o a b =>
    have hv := hf.eval hc.1
    cases hq : fr.eval o with
    | bool z =>
     have hq' : fr'.eval o = .bool z := by rw [hq] at hv; generalize fr'.eval o = u at hv; cases hv; rfl
     refine to (t := .code (if z then a else b) :: k) (t' := .code (if z then a else b) :: k') (.cons (.code ?_) hk) (fun W => by unfold stepG.exec; rw [ht]; dsimp only; rw [hq]; rfl) (by unfold stepG.exec; rw [ht']; dsimp only; rw [hq']; rfl)
     split
     ·exact hc.2.1
     ·exact hc.2.2
    | _ => exact Goes.ended fun W => ⟨_, _, _, by unfold stepG.exec; rw [ht]; dsimp only; rw [hq]⟩
   | ret =>
    refine leave_R (main := main) hf hl hb hw (some .ret) (fun c h => by cases h; trivial) (fun r W => ?_) (fun i r W => ?_) (fun r => ?_) fun i r => ?_
    ·unfold stepG.exec; rw [ht]; dsimp only; rw [r]; rfl
    ·unfold stepG.exec; rw [ht]; dsimp only; rw [r]; rfl
    ·unfold stepG.exec; rw [ht']; dsimp only; rw [r]; rfl
    ·unfold stepG.exec; rw [ht']; dsimp only; rw [r]; rfl
   | exit id =>
    rcases exitTo_R id hk with ⟨q1, q2⟩ | ⟨r, r', q1, q2, hr⟩
    ·refine leave_R (main := main) hf hl hb hw (some (.exit id)) (fun c h => by cases h; trivial) (fun r W => ?_) (fun i r W => ?_) (fun r => ?_) fun i r => ?_
     ·unfold stepG.exec; rw [ht]; dsimp only; rw [q1, r]; rfl
     ·unfold stepG.exec; rw [ht]; dsimp only; rw [q1, r]; rfl
     ·unfold stepG.exec; rw [ht']; dsimp only; rw [q2, r]; rfl
     ·unfold stepG.exec; rw [ht']; dsimp only; rw [q2, r]; rfl
    ·exact to hr (fun W => by unfold stepG.exec; rw [ht]; dsimp only; rw [q1]; rfl) (by unfold stepG.exec; rw [ht']; dsimp only; rw [q2]; rfl)
   | goto i =>
    rcases gotoIn_R i hk with ⟨q1, q2⟩ | ⟨r, r', q1, q2, hr⟩
    ·refine leave_R (main := main) hf hl hb hw (some (.goto i)) (fun c h => by cases h; trivial) (fun r W => ?_) (fun i r W => ?_) (fun r => ?_) fun i r => ?_
     ·unfold stepG.exec; rw [ht]; dsimp only; rw [q1, r]; rfl
     ·unfold stepG.exec; rw [ht]; dsimp only; rw [q1, r]; rfl
     ·unfold stepG.exec; rw [ht']; dsimp only; rw [q2, r]; rfl
     ·unfold stepG.exec; rw [ht']; dsimp only; rw [q2, r]; rfl
    ·exact to hr (fun W => by unfold stepG.exec; rw [ht]; dsimp only; rw [q1]; rfl) (by unfold stepG.exec; rw [ht']; dsimp only; rw [q2]; rfl)
   | rangeFunc g ps a b => exact rangeFunc_R E hf hl hb hw ht ht' hc hk
   | region id ops draw =>
    cases draw with
    | false => exact to (t := .inRegion ops (List.range ops.size) :: k) (t' := .inRegion ops (List.range ops.size) :: k') (.cons (.inRegion _ hc) hk) (fun W => by unfold stepG.exec; rw [ht]; rfl) (by unfold stepG.exec; rw [ht']; rfl)
    | true =>
     refine ⟨1, fun _ => w'.tape w'.drawn, .inr ⟨{ fr with todo := .inRegion ops (Region.schedule (P.follows .mixedOrders) ops (w'.tape w'.drawn (.order fr.fn id))) :: k }, l, { w with drawn := w.drawn + 1 },
      { fr' with todo := .inRegion ops (Region.schedule (P.follows .mixedOrders) ops (w'.tape w'.drawn (.order fr'.fn id))) :: k' }, l', { w' with drawn := w'.drawn + 1 }, #[], #[], ρ, rfl, fun T hT => ?_, ?_,
      .cons (hf.to (.cons (by rw [hf.fn]; exact .inRegion _ hc) hk)) hl, hb.same rfl rfl, ⟨Rn.Le.refl _, fun _ _ h => .inl h⟩, hw.drew, .nil, ⟨rfl, rfl, rfl, Nat.le_succ _, Nat.le_refl _, fun _ _ _ => rfl⟩⟩⟩
     ·have h0 : T w.drawn = w'.tape w'.drawn := hT 0 (by omega)
      unfold stepG.exec
      rw [ht]
      dsimp only
      have e : (choose (.order fr.fn id)).run P (on w T) = .ok (T w.drawn (.order fr.fn id)) (on { w with drawn := w.drawn + 1 } T) := rfl
      rw [e, h0]
      rfl
     ·unfold stepG.exec
      rw [ht']
      rfl
end
end Go.Pr
namespace Go.Pr
open Go
section
variable {P : Program} {ρ : Rn} {S : Nat → Nat → Bool} {c0 : Frame} {ext : List Frame}
theorem FrR.defs {fr fr' : Frame} (hf : FrR P ρ S fr fr') {d d' : List Deferred} (h : DsR ρ d d') : FrR P ρ S { fr with defers := d } { fr' with defers := d' } :=
 ⟨hf.fn, hf.ok, hf.tmps, hf.todo, h, hf.mode, hf.kind, hf.kindOk, hf.round⟩
theorem callDeferred_R (E : Env P ρ S) {fr fr' : Frame} {l l' : List Frame} (hf : FrR P ρ S fr fr') (hl : FsR P ρ S l l') (hb : Bot fr l) {w w' : World} (hw : WR P ρ w w') {d d' : Deferred} (hd : DfR ρ d d') :
  Goes P ρ S c0 ext w w' (fun w => callDeferred P fr (l ++ [c0]) none d w) (callDeferred P fr' (l' ++ ext) none d' w') := by
 have hmm : (∃ c c', fr.mode = .panicking c ∧ fr'.mode = .panicking c') ∨ ((fr.mode = .run ∨ fr.mode = .returning) ∧ (fr'.mode = .run ∨ fr'.mode = .returning)) := by
  have := hf.mode
  revert this
  generalize fr.mode = a
  generalize fr'.mode = b
  intro h
  cases h with
  | run => exact .inr ⟨.inl rfl, .inl rfl⟩
  | returning => exact .inr ⟨.inr rfl, .inr rfl⟩
  | panicking c => exact .inl ⟨_, _, rfl, rfl⟩
 have htt : (d.target = .nil ∧ d'.target = .nil) ∨ ((∃ f c, d.target = .fn f c) ∧ ∃ f c, d'.target = .fn f c) ∨ ((∃ r, d.target = .collected r) ∧ ∃ r, d'.target = .collected r) := by
  have := hd.target
  revert this
  generalize d.target = a
  generalize d'.target = b
  intro h
  cases h with
  | nil => exact .inl ⟨rfl, rfl⟩
  | fn => exact .inr (.inl ⟨⟨_, _, rfl⟩, _, _, rfl⟩)
  | collected => exact .inr (.inr ⟨⟨_, rfl⟩, _, rfl⟩)
 by_cases hz : d.target = .nil ∧ ∃ c, fr.mode = .panicking c
 ·obtain ⟨h1, c, h2⟩ := hz
  exact Goes.ended fun W => ⟨_, _, _, by unfold callDeferred; rw [if_pos (by simp [h1, h2])]⟩
 have hq : (∃ f c, d.target = .fn f c) ∨ (∃ r, d.target = .collected r) ∨ fr.mode = .run ∨ fr.mode = .returning := by
  rcases htt with ⟨k, _⟩ | ⟨k, _⟩ | ⟨k, _⟩
  ·rcases hmm with ⟨c, c', h1, h2⟩ | ⟨h1, h2⟩
   ·exact absurd ⟨k, c, h1⟩ hz
   ·exact .inr (.inr h1)
  ·exact .inl k
  ·exact .inr (.inl k)
 have hq' : (∃ f c, d'.target = .fn f c) ∨ (∃ r, d'.target = .collected r) ∨ fr'.mode = .run ∨ fr'.mode = .returning := by
  rcases htt with ⟨k, _⟩ | ⟨_, k⟩ | ⟨_, k⟩
  ·rcases hmm with ⟨c, c', h1, h2⟩ | ⟨h1, h2⟩
   ·exact absurd ⟨k, c, h1⟩ hz
   ·exact .inr (.inr h2)
  ·exact .inl k
  ·exact .inr (.inl k)
 refine Goes.of (fn := fr.fn) (fn' := fr'.fn) (R_invoke E.pf E.kf E.xf E.mf hd.target hd.args) hw hf.fn (fun h W W1 es hdu hr => ?_) (fun σ v v' hle hv => .inr ?_) fun σ a b hle hab => .inr ?_
 ·cases h <;> first | (cases hdu; done) | exact ⟨_, _, _, by unfold callDeferred; rw [if_neg (by rcases hq with ⟨f, c, h⟩ | ⟨r, h⟩ | h | h <;> simp [h])]; simp only [hr]; rfl⟩
 ·refine ⟨fr.raise [{ v := v, recovered := false }], l, fr'.raise [{ v := v', recovered := false }], l', fun W W1 es hr => ?_, fun W1 es hr => ?_, (hf.mono hle).raise (.cons ⟨hv, rfl, rfl⟩ .nil), hl.mono hle, hb.same (raise_kind _ _).1 (raise_kind _ _).2⟩
  ·unfold callDeferred; rw [if_neg (by rcases hq with ⟨f, c, h⟩ | ⟨r, h⟩ | h | h <;> simp [h])]; simp only [hr, GStep.after, Array.append_empty, gr]
  ·unfold callDeferred; rw [if_neg (by rcases hq' with ⟨f, c, h⟩ | ⟨r, h⟩ | h | h <;> simp [h])]; simp only [hr, GStep.after, Array.append_empty, gr]
 ·have E1 := E.mono hle
  have hf1 := hf.mono hle
  have hl1 := hl.mono hle
  cases hab with
  | value hv => exact ⟨fr, l, fr', l', fun W W1 es hr => by unfold callDeferred; rw [if_neg (by rcases hq with ⟨f, c, h⟩ | ⟨r, h⟩ | h | h <;> simp [h])]; simp only [hr, GStep.after, Array.append_empty, gr], fun W1 es hr => by unfold callDeferred; rw [if_neg (by rcases hq' with ⟨f, c, h⟩ | ⟨r, h⟩ | h | h <;> simp [h])]; simp only [hr, GStep.after, Array.append_empty, gr], hf1, hl1, hb⟩
  | skip => exact ⟨fr, l, fr', l', fun W W1 es hr => by unfold callDeferred; rw [if_neg (by rcases hq with ⟨f, c, h⟩ | ⟨r, h⟩ | h | h <;> simp [h])]; simp only [hr, GStep.after, Array.append_empty, gr], fun W1 es hr => by unfold callDeferred; rw [if_neg (by rcases hq' with ⟨f, c, h⟩ | ⟨r, h⟩ | h | h <;> simp [h])]; simp only [hr, GStep.after, Array.append_empty, gr], hf1, hl1, hb⟩
  | defer hv => exact ⟨fr, l, fr', l', fun W W1 es hr => by unfold callDeferred; rw [if_neg (by rcases hq with ⟨f, c, h⟩ | ⟨r, h⟩ | h | h <;> simp [h])]; simp only [hr, GStep.after, Array.append_empty, gr], fun W1 es hr => by unfold callDeferred; rw [if_neg (by rcases hq' with ⟨f, c, h⟩ | ⟨r, h⟩ | h | h <;> simp [h])]; simp only [hr, GStep.after, Array.append_empty, gr], hf1, hl1, hb⟩
  | enter ho hx => exact ⟨_, fr :: l, _, fr' :: l', fun W W1 es hr => by unfold callDeferred; rw [if_neg (by rcases hq with ⟨f, c, h⟩ | ⟨r, h⟩ | h | h <;> simp [h])]; simp only [hr, GStep.after, Array.append_empty]; rfl, fun W1 es hr => by unfold callDeferred; rw [if_neg (by rcases hq' with ⟨f, c, h⟩ | ⟨r, h⟩ | h | h <;> simp [h])]; simp only [hr, GStep.after, Array.append_empty]; rfl, enter_R E1 ho hx (.inr rfl), .cons hf1 hl1, Bot.cons.2 hb⟩
  | round a b hr2 hx ho ha hc => exact ⟨_, fr :: l, _, fr' :: l', fun W W1 es hr => by unfold callDeferred; rw [if_neg (by rcases hq with ⟨f, c, h⟩ | ⟨r, h⟩ | h | h <;> simp [h])]; simp only [hr, GStep.after, Array.append_empty]; rfl, fun W1 es hr => by unfold callDeferred; rw [if_neg (by rcases hq' with ⟨f, c, h⟩ | ⟨r, h⟩ | h | h <;> simp [h])]; simp only [hr, GStep.after, Array.append_empty]; rfl, round_R E1 hr2 hx ho ha hc (.inr rfl), .cons hf1 hl1, Bot.cons.2 hb⟩
theorem unwind_R (E : Env P ρ S) {fr fr' : Frame} {l l' : List Frame} (hf : FrR P ρ S fr fr') (hl : FsR P ρ S l l') (hb : Bot fr l) (hn : fr.defers = [] → l ≠ []) {w w' : World} (hw : WR P ρ w w') {main : Bool} :
  Goes P ρ S c0 ext w w' (fun w => unwind P true fr (l ++ [c0]) none w) (unwind P main fr' (l' ++ ext) none w') := by
 have hds := hf.defers
 generalize hd : fr.defers = ds at hds hn
 generalize hd' : fr'.defers = ds' at hds
 cases hds with
 | @cons d d' r r' h1 h2 =>
  obtain ⟨tg, ar⟩ := d
  obtain ⟨tg', ar'⟩ := d'
  have ht := h1.target
  dsimp only at ht
  cases ht with
  | @collected b b' hr =>
   refine Goes.of (fn := fr.fn) (fn' := fr'.fn) (R_takeDeferred (P := P) hr) hw hf.fn (fun h W W1 es _ hr => ⟨_, _, _, by unfold unwind; rw [hd]; dsimp only; rw [hr]; rfl⟩) (fun σ v v' hle hv => .inl fun W W1 es hr => ⟨_, _, _, by unfold unwind; rw [hd]; dsimp only; rw [hr]; rfl⟩) fun σ a b hle hab => .inr ?_
   refine ⟨{ fr with defers := a ++ r }, l, { fr' with defers := b ++ r' }, l', fun W W1 es hr => ?_, fun W1 es hr => ?_, (hf.mono hle).defs (hab.append (h2.mono hle)), hl.mono hle, hb.same rfl rfl⟩
   ·unfold unwind; rw [hd]; dsimp only; rw [hr]; simp only [GStep.after, Array.append_empty, gr]
   ·unfold unwind; rw [hd']; dsimp only; rw [hr]; simp only [GStep.after, Array.append_empty, gr]
  | @fn f f' xs xs' hf2 hx =>
   have e1 : (fun W => unwind P true fr (l ++ [c0]) none W) = fun W => callDeferred P { fr with defers := r } (l ++ [c0]) none ⟨.fn f xs, ar⟩ W := funext fun W => by unfold unwind; rw [hd]
   have e2 : unwind P main fr' (l' ++ ext) none w' = callDeferred P { fr' with defers := r' } (l' ++ ext) none ⟨.fn f' xs', ar'⟩ w' := by unfold unwind; rw [hd']
   rw [e1, e2]
   exact callDeferred_R E (hf.defs h2) hl (hb.same rfl rfl) hw h1
  | nil =>
   have e1 : (fun W => unwind P true fr (l ++ [c0]) none W) = fun W => callDeferred P { fr with defers := r } (l ++ [c0]) none ⟨.nil, ar⟩ W := funext fun W => by unfold unwind; rw [hd]
   have e2 : unwind P main fr' (l' ++ ext) none w' = callDeferred P { fr' with defers := r' } (l' ++ ext) none ⟨.nil, ar'⟩ w' := by unfold unwind; rw [hd']
   rw [e1, e2]
   exact callDeferred_R E (hf.defs h2) hl (hb.same rfl rfl) hw h1
 | nil =>
  cases hl with
  | nil => exact absurd rfl (hn rfl)
  | @cons c c' l l' hc hl =>
   have hm := hf.mode
   generalize hmd : fr.mode = md at hm
   generalize hmd' : fr'.mode = md' at hm
   have hlt : fr.fn < P.funcs.size := E.fns _ hf.ok
   have hfn : P.funcs[fr.fn]? = some P.funcs[fr.fn] := Array.getElem?_eq_getElem hlt
   cases hm with
   | run => exact Goes.ended fun W => ⟨_, _, _, by unfold unwind; rw [hd, hmd]⟩
   | @panicking ch ch' hch =>
    have cat : ∀ x : Frame, x.fn = fr.fn → x.catches P = false := fun x hx => by
     unfold Frame.catches
     rw [hx, hfn]
    refine Goes.ctl (fr1 := c.raise ch) (fr1' := c'.raise ch') (l1 := l) (l1' := l') (fun W => ?_) ?_ (hc.raise hch) hl ((Bot.cons.1 hb).same (raise_kind _ _).1 (raise_kind _ _).2) hw
    ·unfold unwind; rw [hd, hmd]; dsimp only; rw [if_neg (by rw [cat fr rfl]; simp)]; rfl
    ·unfold unwind; rw [hd', hmd']; dsimp only; rw [if_neg (by rw [cat fr' hf.fn]; simp)]; rfl
   | returning =>
    have hfn' : P.funcs[fr'.fn]? = some P.funcs[fr.fn] := by rw [hf.fn]; exact hfn
    refine Goes.of (fn := fr.fn) (fn' := fr'.fn) (results_R E hf.ok hfn hf.tmps) hw hf.fn (fun h W W1 es hdu hr => ?_) (fun σ v v' hle hv => .inl fun W W1 es hr => ?_) fun σ a b hle hab => .inr ?_
    ·cases h <;> first | (cases hdu; done) | exact ⟨_, _, _, by unfold unwind; rw [hd, hmd]; dsimp only; rw [hfn]; dsimp only; rw [hr]; rfl⟩
    ·refine ⟨.stuck "return: the result variables cannot be read" (fr.pos P), W1, seen P fr.fn es, ?_⟩
     unfold unwind
     rw [hd, hmd]
     dsimp only
     rw [hfn]
     dsimp only
     rw [hr]
     simp only [GStep.after, Array.append_empty]
    ·obtain ⟨c1, c1', d1, d2, d3, d4, d5⟩ := doReturn_R (l := l ++ [c0]) (l' := l' ++ ext) (main := main) hf.kind hf.kindOk (hc.mono hle) (show VR σ a b from hab)
     refine ⟨c1, l, c1', l', fun W W1 es hr => ?_, fun W1 es hr => ?_, d3, hl.mono hle, (Bot.cons.1 hb).same d4 d5⟩
     ·unfold unwind
      rw [hd, hmd]
      dsimp only
      rw [hfn]
      dsimp only
      rw [hr]
      show GStep.after _ (doReturn P true fr (c :: (l ++ [c0])) none a W1) = _
      rw [d1, after_go, Array.append_empty]
     ·unfold unwind
      rw [hd', hmd']
      dsimp only
      rw [hfn']
      dsimp only
      rw [hr]
      show GStep.after _ (doReturn P main fr' (c' :: (l' ++ ext)) none b W1) = _
      rw [d2, after_go, Array.append_empty]
theorem step_R (E : Env P ρ S) {fr fr' : Frame} {l l' : List Frame} (hf : FrR P ρ S fr fr') (hl : FsR P ρ S l l') (hb : Bot fr l) (hn : fr.mode ≠ .run → fr.defers = [] → l ≠ []) (hst : fr.mode = .run → ∀ ops i rest k, fr.todo = .inRegion ops (i :: rest) :: k → ∀ o, ops[i]? = some o → ¬ Stp ρ o) {w w' : World} (hw : WR P ρ w w') {main : Bool} :
  Goes P ρ S c0 ext w w' (fun w => stepG P true (gr fr (l ++ [c0])) w) (stepG P main (gr fr' (l' ++ ext)) w') := by
 have hm := hf.mode
 generalize hmd : fr.mode = md at hm
 generalize hmd' : fr'.mode = md' at hm
 have e1 : ∀ (main : Bool) (x : Frame) (cs : List Frame) (W : World), x.mode = .run → stepG P main (gr x cs) W = stepG.exec P main true x cs none W := fun main x cs W h => by
  unfold stepG gr
  dsimp only
  rw [h]
 have e2 : ∀ (main : Bool) (x : Frame) (cs : List Frame) (W : World), x.mode ≠ .run → stepG P main (gr x cs) W = unwind P main x cs none W := fun main x cs W h => by
  unfold stepG gr
  dsimp only
  cases hx : x.mode with
  | run => exact absurd hx h
  | _ => rfl
 cases hm with
 | run =>
  have : (fun w => stepG P true (gr fr (l ++ [c0])) w) = fun w => stepG.exec P true true fr (l ++ [c0]) none w := funext fun W => e1 _ _ _ _ hmd
  rw [this, e1 _ _ _ _ hmd']
  exact exec_R E hf hl hb hw (hst hmd)
 | returning =>
  have h1 : fr.mode ≠ .run := by rw [hmd]; simp
  have : (fun w => stepG P true (gr fr (l ++ [c0])) w) = fun w => unwind P true fr (l ++ [c0]) none w := funext fun W => e2 _ _ _ _ h1
  rw [this, e2 _ _ _ _ (by rw [hmd']; simp)]
  exact unwind_R E hf hl hb (hn h1) hw
 | panicking hp =>
  have h1 : fr.mode ≠ .run := by rw [hmd]; simp
  have : (fun w => stepG P true (gr fr (l ++ [c0])) w) = fun w => unwind P true fr (l ++ [c0]) none w := funext fun W => e2 _ _ _ _ h1
  rw [this, e2 _ _ _ _ (by rw [hmd']; simp)]
  exact unwind_R E hf hl hb (hn h1) hw
end
end Go.Pr
