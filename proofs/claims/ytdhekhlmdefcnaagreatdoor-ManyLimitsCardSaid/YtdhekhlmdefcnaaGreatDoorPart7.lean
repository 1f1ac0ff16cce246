/- Part 7 of the proof: Ms0, Ms1. -/
import Derived.Test.YtdhekhlmdefcnaaGreatDoorPart6
import Derived.ChangeMade
namespace Go.Pr
open Go
theorem lr_of {ρ : Rn} : ∀ {l : List Value}, (∀ v ∈ l, VR ρ v v) → LR ρ l l
 | [], _ => .nil
 | _ :: _, h => .cons (h _ (by simp)) (lr_of fun v hv => h v (by simp [hv]))
theorem reckon_methods {info : TypeId → Option TypeInfo} {d : TypeDesc} {i : TypeInfo} (h : Made.reckon info d = some i) : i.methods = #[] := by
 unfold Made.reckon at h
 split at h
 all_goals try simp only [bind, Option.bind_eq_some_iff, pure] at h
 all_goals repeat' first
  |(obtain ⟨_, _, h⟩ := h)
  |(split at h)
 all_goals first
  |(cases h; rfl)
  |(cases h)
  | skip
 all_goals first
  | rfl
  |(simp only [Option.bind_eq_some_iff] at h; obtain ⟨_, _, h⟩ := h; cases h; rfl)
  | skip
 unfold Made.reckonStruct at h
 simp only [bind, Option.bind_eq_some_iff, pure] at h
 obtain ⟨a, _, h⟩ := h
 split at h <;> (cases h; rfl)
theorem pl_cells {v : Value} (h : Pl v) : ∀ x ∈ v.cells.toList, Pl x := by
 cases v with
 | agg xs =>
  intro x hx ρ
  cases h ρ with
  | agg hl =>
   have : ∀ {l : List Value}, LR ρ l l → ∀ x ∈ l, VR ρ x x := by
    intro l
    induction l with
    | nil => intro _ x hx; cases hx
    | cons a l ih =>
     intro hl x hx
     cases hl with
     | cons p q =>
      cases hx with
      | head => exact p
      | tail _ hx => exact ih q x hx
   exact this hl x hx
 | _ => intro x hx; simp [Value.cells] at hx; subst hx; exact h
theorem forIn_inv {σ α : Type} (Inv : σ → Prop) : ∀ (l : List α) (s s' : σ) (f : α → σ → Option (ForInStep σ)), (∀ x s r, f x s = some r → Inv s → Inv r.value) → forIn l s f = some s' → Inv s → Inv s'
 | [], s, s', f, _, h, hi => by
  simp only [List.forIn_nil, pure, Option.some.injEq] at h
  exact h ▸ hi
 | x :: l, s, s', f, hf, h, hi => by
  rw [List.forIn_cons] at h
  simp only [bind, Option.bind_eq_some_iff] at h
  obtain ⟨r, h1, h2⟩ := h
  have h3 := hf x s r h1 hi
  cases r with
  | done b =>
   simp only [pure, Option.some.injEq] at h2
   exact h2 ▸ h3
  | yield b => exact forIn_inv Inv l b s' f hf h2 h3
theorem zero_step {info : TypeId → Option TypeInfo} (hinfo : ∀ t i v, info t = some i → i.zero = some v → Pl v) {f : Field} {i : TypeInfo} (hi : info f.type = some i) {z : Option (Array Value)} (hz : ∀ cs, z = some cs → ∀ x ∈ cs.toList, Pl x) {cs : Array Value}
  (h : (z.bind fun a => i.zero.bind fun b => some (a ++ b.cells)) = some cs) : ∀ x ∈ cs.toList, Pl x := by
 simp only [Option.bind_eq_some_iff, Option.some.injEq] at h
 obtain ⟨a, h1, b, h2, rfl⟩ := h
 intro x hx
 rw [Array.toList_append, List.mem_append] at hx
 exact hx.elim (hz a h1 x) (pl_cells (hinfo _ _ _ hi h2) x)
theorem reckonStruct_zero {info : TypeId → Option TypeInfo} (hinfo : ∀ t i v, info t = some i → i.zero = some v → Pl v) {fs : Array Field} {j : TypeInfo} (h : Made.reckonStruct info fs = some j) : ∀ v, j.zero = some v → Pl v := by
 unfold Made.reckonStruct at h
 simp only [bind, Option.bind_eq_some_iff, pure] at h
 obtain ⟨a, ha, h⟩ := h
 have key : ∀ cs, a.2.2.2.2.2.2.2.1 = some cs → ∀ x ∈ cs.toList, Pl x := by
  rw [← Array.forIn_toList] at ha
  refine forIn_inv (fun s : Array Field × Nat × Nat × Nat × Nat × Bool × Bool × Option (Array Value) × String => ∀ cs, s.2.2.2.2.2.2.2.1 = some cs → ∀ x ∈ cs.toList, Pl x) fs.toList _ _ _ (fun f s r h1 h2 => ?_) ha (fun cs hcs x hx => ?_)
  ·simp only [Option.bind_eq_some_iff] at h1
   obtain ⟨i, hi, h1⟩ := h1
   repeat' first
    |(cases h1; done)
    |(rw [Option.bind_eq_some_iff] at h1; obtain ⟨_, hh, h1⟩ := h1; first | (cases hh; done) | skip)
    |(split at h1)
   all_goals (cases h1; intro cs hcs; first | (cases hcs; done) | exact zero_step hinfo hi h2 hcs)
  ·cases hcs
   simp at hx
 have fin : ∀ v, (a.2.2.2.2.2.2.2.1.map Value.agg) = some v → Pl v := fun v hv => by
  obtain ⟨cs, h1, rfl⟩ := Option.map_eq_some_iff.1 hv
  exact fun ρ => .agg (lr_of (fun x hx => key cs h1 x hx ρ))
 split at h <;> (cases h; exact fin)
theorem reckon_zero {info : TypeId → Option TypeInfo} (hinfo : ∀ t i v, info t = some i → i.zero = some v → Pl v) {d : TypeDesc} {j : TypeInfo} (h : Made.reckon info d = some j) : ∀ v, j.zero = some v → Pl v := by
 unfold Made.reckon at h
 split at h
 case h_7 =>
  exact reckonStruct_zero hinfo h
 case h_6 n e =>
  simp only [bind, Option.bind_eq_some_iff, pure] at h
  obtain ⟨i, hi, s, hs, h⟩ := h
  cases h
  intro v hv
  dsimp only at hv
  split at hv
  ·cases hv
  ·split at hv
   ·cases hv
    exact fun ρ => .agg .nil
   ·obtain ⟨z, h1, rfl⟩ := Option.map_eq_some_iff.1 hv
    refine fun ρ => .agg (lr_of fun x hx => ?_)
    simp only [Array.toList_flatten, List.mem_flatten, List.mem_map] at hx
    obtain ⟨l, ⟨a, ha, rfl⟩, hx⟩ := hx
    have : a = z.cells := by
     simp at ha
     exact ha.2
    subst this
    exact pl_cells (hinfo _ _ _ hi h1) x hx ρ
 all_goals try simp only [bind, Option.bind_eq_some_iff, pure] at h
 all_goals repeat' first
  |(obtain ⟨_, _, h⟩ := h)
  |(split at h)
 all_goals first
  |(cases h; done)
  |(cases h; intro v hv; cases hv; exact fun ρ => by constructor)
  | skip
 all_goals try (rw [Option.bind_eq_some_iff] at h; obtain ⟨_, _, h⟩ := h; cases h)
 all_goals (intro v hv; simp only [Made.word, Option.some.injEq] at hv; subst hv; exact fun ρ => by constructor)
theorem infoAt_zero {T : Tables} (h0 : ∀ (t : Nat) (i : TypeInfo) (v : Value), T.types[t]? = some i → i.zero = some v → Pl v) : ∀ (f : Nat) (t : TypeId) (i : TypeInfo) (v : Value), Made.infoAt T f t = some i → i.zero = some v → Pl v
 | 0, _, _, _, h, _ => by simp [Made.infoAt] at h
 | f + 1, t, i, v, h, hv => by
  unfold Made.infoAt at h
  split at h
  ·exact h0 t i v h hv
  ·obtain ⟨d, _, h⟩ := Option.bind_eq_some_iff.1 h
   exact reckon_zero (infoAt_zero h0 f) h v hv
theorem info_zero {P : Program} (h0 : ∀ (t : Nat) (i : TypeInfo) (v : Value), P.types[t]? = some i → i.zero = some v → Pl v) (t : TypeId) (i : TypeInfo) (v : Value) (h : P.info? t = some i) (hv : i.zero = some v) : Pl v := by
 unfold Tables.info? at h
 split at h
 ·exact h0 t i v h hv
 ·exact infoAt_zero h0 _ t i v h hv
theorem info_methods {P : Program} {t : TypeId} {i : TypeInfo} (h : P.info? t = some i) : P.types[t]? = some i ∨ i.methods = #[] := by
 unfold Tables.info? at h
 split at h
 ·exact .inl h
 ·rename_i ht
  unfold Made.depth at h
  unfold Made.infoAt at h
  rw [if_neg ht] at h
  obtain ⟨d, _, h⟩ := Option.bind_eq_some_iff.1 h
  exact .inr (reckon_methods h)
end Go.Pr
namespace Go.Pr
open Go
def plainV : Nat → Value → Bool
 | 0, _ => false
 | n + 1, v => match v with
  | .bool _ | .int _ _ | .float _ _ | .complex _ _ _ | .string _ | .pointer none | .slice none _ _ | .map none | .chan none | .nilFunc | .nilIface => true
  | .iface _ v => plainV n v
  | .agg xs | .tuple xs => xs.toList.all (plainV n)
  | _ => false
theorem lr_refl {ρ : Rn} : ∀ {l : List Value}, (∀ v ∈ l, VR ρ v v) → LR ρ l l
 | [], _ => .nil
 | _ :: _, h => .cons (h _ (by simp)) (lr_refl fun v hv => h v (by simp [hv]))
theorem plainV_ok : ∀ (n : Nat) (v : Value), plainV n v = true → Pl v
 | 0, _, h => by simp [plainV] at h
 | n + 1, v, h => fun ρ => by
  unfold plainV at h
  split at h
  all_goals first | constructor | skip
  ·exact plainV_ok n _ h ρ
  ·exact lr_refl fun v hv => plainV_ok n v (List.all_eq_true.1 h v hv) ρ
  ·exact lr_refl fun v hv => plainV_ok n v (List.all_eq_true.1 h v hv) ρ
  ·cases h
structure Al where
 ok : Nat → Bool
 nm : String → Bool
 K : Nat → Bool
 T : Nat → Bool
 sp : Nat → Bool
 S : Nat → Nat → Bool
section
variable (P : Program) (A : Al)
def opdB (S : Nat → Bool) : Operand → Bool
 | .tmp t => !S t
 | .const v => plainV 6 v
 | .global g => A.K g
 | .func f => A.ok f
def fnB : Fn → Bool
 | .func f => A.ok f
 | .method n | .methodOf _ n => A.nm n
 | .via _ _ f _ => A.ok f
 | .yield _ => false
def callB (S : Nat → Bool) (c : Call) : Bool := c.args.toList.all (opdB A S) && match c.callee with
 | .value f => opdB A S f
 | .invoke r n => opdB A S r && A.nm n
 | .builtin b => builtinOk P b c.argTypes
def optB (S : Nat → Bool) : Option Operand → Bool
 | none => true
 | some x => opdB A S x
def opB (S : Nat → Bool) : Op → Bool
 | .move x | .assign x | .box _ x | .load _ x | .nilCheck x | .unOp _ _ x | .makeInterface _ x | .fieldAddr _ x _ | .field _ x _ | .typeAssert x _ _ _ | .extract x _ | .panic x => opdB A S x
 | .pick c a b => opdB A S c && (opdB A S a && opdB A S b)
 | .alloc _ => true
 | .build _ ps | .buildSlice _ _ ps => ps.toList.all fun p => opdB A S p.2
 | .store _ a x => opdB A S a && opdB A S x
 | .binOp _ _ x y _ => opdB A S x && opdB A S y
 | .convert s t x => convOk P s t && opdB A S x
 | .makeFunc fn a b => fnB A fn && (a.toList.all (opdB A S) && b.toList.all (opdB A S))
 | .makeMap _ r => optB A S r
 | .makeSlice _ l c => opdB A S l && opdB A S c
 | .slice _ x lo hi mx => opdB A S x && (optB A S lo && (optB A S hi && optB A S mx))
 | .indexAddr _ x i | .index _ x i => opdB A S x && opdB A S i
 | .lookup t x i _ => mapOk P t && (opdB A S x && opdB A S i)
 | .mapUpdate t m k x | .insert t m k x => mapOk P t && (opdB A S m && (opdB A S k && opdB A S x))
 | .range t x => strOk P t && opdB A S x
 | .next it b => b && opdB A S it
 | .call c => callB P A S c
 | .defer c => callB P A S c && match c.callee with | .builtin _ => false | _ => true
 | _ => false
def dstB (S : Nat → Bool) (o : Oper) : Bool := match o.dst with | some d => !S d | none => true
def recB : Op → Bool
 | .call c => match c.callee with | .builtin .recover => true | _ => false
 | _ => false
def defB : Op → Bool
 | .defer _ => true
 | _ => false
def idxB (S : Nat → Bool) (o : Oper) : Bool := match o.op, o.dst with
 | .indexAddr _ (.global g) i, some d => A.T g && (opdB A S i && S d)
 | _, _ => false
def lodB (S : Nat → Bool) (o : Oper) : Bool := match o.op with
 | .load _ (.tmp _) => dstB S o
 | .load _ (.global g) => A.T g && dstB S o
 | _ => false
def stpB (o : Oper) : Bool := match o.op with
 | .call c => match c.callee with | .value (.func f) => A.sp f | _ => false
 | _ => false
def operB (S : Nat → Bool) (inl : Bool) (o : Oper) : Bool :=
 (opB P A S o.op && (dstB S o && !(inl && defB o.op))) || ((!inl && (recB o.op && dstB S o)) || (idxB A S o || (lodB A S o || stpB A o)))
def codeB (S : Nat → Bool) (inl : Bool) : Code → Bool
 | .seq a b => codeB S inl a && codeB S inl b
 | .cond c a b => opdB A S c && (codeB S inl a && codeB S inl b)
 | .block _ c | .loop c | .scope c => codeB S inl c
 | .region _ ops _ => ops.toList.all (operB P A S inl)
 | .rangeFunc g _ _ _ => opdB A S g
 | _ => true
end
def rounds : Code → List Code
 | .seq a b | .cond _ a b => rounds a ++ rounds b
 | .block _ c | .loop c | .scope c => rounds c
 | .rangeFunc _ _ a b => a :: b :: (rounds a ++ rounds b)
 | _ => []
theorem rounds_trans : ∀ {c x y : Code}, x ∈ rounds c → y ∈ rounds x → y ∈ rounds c := by
 intro c
 induction c with
 | seq a b iha ihb =>
  intro x y h k
  simp only [rounds, List.mem_append] at h ⊢
  exact h.imp (fun h => iha h k) fun h => ihb h k
 | cond _ a b iha ihb =>
  intro x y h k
  simp only [rounds, List.mem_append] at h ⊢
  exact h.imp (fun h => iha h k) fun h => ihb h k
 | block _ c ih => intro x y h k; exact ih h k
 | loop c ih => intro x y h k; exact ih h k
 | scope c ih => intro x y h k; exact ih h k
 | rangeFunc _ _ a b iha ihb =>
  intro x y h k
  simp only [rounds, List.mem_cons, List.mem_append] at h ⊢
  rcases h with rfl | rfl | h | h
  ·exact .inr (.inr (.inl k))
  ·exact .inr (.inr (.inr k))
  ·exact .inr (.inr (.inl (iha h k)))
  ·exact .inr (.inr (.inr (ihb h k)))
 | _ => intro x y h k; simp [rounds] at h
structure Fits (P : Program) (A : Al) (ρ : Rn) : Prop where
 ok : ∀ f, ρ.ok f ↔ A.ok f = true
 nm : ∀ n, ρ.nm n ↔ A.nm n = true
 K : ∀ g, ρ.K g ↔ A.K g = true
 T : ∀ g, ρ.T g ↔ A.T g = true
 sp : ∀ f, ρ.sp f ↔ A.sp f = true
 cd : ∀ f c, ρ.cd f c ↔ ∃ fn body, A.ok f = true ∧ P.funcs[f]? = some fn ∧ fn.body = some body ∧ c ∈ rounds body
section
variable {P : Program} {A : Al} {ρ : Rn}
theorem opdB_ok (F : Fits P A ρ) {S : Nat → Bool} {o : Operand} (h : opdB A S o = true) : opd ρ S o := by
 cases o with
 | tmp t => simpa [opdB, opd] using h
 | const v => exact plainV_ok 6 v h
 | global g => exact (F.K g).2 h
 | func f => exact (F.ok f).2 h
theorem fnB_ok (F : Fits P A ρ) {f : Fn} (h : fnB A f = true) : fnOk ρ f := by
 cases f with
 | func f => exact (F.ok f).2 h
 | method n => exact (F.nm n).2 h
 | methodOf t n => exact (F.nm n).2 h
 | via t p f q => exact (F.ok f).2 h
 | yield l => cases h
theorem callB_ok (F : Fits P A ρ) {S : Nat → Bool} {c : Call} (h : callB P A S c = true) : callOk P ρ (opd ρ S) c := by
 unfold callB at h
 rw [Bool.and_eq_true] at h
 refine ⟨fun o ho => opdB_ok F (List.all_eq_true.1 h.1 o ho), ?_⟩
 have h2 := h.2
 obtain ⟨ce, args, ats⟩ := c
 cases ce with
 | value f => exact opdB_ok F h2
 | invoke r n =>
  simp only [Bool.and_eq_true] at h2
  exact ⟨opdB_ok F h2.1, (F.nm _).2 h2.2⟩
 | builtin b => exact h2
theorem optB_ok (F : Fits P A ρ) {S : Nat → Bool} {o : Option Operand} (h : optB A S o = true) : ∀ y, o = some y → opd ρ S y := by
 rintro y rfl
 exact opdB_ok F h
theorem opB_ok (F : Fits P A ρ) {S : Nat → Bool} {o : Op} (h : opB P A S o = true) : opOk P ρ (opd ρ S) o := by
 have d : ∀ {x}, opdB A S x = true → opd ρ S x := fun h => opdB_ok F h
 cases o <;> simp only [opB, Bool.and_eq_true] at h <;> simp only [opOk]
 all_goals first
  |exact d h
  |exact ⟨d h.1, d h.2.1, d h.2.2⟩
  |exact ⟨d h.1, d h.2⟩
  |exact ⟨h.1, d h.2⟩
  |exact ⟨h.1, d h.2.1, d h.2.2⟩
  |exact ⟨h.1, d h.2.1, d h.2.2.1, d h.2.2.2⟩
  |exact fun p hp => d (List.all_eq_true.1 h p hp)
  |exact ⟨fnB_ok F h.1, fun x hx => d (List.all_eq_true.1 h.2.1 x hx), fun x hx => d (List.all_eq_true.1 h.2.2 x hx)⟩
  |exact optB_ok F h
  |exact ⟨d h.1, optB_ok F h.2.1, optB_ok F h.2.2.1, optB_ok F h.2.2.2⟩
  |exact callB_ok F h
  |exact ⟨callB_ok F h.1, fun b hb => by have h2 := h.2; rw [hb] at h2; cases h2⟩
  |(cases h; done)
  | skip
theorem dstB_ok {S : Nat → Bool} {o : Oper} (h : dstB S o = true) : ∀ d, o.dst = some d → S d = false := fun d hd => by
 unfold dstB at h
 rw [hd] at h
 simpa using h
theorem operB_ok (F : Fits P A ρ) {S : Nat → Bool} {inl : Bool} {o : Oper} (h : operB P A S inl o = true) : OperOk P ρ S inl o := by
 unfold operB at h
 simp only [Bool.or_eq_true, Bool.and_eq_true] at h
 rcases h with ⟨h1, h2, h3⟩ | ⟨h1, h2, h3⟩ | h | h | h
 ·refine .inl ⟨opB_ok F h1, dstB_ok h2, fun hi c hc => ?_⟩
  rw [hi, hc] at h3
  cases h3
 ·refine .inr (.inl ⟨by simpa using h1, ?_, dstB_ok h3⟩)
  unfold recB at h2
  split at h2
  ·rename_i c hc
   refine ⟨c, hc, ?_⟩
   split at h2
   ·assumption
   ·cases h2
  ·cases h2
 ·refine .inr (.inr (.inl ?_))
  unfold idxB at h
  split at h
  ·rename_i t g i d h1 h2
   simp only [Bool.and_eq_true] at h
   exact ⟨t, g, i, d, h1, (F.T g).2 h.1, opdB_ok F h.2.1, h2, h.2.2⟩
  ·cases h
 ·refine .inr (.inr (.inr (.inl ?_)))
  unfold lodB at h
  split at h
  ·rename_i t s h1
   exact ⟨t, _, h1, .inl ⟨s, rfl⟩, dstB_ok h⟩
  ·rename_i t g h1
   rw [Bool.and_eq_true] at h
   exact ⟨t, _, h1, .inr ⟨g, rfl, (F.T g).2 h.1⟩, dstB_ok h.2⟩
  ·cases h
 ·refine .inr (.inr (.inr (.inr ?_)))
  unfold stpB at h
  split at h
  ·rename_i c hc
   split at h
   ·rename_i f hf
    exact ⟨c, f, hc, hf, (F.sp f).2 h⟩
   ·cases h
  ·cases h
theorem codeB_ok (F : Fits P A ρ) {f : Nat} {S : Nat → Bool} {inl : Bool} : ∀ {c : Code}, (∀ x ∈ rounds c, ρ.cd f x ∧ ∀ s, S s = false) → codeB P A S inl c = true → CodeOk P ρ f S inl c := by
 intro c
 induction c with
 | seq a b iha ihb =>
  intro hr h
  simp only [codeB, Bool.and_eq_true] at h
  exact ⟨iha (fun x hx => hr x (by simp [rounds, hx])) h.1, ihb (fun x hx => hr x (by simp [rounds, hx])) h.2⟩
 | cond x a b iha ihb =>
  intro hr h
  simp only [codeB, Bool.and_eq_true] at h
  exact ⟨opdB_ok F h.1, iha (fun x hx => hr x (by simp [rounds, hx])) h.2.1, ihb (fun x hx => hr x (by simp [rounds, hx])) h.2.2⟩
 | block _ c ih => intro hr h; exact ih hr h
 | loop c ih => intro hr h; exact ih hr h
 | scope c ih => intro hr h; exact ih hr h
 | region _ ops _ => intro hr h; exact fun o ho => operB_ok F (List.all_eq_true.1 h o ho)
 | rangeFunc g ps a b iha ihb =>
  intro hr h
  have ha := hr a (by simp [rounds])
  have hb := hr b (by simp [rounds])
  exact ⟨opdB_ok F h, ha.2, ha.1, hb.1⟩
 | _ => intro hr h; trivial
def funB (P : Program) (A : Al) (f : Nat) : Bool := !A.ok f || match P.funcs[f]? with
 | none => false
 | some fn => (match fn.body with
   | none => true
   | some c => codeB P A (A.S f) false c && (match rounds c with | [] => true | r => r.all fun x => codeB P A (A.S f) true x)) &&
  fn.results.toList.all fun r => match r with | .tmp t => !A.S f t | .cell a _ => !A.S f a
def metB (P : Program) (A : Al) : Bool := P.types.toList.all fun i => i.methods.toList.all fun m => !A.nm m.name || match m.func with | none => true | some (f, _) => A.ok f
def zerB (P : Program) : Bool := P.types.toList.all fun i => match i.zero with | none => true | some v => plainV 8 v
theorem env_ok (F : Fits P A ρ) (hf : (List.range P.funcs.size).all (funB P A) = true) (hof : ∀ f, A.ok f = true → f < P.funcs.size) (hs : ∀ f, (∃ s, A.S f s = true) → ∀ fn c, P.funcs[f]? = some fn → fn.body = some c → rounds c = [])
  (hm : metB P A = true) (hz : zerB P = true) (hk : KF P ρ) (hx : XF P ρ.ok) : Env P ρ A.S := by
 have key : ∀ f fn, A.ok f = true → P.funcs[f]? = some fn → (∀ c, fn.body = some c → codeB P A (A.S f) false c = true ∧ ∀ x ∈ rounds c, codeB P A (A.S f) true x = true) ∧ ∀ r ∈ fn.results.toList, match r with | .tmp t => A.S f t = false | .cell a _ => A.S f a = false := by
  intro f fn h1 h2
  have h3 := List.all_eq_true.1 hf f (List.mem_range.2 (hof f h1))
  unfold funB at h3
  rw [h1, h2] at h3
  simp only [Bool.not_true, Bool.false_or, Bool.and_eq_true, List.all_eq_true] at h3
  refine ⟨fun c hc => ?_, fun r hr => ?_⟩
  ·have h4 := h3.1
   rw [hc] at h4
   simp only [Bool.and_eq_true] at h4
   refine ⟨h4.1, fun x hx => ?_⟩
   have h5 := h4.2
   cases hr : rounds c with
   | nil => rw [hr] at hx; cases hx
   | cons y l =>
    rw [hr] at h5 hx
    exact List.all_eq_true.1 h5 x hx
  ·have h4 := h3.2 r hr
   cases r with
   | tmp t => simpa using h4
   | cell a _ => simpa using h4
 have noS : ∀ f fn c, A.ok f = true → P.funcs[f]? = some fn → fn.body = some c → ∀ x, x ∈ rounds c → ∀ s, A.S f s = false := fun f fn c h1 h2 h3 x hx s => by
  cases e : A.S f s with
  | false => rfl
  | true =>
   rw [hs f ⟨s, e⟩ fn c h2 h3] at hx
   cases hx
 refine ⟨⟨fun ρ t i v hi hv => ?_⟩, hk, hx, fun n hn t i m f q hi hm' hf' => ?_, fun f fn c h1 h2 h3 => ?_, fun f c hc => ?_, fun f fn h1 h2 => (key f fn ((F.ok f).1 h1) h2).2, fun f h => hof f ((F.ok f).1 h)⟩
 ·refine info_zero (fun t i v hi hv => ?_) t i v hi hv ρ
  have h4 := List.all_eq_true.1 hz i (by
   rw [Array.getElem?_eq_some_iff] at hi
   obtain ⟨h, rfl⟩ := hi
   simp)
  rw [hv] at h4
  exact plainV_ok 8 v h4
 ·rcases info_methods hi with hi | hi
  ·have h4 := List.all_eq_true.1 hm i (by
    rw [Array.getElem?_eq_some_iff] at hi
    obtain ⟨h, rfl⟩ := hi
    simp)
   have h5 := List.all_eq_true.1 h4 m (by simpa using Array.mem_of_find?_eq_some hm')
   have h6 : (m.name == n) = true := Array.find?_some (p := fun x : Method => x.name == n) hm'
   rw [beq_iff_eq] at h6
   rw [h6, (F.nm n).1 hn, hf'] at h5
   exact (F.ok f).2 (by simpa using h5)
  ·rw [hi] at hm'
   simp at hm'
 ·have h1' := (F.ok f).1 h1
  exact codeB_ok F (fun x hx => ⟨(F.cd f x).2 ⟨fn, c, h1', h2, h3, hx⟩, noS f fn c h1' h2 h3 x hx⟩) ((key f fn h1' h2).1 c h3).1
 ·obtain ⟨fn, body, h1, h2, h3, h4⟩ := (F.cd f c).1 hc
  refine ⟨noS f fn body h1 h2 h3 c h4, codeB_ok F (fun x hx => ?_) (((key f fn h1 h2).1 body h3).2 c h4)⟩
  have hx' := rounds_trans h4 hx
  exact ⟨(F.cd f x).2 ⟨fn, body, h1, h2, h3, hx'⟩, noS f fn body h1 h2 h3 x hx'⟩
end
end Go.Pr
