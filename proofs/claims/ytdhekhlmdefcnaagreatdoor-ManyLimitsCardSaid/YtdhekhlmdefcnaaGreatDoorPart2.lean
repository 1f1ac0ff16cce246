/- Part 2 of the proof: Pr8, Pr9, Pr10, Pr11, Pr12, Pr13, Pr14, Pr15, Pr16, Pr17, Pr18, Pr19, Pr20, Pr21, Pr22, Pr23. -/
import Derived.Test.YtdhekhlmdefcnaaGreatDoorPart1
import Derived.Laws.Sem
namespace Go.Pr
open Go
section
variable {P : Program} {α β γ δ : Type} {A : Rn → α → β → Prop} {C : Rn → γ → δ → Prop} {ρ : Rn}
theorem PsR.mono {σ : Rn} (h : ρ.Le σ) : ∀ {l l' : List (Nat × Value)}, PsR ρ l l' → PsR σ l l'
 | _, _, .nil => .nil
 | _, _, .cons x y => .cons (x.mono h) (y.mono h)
theorem LR.zipSet {off : Nat} : ∀ {l l' : List Value} (k : Nat) {cs cs' : Array Value}, LR ρ l l' → AR ρ cs cs' → AR ρ ((l.zipIdx k).foldl (fun cs (c, j) => cs.setIfInBounds (off + j) c) cs) ((l'.zipIdx k).foldl (fun cs (c, j) => cs.setIfInBounds (off + j) c) cs')
 | _, _, _, _, _, .nil, h => h
 | _, _, k, _, _, .cons x y, h => LR.zipSet (k + 1) y (h.set _ x)
theorem fill_R (place : Nat → Option (Nat × Nat)) : ∀ {l l' : List (Nat × Value)} {cs cs' : Array Value}, PsR ρ l l' → AR ρ cs cs' → (Instr.fill place cs l = none ∧ Instr.fill place cs' l' = none) ∨ ∃ c c', Instr.fill place cs l = some c ∧ Instr.fill place cs' l' = some c' ∧ AR ρ c c'
 | _, _, cs, cs', .nil, h => .inr ⟨cs, cs', rfl, rfl, h⟩
 | _, _, cs, cs', .cons (i := i) (v := v) (v' := v') (l := l) (l' := l') x y, h => by
  unfold Instr.fill
  cases place i with
  | none => exact .inl ⟨rfl, rfl⟩
  | some q =>
   obtain ⟨off, size⟩ := q
   dsimp only
   have hc := x.cells
   rw [hc.size, h.size]
   split
   ·exact .inl ⟨rfl, rfl⟩
   ·have hz : AR ρ (v.cells.zipIdx.foldl (fun cs (c, j) => cs.setIfInBounds (off + j) c) cs) (v'.cells.zipIdx.foldl (fun cs (c, j) => cs.setIfInBounds (off + j) c) cs') := by
     rw [← Array.foldl_toList, ← Array.foldl_toList, Array.toList_zipIdx, Array.toList_zipIdx]
     exact LR.zipSet 0 hc h
    exact fill_R place y hz
theorem mapM_eq {f : Field → Sem γ} (hf : ∀ σ x, SemR P (EqR γ) σ (f x) (f x)) : ∀ (l : List Field) (σ : Rn), SemR P (EqR (List γ)) σ (l.mapM f) (l.mapM f)
 | [], _ => by rw [List.mapM_nil]; exact R_pure rfl
 | x :: l, σ => by
  rw [List.mapM_cons]
  refine R_bind (hf σ x) fun τ a b _ h => ?_
  subst h
  refine R_bind (mapM_eq hf l τ) fun _ a b _ h => ?_
  subst h
  exact R_pure rfl
theorem R_build (hP : PF P) (t : TypeId) {ps ps' : Array (Nat × Value)} (h : PsR ρ ps.toList ps'.toList) : SemR P VRr ρ (Instr.build t ps) (Instr.build t ps') := by
 unfold Instr.build
 refine R_bind (R_zeroValue hP t) fun σ z z' l hz => ?_
 refine R_bind (R_underlying t) fun τ d d' l2 hd => ?_
 subst hd
 have hc := (hz.mono l2).cells
 have hp := h.mono (l.trans l2)
 split
 ·rename_i fs
  refine R_bind (A := EqR (Array (Nat × Nat))) ?_ fun μ pl pl' l3 hpl => ?_
  ·rw [Array.mapM_eq_mapM_toList]
   refine R_map (mapM_eq (fun σ x => ?_) fs.toList τ) fun _ a b e => by rw [e]
   exact R_bind (R_sizeOf _) fun _ a b _ e => R_pure (by rw [e])
  ·subst hpl
   rcases fill_R (pl[·]?) (hp.mono l3) (hc.mono l3) with ⟨h1, h2⟩ | ⟨c, c', h1, h2, h3⟩
   ·rw [h1, h2]; exact R_stuck
   ·rw [h1, h2]; exact R_pure (.agg h3)
 ·refine R_bind (R_sizeOf _) fun μ n n' l3 hn => ?_
  subst hn
  rcases fill_R (fun i => some (i * n, n)) (hp.mono l3) (hc.mono l3) with ⟨h1, h2⟩ | ⟨c, c', h1, h2, h3⟩
  ·rw [h1, h2]; exact R_stuck
  ·rw [h1, h2]; exact R_pure (.agg h3)
 ·exact R_stuck
theorem R_buildSlice (hP : PF P) (t : TypeId) (n : Nat) {ps ps' : Array (Nat × Value)} (h : PsR ρ ps.toList ps'.toList) : SemR P VRr ρ (Instr.buildSlice t n ps) (Instr.buildSlice t n ps') := by
 unfold Instr.buildSlice
 refine R_bind (R_underlying t) fun σ d d' l hd => ?_
 subst hd
 split
 ·rename_i e
  refine R_bind (R_sizeOf _) fun τ m m' l2 hm => ?_
  subst hm
  refine R_if Iff.rfl (fun _ => R_unsup rfl) fun _ => ?_
  have key : ∀ (μ : Rn), τ.Le μ → ∀ z z', AR μ z z' → SemR P VRr μ (do
    let some cells := Instr.fill (fun i => some (i * m, m)) ((Array.range (n * m)).map (z[· % z.size]!)) ps.toList | stuck "buildSlice: a part of the wrong size"
    Pure.pure (Value.slice (some (← newRow e cells)) n n)) (do
    let some cells := Instr.fill (fun i => some (i * m, m)) ((Array.range (n * m)).map (z'[· % z'.size]!)) ps'.toList | stuck "buildSlice: a part of the wrong size"
    Pure.pure (Value.slice (some (← newRow e cells)) n n)) := fun μ l3 z z' hz => by
   rcases fill_R (fun i => some (i * m, m)) (h.mono ((l.trans l2).trans l3)) (hz.range (n * m)) with ⟨h1, h2⟩ | ⟨c, c', h1, h2, h3⟩
   ·rw [h1, h2]; exact R_stuck
   ·rw [h1, h2]
    exact R_bind (R_newRow e h3) fun _ _ _ _ k => R_pure (.slice n n k)
  refine R_if Iff.rfl (fun h0 => ?_) (fun h0 => ?_)
  ·exact key τ (Rn.Le.refl _) #[] #[] .nil
  ·refine R_bind (R_zeroValue hP e) fun μ z z' l3 hz => ?_
   exact key μ l3 _ _ hz.cells
 ·exact R_stuck
end
end Go.Pr
namespace Go.Pr
open Go
section
variable {P : Program} {α β γ δ : Type} {A : Rn → α → β → Prop} {C : Rn → γ → δ → Prop} {ρ : Rn}
theorem R_dead {s : Sem α} {s' : Sem β} {f : α → Sem γ} {f' : β → Sem δ} (h : SemR P (fun _ _ _ => False) ρ s s') : SemR P C ρ (s >>= f) (s' >>= f') := R_bind h fun _ _ _ _ k => k.elim
theorem R_indexAt (hP : PF P) (hK : KF P ρ) (t : TypeId) {x x' i i' : Value} (h : VR ρ x x') (hi : VR ρ i i') : SemR P VRr ρ (Instr.indexAt t x i) (Instr.indexAt t x' i') := by
  unfold Instr.indexAt
  refine R_bind (R_asIntOf hi) fun σ k k' l hk => ?_
  subst hk
  obtain ⟨k, n⟩ := k
  dsimp only
  refine R_bind (R_underlying t) fun τ d d' l2 hd => ?_
  subst hd
  have hx := h.mono (l.trans l2)
  have key : ∀ (μ : Rn), τ.Le μ → ∀ (len : Nat) (elem : TypeId) (o o' : Option Addr), ((o = none ∧ o' = none) ∨ ∃ a a', o = some a ∧ o' = some a' ∧ AddrR μ a a') → SemR P VRr μ (do
        let tiny := len ≤ 1 && (match ← underlying t with | .array .. => true | _ => false)
        match o with
        | some a =>
          if 0 ≤ n ∧ n < len then Pure.pure (Value.pointer (some (a.add (n.toNat * (← sizeOf elem)))))
          else if tiny then unsupported (.noEntry "op/indexAddr.an index out of range at an array of length 0 or 1 (ledger 616)")
          else boundsPanic k n len .index
        | none => boundsPanic k n 0 .index) (do
        let tiny := len ≤ 1 && (match ← underlying t with | .array .. => true | _ => false)
        match o' with
        | some a =>
          if 0 ≤ n ∧ n < len then Pure.pure (Value.pointer (some (a.add (n.toNat * (← sizeOf elem)))))
          else if tiny then unsupported (.noEntry "op/indexAddr.an index out of range at an array of length 0 or 1 (ledger 616)")
          else boundsPanic k n len .index
        | none => boundsPanic k n 0 .index) := fun μ l3 len elem o o' ho => by
    refine R_bind (R_underlying t) fun ν d d' l4 hd => ?_
    subst hd
    have hK' := hK.mono (((l.trans l2).trans l3).trans l4)
    rcases ho with ⟨rfl, rfl⟩ | ⟨a, a', rfl, rfl, ha⟩
    · exact R_boundsPanic hP hK' k n 0 .index
    · dsimp only
      refine R_if Iff.rfl (fun _ => ?_) fun _ => ?_
      · refine R_bind (R_sizeOf _) fun ξ m m' l5 hm => ?_
        subst hm
        exact R_pure (.ptr (((ha.mono l4).mono l5).add _))
      · refine R_ifB rfl (R_unsup rfl) ?_
        exact R_boundsPanic hP hK' k n len .index
  cases d
  case array len elem => exact R_bind (R_sureAddr hx) fun μ a a' l3 ha => key μ l3 len elem (some a) (some a') (.inr ⟨a, a', rfl, rfl, ha⟩)
  case slice elem =>
    cases hx
    case slice0 n c => exact key τ (Rn.Le.refl _) n elem none none (.inl ⟨rfl, rfl⟩)
    case slice a a' n c ha => exact key τ (Rn.Le.refl _) n elem (some a) (some a') (.inr ⟨a, a', rfl, rfl, ha⟩)
    all_goals exact R_stuck
  all_goals exact R_stuck
theorem R_sliceBound (hP : PF P) (hK : KF P ρ) {x x' : Value} (h : VR ρ x x') (y : Nat) (c : BoundsCode) : SemR P (EqR Nat) ρ (Instr.sliceBound x y c) (Instr.sliceBound x' y c) := by
 unfold Instr.sliceBound
 refine R_bind (R_asIntOf h) fun σ k k' l hk => ?_
 subst hk
 obtain ⟨k, n⟩ := k
 dsimp only
 exact R_if Iff.rfl (fun _ => R_pure rfl) fun _ => R_boundsPanic hP (hK.mono l) k n y c
theorem OVR.mono {σ : Rn} (l : ρ.Le σ) {o o' : Option Value} (h : OVR ρ o o') : OVR σ o o' := by
 rcases h with h | ⟨v, v', h1, h2, h3⟩
 ·exact .inl h
 ·exact .inr ⟨v, v', h1, h2, h3.mono l⟩
theorem R_sliceBounds (hP : PF P) (hK : KF P ρ) (b : Bool) (n c : Nat) {lo lo' hi hi' mx mx' : Option Value} (h1 : OVR ρ lo lo') (h2 : OVR ρ hi hi') (h3 : OVR ρ mx mx') : SemR P (EqR (Nat × Nat × Nat)) ρ (Instr.sliceBounds b n c lo hi mx) (Instr.sliceBounds b n c lo' hi' mx') := by
 unfold Instr.sliceBounds
 have sb : ∀ (σ : Rn), ρ.Le σ → ∀ (v v' : Value), VR ρ v v' → ∀ (y : Nat) (k : BoundsCode), SemR P (EqR Nat) σ (Instr.sliceBound v y k) (Instr.sliceBound v' y k) := fun σ l v v' hv y k => R_sliceBound hP (hK.mono l) (hv.mono l) y k
 rcases h3 with ⟨rfl, rfl⟩ | ⟨u, u', rfl, rfl, hu⟩ <;> rcases h2 with ⟨rfl, rfl⟩ | ⟨w, w', rfl, rfl, hw⟩ <;> rcases h1 with ⟨rfl, rfl⟩ | ⟨v, v', rfl, rfl, hv⟩ <;> (
  refine R_bind (A := EqR Nat) (by first | exact R_pure rfl | exact sb ρ (Rn.Le.refl _) _ _ hu _ _) fun σ q q' l k => ?_
  have k : q = q' := k
  subst k
  first
  |exact R_stuck
  |refine R_bind (A := EqR Nat) (by first | exact R_pure rfl | exact sb σ l _ _ hw _ _) fun τ p p' l2 k => ?_
   have k : p = p' := k
   subst k
   refine R_bind (A := EqR Nat) (by first | exact R_pure rfl | exact sb τ (l.trans l2) _ _ hv _ _) fun μ r r' l3 k => ?_
   have k : r = r' := k
   subst k
   exact R_pure rfl)
theorem AddrR.addIf {a a' : Addr} (h : AddrR ρ a a') (p : Prop) [Decidable p] (n : Nat) : AddrR ρ (if p then a else a.add n) (if p then a' else a'.add n) := by
 split
 ·exact h
 ·exact h.add n
theorem R_slice (hP : PF P) (hK : KF P ρ) (t : TypeId) {x x' : Value} (h : VR ρ x x') {lo lo' hi hi' mx mx' : Option Value} (h1 : OVR ρ lo lo') (h2 : OVR ρ hi hi') (h3 : OVR ρ mx mx') : SemR P VRr ρ (Instr.slice t x lo hi mx) (Instr.slice t x' lo' hi' mx') := by
 unfold Instr.slice
 refine R_bind (R_underlying t) fun σ d d' l hd => ?_
 subst hd
 have hx := h.mono l
 have hK' := hK.mono l
 have e : mx.isSome = mx'.isSome := by rcases h3 with ⟨rfl, rfl⟩ | ⟨u, u', rfl, rfl, hu⟩ <;> rfl
 cases d
 case string =>
  cases hx
  case string s =>
   dsimp only
   refine R_ifB e R_stuck ?_
   refine R_bind (R_sliceBounds hP hK' false s.size s.size (h1.mono l) (h2.mono l) (.inl ⟨rfl, rfl⟩)) fun τ q q' l2 hq => ?_
   subst hq
   exact R_pure (.string _)
  all_goals exact R_stuck
 case slice elem =>
  cases hx
  case slice0 n c =>
   dsimp only
   refine R_bind (R_sliceBounds hP hK' true n c (h1.mono l) (h2.mono l) (h3.mono l)) fun τ q q' l2 hq => ?_
   subst hq
   obtain ⟨q1, q2, q3⟩ := q
   refine R_bind (R_sizeOf _) fun μ m m' l3 hm => ?_
   subst hm
   dsimp only
   refine R_pure ?_
   have : (if q3 = q1 then (none : Option Addr) else Option.map (fun x : Addr => x.add (q1 * m)) none) = none := by split <;> rfl
   rw [this]
   exact .slice0 _ _
  case slice a a' n c ha =>
   dsimp only
   refine R_bind (R_sliceBounds hP hK' true n c (h1.mono l) (h2.mono l) (h3.mono l)) fun τ q q' l2 hq => ?_
   subst hq
   obtain ⟨q1, q2, q3⟩ := q
   refine R_bind (R_sizeOf _) fun μ m m' l3 hm => ?_
   subst hm
   dsimp only
   refine R_pure ?_
   split
   ·exact .slice _ _ ((ha.mono l2).mono l3)
   ·exact .slice _ _ (((ha.mono l2).mono l3).add _)
  all_goals exact R_stuck
 case pointer arr =>
  dsimp only
  refine R_bind (R_asAddr hP hK' hx) fun τ a a' l2 ha => ?_
  refine R_bind (R_underlying _) fun μ d d' l3 hd => ?_
  subst hd
  split
  ·refine R_bind (R_sliceBounds hP ((hK'.mono l2).mono l3) false _ _ (h1.mono ((l.trans l2).trans l3)) (h2.mono ((l.trans l2).trans l3)) (h3.mono ((l.trans l2).trans l3))) fun ν q q' l4 hq => ?_
   subst hq
   obtain ⟨q1, q2, q3⟩ := q
   refine R_bind (R_sizeOf _) fun ξ m m' l5 hm => ?_
   subst hm
   dsimp only
   exact R_pure (.slice _ _ ((((ha.mono l3).mono l4).mono l5).addIf _ _))
  ·exact R_stuck
 all_goals exact R_stuck
theorem R_sliceAt (hP : PF P) (hK : KF P ρ) (t : TypeId) {x x' : Value} (h : VR ρ x x') {lo lo' hi hi' mx mx' : Option Value} (h1 : OVR ρ lo lo') (h2 : OVR ρ hi hi') (h3 : OVR ρ mx mx') : SemR P VRr ρ (Instr.sliceAt t x lo hi mx) (Instr.sliceAt t x' lo' hi' mx') := by
 unfold Instr.sliceAt
 refine R_bind (R_underlying t) fun σ d d' l hd => ?_
 subst hd
 split
 ·refine R_bind (R_sureAddr (h.mono l)) fun τ a a' l2 ha => ?_
  refine R_bind (R_sliceBounds hP (hK.mono (l.trans l2)) false _ _ (h1.mono (l.trans l2)) (h2.mono (l.trans l2)) (h3.mono (l.trans l2))) fun ν q q' l4 hq => ?_
  subst hq
  obtain ⟨q1, q2, q3⟩ := q
  refine R_bind (R_sizeOf _) fun ξ m m' l5 hm => ?_
  subst hm
  exact R_pure (.slice _ _ (((ha.mono l4).mono l5).addIf _ _))
 ·exact R_slice hP (hK.mono l) t (h.mono l) (h1.mono l) (h2.mono l) (h3.mono l)
theorem R_index (hP : PF P) (hK : KF P ρ) (t : TypeId) {x x' i i' : Value} (h : VR ρ x x') (hi : VR ρ i i') : SemR P VRr ρ (Instr.index t x i) (Instr.index t x' i') := by
 unfold Instr.index
 refine R_bind (R_asIntOf hi) fun σ k k' l hk => ?_
 subst hk
 obtain ⟨k, n⟩ := k
 dsimp only
 refine R_bind (R_underlying t) fun τ d d' l2 hd => ?_
 subst hd
 have hx := h.mono (l.trans l2)
 have hK' := hK.mono (l.trans l2)
 cases d
 case array len elem =>
  cases hx
  case agg hc =>
   refine R_if Iff.rfl (fun _ => ?_) fun _ => R_boundsPanic hP hK' k n len .index
   refine R_bind (R_sizeOf _) fun μ m m' l3 hm => ?_
   subst hm
   exact R_part _ _ (AR.mono l3 hc)
  all_goals exact R_stuck
 case string =>
  cases hx
  case string s =>
   dsimp only
   split
   ·exact R_pure (.int _ _)
   ·exact R_boundsPanic hP hK' k n s.size .index
  all_goals exact R_stuck
 all_goals exact R_stuck
theorem R_makeSlice (hP : PF P) (hK : KF P ρ) (t : TypeId) {x x' y y' : Value} (h : VR ρ x x') (hy : VR ρ y y') : SemR P VRr ρ (Instr.makeSlice t x y) (Instr.makeSlice t x' y') := by
 unfold Instr.makeSlice
 refine R_bind (R_underlying t) fun σ d d' l hd => ?_
 subst hd
 split
 ·rename_i elem
  refine R_bind (R_asInt (h.mono l)) fun τ n n' l2 hn => ?_
  subst hn
  refine R_bind (R_asInt (hy.mono (l.trans l2))) fun μ c c' l3 hc => ?_
  subst hc
  refine R_bind (R_typeInfo _) fun ν i i' l4 hi => ?_
  obtain ⟨rfl, _⟩ := hi
  have hK' := hK.mono (((l.trans l2).trans l3).trans l4)
  dsimp only
  refine R_ifB rfl ?_ ?_
  ·refine R_ifB rfl (R_dead (R_runtimePanic hP hK' _)) ?_
   refine R_ifB rfl (R_dead (R_runtimePanic hP hK' _)) ?_
   refine R_bind (R_choose _) fun ξ q q' l5 hq => ?_
   subst hq
   exact R_dead (R_runtimePanic hP (hK'.mono l5) _)
  ·refine R_bind (A := TrR Unit Unit) ?_ fun ξ _ _ l5 _ => ?_
   ·unfold askRoom
    exact R_if Iff.rfl (fun _ => .room (.pure trivial)) fun _ => R_pure trivial
   refine R_bind (R_sizeOf _) fun ο m m' l6 hm => ?_
   subst hm
   have key : ∀ (μ : Rn) (z z' : Array Value), AR μ z z' → SemR P VRr μ (do
     let a ← newRow elem ((Array.range ((IntKind.i64.wrap c).toNat * m)).map (z[· % z.size]!))
     Pure.pure (.slice (some a) (IntKind.i64.wrap n).toNat (IntKind.i64.wrap c).toNat)) (do
     let a ← newRow elem ((Array.range ((IntKind.i64.wrap c).toNat * m)).map (z'[· % z'.size]!))
     Pure.pure (.slice (some a) (IntKind.i64.wrap n).toNat (IntKind.i64.wrap c).toNat)) := fun μ z z' hz =>
    R_bind (R_newRow elem (hz.range _)) fun _ _ _ _ k => R_pure (.slice _ _ k)
   refine R_if Iff.rfl (fun _ => key _ _ _ .nil) fun _ => ?_
   exact R_bind (R_zeroValue hP elem) fun _ _ _ _ h => key _ _ _ h.cells
 ·exact R_stuck
end
end Go.Pr
namespace Go.Pr
open Go
def AtR {γ : Type} (ρ : Rn) (x y : Option (Addr × γ)) : Prop := (x = none ∧ y = none) ∨ ∃ a a' t, x = some (a, t) ∧ y = some (a', t) ∧ AddrR ρ a a'
section
variable {P : Program} {α β γ δ : Type} {A : Rn → α → β → Prop} {C : Rn → γ → δ → Prop} {ρ : Rn}
theorem R_shape {r r' : Nat} (h : ρ.b r r') : SemR P (EqR (Option (TypeId × Nat))) ρ (shape r) (shape r') := .shape h fun _ _ => .pure rfl
theorem R_getObj {r r' : Nat} (h : ρ.b r r') : SemR P ObjR ρ (getObj r) (getObj r') := .getObj h fun _ _ k => .pure k
theorem R_viewAt {r r' : Nat} (h : ρ.b r r') : SemR P AtR ρ (viewAt r) (viewAt r') := by
 unfold viewAt
 refine R_bind (R_shape h) fun σ s s' l e => ?_
 subst e
 refine R_ifB rfl (R_pure (.inl ⟨rfl, rfl⟩)) ?_
 refine R_bind (R_getObj (l.b h)) fun τ o o' l2 ho => ?_
 cases ho with
 | view t a => exact R_pure (.inr ⟨_, _, t, rfl, rfl, a⟩)
 | _ => exact R_pure (.inl ⟨rfl, rfl⟩)
theorem R_numberAt {r r' : Nat} (h : ρ.b r r') : SemR P AtR ρ (numberAt r) (numberAt r') := by
 unfold numberAt
 refine R_bind (R_shape h) fun σ s s' l e => ?_
 subst e
 refine R_ifB rfl (R_pure (.inl ⟨rfl, rfl⟩)) ?_
 refine R_bind (R_getObj (l.b h)) fun τ o o' l2 ho => ?_
 cases ho with
 | number t a => exact R_pure (.inr ⟨_, _, t, rfl, rfl, a⟩)
 | _ => exact R_pure (.inl ⟨rfl, rfl⟩)
theorem R_behind {n n' : Addr} (h : AddrR ρ n n') : SemR P (fun σ x y => AddrR σ x.1 y.1 ∧ x.2 = y.2) ρ (behindNumber n) (behindNumber n') := by
 unfold behindNumber
 refine R_bind (R_numberAt h.b) fun σ x y l k => ?_
 rcases k with ⟨rfl, rfl⟩ | ⟨a, a', t, rfl, rfl, k⟩
 ·exact R_pure ⟨h.mono l, rfl⟩
 ·exact R_pure ⟨k, rfl⟩
theorem R_noView {a a' : Addr} (h : AddrR ρ a a') : SemR P (TrR Unit Unit) ρ (noView a) (noView a') := by
 unfold noView
 refine R_bind (R_viewAt h.b) fun σ x y l k => ?_
 rcases k with ⟨rfl, rfl⟩ | ⟨a, a', t, rfl, rfl, k⟩
 ·exact R_pure trivial
 ·exact R_unsup rfl
theorem R_byteOf {a a' : Addr} (h : AddrR ρ a a') : SemR P (EqR Nat) ρ (byteOf a) (byteOf a') := by
 unfold byteOf
 rw [h.spot]
 split
 ·exact R_pure rfl
 ·refine R_bind R_prog fun σ p p' l e => ?_
  obtain ⟨rfl, rfl⟩ := e
  refine R_bind (R_noView (h.mono l)) fun τ _ _ l2 _ => ?_
  refine R_bind (R_shape (l2.b (l.b h.b))) fun μ s s' l3 e => ?_
  subst e
  split
  ·dsimp only
   refine R_if (A := EqR Nat) Iff.rfl (fun _ => R_pure rfl) fun _ => ?_
   rw [h.off]
   split
   ·exact R_pure rfl
   ·exact R_stuck
  ·exact R_stuck
theorem blockEq {a a' b b' : Addr} (ha : AddrR ρ a a') (hb : AddrR ρ b b') : (a.block == b.block) = (a'.block == b'.block) := by
 have := Rn.b_eq ha.b hb.b
 by_cases e : a.block = b.block
 ·rw [beq_iff_eq.2 e, beq_iff_eq.2 (this.1 e)]
 ·rw [beq_eq_false_iff_ne.2 e, beq_eq_false_iff_ne.2 fun k => e (this.2 k)]
theorem addrBeq (a b : Addr) : (a == b) = decide (a = b) := by
 by_cases e : a = b
 ·subst e; simp
 ·rw [decide_eq_false e, beq_eq_false_iff_ne.2 e]
theorem addrEq {a a' b b' : Addr} (ha : AddrR ρ a a') (hb : AddrR ρ b b') : (a == b) = (a' == b') := by
 rw [addrBeq, addrBeq]
 have k := Rn.b_eq ha.b hb.b
 obtain ⟨a1, a2, a3⟩ := a
 obtain ⟨b1, b2, b3⟩ := b
 obtain ⟨c1, c2, c3⟩ := a'
 obtain ⟨d1, d2, d3⟩ := b'
 obtain ⟨_, rfl, rfl⟩ := ha
 obtain ⟨_, rfl, rfl⟩ := hb
 dsimp only at k ⊢
 simp only [Addr.mk.injEq, k]
def Le (b b' : Bool) : Prop := b' = true → b = true
theorem R_frozen {a a' : Addr} (h : AddrR ρ a a') : SemR P (fun _ b b' => (ρ.r a.block a'.block → b = b') ∧ (ρ.K a.block → b' = false)) ρ (frozen a) (frozen a') := .frozen h fun _ _ h1 h2 => .pure ⟨h1, h2⟩
theorem R_stringish {a a' : Addr} (h : AddrR ρ a a') : SemR P (fun _ b b' => (ρ.r a.block a'.block → b = b') ∧ (ρ.K a.block → b' = false)) ρ (stringish a) (stringish a') := by
 have hne : ρ.K a.block → ¬ ρ.r a.block a'.block := fun k r => by have := ρ.kb k; have := (ρ.lo r).1; omega
 unfold stringish
 rcases h.b with ⟨hk, he⟩ | hr
 ·have hk' : ρ.K a'.block := by rw [he]; exact hk
  refine R_bind (R_frozen h) fun σ b b' l e => ?_
  obtain rfl := e.2 hk
  have hks : σ.K a'.block := by rw [l.K]; exact hk'
  cases b with
  | true =>
   refine .shapeQ fun x => ?_
   cases x with
   | none => exact R_pure ⟨fun r => absurd r (hne hk), fun _ => rfl⟩
   | some x => exact .frozenQ hks (R_pure ⟨fun r => absurd r (hne hk), fun _ => rfl⟩)
  | false =>
   refine R_bind (R_shape (l.b h.b)) fun τ s s' l2 e => ?_
   subst e
   cases s with
   | none => exact R_pure ⟨fun _ => rfl, fun _ => rfl⟩
   | some x =>
    obtain ⟨t, n⟩ := x
    refine R_mono (R_frozen (ρ := τ) (a := { block := a.block, off := n }) (a' := { block := a'.block, off := n }) ⟨l2.b (l.b h.b), rfl, rfl⟩) fun ξ b b' _ e => ?_
    exact ⟨fun r => absurd r (hne hk), fun _ => e.2 (by rw [l2.K, l.K]; exact hk)⟩
 ·refine R_bind (R_frozen h) fun σ b b' l e => ?_
  obtain rfl := e.1 hr
  refine R_ifB rfl (R_pure ⟨fun _ => rfl, fun k => absurd hr (hne k)⟩) ?_
  refine R_bind (R_shape (l.b h.b)) fun τ s s' l2 e => ?_
  subst e
  cases s with
  | none => exact R_pure ⟨fun _ => rfl, fun _ => rfl⟩
  | some x =>
   obtain ⟨t, n⟩ := x
   refine R_mono (R_frozen (ρ := τ) (a := { block := a.block, off := n }) (a' := { block := a'.block, off := n }) ⟨l2.b (l.b h.b), rfl, rfl⟩) fun ξ b b' _ e => ?_
   exact ⟨fun _ => e.1 (l2.r (l.r hr)), fun k => absurd hr (hne k)⟩
theorem le_of {a a' : Addr} (h : AddrR ρ a a') {b b' : Bool} (e : (ρ.r a.block a'.block → b = b') ∧ (ρ.K a.block → b' = false)) : Le b b' := by
 rcases h.b with ⟨hk, _⟩ | hr
 ·rw [e.2 hk]; intro k; cases k
 ·rw [e.1 hr]; intro k; exact k
theorem R_mayBeOne {a b a' b' : Addr} (ha : AddrR ρ a a') (hb : AddrR ρ b b') : SemR P (fun _ x y => Le x y) ρ (mayBeOne a b) (mayBeOne a' b') := by
 unfold mayBeOne
 dsimp only
 refine R_bind (R_stringish ha) fun σ x x' l e => ?_
 refine R_bind (R_stringish (hb.mono l)) fun τ y y' l2 e2 => ?_
 have hx : Le x x' := le_of ha e
 have hy : Le y y' := le_of (hb.mono l) e2
 have hn : ∀ (σ : Rn) {c c' : Addr}, AddrR σ c c' → SemR P (EqR Bool) σ (do Pure.pure ((← shape c.block) matches some (_, 0))) (do Pure.pure ((← shape c'.block) matches some (_, 0))) := fun σ c c' hc =>
  R_bind (R_shape hc.b) fun _ s s' _ e => by
   subst e
   exact R_pure rfl
 refine R_bind (hn τ ((ha.mono l).mono l2)) fun μ p p' l3 e3 => ?_
 refine R_bind (hn μ (((hb.mono l).mono l2).mono l3)) fun ν q q' l4 e4 => ?_
 have e3 : p = p' := e3
 have e4 : q = q' := e4
 subst e3 e4
 refine R_pure ?_
 unfold Le at hx hy ⊢
 revert hx hy
 cases x <;> cases x' <;> cases y <;> cases y' <;> cases p <;> cases q <;> simp
theorem R_sameAddr {a b a' b' : Addr} (ha : AddrR ρ a a') (hb : AddrR ρ b b') : SemR P (EqR Bool) ρ (sameAddr a b) (sameAddr a' b') := by
 unfold sameAddr
 refine R_ifB (blockEq ha hb) (R_pure (addrEq ha hb)) ?_
 refine R_bind (R_frozen ha) fun σ x x' l e => ?_
 refine R_bind (R_frozen (hb.mono l)) fun τ y y' l2 e2 => ?_
 have hx : Le x x' := le_of ha e
 have hy : Le y y' := le_of (hb.mono l) e2
 dsimp only
 cases hxy : (x && y) with
 | true => exact .halt rfl
 | false =>
  have h2 : (x' && y') = false := by
   unfold Le at hx hy
   revert hx hy hxy
   cases x <;> cases x' <;> cases y <;> cases y' <;> simp
  rw [h2]
  simp only [Bool.false_eq_true, if_false]
  have ha' := (ha.mono l).mono l2
  have hb' := (hb.mono l).mono l2
  refine R_bind (R_noView ha') fun μ _ _ l3 _ => ?_
  refine R_bind (R_noView (hb'.mono l3)) fun ν _ _ l4 _ => ?_
  refine R_bind (R_mayBeOne ((ha'.mono l3).mono l4) ((hb'.mono l3).mono l4)) fun ξ z z' l5 hz => ?_
  unfold Le at hz
  cases z <;> cases z'
  ·exact R_pure rfl
  ·exact absurd (hz rfl) (by simp)
  ·exact .chooseL 0 rfl ⟨0, rfl⟩ (R_pure rfl)
  ·exact R_bind (R_choose _) fun _ n n' _ e => by
    subst e
    exact R_pure rfl
theorem R_samePointer {x y x' y' : Option Addr} (hx : (x = none ∧ x' = none) ∨ ∃ a a', x = some a ∧ x' = some a' ∧ AddrR ρ a a') (hy : (y = none ∧ y' = none) ∨ ∃ a a', y = some a ∧ y' = some a' ∧ AddrR ρ a a') : SemR P (EqR Bool) ρ (samePointer x y) (samePointer x' y') := by
 rcases hx with ⟨rfl, rfl⟩ | ⟨a, a', rfl, rfl, ha⟩ <;> rcases hy with ⟨rfl, rfl⟩ | ⟨b, b', rfl, rfl, hb⟩
 ·exact R_pure rfl
 ·exact R_pure rfl
 ·exact R_pure rfl
 ·exact R_sameAddr ha hb
end
end Go.Pr
namespace Go.Pr
open Go
section
variable {P : Program} {α β γ δ : Type} {A : Rn → α → β → Prop} {C : Rn → γ → δ → Prop} {ρ : Rn}
theorem R_forInL {ι S : Type} {f f' : ι → S → Sem (ForInStep S)} (hf : ∀ σ x b, ρ.Le σ → SemR P (EqR (ForInStep S)) σ (f x b) (f' x b)) : ∀ (xs : List ι) (σ : Rn) (b : S), ρ.Le σ → SemR P (EqR S) σ (forIn xs b f) (forIn xs b f')
 | [], _, _, _ => R_pure rfl
 | x :: xs, σ, b, l => by
  rw [List.forIn_cons, List.forIn_cons]
  refine R_bind (hf σ x b l) fun τ s s' l2 e => ?_
  subst e
  cases s with
  | done b => exact R_pure rfl
  | yield b => exact R_forInL hf xs τ b (l.trans l2)
theorem R_forIn {ι S : Type} {f f' : ι → S → Sem (ForInStep S)} (xs : Array ι) (b : S) (hf : ∀ σ x b, ρ.Le σ → SemR P (EqR (ForInStep S)) σ (f x b) (f' x b)) : SemR P (EqR S) ρ (forIn xs b f) (forIn xs b f') := by
 rw [← Array.forIn_toList, ← Array.forIn_toList]
 exact R_forInL hf _ _ _ (Rn.Le.refl _)
theorem R_forInR {S : Type} {f f' : Nat → S → Sem (ForInStep S)} (n : Nat) (b : S) (hf : ∀ σ x b, ρ.Le σ → SemR P (EqR (ForInStep S)) σ (f x b) (f' x b)) : SemR P (EqR S) ρ (forIn [0:n] b f) (forIn [0:n] b f') := by
 rw [Std.Legacy.Range.forIn_eq_forIn_range', Std.Legacy.Range.forIn_eq_forIn_range']
 exact R_forInL hf _ _ _ (Rn.Le.refl _)
theorem lowEq (hK : KF P ρ) {a a' : Addr} (h : AddrR ρ a a') : decide (a.block < P.globals.size) = decide (a'.block < P.globals.size) := by
 rcases h.b with ⟨_, e⟩ | hr
 ·rw [e]
 ·have h1 := ρ.lo hr
  have h2 := ρ.kb hK.handle
  rw [decide_eq_false (by omega), decide_eq_false (by omega)]
theorem R_typeStr (t : TypeId) : SemR P (EqR String) ρ (typeStr t) (typeStr t) := by
 unfold Go.typeStr
 refine R_bind (R_typeInfo _) fun ξ i i' l5 e => ?_
 obtain ⟨rfl, _⟩ := e
 exact R_ifB rfl (R_unsup rfl) (R_pure rfl)
theorem R_equalIn (hP : PF P) : ∀ (n : Nat) (t : TypeId) {ρ : Rn} {x y x' y' : Value}, KF P ρ → VR ρ x x' → VR ρ y y' → SemR P (EqR Bool) ρ (Op.equalIn n t x y) (Op.equalIn n t x' y')
 | 0, t, _, _, _, _, _, _, _, _ => R_unsup rfl
 | n + 1, t, ρ, x, y, x', y', hK, hx, hy => by
  unfold Op.equalIn
  refine R_bind (R_underlying t) fun σ d d' l e => ?_
  subst e
  replace hx := hx.mono l
  replace hy := hy.mono l
  replace hK := hK.mono l
  cases d
  case bool =>
   cases hx
   case bool b =>
    cases hy
    case bool c => exact R_pure rfl
    all_goals exact R_stuck
   all_goals exact R_stuck
  case int ik =>
   cases hx
   case int k a =>
    cases hy
    case int k' b => exact R_if Iff.rfl (fun _ => R_pure rfl) fun _ => R_stuck
    case ptr0 => cases a <;> first | exact R_unsup rfl | (rename_i m; cases m <;> exact R_unsup rfl)
    case ptr hb => cases a with
     | ofNat m => cases m <;> first | exact R_pure rfl | exact R_unsup rfl
     | negSucc m => exact R_unsup rfl
    all_goals exact R_stuck
   case ptr0 => exact R_unsup rfl
   case ptr a a' ha =>
    cases hy
    case ptr0 => exact R_unsup rfl
    case int k b => cases b with
     | ofNat m => cases m <;> first | exact R_pure rfl | exact R_unsup rfl
     | negSucc m => exact R_unsup rfl
    case ptr b b' hb =>
     refine R_bind (R_behind ha) fun τ p p' l2 hp => ?_
     refine R_bind (R_behind (hb.mono l2)) fun μ q q' l3 hq => ?_
     have hp := hp.1.mono l3
     have hq := hq.1
     dsimp only
     refine R_bind R_prog fun ν z z' l4 e => ?_
     rw [e.1, e.2]
     have hK' := ((hK.mono l2).mono l3).mono l4
     refine R_ifB (by rw [blockEq hp hq, lowEq hK' (hp.mono l4)]) ?_ ?_
     ·refine R_bind (R_byteOf (hp.mono l4)) fun ξ u u' l5 e => ?_
      subst e
      refine R_bind (R_byteOf ((hq.mono l4).mono l5)) fun _ v v' _ e => ?_
      subst e
      exact R_pure rfl
     ·refine R_bind (R_typeInfo _) fun ξ i i' l5 e => ?_
      obtain ⟨rfl, _⟩ := e
      split
      ·exact R_ifB (addrEq hp hq) (R_pure rfl) (R_unsup rfl)
      ·exact R_unsup rfl
    all_goals exact R_unsup rfl
   all_goals (cases hy <;> first | exact R_stuck | exact R_unsup rfl)
  case float fk =>
   cases hx
   case float k a =>
    cases hy
    case float k' b => exact R_if Iff.rfl (fun _ => R_pure rfl) fun _ => R_stuck
    all_goals exact R_stuck
   all_goals exact R_stuck
  case complex fk =>
   cases hx
   case complex k a b =>
    cases hy
    case complex k' a' b' => exact R_if Iff.rfl (fun _ => R_pure rfl) fun _ => R_stuck
    all_goals exact R_stuck
   all_goals exact R_stuck
  case string =>
   cases hx
   case string a =>
    cases hy
    case string b => exact R_pure rfl
    all_goals exact R_stuck
   all_goals exact R_stuck
  case pointer elem =>
   cases hx
   case ptr0 => cases hy <;> first | exact R_pure rfl | exact R_stuck
   case ptr a a' ha =>
    cases hy
    case ptr0 => exact R_pure rfl
    case ptr b b' hb =>
     refine R_bind (R_sizeOf _) fun τ m m' l2 e => ?_
     subst e
     refine R_if Iff.rfl (fun _ => R_sameAddr (ha.mono l2) (hb.mono l2)) fun _ => ?_
     refine R_ifB (addrEq (ha.mono l2) (hb.mono l2)) (R_pure rfl) ?_
     exact R_bind (R_choose _) fun _ a b _ e => R_pure (by rw [e])
    all_goals exact R_stuck
   all_goals exact R_stuck
  case unsafePointer =>
   cases hx
   case ptr0 => cases hy <;> first | exact R_stuck | exact R_samePointer (.inl ⟨rfl, rfl⟩) (.inl ⟨rfl, rfl⟩) | exact R_samePointer (.inl ⟨rfl, rfl⟩) (.inr ⟨_, _, rfl, rfl, ‹_›⟩)
   case ptr a a' ha => cases hy <;> first | exact R_stuck | exact R_samePointer (.inr ⟨_, _, rfl, rfl, ha⟩) (.inl ⟨rfl, rfl⟩) | exact R_samePointer (.inr ⟨_, _, rfl, rfl, ha⟩) (.inr ⟨_, _, rfl, rfl, ‹_›⟩)
   all_goals exact R_stuck
  case chan dir elem =>
   cases hx
   case chan0 => cases hy <;> first | exact R_stuck | exact R_pure rfl
   all_goals exact R_stuck
  case interface ms =>
   cases hx
   case nilIface => cases hy <;> first | exact R_stuck | exact R_pure rfl
   case iface tx hv =>
    cases hy
    case nilIface => exact R_pure rfl
    case iface ty hw =>
     refine R_if Iff.rfl (fun _ => R_pure rfl) fun _ => ?_
     refine R_bind (R_typeInfo _) fun τ i i' l2 e => ?_
     obtain ⟨rfl, _⟩ := e
     refine R_ifB rfl ?_ (R_equalIn hP n tx (hK.mono l2) (hv.mono l2) (hw.mono l2))
     refine R_bind R_prog fun ν z z' l4 e => ?_
     rw [e.1, e.2]
     refine R_bind R_prog fun ν z z' l5 e => ?_
     rw [e.1, e.2]
     dsimp only
     refine R_ifB rfl (R_dead (R_unsup rfl)) ?_
     refine R_bind (R_typeStr tx) fun ξ u u' l6 e => ?_
     subst e
     exact R_runtimePanic hP ((((hK.mono l2).mono l4).mono l5).mono l6) _
    all_goals exact R_stuck
   all_goals exact R_stuck
  case struct fs =>
   cases hx
   case agg ha =>
    cases hy
    case agg hb =>
     refine R_bind R_prog fun ν z z' l4 e => ?_
     rw [e.1, e.2]
     dsimp only
     refine R_ifB rfl (R_dead (R_unsup rfl)) ?_
     refine R_bind (A := EqR _) (R_forIn fs _ fun τ f b l5 => ?_) fun μ s s' l5 e => ?_
     ·refine R_if Iff.rfl (fun _ => ?_) fun _ => R_pure rfl
      have l6 := l4.trans l5
      refine R_bind (R_part _ _ (AR.mono l6 ha)) fun π u u' l7 hu => ?_
      refine R_bind (R_part _ _ (AR.mono (l6.trans l7) hb)) fun κ v v' l8 hv => ?_
      refine R_bind (R_equalIn hP n f.type (hK.mono ((l6.trans l7).trans l8)) (hu.mono l8) hv) fun _ e e' _ he => ?_
      subst he
      exact R_ifB rfl (R_pure rfl) (R_pure rfl)
     ·have e : s = s' := e
      subst e
      split <;> exact R_pure rfl
    all_goals exact R_stuck
   all_goals exact R_stuck
  case array len elem =>
   cases hx
   case agg ha =>
    cases hy
    case agg hb =>
     refine R_bind (R_sizeOf _) fun ν z z' l4 e => ?_
     subst e
     dsimp only
     refine R_bind (A := EqR _) (R_forInR len _ fun τ f b l5 => ?_) fun μ s s' l5 e => ?_
     ·have l6 := l4.trans l5
      refine R_bind (R_part _ _ (AR.mono l6 ha)) fun π u u' l7 hu => ?_
      refine R_bind (R_part _ _ (AR.mono (l6.trans l7) hb)) fun κ v v' l8 hv => ?_
      refine R_bind (R_equalIn hP n elem (hK.mono ((l6.trans l7).trans l8)) (hu.mono l8) hv) fun _ e e' _ he => ?_
      subst he
      exact R_ifB rfl (R_pure rfl) (R_pure rfl)
     ·have e : s = s' := e
      subst e
      split <;> exact R_pure rfl
    all_goals exact R_stuck
   all_goals exact R_stuck
  case slice e =>
   cases hx
   case slice0 => cases hy <;> first | exact R_stuck | exact R_pure rfl
   case slice => cases hy <;> first | exact R_stuck | exact R_pure rfl
   all_goals exact R_stuck
  case map k e =>
   cases hx
   case map0 => cases hy <;> first | exact R_stuck | exact R_pure rfl
   case map => cases hy <;> first | exact R_stuck | exact R_pure rfl
   all_goals exact R_stuck
  case func ps rs va =>
   cases hx
   case nilFunc => cases hy <;> first | exact R_stuck | exact R_pure rfl
   case func => cases hy <;> first | exact R_stuck | exact R_pure rfl
   all_goals exact R_stuck
  all_goals exact R_stuck
end
end Go.Pr
namespace Go.Pr
open Go
section
variable {P : Program} {α β γ δ : Type} {A : Rn → α → β → Prop} {C : Rn → γ → δ → Prop} {ρ : Rn}
theorem R_eqGuardIn : ∀ (n : Nat) (t : TypeId) {ρ : Rn} {x y x' y' : Value}, VR ρ x x' → VR ρ y y' → SemR P (EqR Bool) ρ (Op.eqGuardIn n t x y) (Op.eqGuardIn n t x' y')
 | 0, t, _, _, _, _, _, _, _ => R_unsup rfl
 | n + 1, t, ρ, x, y, x', y', hx, hy => by
  unfold Op.eqGuardIn
  refine R_bind (R_underlying t) fun σ d d' l e => ?_
  subst e
  replace hx := hx.mono l
  replace hy := hy.mono l
  cases d
  case interface ms =>
   cases hx <;> cases hy <;> exact R_pure rfl
  case struct fs =>
   cases hx
   case agg ha =>
    cases hy
    case agg hb =>
     refine R_bind (A := EqR _) (R_forIn fs _ fun τ f b l6 => ?_) fun μ s s' l5 e => ?_
     ·refine R_if Iff.rfl (fun _ => ?_) fun _ => R_pure rfl
      refine R_bind (R_part _ _ (AR.mono l6 ha)) fun π u u' l7 hu => ?_
      refine R_bind (R_part _ _ (AR.mono (l6.trans l7) hb)) fun κ v v' l8 hv => ?_
      refine R_bind (R_eqGuardIn n f.type (hu.mono l8) hv) fun _ e e' _ he => ?_
      subst he
      exact R_ifB rfl (R_pure rfl) (R_pure rfl)
     ·have e : s = s' := e
      subst e
      obtain ⟨s1, s2⟩ := s
      cases s1 <;> exact R_pure rfl
    all_goals exact R_pure rfl
   all_goals exact R_pure rfl
  case array len elem =>
   cases hx
   case agg ha =>
    cases hy
    case agg hb =>
     refine R_bind (R_sizeOf _) fun ν z z' l4 e => ?_
     subst e
     refine R_bind (A := EqR _) (R_forInR len _ fun τ f b l5 => ?_) fun μ s s' l5 e => ?_
     ·have l6 := l4.trans l5
      refine R_bind (R_part _ _ (AR.mono l6 ha)) fun π u u' l7 hu => ?_
      refine R_bind (R_part _ _ (AR.mono (l6.trans l7) hb)) fun κ v v' l8 hv => ?_
      refine R_bind (R_eqGuardIn n elem (hu.mono l8) hv) fun _ e e' _ he => ?_
      subst he
      exact R_ifB rfl (R_pure rfl) (R_pure rfl)
     ·have e : s = s' := e
      subst e
      obtain ⟨s1, s2⟩ := s
      cases s1 <;> exact R_pure rfl
    all_goals exact R_pure rfl
   all_goals exact R_pure rfl
  all_goals exact R_pure rfl
theorem R_eqGuard (op : BinOp) (t : TypeId) (x y : Operand) {a b a' b' : Value} (ha : VR ρ a a') (hb : VR ρ b b') : SemR P (TrR Unit Unit) ρ (eqGuard op t x y a b) (eqGuard op t x y a' b') := by
 unfold eqGuard
 refine R_ifB rfl (R_pure trivial) ?_
 cases ha
 case nilIface =>
  cases hb
  case nilIface =>
   refine R_ifB rfl (R_pure trivial) ?_
   refine R_bind (R_eqGuardIn _ _ .nilIface .nilIface) fun _ e e' _ he => ?_
   subst he
   exact R_ifB rfl (R_unsup rfl) (R_pure trivial)
  all_goals exact R_pure trivial
 case agg h1 =>
  cases hb
  case agg h2 =>
   refine R_bind R_prog fun ν z z' l4 e => ?_
   rw [e.1, e.2]
   refine R_bind R_prog fun ν z z' l5 e => ?_
   rw [e.1, e.2]
   refine R_ifB rfl (R_pure trivial) ?_
   refine R_bind (R_eqGuardIn _ _ (.agg (AR.mono (l4.trans l5) h1)) (.agg (AR.mono (l4.trans l5) h2))) fun _ e e' _ he => ?_
   subst he
   exact R_ifB rfl (R_unsup rfl) (R_pure trivial)
  all_goals exact R_pure trivial
 all_goals exact R_pure trivial
theorem R_asNumber {a a' : Addr} (h : AddrR ρ a a') (b : Bool) : SemR P VRr ρ (asNumber a b) (asNumber a' b) := by
 unfold asNumber
 exact R_bind (R_new (.number b h)) fun _ _ _ _ k => R_pure (.ptr ⟨.inr k, rfl, rfl⟩)
theorem R_unsafeAdd (ts : Array TypeId) (t : TypeId) {x y x' y' : Value} (hx : VR ρ x x') (hy : VR ρ y y') : SemR P VRr ρ (Builtin.unsafeAdd_ ts t #[x, y]) (Builtin.unsafeAdd_ ts t #[x', y']) := by
 unfold Builtin.unsafeAdd_
 cases hx
 case ptr0 =>
  refine R_bind (R_asInt hy) fun σ n n' l e => ?_
  subst e
  refine R_if Iff.rfl (fun _ => R_unsup rfl) fun _ => R_if Iff.rfl (fun _ => R_dead (R_unsup rfl)) fun _ => R_unsup rfl
 case ptr a a' ha =>
  refine R_bind (R_asInt hy) fun σ n n' l e => ?_
  subst e
  refine R_if Iff.rfl (fun _ => ?_) fun _ => R_if Iff.rfl (fun _ => R_dead (R_unsup rfl)) fun _ => ?_
  ·refine R_bind (R_viewAt (l.b ha.b)) fun τ v v' l2 e => ?_
   rcases e with ⟨rfl, rfl⟩ | ⟨b, b', t, rfl, rfl, k⟩
   ·exact R_pure (.ptr ((ha.mono l).mono l2))
   ·exact R_dead (R_unsup rfl)
  ·refine R_bind (R_shape (l.b ha.b)) fun τ s s' l2 e => ?_
   subst e
   split
   ·refine R_bind R_prog fun ν z z' l5 e => ?_
    rw [e.1, e.2, ha.off]
    split
    ·exact R_pure (.ptr ⟨l5.b (l2.b (l.b ha.b)), rfl, ha.spot⟩)
    ·exact R_unsup rfl
   ·exact R_unsup rfl
 all_goals exact R_stuck
theorem R_movedNumber (t : TypeId) {x y x' y' : Value} (hx : VR ρ x x') (hy : VR ρ y y') : SemR P VRr ρ (movedNumber t x y) (movedNumber t x' y') := by
 unfold movedNumber
 refine R_bind (R_underlying t) fun σ d d' l e => ?_
 subst e
 refine R_ifB rfl (R_dead (R_unsup rfl)) ?_
 have hx1 := hx.mono l
 have hy1 := hy.mono l
 cases hx
 case ptr a a' ha =>
  refine R_bind (A := fun σ x y => AddrR σ x.1 y.1 ∧ x.2 = y.2) (R_behind (ha.mono l)) fun τ p p' l2 hp => ?_
  obtain ⟨p1, p2⟩ := p
  obtain ⟨q1, q2⟩ := p'
  obtain ⟨hp, e⟩ := hp
  have e : p2 = q2 := e
  subst e
  refine R_bind (R_unsafeAdd _ _ (.ptr hp) (hy1.mono l2)) fun μ v v' l3 hv => ?_
  have hv1 : VR μ v v' := hv
  cases hv
  case ptr k => exact R_asNumber k _
  all_goals exact R_pure hv1
 all_goals exact R_unsafeAdd _ _ (by assumption) hy1
theorem R_movedPointer (t : TypeId) {x y x' y' : Value} (hx : VR ρ x x') (hy : VR ρ y y') : SemR P VRr ρ (movedPointer t x y) (movedPointer t x' y') := by
 unfold movedPointer
 have hx1 := hx
 cases hx
 case ptr a a' ha =>
  refine R_bind (R_numberAt ha.b) fun σ v v' l2 e => ?_
  rcases e with ⟨rfl, rfl⟩ | ⟨b, b', q, rfl, rfl, k⟩
  ·exact R_unsafeAdd #[] t (hx1.mono l2) (hy.mono l2)
  ·exact R_dead (R_unsup rfl)
 all_goals exact R_unsafeAdd _ _ hx1 hy
theorem R_twoPlaces (hK : KF P ρ) {a b a' b' : Addr} (ha : AddrR ρ a a') (hb : AddrR ρ b b') : SemR P (EqR (Nat × Nat)) ρ (Op.twoPlaces a b) (Op.twoPlaces a' b') := by
 unfold Op.twoPlaces
 refine R_bind R_prog fun σ p p' l e => ?_
 rw [e.1, e.2]
 refine R_ifB ?_ (R_dead (R_unsup rfl)) ?_
 ·have h1 := blockEq ha hb
  have h2 := lowEq hK ha
  simp only [ge_iff_le, bne, h1]
  congr 1
  simp only [← Nat.not_lt, decide_not, h2]
 ·refine R_bind (R_byteOf (ha.mono l)) fun τ u u' l2 e => ?_
  subst e
  refine R_bind (R_byteOf ((hb.mono l).mono l2)) fun _ v v' _ e => ?_
  subst e
  exact R_pure rfl
theorem R_addrSub (hK : KF P ρ) (k : IntKind) {a b a' b' : Addr} (ha : AddrR ρ a a') (hb : AddrR ρ b b') : SemR P VRr ρ (Op.addrSub k a b) (Op.addrSub k a' b') := by
 unfold Op.addrSub
 refine R_bind (R_twoPlaces hK ha hb) fun τ u u' l2 e => ?_
 subst e
 exact R_pure (.int _ _)
theorem R_addrCmp (hK : KF P ρ) (op : BinOp) {a b a' b' : Addr} (ha : AddrR ρ a a') (hb : AddrR ρ b b') : SemR P VRr ρ (Op.addrCmp op a b) (Op.addrCmp op a' b') := by
 unfold Op.addrCmp
 refine R_bind (R_twoPlaces hK ha hb) fun τ u u' l2 e => ?_
 subst e
 cases op <;> first | exact R_pure (.bool _) | exact R_unsup rfl
theorem R_addrMod (k : IntKind) {a a' : Addr} (ha : AddrR ρ a a') (n : Int) : SemR P VRr ρ (Op.addrMod k a n) (Op.addrMod k a' n) := by
 unfold Op.addrMod
 refine R_bind (R_shape ha.b) fun τ s s' l2 e => ?_
 subst e
 split
 ·refine R_bind (R_typeInfo _) fun τ i i' l3 e => ?_
  obtain ⟨rfl, _⟩ := e
  refine R_ifB rfl (R_dead (R_unsup rfl)) ?_
  refine R_bind (R_byteOf ((ha.mono l2).mono l3)) fun τ u u' l2 e => ?_
  subst e
  exact R_pure (.int _ _)
 ·exact R_unsup rfl
end
end Go.Pr
namespace Go.Pr
open Go
section
variable {P : Program} {α β γ δ : Type} {A : Rn → α → β → Prop} {C : Rn → γ → δ → Prop} {ρ : Rn}
inductive Flat {α : Type} (Q : α → Prop) : Sem α → Prop
 | pure {a : α} : Q a → Flat Q (.pure a)
 | choose (q : Question) {k : Nat → Sem α} : (∀ n, Flat Q (k n)) → Flat Q (.choose q k)
 | halt {h : Halt} : dull h = true → Flat Q (.halt h)
theorem Flat.bind {Q : α → Prop} {Q' : β → Prop} {s : Sem α} {f : α → Sem β} (h : Flat Q s) (hf : ∀ a, Q a → Flat Q' (f a)) : Flat Q' (s >>= f) := by
 show Flat Q' (s.bind f)
 induction h with
 | pure ha => exact hf _ ha
 | choose q _ ih => exact .choose q ih
 | halt hd => exact .halt hd
theorem Flat.ite {Q : α → Prop} {p : Prop} [Decidable p] {a b : Sem α} (ha : Flat Q a) (hb : Flat Q b) : Flat Q (if p then a else b) := by
 split
 ·exact ha
 ·exact hb
theorem Flat.ret {Q : α → Prop} {a : α} (h : Q a) : Flat Q (Pure.pure a) := .pure h
theorem Flat.stk {Q : α → Prop} {why : String} : Flat Q (stuck (α := α) why) := .halt rfl
def Any (_ : α) : Prop := True
theorem Flat.any (a : α) : Flat Any (Pure.pure a) := .pure trivial
theorem Flat.ask (q : Question) : Flat Any (Go.choose q) := .choose q fun _ => .pure trivial
theorem Flat.R {Q : α → Prop} {s : Sem α} (h : Flat Q s) : SemR P (fun _ a b => a = b ∧ Q a) ρ s s := by
 induction h with
 | pure ha => exact .pure ⟨rfl, ha⟩
 | choose q _ ih => exact .choose ih
 | halt hd => exact .halt hd
theorem Flat.V {s : Sem Value} (h : Flat Pl s) : SemR P VRr ρ s s := R_mono h.R fun σ a b _ e => by
 obtain ⟨rfl, h⟩ := e
 exact h σ
theorem pl_f (k : FloatKind) (n : Nat) : Pl (.float k n) := fun _ => .float _ _
theorem pl_i (k : IntKind) (n : Int) : Pl (.int k n) := fun _ => .int _ _
theorem pl_b (b : Bool) : Pl (.bool b) := fun _ => .bool _
theorem pl_c (k : FloatKind) (n m : Nat) : Pl (.complex k n m) := fun _ => .complex _ _ _
theorem flat_arith (op : BinOp) (k : FloatKind) (x y : Nat) : Flat Pl (Op.floatArith op k x y) := by
 unfold Op.floatArith
 have jp : ∀ r : Option Nat, Flat Pl (match r with | some r => Pure.pure (Value.float k r) | none => do Pure.pure (Value.float k (← Go.choose (.nanBits k x y)))) := fun r => by
  cases r
  ·exact .bind (.ask _) fun _ _ => .ret (pl_f _ _)
  ·exact .ret (pl_f _ _)
 dsimp only
 split
 ·exact .bind (.any _) fun r _ => jp r
 ·exact .bind (.any _) fun r _ => jp r
 ·exact .bind (.any _) fun r _ => jp r
 ·exact .bind (.any _) fun r _ => jp r
 ·exact .bind (Q := Any) .stk fun r _ => jp r
theorem flat_cmp (op : BinOp) (k : FloatKind) (x y : Nat) : Flat Pl (Op.floatCmp op k x y) := by
 unfold Op.floatCmp
 dsimp only
 split <;> first | exact .ret (pl_b _) | exact .stk
theorem flat_toFloat (s : FloatKind) (b : Nat) (d : FloatKind) : Flat Pl (Conv.floatToFloat s b d) := by
 unfold Conv.floatToFloat
 refine .ite (.ret (pl_f _ _)) ?_
 split
 ·exact .bind (.ask _) fun _ _ => .ret (pl_f _ _)
 ·exact .ret (pl_f _ _)
 ·dsimp only
  exact .ite (.bind (.ask _) fun _ _ => .ret (pl_f _ _)) (.ret (pl_f _ _))
theorem flat_toInt (s : FloatKind) (b : Nat) (d : IntKind) : Flat Pl (Conv.floatToInt s b d) := by
 unfold Conv.floatToInt
 dsimp only
 split
 ·exact .ite (.ret (pl_i _ _)) (.bind (.ask _) fun _ _ => .ret (pl_i _ _))
 ·exact .bind (.ask _) fun _ _ => .ret (pl_i _ _)
theorem flat_toComplex (s : FloatKind) (a b : Nat) (d : FloatKind) : Flat Pl (Conv.complexToComplex s a b d) := by
 unfold Conv.complexToComplex
 refine .bind (flat_toFloat _ _ _) fun r _ => ?_
 split
 ·refine .bind (flat_toFloat _ _ _) fun r _ => ?_
  split
  ·exact .ret (pl_c _ _ _)
  ·exact .stk
 ·exact .stk
theorem flat_car (op : BinOp) (k : FloatKind) (x y : Nat) : Flat Any (Op.Complex.arith op k x y) := by
 unfold Op.Complex.arith
 refine .bind (flat_arith _ _ _ _) fun r _ => ?_
 split <;> first | exact .any _ | exact .stk
theorem flat_bool (v : Value) : Flat Any (asBool v) := by cases v <;> first | exact .any _ | exact .stk
theorem flat_ccmp (op : BinOp) (k : FloatKind) (x y : Nat) : Flat Any (Op.Complex.cmp op k x y) := by
 unfold Op.Complex.cmp
 exact .bind (flat_cmp _ _ _ _) fun r _ => flat_bool r
theorem flat_conv (s : FloatKind) (x : Nat) (d : FloatKind) : Flat Any (Op.Complex.conv s x d) := by
 unfold Op.Complex.conv
 refine .ite (.any _) (.bind (flat_toFloat _ _ _) fun r _ => ?_)
 split <;> first | exact .any _ | exact .stk
section
attribute [local irreducible] Op.Complex.arith Op.Complex.cmp Op.Complex.conv
theorem flat_prod (a b c d : Nat) : Flat Any (Op.Complex.product a b c d) := by
 unfold Op.Complex.product
 repeat' first | (refine Flat.bind (Q := Any) ?_ fun _ _ => ?_) | exact flat_car _ _ _ _ | exact .any _
theorem flat_corr (s a b c d : Nat) : Flat Any (Op.Complex.corrected s a b c d) := by
 unfold Op.Complex.corrected
 repeat' first | (refine Flat.bind (Q := Any) ?_ fun _ _ => ?_) | exact flat_car _ _ _ _ | exact .any _
attribute [local irreducible] Op.Complex.corrected Op.Complex.product
theorem flat_quot (a b c d : Nat) : Flat Any (Op.Complex.quotient a b c d) := by
 unfold Op.Complex.quotient
 dsimp only
 repeat' first | (refine Flat.bind (Q := Any) ?_ fun _ _ => ?_) | refine Flat.ite ?_ ?_ | exact flat_ccmp _ _ _ _ | exact flat_car _ _ _ _ | exact flat_corr _ _ _ _ _ | exact .any _
attribute [local irreducible] Op.Complex.quotient
theorem flat_complex (op : BinOp) (k : FloatKind) (a b c d : Nat) : Flat Pl (Op.complexOp op k a b c d) := by
 cases op <;> unfold Op.complexOp <;> dsimp only <;>
 repeat' first | (refine Flat.bind (Q := Any) ?_ fun _ _ => ?_) | refine Flat.ite ?_ ?_ | exact flat_ccmp _ _ _ _ | exact flat_car _ _ _ _ | exact flat_conv _ _ _ | exact flat_prod _ _ _ _ | exact flat_quot _ _ _ _ | exact .ret (pl_c _ _ _) | exact .ret (pl_b _) | exact .stk
end
theorem R_shift (hP : PF P) (hK : KF P ρ) (op : BinOp) (k : IntKind) (x : Int) (q : IntKind) (y : Int) : SemR P VRr ρ (Op.shift op k x q y) (Op.shift op k x q y) := by
 unfold Op.shift
 refine R_if Iff.rfl (fun _ => R_runtimePanic hP hK _) fun _ => ?_
 cases op <;> first | exact R_pure (.int _ _) | exact R_stuck
theorem R_intDiv (hP : PF P) (hK : KF P ρ) (op : BinOp) (k : IntKind) (x y : Int) : SemR P VRr ρ (Op.intDiv op k x y) (Op.intDiv op k x y) := by
 unfold Op.intDiv
 refine R_if Iff.rfl (fun _ => R_runtimePanic hP hK _) fun _ => ?_
 cases op <;> first | exact R_pure (.int _ _) | exact R_stuck
theorem R_stringOp (op : BinOp) (x y : ByteArray) : SemR P VRr ρ (Op.stringOp op x y) (Op.stringOp op x y) := by
 unfold Op.stringOp
 dsimp only
 cases op <;> first | exact R_pure (.bool _) | exact R_stuck | exact R_if Iff.rfl (fun _ => R_unsup rfl) fun _ => R_pure (.string _)
theorem R_eqlB (hP : PF P) (hK : KF P ρ) (t : TypeId) {x y x' y' : Value} (hx : VR ρ x x') (hy : VR ρ y y') : SemR P VRr ρ (do Pure.pure (.bool (← Op.equal t x y))) (do Pure.pure (.bool (← Op.equal t x' y'))) :=
 R_bind (R_equalIn hP _ t hK hx hy) fun _ _ _ _ e => by
  subst e
  exact R_pure (.bool _)
theorem R_neqB (hP : PF P) (hK : KF P ρ) (t : TypeId) {x y x' y' : Value} (hx : VR ρ x x') (hy : VR ρ y y') : SemR P VRr ρ (do Pure.pure (.bool (!(← Op.equal t x y)))) (do Pure.pure (.bool (!(← Op.equal t x' y')))) :=
 R_bind (R_equalIn hP _ t hK hx hy) fun _ _ _ _ e => by
  subst e
  exact R_pure (.bool _)
theorem R_binInt (hP : PF P) (hK : KF P ρ) (op : BinOp) (t : TypeId) (k : IntKind) (a : Int) (k' : IntKind) (b : Int) : SemR P VRr ρ (binOp op t (.int k a) (.int k' b)) (binOp op t (.int k a) (.int k' b)) := by
 cases op
 case shl =>
  show SemR P VRr ρ (Op.shift .shl k a k' b) (Op.shift .shl k a k' b)
  exact R_shift hP hK _ _ _ _ _
 case shr =>
  show SemR P VRr ρ (Op.shift .shr k a k' b) (Op.shift .shr k a k' b)
  exact R_shift hP hK _ _ _ _ _
 all_goals refine R_if Iff.rfl (fun _ => R_stuck) fun _ => ?_
 all_goals first | exact R_pure (.int _ _) | exact R_pure (.bool _) | exact R_intDiv hP hK _ _ _ _
theorem R_addPI (t : TypeId) {x y x' y' : Value} (hx : VR ρ x x') (hy : VR ρ y y') : SemR P VRr ρ (do if (← underlying t) matches .unsafePointer then movedPointer t x y else movedNumber t x y) (do if (← underlying t) matches .unsafePointer then movedPointer t x' y' else movedNumber t x' y') := by
 refine R_bind (R_underlying t) fun σ d d' l e => ?_
 subst e
 exact R_ifB rfl (R_movedPointer t (hx.mono l) (hy.mono l)) (R_movedNumber t (hx.mono l) (hy.mono l))
theorem R_binFloat (op : BinOp) (t : TypeId) (k : FloatKind) (a : Nat) (k' : FloatKind) (b : Nat) : SemR P VRr ρ (binOp op t (.float k a) (.float k' b)) (binOp op t (.float k a) (.float k' b)) := by
 have e : binOp op t (.float k a) (.float k' b) = if k ≠ k' then stuck "BinOp: operands of different kinds" else match op with
  | .add | .sub | .mul | .quo => Op.floatArith op k a b
  | _ => Op.floatCmp op k a b := by cases op <;> rfl
 rw [e]
 refine R_if Iff.rfl (fun _ => R_stuck) fun _ => ?_
 split <;> first | exact (flat_arith _ _ _ _).V | exact (flat_cmp _ _ _ _).V
set_option maxHeartbeats 2000000 in
theorem R_binOp (hP : PF P) (hK : KF P ρ) (op : BinOp) (t : TypeId) {x y x' y' : Value} (hx : VR ρ x x') (hy : VR ρ y y') : SemR P VRr ρ (binOp op t x y) (binOp op t x' y') := by
 have hx1 := hx
 have hy1 := hy
 cases hx
 case int k a =>
  cases hy
  case int k' b => exact R_binInt hP hK _ _ _ _ _ _
  case ptr ha => cases op <;> first | exact R_stuck | exact R_unsup rfl | exact R_eqlB hP hK t hx1 hy1 | exact R_neqB hP hK t hx1 hy1 | exact R_movedNumber t hy1 hx1 | exact R_bind (R_behind ha) fun _ p p' _ hp => R_addrMod _ hp.1 _
  all_goals cases op <;> first | exact R_stuck | exact R_unsup rfl | exact R_eqlB hP hK t hx1 hy1 | exact R_neqB hP hK t hx1 hy1 | exact R_movedNumber t hy1 hx1
 case float k a =>
  cases hy
  case float k' b => exact R_binFloat op t k a k' b
  all_goals cases op <;> first | exact R_stuck | exact R_unsup rfl | exact R_eqlB hP hK t hx1 hy1 | exact R_neqB hP hK t hx1 hy1
 case complex k a b =>
  cases hy
  case complex k' c d =>
   have e : binOp op t (.complex k a b) (.complex k' c d) = if k ≠ k' then stuck "BinOp: operands of different kinds" else Op.complexOp op k a b c d := by cases op <;> rfl
   rw [e]
   exact R_if Iff.rfl (fun _ => R_stuck) fun _ => (flat_complex _ _ _ _ _ _).V
  all_goals cases op <;> first | exact R_stuck | exact R_unsup rfl | exact R_eqlB hP hK t hx1 hy1 | exact R_neqB hP hK t hx1 hy1
 case string a =>
  cases hy
  case string b =>
   have e : binOp op t (.string a) (.string b) = Op.stringOp op a b := by cases op <;> rfl
   rw [e]
   exact R_stringOp op a b
  all_goals cases op <;> first | exact R_stuck | exact R_unsup rfl | exact R_eqlB hP hK t hx1 hy1 | exact R_neqB hP hK t hx1 hy1
 case ptr0 =>
  cases hy
  case int k b => cases op <;> first | exact R_stuck | exact R_unsup rfl | exact R_eqlB hP hK t hx1 hy1 | exact R_neqB hP hK t hx1 hy1 | exact R_addPI t hx1 hy1 | exact R_movedNumber t hx1 (.int _ _)
  all_goals cases op <;> first | exact R_stuck | exact R_unsup rfl | exact R_eqlB hP hK t hx1 hy1 | exact R_neqB hP hK t hx1 hy1
 case ptr a a' ha =>
  cases hy
  case int k b => cases op <;> first | exact R_stuck | exact R_unsup rfl | exact R_eqlB hP hK t hx1 hy1 | exact R_neqB hP hK t hx1 hy1 | exact R_addPI t hx1 hy1 | exact R_movedNumber t hx1 (.int _ _) | exact R_bind (R_behind ha) fun _ p p' _ hp => R_addrMod _ hp.1 _
  case ptr b b' hb =>
   have hs : SemR P VRr ρ (do Op.addrSub .u64 (← behindNumber a).1 (← behindNumber b).1) (do Op.addrSub .u64 (← behindNumber a').1 (← behindNumber b').1) :=
    R_bind (R_behind ha) fun _ p p' l hp => R_bind (R_behind (hb.mono l)) fun _ q q' l2 hq => R_addrSub (hK.mono (l.trans l2)) _ (hp.1.mono l2) hq.1
   have hc : SemR P VRr ρ (do Op.addrCmp op (← behindNumber a).1 (← behindNumber b).1) (do Op.addrCmp op (← behindNumber a').1 (← behindNumber b').1) :=
    R_bind (R_behind ha) fun _ p p' l hp => R_bind (R_behind (hb.mono l)) fun _ q q' l2 hq => R_addrCmp (hK.mono (l.trans l2)) _ (hp.1.mono l2) hq.1
   cases op
   case eql => exact R_eqlB hP hK t hx1 hy1
   case neq => exact R_neqB hP hK t hx1 hy1
   case sub => exact hs
   case lss => exact hc
   case leq => exact hc
   case gtr => exact hc
   case geq => exact hc
   all_goals exact R_unsup rfl
  all_goals cases op <;> first | exact R_stuck | exact R_unsup rfl | exact R_eqlB hP hK t hx1 hy1 | exact R_neqB hP hK t hx1 hy1
 all_goals (cases hy <;> cases op <;> first | exact R_stuck | exact R_unsup rfl | exact R_eqlB hP hK t hx1 hy1 | exact R_neqB hP hK t hx1 hy1)
end
end Go.Pr
namespace Go.Pr
open Go
section
variable {P : Program} {α β γ δ : Type} {A : Rn → α → β → Prop} {C : Rn → γ → δ → Prop} {ρ : Rn}
theorem R_unary (op : UnOp) {x x' : Value} (hx : VR ρ x x') : SemR P VRr ρ (Op.unary op x) (Op.unary op x') := by
 cases hx <;> cases op <;> first | exact R_stuck | exact R_unsup rfl | exact R_pure (.int _ _) | exact R_pure (.float _ _) | exact R_pure (.complex _ _ _) | exact R_pure (.bool _)
theorem R_forInV {S : Type} {f f' : Value → S → Sem (ForInStep S)} (hf : ∀ σ v v' b, ρ.Le σ → VR σ v v' → SemR P (EqR (ForInStep S)) σ (f v b) (f' v' b)) : ∀ {l l' : List Value} (σ : Rn) (b : S), ρ.Le σ → LR σ l l' → SemR P (EqR S) σ (forIn l b f) (forIn l' b f')
 | _, _, _, _, _, .nil => R_pure rfl
 | _, _, σ, b, l, .cons x y => by
  rw [List.forIn_cons, List.forIn_cons]
  refine R_bind (hf σ _ _ b l x) fun τ s s' l2 e => ?_
  subst e
  cases s with
  | done b => exact R_pure rfl
  | yield b => exact R_forInV hf τ b (l.trans l2) (y.mono l2)
theorem R_newRow2 (t : TypeId) {c c' : Array Value} (h : AR ρ c c') : SemR P (fun σ a a' => AddrR σ a a' ∧ σ.r a.block a'.block) ρ (newRow t c) (newRow t c') := by
 unfold Go.newRow
 exact R_bind (R_new (.cells t (0, 0) h)) fun _ _ _ _ hr => R_pure ⟨⟨.inr hr, rfl, rfl⟩, hr⟩
theorem R_freeze {a a' : Addr} (h : AddrR ρ a a') (hr : ρ.r a.block a'.block) (n : Nat) : SemR P (TrR Unit Unit) ρ (freeze a n) (freeze a' n) := .freeze h hr (.pure trivial)
theorem R_mark {a a' : Addr} (h : AddrR ρ a a') (hr : ρ.r a.block a'.block) : SemR P (TrR Unit Unit) ρ (markStringish a) (markStringish a') := by
 unfold markStringish
 refine R_bind (R_shape h.b) fun σ s s' l e => ?_
 subst e
 cases s with
 | none => exact R_pure trivial
 | some x =>
  obtain ⟨t, n⟩ := x
  exact R_freeze (a := { block := a.block, off := n }) (a' := { block := a'.block, off := n }) ⟨l.b h.b, rfl, rfl⟩ (l.r hr) 1
theorem AR.plain {c : Array Value} (h : ∀ v ∈ c.toList, Pl v) : AR ρ c c := by
 unfold AR
 revert h
 generalize c.toList = l
 intro h
 induction l with
 | nil => exact .nil
 | cons v l ih => exact .cons (h v (by simp) ρ) (ih fun u hu => h u (by simp [hu]))
theorem R_strBytes (t : TypeId) (s : ByteArray) : SemR P VRr ρ (Conv.stringToBytes t s) (Conv.stringToBytes t s) := by
 unfold Conv.stringToBytes
 refine R_bind (R_choose _) fun σ n n' l e => ?_
 subst e
 refine R_bind (R_newRow2 t (AR.plain fun v hv => ?_)) fun τ a a' l2 h => ?_
 ·simp only [Array.toList_append, Array.toList_map, Array.toList_replicate, List.mem_append, List.mem_map, List.mem_replicate] at hv
  rcases hv with ⟨b, _, rfl⟩ | ⟨_, rfl⟩ <;> exact pl_i _ _
 ·refine R_bind (R_mark h.1 h.2) fun μ _ _ l3 _ => ?_
  exact R_pure (.slice _ _ (h.1.mono l3))
theorem runes_pl (s : ByteArray) : ∀ (b i : Nat) (acc : Array Value), (∀ v ∈ acc.toList, Pl v) → ∀ v ∈ (Conv.runesFrom s b i acc).toList, Pl v
 | 0, _, _, h => h
 | b + 1, i, acc, h => by
  unfold Conv.runesFrom
  split
  ·dsimp only
   refine runes_pl s b _ _ fun v hv => ?_
   simp only [Array.toList_push, List.mem_append, List.mem_singleton] at hv
   rcases hv with hv | rfl
   ·exact h v hv
   ·exact pl_i _ _
  ·exact h
theorem R_strRunes (t : TypeId) (s : ByteArray) : SemR P VRr ρ (Conv.stringToRunes t s) (Conv.stringToRunes t s) := by
 unfold Conv.stringToRunes
 dsimp only
 refine R_bind (R_choose _) fun σ n n' l e => ?_
 subst e
 refine R_bind (R_newRow2 t (AR.plain fun v hv => ?_)) fun τ a a' l2 h => R_pure (.slice _ _ h.1)
 simp only [Array.toList_append, Array.toList_replicate, List.mem_append, List.mem_replicate] at hv
 rcases hv with hv | ⟨_, rfl⟩
 ·exact runes_pl s _ _ _ (by simp) v hv
 ·exact pl_i _ _
theorem R_bytesStr {x x' : Value} (h : VR ρ x x') : SemR P VRr ρ (Conv.bytesToString x) (Conv.bytesToString x') := by
 unfold Conv.bytesToString
 cases h
 case slice0 => exact R_pure (.string _)
 case slice a a' n c ha =>
  refine R_bind (R_loadCells n ha) fun σ z z' l hz => ?_
  refine R_bind (A := EqR _) ?_ fun μ s s' l5 e => ?_
  ·rw [← Array.forIn_toList, ← Array.forIn_toList]
   refine R_forInV (ρ := σ) (fun τ v v' b _ hv => ?_) σ _ (Rn.Le.refl _) hz
   cases hv
   case int k n => cases k <;> first | exact R_stuck | exact R_pure rfl
   all_goals exact R_stuck
  ·have e : s = s' := e
   subst e
   exact R_pure (.string _)
 all_goals exact R_stuck
theorem R_runesStr {x x' : Value} (h : VR ρ x x') : SemR P VRr ρ (Conv.runesToString x) (Conv.runesToString x') := by
 unfold Conv.runesToString
 cases h
 case slice0 => exact R_pure (.string _)
 case slice a a' n c ha =>
  refine R_bind (R_loadCells n ha) fun σ z z' l hz => ?_
  refine R_bind (A := EqR _) ?_ fun μ s s' l5 e => ?_
  ·rw [← Array.forIn_toList, ← Array.forIn_toList]
   refine R_forInV (ρ := σ) (fun τ v v' b _ hv => ?_) σ _ (Rn.Le.refl _) hz
   cases hv
   case int k n => cases k <;> first | exact R_stuck | exact R_pure rfl
   all_goals exact R_stuck
  ·have e : s = s' := e
   subst e
   exact R_pure (.string _)
 all_goals exact R_stuck
theorem R_seenAt {a a' : Addr} (h : AddrR ρ a a') : SemR P AddrR ρ (Conv.seenAt a) (Conv.seenAt a') := by
 unfold Conv.seenAt
 refine R_bind (R_viewAt h.b) fun σ v v' l e => ?_
 rcases e with ⟨rfl, rfl⟩ | ⟨b, b', u, rfl, rfl, k⟩
 ·exact R_pure (h.mono l)
 ·dsimp only
  rw [h.off, h.spot, k.spot, k.off]
  refine R_if Iff.rfl (fun _ => R_pure k) fun _ => ?_
  refine R_ifB rfl (R_dead (R_unsup rfl)) ?_
  refine R_bind R_prog fun τ p p' l2 e => ?_
  rw [e.1, e.2]
  split
  ·refine R_bind (R_shape (l2.b k.b)) fun μ s s' l3 e => ?_
   subst e
   split
   ·refine R_if Iff.rfl (fun _ => R_dead (R_unsup rfl)) fun _ => ?_
    split
    ·exact R_pure ⟨l3.b (l2.b k.b), rfl, rfl⟩
    ·exact R_unsup rfl
   ·exact R_unsup rfl
  ·exact R_unsup rfl
theorem R_cellsIn {r r' : Nat} (h : ρ.b r r') : SemR P (EqR (Option Nat)) ρ (cellsIn r) (cellsIn r') := by
 unfold cellsIn
 refine R_bind (R_shape h) fun σ s s' l e => ?_
 subst e
 cases s with
 | some x => exact R_pure rfl
 | none =>
  refine R_bind (R_getObj (l.b h)) fun τ o o' l2 ho => ?_
  cases ho <;> exact R_pure rfl
theorem R_variablesAt {a a' : Addr} (h : AddrR ρ a a') (u : TypeId) (n : Nat) : SemR P (EqR Bool) ρ (variablesAt a u n) (variablesAt a' u n) := by
 unfold variablesAt
 refine R_bind R_prog fun τ p p' l2 e => ?_
 rw [e.1, e.2]
 refine R_bind (R_shape (l2.b h.b)) fun μ s s' l3 e => ?_
 subst e
 rw [h.off]
 split <;> exact R_pure rfl
theorem R_ptrConv (s t : TypeId) {x x' : Value} (hx : VR ρ x x') : SemR P VRr ρ (Conv.unsafePointer s t x) (Conv.unsafePointer s t x') := by
 unfold Conv.unsafePointer
 refine R_bind (R_underlying s) fun σ d d' l e => ?_
 subst e
 refine R_bind (R_underlying t) fun τ c c' l2 e => ?_
 subst e
 replace hx := hx.mono (l.trans l2)
 have hx1 := hx
 cases d
 case pointer u =>
  cases c
  case unsafePointer =>
   cases hx
   case ptr0 => exact R_pure .ptr0
   case ptr a a' ha =>
    refine R_bind (R_seenAt ha) fun μ b b' l3 hb => ?_
    refine R_bind (R_cellsIn hb.b) fun ν n n' l4 e => ?_
    subst e
    dsimp only
    refine R_bind (R_sizeOf _) fun ξ m m' l5 e => ?_
    subst e
    refine R_ifB (by rw [hb.off, hb.spot]) ?_ (R_pure (.ptr ((hb.mono l4).mono l5)))
    exact R_bind (R_new (.view u ((hb.mono l4).mono l5))) fun _ _ _ _ k => R_pure (.ptr ⟨.inr k, rfl, rfl⟩)
   all_goals exact R_stuck
  all_goals exact R_stuck
 case unsafePointer =>
  cases c
  case pointer u =>
   cases hx
   case ptr0 => exact R_pure .ptr0
   case ptr a a' ha =>
    refine R_bind (R_seenAt ha) fun μ b b' l3 hb => ?_
    refine R_bind (R_sizeOf _) fun ξ m m' l5 e => ?_
    subst e
    refine R_bind (R_variablesAt (hb.mono l5) u 1) fun κ q q' l6 e => ?_
    subst e
    refine R_ifB rfl (R_pure (.ptr ((hb.mono l5).mono l6))) ?_
    refine R_bind (R_shape (l6.b (l5.b hb.b))) fun ν s s' l7 e => ?_
    subst e
    have jp : ∀ {σ : Rn}, ν.Le σ → SemR P VRr σ (do Pure.pure (.pointer (some ⟨← newObj (.view b u), 0, none⟩))) (do Pure.pure (.pointer (some ⟨← newObj (.view b' u), 0, none⟩))) := fun l8 =>
     R_bind (R_new (.view u ((((hb.mono l5).mono l6).mono l7).mono l8))) fun _ _ _ _ k => R_pure (.ptr ⟨.inr k, rfl, rfl⟩)
    cases s with
    | none => exact R_dead (R_unsup rfl)
    | some x =>
     obtain ⟨e, n⟩ := x
     refine R_bind R_prog fun o p p' l9 e1 => ?_
     rw [e1.1, e1.2]
     refine R_bind R_prog fun o p p' l10 e1 => ?_
     rw [e1.1, e1.2]
     dsimp only
     exact R_ifB rfl (R_dead (R_unsup rfl)) (jp (l9.trans l10))
   all_goals exact R_stuck
  case unsafePointer => cases hx <;> first | exact R_pure hx1 | exact R_stuck
  case int k =>
   cases hx
   case ptr0 => exact R_pure (.int _ _)
   case ptr a a' ha => exact R_asNumber ha _
   all_goals exact R_stuck
  all_goals exact R_stuck
 case int k =>
  cases c
  case unsafePointer =>
   cases hx
   case int k n => cases n with
    | ofNat m => cases m <;> exact R_unsup rfl
    | negSucc m => exact R_unsup rfl
   all_goals first | exact R_stuck | exact R_unsup rfl
  all_goals exact R_stuck
 all_goals exact R_stuck
def convOk (P : Program) (s t : TypeId) : Bool := match P.underlying s, P.underlying t with
 | some (.slice _), some (.slice _) => false
 | _, _ => true
theorem R_sliceStr (e : TypeId) {x x' : Value} (hx : VR ρ x x') : SemR P VRr ρ (do
  match ← underlying e with
  | .int .u8 => Conv.bytesToString x
  | .int .i32 => Conv.runesToString x
  | _ => stuck "Convert: a slice of what to string?") (do
  match ← underlying e with
  | .int .u8 => Conv.bytesToString x'
  | .int .i32 => Conv.runesToString x'
  | _ => stuck "Convert: a slice of what to string?") := by
 refine R_bind (R_underlying e) fun μ c c' l3 e => ?_
 subst e
 split
 ·exact R_bytesStr (hx.mono l3)
 ·exact R_runesStr (hx.mono l3)
 ·exact R_stuck
theorem R_convert (s t : TypeId) (ho : convOk P s t = true) {x x' : Value} (hx : VR ρ x x') : SemR P VRr ρ (convert s t x) (convert s t x') := by
 unfold convert
 refine R_bind (R_underlying' s) fun σ d d' l e => ?_
 obtain ⟨rfl, h1⟩ := e
 refine R_bind (R_underlying' t) fun τ c c' l2 e => ?_
 obtain ⟨rfl, h2⟩ := e
 unfold convOk at ho
 rw [h1, h2] at ho
 replace hx := hx.mono (l.trans l2)
 have hx1 := hx
 have hup : d = .unsafePointer ∨ c = .unsafePointer → SemR P VRr τ (Conv.unsafePointer s t x) (Conv.unsafePointer s t x') := fun _ => R_ptrConv s t hx
 cases hx
 case int k n =>
  cases c
  case int k' => exact R_pure (.int _ _)
  case float k' => exact R_pure (.float _ _)
  case string => exact R_pure (.string _)
  case unsafePointer => cases d <;> exact R_ptrConv s t hx1
  all_goals cases d
  all_goals first | exact R_stuck | exact R_unsup rfl | exact R_ptrConv s t hx1
 case float k n =>
  cases c
  case int k' => exact (flat_toInt _ _ _).V
  case float k' => exact (flat_toFloat _ _ _).V
  case string =>
   cases d
   case slice e => exact R_sliceStr e hx1
   all_goals first | exact R_stuck | exact R_unsup rfl | exact R_ptrConv s t hx1
  all_goals cases d
  all_goals first | exact R_stuck | exact R_unsup rfl | exact R_ptrConv s t hx1
 case complex k n m =>
  cases c
  case complex k' => exact (flat_toComplex _ _ _ _).V
  case string =>
   cases d
   case slice e => exact R_sliceStr e hx1
   all_goals first | exact R_stuck | exact R_unsup rfl | exact R_ptrConv s t hx1
  all_goals cases d
  all_goals first | exact R_stuck | exact R_unsup rfl | exact R_ptrConv s t hx1
 case string b =>
  cases c
  case string => exact R_pure (.string _)
  case slice e =>
   refine R_bind (R_underlying e) fun μ c c' l3 e => ?_
   subst e
   split
   ·exact R_strBytes _ _
   ·exact R_strRunes _ _
   ·exact R_stuck
  all_goals cases d
  all_goals first | exact R_stuck | exact R_unsup rfl | exact R_ptrConv s t hx1
 case slice a a' n m ha =>
  cases c
  case string =>
   cases d
   case slice e => exact R_sliceStr e hx1
   all_goals first | exact R_stuck | exact R_unsup rfl | exact R_ptrConv s t hx1
  case slice e =>
   cases d
   case slice e => simp at ho
   all_goals first | exact R_stuck | exact R_unsup rfl | exact R_ptrConv s t hx1
  all_goals cases d
  all_goals first | exact R_stuck | exact R_unsup rfl | exact R_ptrConv s t hx1
 all_goals
  cases c
  case string =>
   cases d
   case slice e => exact R_sliceStr e hx1
   all_goals first | exact R_stuck | exact R_unsup rfl | exact R_ptrConv s t hx1
  all_goals cases d
  all_goals first | exact R_stuck | exact R_unsup rfl | exact R_ptrConv s t hx1
end
end Go.Pr
namespace Go.Pr
open Go
section
variable {P : Program} {α β γ δ : Type} {A : Rn → α → β → Prop} {C : Rn → γ → δ → Prop} {ρ : Rn}
def FdR (ρ : Rn) (x y : Option (Nat × Value)) : Prop := (x = none ∧ y = none) ∨ ∃ i v v', x = some (i, v) ∧ y = some (i, v') ∧ VR ρ v v'
theorem sameNow_R (d : TypeDesc) {x y x' y' : Value} (hx : VR ρ x x') (hy : VR ρ y y') : Instr.sameNow d x' y' = Instr.sameNow d x y := by
 cases hx <;> cases hy <;> first | rfl | (cases d <;> rfl)
theorem findNow_R (d : TypeDesc) {k k' : Value} (hk : VR ρ k k') : ∀ {es es' : List MapEntry} (i : Nat), EsR ρ es es' → (Instr.findNow d k es i = none ∧ Instr.findNow d k' es' i = none) ∨ ∃ r r', Instr.findNow d k es i = some r ∧ Instr.findNow d k' es' i = some r' ∧ FdR ρ r r'
 | _, _, i, .nil => .inr ⟨none, none, rfl, rfl, .inl ⟨rfl, rfl⟩⟩
 | _, _, i, .cons (d := e) (d' := e') (l := l) (l' := l') x y => by
  unfold Instr.findNow
  rw [sameNow_R d hk x.key]
  split
  ·exact .inr ⟨_, _, rfl, rfl, .inr ⟨i, _, _, rfl, rfl, x.val⟩⟩
  ·exact findNow_R d hk (i + 1) y
  ·exact .inl ⟨rfl, rfl⟩
theorem R_findAsking (hP : PF P) (t : TypeId) {k k' : Value} : ∀ {es es' : List MapEntry} {ρ : Rn} (i : Nat), KF P ρ → VR ρ k k' → EsR ρ es es' → SemR P FdR ρ (Instr.findAsking t k es i) (Instr.findAsking t k' es' i)
 | _, _, _, i, _, _, .nil => R_pure (.inl ⟨rfl, rfl⟩)
 | _, _, ρ, i, hK, hk, .cons x y => by
  unfold Instr.findAsking
  refine R_bind (R_equalIn hP _ t hK hk x.key) fun σ b b' l e => ?_
  subst e
  exact R_ifB rfl (R_pure (.inr ⟨i, _, _, rfl, rfl, x.val.mono l⟩)) (R_findAsking hP t (i + 1) (hK.mono l) (hk.mono l) (y.mono l))
theorem R_findKey (hP : PF P) (hK : KF P ρ) (t : TypeId) {k k' : Value} (hk : VR ρ k k') {es es' : List MapEntry} (h : EsR ρ es es') : SemR P FdR ρ (Instr.findKey t k es) (Instr.findKey t k' es') := by
 unfold Instr.findKey
 refine R_bind (R_underlying t) fun σ d d' l e => ?_
 subst e
 rcases findNow_R d (hk.mono l) 0 (h.mono l) with ⟨h1, h2⟩ | ⟨r, r', h1, h2, h3⟩
 ·rw [h1, h2]
  exact R_findAsking hP t 0 (hK.mono l) (hk.mono l) (h.mono l)
 ·rw [h1, h2]
  exact R_pure h3
def mapOk (P : Program) (t : TypeId) : Bool := match P.underlying t with
 | some (.map k _) => match P.underlying k with
  | some .string => true
  | _ => false
 | _ => true
theorem R_checkKey {t : TypeId} (ht : P.underlying t = some .string) (b : Bool) (n : Nat) (x x' : Value) : SemR P (TrR Unit Unit) ρ (Instr.checkKey b (n + 1) t x) (Instr.checkKey b (n + 1) t x') := by
 unfold Instr.checkKey
 refine R_bind (R_underlying' t) fun σ d d' l e => ?_
 obtain ⟨rfl, h⟩ := e
 rw [ht] at h
 cases h
 exact R_pure trivial
theorem EsR.length : ∀ {es es' : List MapEntry}, EsR ρ es es' → es'.length = es.length
 | _, _, .nil => rfl
 | _, _, .cons _ y => by simp [y.length]
theorem R_lookup (hP : PF P) (hK : KF P ρ) (t : TypeId) (ho : mapOk P t = true) {x x' i i' : Value} (hx : VR ρ x x') (hi : VR ρ i i') (b : Bool) : SemR P VRr ρ (Instr.lookup t x i b) (Instr.lookup t x' i' b) := by
 unfold Instr.lookup
 refine R_bind (R_underlying' t) fun σ d d' l e => ?_
 obtain ⟨rfl, h⟩ := e
 cases d
 case map key elem =>
  unfold mapOk at ho
  rw [h] at ho
  have hk : P.underlying key = some .string := by
   dsimp only at ho
   split at ho
   ·assumption
   ·cases ho
  have rest : ∀ (τ : Rn), σ.Le τ → ∀ es es' : Array MapEntry, EsR τ es.toList es'.toList → SemR P VRr τ (do
    Instr.checkKey es.isEmpty 10000 key i
    let (v, ok) ← match ← Instr.findKey key i es.toList with
     | some (_, v) => Pure.pure (v, true)
     | none => Pure.pure (← zeroValue elem, false)
    Pure.pure (if b then .tuple #[v, .bool ok] else v)) (do
    Instr.checkKey es'.isEmpty 10000 key i'
    let (v, ok) ← match ← Instr.findKey key i' es'.toList with
     | some (_, v) => Pure.pure (v, true)
     | none => Pure.pure (← zeroValue elem, false)
    Pure.pure (if b then .tuple #[v, .bool ok] else v)) := fun τ l2 es es' he => by
   have e1 : es'.isEmpty = es.isEmpty := by
    have := he.length
    simp [Array.isEmpty, ← Array.length_toList, this]
   rw [e1]
   refine R_bind (R_checkKey hk _ 9999 i i') fun μ _ _ l3 _ => ?_
   have l4 := (l.trans l2).trans l3
   refine R_bind (R_findKey hP (hK.mono l4) key (hi.mono l4) (he.mono l3)) fun ν r r' l5 hr => ?_
   have fin : ∀ (ξ : Rn) (v v' : Value) (q : Bool), VR ξ v v' → SemR P VRr ξ (Pure.pure (if b then .tuple #[v, .bool q] else v)) (Pure.pure (if b then .tuple #[v', .bool q] else v')) := fun ξ v v' q hv => by
    refine R_pure ?_
    split
    ·exact .tuple (.cons hv (.cons (.bool _) .nil))
    ·exact hv
   rcases hr with ⟨rfl, rfl⟩ | ⟨j, v, v', rfl, rfl, hv⟩
   ·exact R_bind (R_zeroValue hP elem) fun ξ v v' _ hv => fin ξ v v' false hv
   ·exact fin ν v v' true hv
  replace hx := hx.mono l
  cases hx
  case map0 => exact rest σ (Rn.Le.refl _) #[] #[] .nil
  case map r r' hr =>
   refine R_bind (R_getObj (.inr hr)) fun τ o o' l2 ho => ?_
   cases ho
   case map c hes => exact rest τ l2 _ _ hes
   all_goals exact R_stuck
  all_goals exact R_stuck
 all_goals exact R_stuck
end
end Go.Pr
namespace Go.Pr
open Go
section
variable {P : Program} {α β γ δ : Type} {A : Rn → α → β → Prop} {C : Rn → γ → δ → Prop} {ρ : Rn}
theorem all_zip {p : Value → Value → Bool} {p' : Value → Value → Bool} (h : ∀ {x y x' y' : Value}, VR ρ x x' → VR ρ y y' → p' x' y' = p x y) : ∀ {l l' m m' : List Value}, LR ρ l l' → LR ρ m m' → ((l'.zip m').all fun (x, y) => p' x y) = ((l.zip m).all fun (x, y) => p x y)
 | _, _, _, _, .nil, _ => by simp
 | _, _, _, _, .cons _ _, .nil => by simp
 | _, _, _, _, .cons x y, .cons z w => by simp [h x z, all_zip h y w]
theorem sameBits_R : ∀ (n : Nat) {x y x' y' : Value}, VR ρ x x' → VR ρ y y' → Instr.sameBits n x' y' = Instr.sameBits n x y
 | n, x, y, x', y', hx, hy => by
  cases hx
  case ptr a a' ha =>
   cases hy
   case ptr b b' hb =>
    have := addrEq ha hb
    cases n <;> exact this.symm
   all_goals cases n <;> rfl
  case iface t hv =>
   cases hy
   case iface u hw =>
    cases n with
    | zero => rfl
    | succ n =>
     unfold Instr.sameBits
     rw [sameBits_R n hv hw]
   all_goals cases n <;> rfl
  case agg ha =>
   cases hy
   case agg hb =>
    cases n with
    | zero => rfl
    | succ n =>
     unfold Instr.sameBits
     rw [AR.size ha, AR.size hb, all_zip (p := Instr.sameBits n) (p' := Instr.sameBits n) (fun h k => sameBits_R n h k) ha hb]
   all_goals cases n <;> rfl
  all_goals (cases hy <;> cases n <;> rfl)
theorem EsR.modify {f f' : MapEntry → MapEntry} (hf : ∀ e e', EnR ρ e e' → EnR ρ (f e) (f' e')) : ∀ {es es' : List MapEntry} (i : Nat), EsR ρ es es' → EsR ρ (es.modify i f) (es'.modify i f')
 | _, _, i, .nil => by simpa using EsR.nil
 | _, _, 0, .cons x y => by simpa using EsR.cons (hf _ _ x) y
 | _, _, i + 1, .cons x y => by simpa using EsR.cons x (EsR.modify hf i y)
theorem EsR.snoc {e e' : MapEntry} (h : EnR ρ e e') : ∀ {es es' : List MapEntry}, EsR ρ es es' → EsR ρ (es ++ [e]) (es' ++ [e'])
 | _, _, .nil => .cons h .nil
 | _, _, .cons x y => .cons x (y.snoc h)
theorem EsR.get : ∀ {es es' : List MapEntry}, EsR ρ es es' → ∀ i : Nat, (es[i]? = none ∧ es'[i]? = none) ∨ ∃ v v', es[i]? = some v ∧ es'[i]? = some v' ∧ EnR ρ v v'
 | _, _, .nil, i => .inl ⟨by simp, by simp⟩
 | _, _, .cons x y, 0 => .inr ⟨_, _, rfl, rfl, x⟩
 | _, _, .cons x y, i + 1 => by simpa using y.get i
theorem R_setObj {r r' : Nat} (h : ρ.b r r') {o o' : Obj} (ho : ObjR ρ o o') : SemR P (TrR Unit Unit) ρ (setObj r o) (setObj r' o') := .setObj h ho (.pure trivial)
theorem R_mapUpdate (hP : PF P) (hK : KF P ρ) (t : TypeId) (ho : mapOk P t = true) {m m' k k' x x' : Value} (hm : VR ρ m m') (hk : VR ρ k k') (hx : VR ρ x x') : SemR P (TrR Unit Unit) ρ (Instr.mapUpdate t m k x) (Instr.mapUpdate t m' k' x') := by
 unfold Instr.mapUpdate
 refine R_bind (R_underlying' t) fun σ d d' l e => ?_
 obtain ⟨rfl, h⟩ := e
 cases d
 case map key elem =>
  unfold mapOk at ho
  rw [h] at ho
  have hks : P.underlying key = some .string := by
   dsimp only at ho
   split at ho
   ·assumption
   ·cases ho
  replace hm := hm.mono l
  cases hm
  case map0 => exact R_runtimePanic hP (hK.mono l) _
  case map r r' hr =>
   refine R_bind (R_getObj (.inr hr)) fun τ o o' l2 ho => ?_
   cases ho
   case map es es' c hes =>
    refine R_bind (R_checkKey hks _ 9999 k k') fun μ _ _ l3 _ => ?_
    have l4 := (l.trans l2).trans l3
    refine R_bind (R_findKey hP (hK.mono l4) key (hk.mono l4) (hes.mono l3)) fun ν q q' l5 hq => ?_
    have l6 := l4.trans l5
    have hes' := (hes.mono l3).mono l5
    have hr' := l5.r (l3.r (l2.r hr))
    rcases hq with ⟨rfl, rfl⟩ | ⟨j, v, v', rfl, rfl, hv⟩
    ·refine R_setObj (.inr hr') (.map _ ?_)
     rw [Array.toList_push, Array.toList_push]
     exact EsR.snoc (e := { key := k, val := x, born := c }) (e' := { key := k', val := x', born := c }) ⟨hk.mono l6, hx.mono l6, rfl⟩ hes'
    ·have hold : VR ν (((es[j]?).map (·.key)).getD k) (((es'[j]?).map (·.key)).getD k') := by
      have := hes'.get j
      rw [Array.getElem?_toList, Array.getElem?_toList] at this
      rcases this with ⟨h1, h2⟩ | ⟨u, u', h1, h2, h3⟩
      ·rw [h1, h2]; exact hk.mono l6
      ·rw [h1, h2]; exact h3.key
     dsimp only
     refine R_bind (A := VRr) ?_ fun ξ u u' l7 hu => ?_
     ·unfold Instr.keyThatStays
      refine R_ifB (sameBits_R _ hold (hk.mono l6)).symm (R_pure (hk.mono l6)) ?_
      refine R_bind (R_choose _) fun ξ n n' l7 e => ?_
      subst e
      refine R_pure ?_
      split
      ·exact (hk.mono l6).mono l7
      ·exact hold.mono l7
     ·refine R_setObj (.inr (l7.r hr')) (.map _ ?_)
      rw [Array.toList_modify, Array.toList_modify]
      exact EsR.modify (f := fun e => { e with key := u, val := x }) (f' := fun e => { e with key := u', val := x' }) (fun e e' h => ⟨hu, hx.mono (l6.trans l7), h.born⟩) j (hes'.mono l7)
   all_goals exact R_stuck
  all_goals exact R_stuck
 all_goals exact R_stuck
def strOk (P : Program) (t : TypeId) : Bool := match P.underlying t with
 | some .string => true
 | _ => false
theorem R_range (t : TypeId) (ho : strOk P t = true) {x x' : Value} (hx : VR ρ x x') : SemR P VRr ρ (Instr.range t x) (Instr.range t x') := by
 unfold Instr.range
 refine R_bind (R_underlying' t) fun σ d d' l e => ?_
 obtain ⟨rfl, h⟩ := e
 unfold strOk at ho
 rw [h] at ho
 cases d
 case string =>
  replace hx := hx.mono l
  cases hx
  case string s => exact R_bind (A := ObjR) (R_pure (.iter _ _)) fun _ _ _ _ ho => R_bind (R_new ho) fun _ _ _ _ k => R_pure (.ptr ⟨.inr k, rfl, rfl⟩)
  all_goals exact R_stuck
 all_goals cases ho
theorem R_next (t : TypeId) {x x' : Value} (hx : VR ρ x x') : SemR P VRr ρ (Instr.next x true t) (Instr.next x' true t) := by
 unfold Instr.next
 cases hx
 case ptr a a' ha =>
  obtain ⟨a1, a2, a3⟩ := a
  obtain ⟨b1, b2, b3⟩ := a'
  obtain ⟨hb, h2, h3⟩ := ha
  dsimp only at hb h2 h3
  subst h2 h3
  dsimp only
  cases b2 with
  | succ n => exact R_stuck
  | zero =>
   refine R_bind (R_getObj hb) fun σ o o' l ho => ?_
   cases ho
   case iter s p =>
    refine R_if Iff.rfl (fun _ => ?_) fun _ => R_pure (.tuple (.cons (.bool _) .nil))
    exact R_bind (R_setObj (l.b hb) (.iter _ _)) fun _ _ _ _ _ => R_pure (.tuple (.cons (.bool _) (.cons (.int _ _) (.cons (.int _ _) .nil))))
   all_goals exact R_stuck
 all_goals exact R_stuck
theorem R_typeAssert (hP : PF P) (hK : KF P ρ) {x x' : Value} (hx : VR ρ x x') (s t : TypeId) (b : Bool) : SemR P VRr ρ (Instr.typeAssert x s t b) (Instr.typeAssert x' s t b) := by
 unfold Instr.typeAssert
 dsimp only
 refine R_bind (R_underlying t) fun σ d d' l e => ?_
 subst e
 replace hx := hx.mono l
 have hx1 := hx
 have hK' := hK.mono l
 have hold : ∀ (τ : Rn) {v v' : Value}, VR τ v v' → SemR P VRr τ (Pure.pure (if b then .tuple #[v, .bool true] else v)) (Pure.pure (if b then .tuple #[v', .bool true] else v')) := fun τ v v' hv => by
  refine R_pure ?_
  split
  ·exact .tuple (.cons hv (.cons (.bool _) .nil))
  ·exact hv
 have fail : ∀ (τ : Rn), σ.Le τ → ∀ (p q : Option TypeId) (m : String), SemR P VRr τ (do
   if b then Pure.pure (.tuple #[← zeroValue t, .bool false]) else runtimePanic (.typeAssertion p q t m)) (do
   if b then Pure.pure (.tuple #[← zeroValue t, .bool false]) else runtimePanic (.typeAssertion p q t m)) := fun τ l2 p q m => by
  refine R_ifB rfl ?_ (R_runtimePanic hP (hK'.mono l2) _)
  exact R_bind (R_zeroValue hP t) fun _ _ _ _ hv => R_pure (.tuple (.cons hv (.cons (.bool _) .nil)))
 cases d
 case interface want =>
  cases hx
  case nilIface => exact fail σ (Rn.Le.refl _) _ _ _
  case iface ty hv =>
   refine R_bind (R_typeInfo _) fun τ i i' l2 e => ?_
   obtain ⟨rfl, _⟩ := e
   split
   ·exact hold τ (hx1.mono l2)
   ·exact fail τ l2 _ _ _
  all_goals exact R_stuck
 all_goals
  cases hx
  case nilIface => exact fail σ (Rn.Le.refl _) _ _ _
  case iface ty hv => exact R_if Iff.rfl (fun _ => hold σ hv) fun _ => fail σ (Rn.Le.refl _) _ _ _
  all_goals exact R_stuck
theorem R_panicOp (hP : PF P) (hK : KF P ρ) {x x' : Value} (hx : VR ρ x x') : SemR P VRr ρ (Instr.panic x) (Instr.panic x') := by
 have hx1 := hx
 cases hx
 case nilIface =>
  unfold Instr.panic
  refine R_bind (A := EqR Int) ?_ fun σ n n' l e => ?_
  ·unfold Instr.panicnil
   refine R_bind (A := EqR SysRet) (.env fun r => .pure rfl) fun σ r r' l e => ?_
   subst e
   cases r
   case strings env =>
    dsimp only
    refine R_bind R_prog fun τ p p' l2 e => ?_
    rw [e.1, e.2]
    exact R_pure rfl
   all_goals exact R_stuck
  ·have e : n = n' := e
   subst e
   exact R_ifB rfl (R_panic .nilIface) (R_runtimePanic hP (hK.mono l) _)
 case iface t hv => exact R_panic (.iface t hv)
 all_goals exact R_stuck
end
end Go.Pr
namespace Go.Pr
open Go
section
variable {P : Program} {α β γ δ : Type} {A : Rn → α → β → Prop} {C : Rn → γ → δ → Prop} {ρ : Rn}
theorem R_lenOf {x x' : Value} (hx : VR ρ x x') : SemR P (EqR Nat) ρ (Builtin.lenOf x) (Builtin.lenOf x') := by
 cases hx <;> first | exact R_pure rfl | exact R_stuck
theorem R_firstCells (s n : Nat) {x x' : Value} (hx : VR ρ x x') : SemR P AR ρ (Builtin.firstCells s n x) (Builtin.firstCells s n x') := by
 cases hx
 case slice0 => exact R_pure .nil
 case slice a a' m c ha => exact R_loadCells _ ha
 case string b =>
  refine R_pure (AR.plain fun v hv => ?_)
  simp only [Array.toList_map, List.mem_map] at hv
  obtain ⟨b, _, rfl⟩ := hv
  exact pl_i _ _
 all_goals exact R_stuck
theorem AR.zero {z z' : Array Value} (h : AR ρ z z') (n : Nat) : AR ρ (Builtin.zeroCells z n) (Builtin.zeroCells z' n) := by
 unfold Builtin.zeroCells
 rw [h.size]
 have := AR.range h (n * z.size)
 rw [h.size] at this
 exact this
theorem pl_int (n : Int) : VR ρ (goInt n) (goInt n) := .int _ _
theorem R_len (ts : Array TypeId) (t : TypeId) {xs xs' : Array Value} (hx : AR ρ xs xs') : SemR P VRr ρ (Builtin.len_ ts t xs) (Builtin.len_ ts t xs') := by
 unfold Builtin.len_
 cases ts[0]? with
 | none => exact R_stuck
 | some u =>
  rcases hx.get 0 with ⟨h1, h2⟩ | ⟨v, v', h1, h2, hv⟩
  ·rw [h1, h2]; exact R_stuck
  ·rw [h1, h2]
   dsimp only
   refine R_bind (R_underlying u) fun σ d d' l e => ?_
   subst e
   replace hv := hv.mono l
   cases d
   case string => cases hv <;> first | exact R_stuck | exact R_pure (pl_int _)
   case array n e => exact R_pure (pl_int _)
   case pointer arr =>
    refine R_bind (R_underlying arr) fun τ d d' l2 e => ?_
    subst e
    cases d <;> first | exact R_stuck | exact R_pure (pl_int _)
   case slice e => cases hv <;> first | exact R_stuck | exact R_pure (pl_int _)
   case map k e =>
    cases hv
    case map0 => exact R_pure (pl_int _)
    case map r r' hr =>
     refine R_bind (R_getObj (.inr hr)) fun τ o o' l2 ho => ?_
     cases ho
     case map es es' c h =>
      have e : es'.size = es.size := by simpa using h.length
      dsimp only
      rw [e]
      exact R_pure (pl_int _)
     all_goals exact R_stuck
    all_goals exact R_stuck
   case chan d e => cases hv <;> first | exact R_stuck | exact R_pure (pl_int _)
   all_goals exact R_stuck
theorem R_cap (ts : Array TypeId) (t : TypeId) {xs xs' : Array Value} (hx : AR ρ xs xs') : SemR P VRr ρ (Builtin.cap_ ts t xs) (Builtin.cap_ ts t xs') := by
 unfold Builtin.cap_
 cases ts[0]? with
 | none => exact R_stuck
 | some u =>
  rcases hx.get 0 with ⟨h1, h2⟩ | ⟨v, v', h1, h2, hv⟩
  ·rw [h1, h2]; exact R_stuck
  ·rw [h1, h2]
   dsimp only
   refine R_bind (R_underlying u) fun σ d d' l e => ?_
   subst e
   replace hv := hv.mono l
   cases d
   case array n e => exact R_pure (pl_int _)
   case pointer arr =>
    refine R_bind (R_underlying arr) fun τ d d' l2 e => ?_
    subst e
    cases d <;> first | exact R_stuck | exact R_pure (pl_int _)
   case slice e => cases hv <;> first | exact R_stuck | exact R_pure (pl_int _)
   case chan d e => cases hv <;> first | exact R_stuck | exact R_pure (pl_int _)
   all_goals exact R_stuck
theorem R_copy (ts : Array TypeId) (t : TypeId) {xs xs' : Array Value} (hx : AR ρ xs xs') : SemR P VRr ρ (Builtin.copy_ ts t xs) (Builtin.copy_ ts t xs') := by
 unfold Builtin.copy_
 cases ts[0]? with
 | none => exact R_stuck
 | some u =>
  rcases hx.get 0 with ⟨h1, h2⟩ | ⟨v, v', h1, h2, hv⟩
  ·rw [h1, h2]; exact R_stuck
  ·rcases hx.get 1 with ⟨h3, h4⟩ | ⟨y, y', h3, h4, hy⟩
   ·rw [h1, h2, h3, h4]; exact R_stuck
   ·rw [h1, h2, h3, h4]
    dsimp only
    refine R_bind (R_underlying u) fun σ d d' l e => ?_
    subst e
    replace hv := hv.mono l
    cases d
    case slice e =>
     have key : ∀ (b b' : Option Addr) (n : Nat), ((b = none ∧ b' = none) ∨ ∃ a a', b = some a ∧ b' = some a' ∧ AddrR σ a a') → SemR P VRr σ (do
       let n := Nat.min (← Builtin.lenOf y) n
       let cells ← Builtin.firstCells (← sizeOf e) n y
       if let some a := b then storeCells a cells.toList
       Pure.pure (goInt n)) (do
       let n := Nat.min (← Builtin.lenOf y') n
       let cells ← Builtin.firstCells (← sizeOf e) n y'
       if let some a := b' then storeCells a cells.toList
       Pure.pure (goInt n)) := fun b b' n hb => by
      refine R_bind (R_lenOf (hy.mono l)) fun τ m m' l2 e => ?_
      subst e
      dsimp only
      refine R_bind (R_sizeOf _) fun μ s s' l3 e => ?_
      subst e
      refine R_bind (R_firstCells s _ (hy.mono ((l.trans l2).trans l3))) fun ν c c' l4 hc => ?_
      rcases hb with ⟨rfl, rfl⟩ | ⟨a, a', rfl, rfl, ha⟩
      ·exact R_pure (pl_int _)
      ·exact R_bind (R_storeCells 0 (((ha.mono l2).mono l3).mono l4) hc) fun _ _ _ _ _ => R_pure (pl_int _)
     cases hv
     case slice0 => exact key _ _ _ (.inl ⟨rfl, rfl⟩)
     case slice a a' n c ha => exact key _ _ _ (.inr ⟨a, a', rfl, rfl, ha⟩)
     all_goals exact R_stuck
    all_goals exact R_stuck
theorem R_clear (hP : PF P) (ts : Array TypeId) (t : TypeId) {xs xs' : Array Value} (hx : AR ρ xs xs') : SemR P VRr ρ (Builtin.clear_ ts t xs) (Builtin.clear_ ts t xs') := by
 unfold Builtin.clear_
 have r0 : ∀ σ : Rn, VR σ (.tuple #[]) (.tuple #[]) := fun _ => .tuple .nil
 cases ts[0]? with
 | none => exact R_stuck
 | some u =>
  rcases hx.get 0 with ⟨h1, h2⟩ | ⟨v, v', h1, h2, hv⟩
  ·rw [h1, h2]; exact R_stuck
  ·rw [h1, h2]
   dsimp only
   refine R_bind (R_underlying u) fun σ d d' l e => ?_
   subst e
   replace hv := hv.mono l
   cases hv
   case map0 => exact R_pure (r0 _)
   case slice0 => exact R_pure (r0 _)
   case map r r' hr =>
    refine R_bind (R_getObj (.inr hr)) fun τ o o' l2 ho => ?_
    cases ho
    case map es es' c h => exact R_bind (R_setObj (.inr (l2.r hr)) (.map _ .nil)) fun _ _ _ _ _ => R_pure (r0 _)
    all_goals exact R_stuck
   case slice a a' n c ha =>
    cases n with
    | zero => exact R_pure (r0 _)
    | succ n =>
     cases d
     case slice e =>
      refine R_bind (R_zeroValue hP e) fun τ z z' l2 hz => ?_
      exact R_bind (R_storeCells 0 (ha.mono l2) (AR.zero hz.cells (n + 1))) fun _ _ _ _ _ => R_pure (r0 _)
     all_goals exact R_stuck
   all_goals exact R_stuck
end
end Go.Pr
namespace Go.Pr
open Go
section
variable {P : Program} {α β γ δ : Type} {A : Rn → α → β → Prop} {C : Rn → γ → δ → Prop} {ρ : Rn}
theorem R_max2 {x y x' y' : Value} (hx : VR ρ x x') (hy : VR ρ y y') : SemR P VRr ρ (Builtin.max2 x y) (Builtin.max2 x' y') := by
 cases hx
 case int k a => cases hy <;> first | exact R_stuck | exact R_unsup rfl | exact R_pure (.int _ _)
 case float k a =>
  cases hy
  case float k' b =>
   have hf : Flat Pl (Builtin.max2 (.float k a) (.float k' b)) := by
    show Flat Pl (match k.format.order a b with
     | none => do Pure.pure (.float k (← Go.choose (.nanMinMax k true a b)))
     | some .lt => Pure.pure (.float k b)
     | some .gt => Pure.pure (.float k a)
     | some .eq => Pure.pure (.float k (if (k.decode a).neg then b else a)))
    split
    ·exact .bind (.ask _) fun _ _ => .ret (pl_f _ _)
    all_goals exact .ret (pl_f _ _)
   exact hf.V
  all_goals first | exact R_stuck | exact R_unsup rfl
 case string a =>
  cases hy
  case string b =>
   refine R_bind (R_stringOp _ _ _) fun σ v v' l hv => ?_
   refine R_bind (R_asBool hv) fun τ q q' l2 e => ?_
   subst e
   refine R_pure ?_
   split <;> exact .string _
  all_goals first | exact R_stuck | exact R_unsup rfl
 all_goals (cases hy <;> first | exact R_stuck | exact R_unsup rfl)
theorem R_foldM {f : Value → Value → Sem Value} (hf : ∀ {σ : Rn} {x y x' y' : Value}, VR σ x x' → VR σ y y' → SemR P VRr σ (f x y) (f x' y')) : ∀ {l l' : List Value} {ρ : Rn} {v v' : Value}, VR ρ v v' → LR ρ l l' → SemR P VRr ρ (l.foldlM f v) (l'.foldlM f v')
 | _, _, _, _, _, h, .nil => R_pure h
 | _, _, _, _, _, h, .cons x y => by
  rw [List.foldlM_cons, List.foldlM_cons]
  exact R_bind (hf h x) fun σ u u' l hu => R_foldM hf hu (y.mono l)
theorem R_max (ts : Array TypeId) (t : TypeId) {xs xs' : Array Value} (hx : AR ρ xs xs') : SemR P VRr ρ (Builtin.max_ ts t xs) (Builtin.max_ ts t xs') := by
 unfold Builtin.max_
 unfold AR at hx
 revert hx
 generalize xs.toList = l
 generalize xs'.toList = l'
 intro hx
 cases hx with
 | nil => exact R_stuck
 | cons x y => exact R_foldM (fun h k => R_max2 h k) x y
theorem R_loadBytes : ∀ (n : Nat) {ρ : Rn} {a a' : Addr} (acc : ByteArray), AddrR ρ a a' → SemR P (EqR ByteArray) ρ (loadBytes a acc n) (loadBytes a' acc n)
 | 0, _, _, _, _, _ => R_pure rfl
 | n + 1, ρ, a, a', acc, ha => by
  unfold loadBytes
  refine R_bind (R_load ha) fun σ v v' l hv => ?_
  cases hv
  case int k m => cases k <;> first | exact R_stuck | exact R_loadBytes n _ ((ha.mono l).add 1)
  all_goals exact R_stuck
def strTypeOk (P : Program) (ts : Array TypeId) : Bool := match ts[0]? with
 | some pt => match P.underlying pt with
  | some (.pointer u) => match P.underlying u with
   | some (.int .u8) => true
   | _ => false
  | _ => true
 | none => true
theorem R_elemOf' (t : TypeId) : SemR P (fun _ a b => a = b ∧ P.underlying t = some (.pointer a)) ρ (elemOf t) (elemOf t) := by
 unfold Go.elemOf
 refine R_bind (R_underlying' t) fun σ d d' l e => ?_
 obtain ⟨rfl, h⟩ := e
 cases d
 case pointer e => exact R_pure ⟨rfl, h⟩
 all_goals exact R_stuck
theorem R_varsByte {a a' : Addr} (h : AddrR ρ a a') {u : TypeId} (hu : P.underlying u = some (.int .u8)) {n : Nat} (hn : 0 < n) : SemR P (fun _ b b' => b = b' ∧ (b = true → ρ.r a.block a'.block)) ρ (variablesAt a u n) (variablesAt a' u n) := by
 unfold variablesAt
 refine R_bind R_prog fun τ p p' l2 e => ?_
 rw [e.1, e.2]
 refine R_bind (A := fun _ s s' => s = s' ∧ (τ.K a.block → ∃ t n, s = some (t, n) ∧ bare P t)) (.shape (l2.b h.b) fun s hs => .pure ⟨rfl, hs⟩) fun μ s s' l3 e => ?_
 obtain ⟨rfl, hs⟩ := e
 rw [h.off]
 rcases h.b with ⟨hk, _⟩ | hr
 ·obtain ⟨t, m, rfl, hb⟩ := hs (by rw [l2.K]; exact hk)
  exact R_pure ⟨rfl, fun k => by rw [hb _ _ _ u hn hu] at k; cases k⟩
 ·split <;> exact R_pure ⟨rfl, fun _ => hr⟩
theorem R_unsafeString (hP : PF P) (hK : KF P ρ) (ts : Array TypeId) (t : TypeId) (ho : strTypeOk P ts = true) {xs xs' : Array Value} (hx : AR ρ xs xs') : SemR P VRr ρ (Builtin.unsafeString_ ts t xs) (Builtin.unsafeString_ ts t xs') := by
 unfold Builtin.unsafeString_
 obtain ⟨xs⟩ := xs
 obtain ⟨xs'⟩ := xs'
 have hx : LR ρ xs xs' := hx
 cases hx with
 | nil => exact R_stuck
 | cons x y =>
  cases y with
  | nil => cases x <;> exact R_stuck
  | cons y z =>
   cases z with
   | cons _ _ => cases x <;> exact R_stuck
   | nil =>
    unfold strTypeOk at ho
    cases x
    case ptr0 =>
     refine R_bind (R_asInt y) fun σ n n' l e => ?_
     subst e
     cases hts : ts[0]? with
     | none => exact R_stuck
     | some pt =>
      dsimp only
      refine R_if Iff.rfl (fun _ => R_dead (R_runtimePanic hP (hK.mono l) _)) fun _ => ?_
      refine R_if Iff.rfl (fun _ => R_dead (R_unsup rfl)) fun _ => ?_
      exact R_if Iff.rfl (fun _ => R_pure (.string _)) fun _ => R_runtimePanic hP (hK.mono l) _
    case ptr a a' ha =>
     refine R_bind (R_asInt y) fun σ n n' l e => ?_
     subst e
     cases hts : ts[0]? with
     | none => exact R_stuck
     | some pt =>
      rw [hts] at ho
      dsimp only at ho ⊢
      refine R_if Iff.rfl (fun _ => R_dead (R_runtimePanic hP (hK.mono l) _)) fun h0 => ?_
      refine R_if Iff.rfl (fun _ => R_dead (R_unsup rfl)) fun _ => ?_
      refine R_if Iff.rfl (fun _ => R_pure (.string _)) fun h1 => ?_
      refine R_bind (R_elemOf' pt) fun τ u u' l2 e => ?_
      obtain ⟨rfl, hu⟩ := e
      rw [hu] at ho
      have hu8 : P.underlying u = some (.int .u8) := by
       dsimp only at ho
       split at ho
       ·assumption
       ·cases ho
      refine R_bind (R_varsByte ((ha.mono l).mono l2) hu8 (by omega)) fun μ q q' l3 e => ?_
      obtain ⟨rfl, hr⟩ := e
      cases q with
      | false => exact R_unsup rfl
      | true =>
       have ha3 := ((ha.mono l).mono l2).mono l3
       refine R_bind (R_loadBytes _ _ ha3) fun ν s s' l4 e => ?_
       subst e
       exact R_bind (R_freeze (ha3.mono l4) (l4.r (l3.r (hr rfl))) _) fun _ _ _ _ _ => R_pure (.string _)
    all_goals exact R_stuck
theorem R_sliceData (ts : Array TypeId) (t : TypeId) {xs xs' : Array Value} (hx : AR ρ xs xs') : SemR P VRr ρ (Builtin.unsafeSliceData_ ts t xs) (Builtin.unsafeSliceData_ ts t xs') := by
 unfold Builtin.unsafeSliceData_
 obtain ⟨xs⟩ := xs
 obtain ⟨xs'⟩ := xs'
 have hx : LR ρ xs xs' := hx
 cases hx with
 | nil => exact R_stuck
 | cons x y =>
  cases y with
  | nil =>
   cases x
   case slice0 => exact R_pure .ptr0
   case slice a a' n c ha =>
    refine R_if Iff.rfl (fun _ => R_pure (.ptr ha)) fun _ => ?_
    refine R_bind (R_viewAt ha.b) fun σ v v' l e => ?_
    refine R_ifB ?_ (R_pure (.ptr (ha.mono l))) ?_
    ·rcases e with ⟨rfl, rfl⟩ | ⟨b, b', u, rfl, rfl, k⟩ <;> rfl
    ·refine R_bind (R_elemOf t) fun τ u u' l2 e => ?_
     subst e
     exact R_bind (R_new (.view u ((ha.mono l).mono l2))) fun _ _ _ _ k => R_pure (.ptr ⟨.inr k, rfl, rfl⟩)
   all_goals exact R_stuck
  | cons _ _ =>
   cases x <;> exact R_stuck
end
end Go.Pr
namespace Go.Pr
open Go
section
variable {P : Program} {α β γ δ : Type} {A : Rn → α → β → Prop} {C : Rn → γ → δ → Prop} {ρ : Rn}
theorem sk_holds (a : Addr) (n : Nat) : Sk (fun _ => True) (Builtin.holdsCells a n) := by
 unfold Builtin.holdsCells
 refine .shape fun s => ?_
 cases s <;> exact .pure trivial
theorem sk_mayShare (s l n : Nat) (b : Option Addr) (x : Value) : Sk (fun _ => True) (Builtin.mayShare s l n b x) := by
 unfold Builtin.mayShare
 have jp : ∀ q : Bool, Sk (fun _ => True) (if !q then Pure.pure true else match x with
   | .slice (some c) _ _ => do Pure.pure (!(← Builtin.holdsCells c (n * s)) || b.any (·.block == c.block))
   | _ => Pure.pure false) := fun q => by
  split
  ·exact .pure trivial
  ·split
   ·exact Sk.bind (sk_holds _ _) fun _ _ => .pure trivial
   ·exact .pure trivial
 cases b with
 | none => exact jp true
 | some a => exact Sk.bind (sk_holds _ _) fun q _ => .frozen fun r => jp (q && !r)
theorem R_room (n : Nat) : SemR P (TrR Unit Unit) ρ (askRoom n) (askRoom n) := by
 unfold askRoom
 exact R_if Iff.rfl (fun _ => .room (.pure trivial)) fun _ => R_pure trivial
def appRest (e : TypeId) (base : Option Addr) (sLen sCap size : Nat) (x : Value) (z : Bool) (n : Nat) : Sem Value := do
 let appended : Sem (Array Value) :=
  if !z then Builtin.firstCells size n x
  else if n * size = 0 then Pure.pure #[]
  else do Pure.pure (Builtin.zeroCells (← zeroValue e).cells n)
 let need := sLen + n
 if need ≤ sCap then
  let new ← appended
  if let some a := base then storeCells (a.add (sLen * size)) new.toList
  Pure.pure (.slice base need sCap)
 else
  if (need : Int) > IntKind.i64.max ∧ (z ∨ (← typeInfo e).bytes = 0) then runtimePanic (.error "growslice: len out of range")
  if Builtin.nextslicecap need sCap * (← typeInfo e).bytes > 2 ^ 48 then (if z then runtimePanic (.error "growslice: len out of range") else do
   if !(← Builtin.mayShare size sLen n base x) then mark .noRoom
   unsupported (.resourceLimit "append: a slice or a string whose bytes no memory bears"))
  let newCap ← Go.choose (.appendCap need sCap e)
  askRoom (newCap * (← typeInfo e).bytes)
  let old ← Builtin.firstCells size sLen (.slice base sLen sCap)
  let new ← appended
  let rest := Builtin.zeroCells (← zeroValue e).cells (newCap - need)
  Pure.pure (.slice (some (← newRow e (old ++ new ++ rest))) need newCap)
theorem R_appRest (hP : PF P) (hK : KF P ρ) (e : TypeId) {b b' : Option Addr} (hb : (b = none ∧ b' = none) ∨ ∃ a a', b = some a ∧ b' = some a' ∧ AddrR ρ a a') (sl sc size : Nat) {x x' : Value} (hx : VR ρ x x') (z : Bool) (n : Nat) :
  SemR P VRr ρ (appRest e b sl sc size x z n) (appRest e b' sl sc size x' z n) := by
 unfold appRest
 have ap : ∀ (μ : Rn), ρ.Le μ → SemR P AR μ (if !z then Builtin.firstCells size n x else if n * size = 0 then Pure.pure #[] else do Pure.pure (Builtin.zeroCells (← zeroValue e).cells n)) (if !z then Builtin.firstCells size n x' else if n * size = 0 then Pure.pure #[] else do Pure.pure (Builtin.zeroCells (← zeroValue e).cells n)) := fun μ l => by
  refine R_ifB rfl (R_firstCells _ _ (hx.mono l)) ?_
  refine R_if Iff.rfl (fun _ => R_pure .nil) fun _ => ?_
  exact R_bind (R_zeroValue hP e) fun _ _ _ _ h => R_pure (h.cells.zero n)
 have hs : ∀ (μ : Rn), ρ.Le μ → ∀ n c, VR μ (.slice b n c) (.slice b' n c) := fun μ l n c => by
  rcases hb with ⟨rfl, rfl⟩ | ⟨a, a', rfl, rfl, ha⟩
  ·exact .slice0 n c
  ·exact .slice n c (ha.mono l)
 have grow : ∀ (μ : Rn), ρ.Le μ → SemR P VRr μ (do
   let newCap ← Go.choose (.appendCap (sl + n) sc e)
   askRoom (newCap * (← typeInfo e).bytes)
   let old ← Builtin.firstCells size sl (.slice b sl sc)
   let new ← (if !z then Builtin.firstCells size n x else if n * size = 0 then Pure.pure #[] else do Pure.pure (Builtin.zeroCells (← zeroValue e).cells n))
   let rest := Builtin.zeroCells (← zeroValue e).cells (newCap - (sl + n))
   Pure.pure (.slice (some (← newRow e (old ++ new ++ rest))) (sl + n) newCap)) (do
   let newCap ← Go.choose (.appendCap (sl + n) sc e)
   askRoom (newCap * (← typeInfo e).bytes)
   let old ← Builtin.firstCells size sl (.slice b' sl sc)
   let new ← (if !z then Builtin.firstCells size n x' else if n * size = 0 then Pure.pure #[] else do Pure.pure (Builtin.zeroCells (← zeroValue e).cells n))
   let rest := Builtin.zeroCells (← zeroValue e).cells (newCap - (sl + n))
   Pure.pure (.slice (some (← newRow e (old ++ new ++ rest))) (sl + n) newCap)) := fun μ l => by
  refine R_bind (R_choose _) fun ν c c' l2 h => ?_
  subst h
  refine R_bind (R_typeInfo _) fun ξ i i' l3 h => ?_
  obtain ⟨rfl, _⟩ := h
  refine R_bind (R_room _) fun ο _ _ l4 _ => ?_
  have l5 := ((l.trans l2).trans l3).trans l4
  refine R_bind (R_firstCells _ _ (hs ο l5 _ _)) fun π u u' l6 hu => ?_
  refine R_bind (ap π (l5.trans l6)) fun κ v v' l7 hv => ?_
  refine R_bind (R_zeroValue hP e) fun θ w w' l8 hw => ?_
  refine R_bind (R_newRow e ((((hu.mono l7).mono l8).append (hv.mono l8)).append (hw.cells.zero _))) fun _ _ _ _ k => R_pure (.slice _ _ k)
 dsimp only
 refine R_if Iff.rfl (fun _ => ?_) fun _ => ?_
 ·refine R_bind (ap ρ (Rn.Le.refl _)) fun σ v v' l hv => ?_
  rcases hb with ⟨rfl, rfl⟩ | ⟨a, a', rfl, rfl, ha⟩
  ·exact R_pure (.slice0 _ _)
  ·exact R_bind (R_storeCells 0 ((ha.mono l).add _) hv) fun _ _ _ l2 _ => R_pure (.slice _ _ ((ha.mono l).mono l2))
 ·refine R_bind (R_typeInfo _) fun σ i i' l h => ?_
  obtain ⟨rfl, _⟩ := h
  refine R_if Iff.rfl (fun _ => R_dead (R_runtimePanic hP (hK.mono l) _)) fun _ => ?_
  refine R_bind (R_typeInfo _) fun τ i i' l2 h => ?_
  obtain ⟨rfl, _⟩ := h
  refine R_if Iff.rfl (fun _ => R_dead (R_ifB rfl (R_runtimePanic hP (hK.mono (l.trans l2)) _) (.dead (Sk.bind (sk_mayShare _ _ _ _ _) fun q _ => ?_)))) fun _ => grow τ (l.trans l2)
  cases q
  ·exact .room (.halt rfl)
  ·exact .halt rfl
def appTop (ts : Array TypeId) (e : TypeId) (base : Option Addr) (sLen sCap : Nat) (x : Value) : Sem Value := do
 let size ← sizeOf e
 let zeros ← match ts[1]? with
  | some t => do Pure.pure ((← underlying t) matches .int _)
  | none => Pure.pure false
 let n ← if zeros then do
   let l := IntKind.i64.wrap (← asInt x)
   if l < 0 then runtimePanic (.error "makeslice: len out of range")
   if l * (← typeInfo e).bytes > 2 ^ 48 then
    let made ← Go.choose (.extern "append.ofMake.carriedOut" 2)
    runtimePanic (.error (if made == 1 then "makeslice: len out of range" else "growslice: len out of range"))
   Pure.pure l.toNat
  else Builtin.lenOf x
 appRest e base sLen sCap size x zeros n
theorem R_appTop (hP : PF P) (hK : KF P ρ) (ts : Array TypeId) (e : TypeId) {b b' : Option Addr} (hb : (b = none ∧ b' = none) ∨ ∃ a a', b = some a ∧ b' = some a' ∧ AddrR ρ a a') (n c : Nat) {x x' : Value} (hx : VR ρ x x') : SemR P VRr ρ (appTop ts e b n c x) (appTop ts e b' n c x') := by
 unfold appTop
 refine R_bind (R_sizeOf _) fun σ s s' l h => ?_
 subst h
 have hb' : ∀ τ, ρ.Le τ → (b = none ∧ b' = none) ∨ ∃ a a', b = some a ∧ b' = some a' ∧ AddrR τ a a' := fun τ l => hb.imp_right fun ⟨a, a', h1, h2, h3⟩ => ⟨a, a', h1, h2, h3.mono l⟩
 have rest := fun (τ : Rn) (l2 : σ.Le τ) (z : Bool) (m : Nat) => R_appRest hP (hK.mono (l.trans l2)) e (hb' τ (l.trans l2)) n c s (hx.mono (l.trans l2)) z m
 have jp : ∀ (τ : Rn), σ.Le τ → ∀ z : Bool, SemR P VRr τ (do
   let k ← if z then do
     let l := IntKind.i64.wrap (← asInt x)
     if l < 0 then runtimePanic (.error "makeslice: len out of range")
     if l * (← typeInfo e).bytes > 2 ^ 48 then
      let made ← Go.choose (.extern "append.ofMake.carriedOut" 2)
      runtimePanic (.error (if made == 1 then "makeslice: len out of range" else "growslice: len out of range"))
     Pure.pure l.toNat
    else Builtin.lenOf x
   appRest e b n c s x z k) (do
   let k ← if z then do
     let l := IntKind.i64.wrap (← asInt x')
     if l < 0 then runtimePanic (.error "makeslice: len out of range")
     if l * (← typeInfo e).bytes > 2 ^ 48 then
      let made ← Go.choose (.extern "append.ofMake.carriedOut" 2)
      runtimePanic (.error (if made == 1 then "makeslice: len out of range" else "growslice: len out of range"))
     Pure.pure l.toNat
    else Builtin.lenOf x'
   appRest e b' n c s x' z k) := fun τ l2 z => by
  cases z with
  | false =>
   refine R_bind (R_lenOf (hx.mono (l.trans l2))) fun μ k k' l3 h => ?_
   subst h
   exact rest μ (l2.trans l3) false k
  | true =>
   refine R_bind (R_asInt (hx.mono (l.trans l2))) fun μ k k' l3 h => ?_
   subst h
   dsimp only
   have hK2 := hK.mono ((l.trans l2).trans l3)
   refine R_if Iff.rfl (fun _ => R_dead (R_runtimePanic hP hK2 _)) fun _ => ?_
   refine R_bind (R_typeInfo _) fun ν i i' l4 h => ?_
   obtain ⟨rfl, _⟩ := h
   refine R_if Iff.rfl (fun _ => ?_) fun _ => rest ν ((l2.trans l3).trans l4) true _
   refine R_bind (R_choose _) fun ξ q q' l5 h => ?_
   subst h
   exact R_dead (R_runtimePanic hP ((hK2.mono l4).mono l5) _)
 cases ts[1]? with
 | none => exact jp σ (Rn.Le.refl _) false
 | some t =>
  refine R_bind (R_underlying t) fun τ d d' l2 h => ?_
  subst h
  exact jp τ l2 _
theorem R_append (hP : PF P) (hK : KF P ρ) (ts : Array TypeId) (t : TypeId) {xs xs' : Array Value} (hx : AR ρ xs xs') : SemR P VRr ρ (Builtin.append_ ts t xs) (Builtin.append_ ts t xs') := by
 unfold Builtin.append_
 cases hts : ts[0]? with
 | none => exact R_stuck
 | some u =>
  rcases hx.get 0 with ⟨h1, h2⟩ | ⟨v, v', h1, h2, hv⟩
  ·rw [h1, h2]; exact R_stuck
  ·rcases hx.get 1 with ⟨h3, h4⟩ | ⟨y, y', h3, h4, hy⟩
   ·rw [h1, h2, h3, h4]; exact R_stuck
   ·rw [h1, h2, h3, h4]
    refine R_bind (R_underlying u) fun σ d d' l e => ?_
    subst e
    replace hv := hv.mono l
    replace hy := hy.mono l
    replace hK := hK.mono l
    cases d
    case slice e =>
     cases hv
     case slice0 n c => exact R_appTop hP hK ts e (.inl ⟨rfl, rfl⟩) n c hy
     case slice a a' n c ha => exact R_appTop hP hK ts e (.inr ⟨a, a', rfl, rfl, ha⟩) n c hy
     all_goals exact R_stuck
    all_goals exact R_stuck
end
end Go.Pr
namespace Go.Pr
open Go
inductive NextR (ρ : Rn) : Next → Next → Prop
 | value {v v' : Value} : VR ρ v v' → NextR ρ (.value v) (.value v')
 | skip : NextR ρ .skip .skip
 | enter {f : FuncId} {xs xs' : Array Value} : ρ.ok f → AR ρ xs xs' → NextR ρ (.enter f xs) (.enter f xs')
 | round {l l' : Nat} {f : FuncId} {xs xs' : Array Value} (a b : Code) : ρ.r l l' → AR ρ xs xs' → ρ.ok f → ρ.cd f a → ρ.cd f b → NextR ρ (.round l f xs a b) (.round l' f xs' a b)
 | defer {d d' : Deferred} : DfR ρ d d' → NextR ρ (.defer d) (.defer d')
section
variable {P : Program} {α β γ δ : Type} {A : Rn → α → β → Prop} {C : Rn → γ → δ → Prop} {ρ : Rn}
theorem R_getLoop {l l' : Nat} (h : ρ.r l l') : SemR P LpR ρ (Instr.getLoop l) (Instr.getLoop l') := by
 unfold Instr.getLoop
 refine R_bind (R_getObj (.inr h)) fun σ o o' l2 ho => ?_
 cases ho
 case loop hl => exact R_pure hl
 all_goals exact R_stuck
def ORr (ρ : Rn) (x y : Option Nat) : Prop := (x = none ∧ y = none) ∨ ∃ l l', x = some l ∧ y = some l' ∧ ρ.r l l'
theorem R_enterLoop (f : FuncId) {xs xs' : Array Value} (hx : AR ρ xs xs') (ps : Array Tmp) (a b : Code) (hk : ρ.ok f ∧ ρ.cd f a ∧ ρ.cd f b) {o o' : Option Nat} (ho : ORr ρ o o') : SemR P (fun σ x y => σ.r x.1 y.1 ∧ DsR σ x.2 y.2) ρ (Instr.enterLoop f xs ps a b o) (Instr.enterLoop f xs' ps a b o') := by
 unfold Instr.enterLoop
 have fin : ∀ (σ : Rn), ρ.Le σ → ∀ x y : Nat × List Deferred, σ.r x.1 y.1 → DsR σ x.2 y.2 → SemR P (fun σ x y => σ.r x.1 y.1 ∧ DsR σ x.2 y.2) σ (do Pure.pure (← newObj (.loop { state := .ready, pending := none, fn := f, tmps := xs, params := ps, assign := a, body := b, defers := x.1 }), x.2)) (do Pure.pure (← newObj (.loop { state := .ready, pending := none, fn := f, tmps := xs', params := ps, assign := a, body := b, defers := y.1 }), y.2)) := fun σ l x y h1 h2 =>
  R_bind (R_new (.loop ⟨rfl, rfl, rfl, hx.mono l, rfl, rfl, rfl, h1, by rw [l.ok, l.cd]; exact hk, fun c k => by cases k⟩)) fun τ q q' l2 hq => R_pure ⟨hq, h2.mono l2⟩
 rcases ho with ⟨rfl, rfl⟩ | ⟨l, l', rfl, rfl, hl⟩
 ·refine R_bind (R_new (.def1 .nil)) fun σ r r' l hr => ?_
  exact fin σ l (r, _) (r', _) hr (.cons ⟨.collected hr, LR.nil⟩ .nil)
 ·refine R_bind (R_getLoop hl) fun σ p p' l2 hp => ?_
  exact fin σ l2 (p.defers, []) (p'.defers, []) hp.defers .nil
theorem setTmps : ∀ (l : List (Tmp × Value)) (l' : List (Tmp × Value)) {xs xs' : Array Value}, AR ρ xs xs' → l'.map (·.1) = l.map (·.1) → LR ρ (l.map (·.2)) (l'.map (·.2)) → AR ρ (l.foldl (fun tmps (t, a) => tmps.setIfInBounds t a) xs) (l'.foldl (fun tmps (t, a) => tmps.setIfInBounds t a) xs')
 | [], [], _, _, h, _, _ => h
 | [], _ :: _, _, _, _, h, _ => by simp at h
 | _ :: _, [], _, _, _, h, _ => by simp at h
 |(t, v) :: l, (t', v') :: l', xs, xs', h, h1, h2 => by
  simp only [List.map_cons, List.cons.injEq] at h1
  obtain ⟨rfl, h1⟩ := h1
  cases h2 with
  | cons x y => exact setTmps l l' (h.set _ x) h1 y
theorem zip_LR : ∀ (ps : List Tmp) {xs xs' : List Value}, LR ρ xs xs' → (ps.zip xs').map (·.1) = (ps.zip xs).map (·.1) ∧ LR ρ ((ps.zip xs).map (·.2)) ((ps.zip xs').map (·.2))
 | [], _, _, _ => ⟨by simp, by simpa using LR.nil⟩
 | _ :: _, _, _, .nil => ⟨by simp, by simpa using LR.nil⟩
 | p :: ps, _, _, .cons x y => by
  have := zip_LR ps y
  exact ⟨by simp [this.1], by simpa using LR.cons x this.2⟩
theorem R_yield {l l' : Nat} (h : ρ.r l l') {xs xs' : Array Value} (hx : AR ρ xs xs') : SemR P NextR ρ (Instr.yield l xs) (Instr.yield l' xs') := by
 unfold Instr.yield
 refine R_bind (R_getLoop h) fun σ p p' l2 hp => ?_
 rw [hp.params, hx.size]
 refine R_if Iff.rfl (fun _ => R_dead R_stuck) fun _ => ?_
 rw [hp.fn, hp.assign, hp.body]
 refine R_pure (.round _ _ (l2.r h) ?_ hp.ok.1 hp.ok.2.1 hp.ok.2.2)
 rw [← Array.foldl_toList, ← Array.foldl_toList, Array.toList_zip, Array.toList_zip]
 have := zip_LR p.params.toList (LR.mono l2 hx)
 exact setTmps _ _ hp.tmps this.1 this.2
theorem R_beginRound (hP : PF P) (hK : KF P ρ) {l l' : Nat} (h : ρ.r l l') : SemR P (TrR Unit Unit) ρ (Instr.beginRound l) (Instr.beginRound l') := by
 unfold Instr.beginRound
 refine R_bind (R_getLoop h) fun σ p p' l2 hp => ?_
 refine R_bind (R_setObj (.inr (l2.r h)) (.loop ⟨rfl, hp.pending, hp.fn, hp.tmps, hp.params, hp.assign, hp.body, hp.defers, hp.ok, hp.pend⟩)) fun τ _ _ l3 _ => ?_
 rw [hp.state]
 have hK' := hK.mono (l2.trans l3)
 split
 ·exact R_pure trivial
 all_goals exact R_runtimePanic hP hK' _
theorem R_endRound {l l' : Nat} (h : ρ.r l l') (j : Option Code) (hj : ∀ c, j = some c → Jump c) : SemR P VRr ρ (Instr.endRound l j) (Instr.endRound l' j) := by
 unfold Instr.endRound
 refine R_bind (R_getLoop h) fun σ p p' l2 hp => ?_
 refine R_bind (R_setObj (.inr (l2.r h)) (.loop ⟨rfl, rfl, hp.fn, hp.tmps, hp.params, hp.assign, hp.body, hp.defers, hp.ok, hj⟩)) fun τ _ _ l3 _ => ?_
 exact R_pure (.bool _)
theorem R_endLoop (hP : PF P) (hK : KF P ρ) {l l' : Nat} (h : ρ.r l l') : SemR P (fun _ a b => a = b ∧ ∀ c, a = some c → Jump c) ρ (Instr.endLoop l) (Instr.endLoop l') := by
 unfold Instr.endLoop
 refine R_bind (R_getLoop h) fun σ p p' l2 hp => ?_
 refine R_ifB (by rw [hp.state]) (R_dead (R_runtimePanic hP (hK.mono l2) _)) ?_
 refine R_bind (R_setObj (.inr (l2.r h)) (.loop ⟨rfl, hp.pending, hp.fn, hp.tmps, hp.params, hp.assign, hp.body, hp.defers, hp.ok, hp.pend⟩)) fun τ _ _ l3 _ => ?_
 exact R_pure ⟨hp.pending.symm, hp.pend⟩
theorem R_takeDeferred {b b' : Nat} (h : ρ.r b b') : SemR P DsR ρ (Instr.takeDeferred b) (Instr.takeDeferred b') := by
 unfold Instr.takeDeferred
 refine R_bind (R_getObj (.inr h)) fun σ o o' l ho => ?_
 cases ho
 case def1 hd => exact R_bind (R_setObj (.inr (l.r h)) .def0) fun _ _ _ l2 _ => R_pure (hd.mono l2)
 all_goals exact R_stuck
end
end Go.Pr
namespace Go.Pr
open Go
inductive PlR (ρ : Rn) : Place → Place → Prop
 | val {v v' : Value} : VR ρ v v' → PlR ρ (.val v) (.val v')
 | var {a a' : Addr} : AddrR ρ a a' → PlR ρ (.var a) (.var a')
section
variable {P : Program} {α β γ δ : Type} {A : Rn → α → β → Prop} {C : Rn → γ → δ → Prop} {ρ : Rn}
theorem PlR.mono {σ : Rn} (l : ρ.Le σ) {x y : Place} (h : PlR ρ x y) : PlR σ x y := by
 cases h with
 | val v => exact .val (v.mono l)
 | var a => exact .var (a.mono l)
theorem R_get (t : TypeId) {x y : Place} (h : PlR ρ x y) : SemR P VRr ρ (x.get t) (y.get t) := by
 cases h with
 | val v => exact R_pure v
 | var a => exact R_loadVar t a
theorem R_partAt {a a' : Addr} (h : AddrR ρ a a') (c b : Nat) : SemR P AddrR ρ (partAt a c b) (partAt a' c b) := by
 unfold partAt
 refine R_bind (R_byteOf h) fun σ n n' l e => ?_
 subst e
 dsimp only
 have h1 : ∀ τ : Rn, ρ.Le τ → AddrR τ { block := a.block, off := a.off + c } { block := a'.block, off := a'.off + c } := fun τ l => ⟨l.b h.b, by show a'.off + c = a.off + c; rw [h.off], rfl⟩
 refine R_bind (R_byteOf (h1 σ l)) fun τ m m' l2 e => ?_
 subst e
 refine R_pure ?_
 split
 ·exact h1 τ (l.trans l2)
 ·exact ⟨(h1 τ (l.trans l2)).b, (h1 τ (l.trans l2)).off, rfl⟩
theorem R_place {a a' : Addr} (h : AddrR ρ a a') (f : Field) : SemR P AddrR ρ (fieldPlace a f) (fieldPlace a' f) := by
 unfold Go.fieldPlace
 refine R_bind (R_sizeOf f.type) fun σ n n' l e => ?_
 subst e
 exact R_if Iff.rfl (fun _ => R_partAt (h.mono l) _ _) fun _ => R_pure ((h.mono l).add _)
theorem R_follow (hP : PF P) : ∀ (p : List FieldStep) (t : TypeId) {ρ : Rn} {x y : Place}, KF P ρ → PlR ρ x y → SemR P (fun σ a b => a.1 = b.1 ∧ PlR σ a.2 b.2) ρ (follow p t x) (follow p t y)
 | [], t, _, _, _, _, h => R_pure ⟨rfl, h⟩
 | s :: p, t, ρ, x, y, hK, h => by
  unfold follow
  refine R_bind (R_underlying _) fun σ d d' l e => ?_
  subst e
  cases d
  case struct fs =>
   dsimp only
   cases hf : fs[s.index]? with
   | none => exact R_stuck
   | some f =>
    dsimp only
    refine R_ifB rfl ?_ ?_
    ·refine R_bind (R_get t (h.mono l)) fun τ v v' l2 hv => ?_
     refine R_bind (R_asAddr hP ((hK.mono l).mono l2) hv) fun μ a a' l3 ha => ?_
     refine R_bind (R_place ha f) fun ν b b' l4 hb => ?_
     exact R_follow hP p f.type ((((hK.mono l).mono l2).mono l3).mono l4) (.var hb)
    ·cases h with
     | var a =>
      refine R_bind (R_place (a.mono l) f) fun ν b b' l4 hb => ?_
      exact R_follow hP p f.type ((hK.mono l).mono l4) (.var hb)
     | val v =>
      cases v
      case agg c =>
       refine R_bind (R_part _ _ (AR.mono l c)) fun ν b b' l4 hb => ?_
       exact R_follow hP p f.type ((hK.mono l).mono l4) (.val hb)
      all_goals exact R_stuck
  all_goals exact R_stuck
theorem R_wrapNil (hP : PF P) (hK : KF P ρ) (ts : Array TypeId) (t : TypeId) {x x' : Value} (hx : VR ρ x x') (a b : ByteArray) : SemR P VRr ρ (Builtin.ssaWrapNilChk_ ts t #[x, .string a, .string b]) (Builtin.ssaWrapNilChk_ ts t #[x', .string a, .string b]) := by
 unfold Builtin.ssaWrapNilChk_
 have hx1 := hx
 cases hx
 case ptr ha => exact R_pure hx1
 case ptr0 =>
  refine R_bind (R_choose _) fun σ n n' l e => ?_
  subst e
  dsimp only
  refine R_ifB rfl (R_dead (R_runtimePanic hP (hK.mono l) _)) ?_
  cases ts[0]? with
  | none => exact R_stuck
  | some pt =>
   refine R_bind (R_underlying pt) fun τ d d' l2 e => ?_
   subst e
   cases d
   case pointer u =>
    refine R_bind (R_typeInfo _) fun μ i i' l3 e => ?_
    obtain ⟨rfl, _⟩ := e
    split
    ·split
     ·split
      ·exact R_runtimePanic hP (((hK.mono l).mono l2).mono l3) _
      ·exact R_unsup rfl
     ·exact R_stuck
    ·exact R_stuck
   all_goals exact R_stuck
 all_goals exact R_stuck
theorem R_receiverAt (hP : PF P) (hK : KF P ρ) (t : TypeId) {x y : Place} (h : PlR ρ x y) (b : Bool) (w : Option String) : SemR P VRr ρ (receiverAt t x b w) (receiverAt t y b w) := by
 unfold receiverAt
 refine R_bind (R_underlying t) fun σ d d' l e => ?_
 subst e
 replace h := h.mono l
 cases b with
 | true =>
  cases d
  case pointer u => exact R_get t h
  all_goals
   cases h with
   | var a => exact R_pure (.ptr a)
   | val v => exact R_stuck
 | false =>
  cases d
  case pointer u =>
   refine R_bind (R_get t h) fun τ v v' l2 hv => ?_
   have fin : ∀ μ : Rn, τ.Le μ → ∀ {p p' : Value}, VR μ p p' → SemR P VRr μ (do loadVar u (← asAddr p)) (do loadVar u (← asAddr p')) := fun μ l3 p p' hp =>
    R_bind (R_asAddr hP (((hK.mono l).mono l2).mono l3) hp) fun _ _ _ _ ha => R_loadVar u ha
   cases w with
   | none => exact fin τ (Rn.Le.refl _) hv
   | some n => exact R_bind (R_wrapNil hP ((hK.mono l).mono l2) _ _ hv _ _) fun μ p p' l3 hp => fin μ l3 hp
  all_goals exact R_get t h
theorem R_receiverVia (hP : PF P) (hK : KF P ρ) (t : TypeId) {x y : Value} (h : VR ρ x y) (p : Array FieldStep) (b : Bool) : SemR P VRr ρ (receiverVia t x p b) (receiverVia t y p b) := by
 unfold receiverVia
 refine R_bind (R_follow hP _ t hK (.val h)) fun σ a b' l e => ?_
 obtain ⟨a1, a2⟩ := a
 obtain ⟨b1, b2⟩ := b'
 obtain ⟨e, h2⟩ := e
 have e : a1 = b1 := e
 subst e
 exact R_receiverAt hP (hK.mono l) a1 h2 b none
def MF (P : Program) (ρ : Rn) (n : String) : Prop := ∀ t i m f q, P.info? t = some i → i.methods.find? (·.name == n) = some m → m.func = some (f, q) → ρ.ok f
theorem R_method (hP : PF P) (n : String) : ∀ (k : Nat) (t : TypeId) {ρ : Rn} {x y : Value}, KF P ρ → MF P ρ n → VR ρ x y → SemR P (fun σ a b => a.1 = b.1 ∧ σ.ok a.1 ∧ VR σ a.2 b.2) ρ (method k t x n) (method k t y n)
 | 0, _, _, _, _, _, _, _ => R_unsup rfl
 | k + 1, t, ρ, x, y, hK, hM, h => by
  unfold method
  refine R_bind (R_typeInfo t) fun σ i i' l e => ?_
  obtain ⟨rfl, hi⟩ := e
  cases hm : i.methods.find? (·.name == n) with
  | none => exact R_stuck
  | some m =>
   dsimp only
   refine R_bind (R_follow hP _ t (hK.mono l) (.val (h.mono l))) fun τ a b' l2 e => ?_
   obtain ⟨a1, a2⟩ := a
   obtain ⟨b1, b2⟩ := b'
   obtain ⟨e, h2⟩ := e
   have e : a1 = b1 := e
   subst e
   have hM2 : MF P τ n := fun t i m f q h1 h2 h3 => by
    rw [l2.ok, l.ok]
    exact hM t i m f q h1 h2 h3
   have hK2 := (hK.mono l).mono l2
   cases hf : m.func with
   | none =>
    refine R_bind (R_get _ h2) fun μ v v' l3 hv => ?_
    have hM3 : MF P μ n := fun t i m f q h1 h2 h3 => by
     rw [l3.ok]
     exact hM2 t i m f q h1 h2 h3
    cases hv
    case iface t' hv => exact R_method hP n k t' (hK2.mono l3) hM3 hv
    case nilIface => exact R_runtimePanic hP (hK2.mono l3) _
    all_goals exact R_stuck
   | some fq =>
    obtain ⟨f, q⟩ := fq
    refine R_bind (R_receiverAt hP hK2 _ h2 _ _) fun μ v v' l3 hv => ?_
    exact R_pure ⟨rfl, by rw [l3.ok]; exact hM2 t i m f q hi hm hf, hv⟩
end
end Go.Pr
namespace Go.Pr
open Go
def XF (P : Program) (ok : Nat → Prop) : Prop := ∀ f fn, P.funcs[f]? = some fn → ok f → fn.name ≠ "runtime.NumGoroutine" ∧ (fn.body.isNone = true →
 match Extern.findNext fn with
 | some e => ∀ (ρ : Rn) (xs xs' : Array Value), ρ.ok = ok → KF P ρ → AR ρ xs xs' → SemR P NextR ρ (e xs) (e xs')
 | none => match Extern.find fn with
  | some e => ∀ (ρ : Rn) (xs xs' : Array Value), ρ.ok = ok → KF P ρ → AR ρ xs xs' → SemR P VRr ρ (e xs) (e xs')
  | none => True)
section
variable {P : Program} {α β γ δ : Type} {A : Rn → α → β → Prop} {C : Rn → γ → δ → Prop} {ρ : Rn}
theorem R_callFunc (hK : KF P ρ) (hX : XF P ρ.ok) {f : FuncId} (hf : ρ.ok f) {xs xs' : Array Value} (hx : AR ρ xs xs') : SemR P NextR ρ (callFunc f xs) (callFunc f xs') := by
 unfold callFunc
 refine R_bind R_prog fun σ p p' l e => ?_
 rw [e.1, e.2]
 cases hfn : P.funcs[f]? with
 | none => exact R_stuck
 | some fn =>
  obtain ⟨h1, h2⟩ := hX f fn hfn hf
  have hne : ¬ (fn.name == "runtime.NumGoroutine") = true := fun h => h1 (by simpa using h)
  dsimp only
  rw [if_neg hne, if_neg hne]
  refine R_if Iff.rfl (fun hb => ?_) fun _ => R_pure (.enter (by rw [l.ok]; exact hf) (hx.mono l))
  refine R_bind (A := TrR Unit Unit) (.ext (.pure trivial)) fun τ _ _ l2 _ => ?_
  have h3 := h2 hb
  have hok : τ.ok = ρ.ok := by rw [l2.ok, l.ok]
  have hx2 := (hx.mono l).mono l2
  have hK2 := (hK.mono l).mono l2
  cases he : Extern.findNext fn with
  | some e =>
   rw [he] at h3
   exact h3 τ _ _ hok hK2 hx2
  | none =>
   rw [he] at h3
   dsimp only at h3 ⊢
   cases he2 : Extern.find fn with
   | some e =>
    rw [he2] at h3
    exact R_bind (h3 τ _ _ hok hK2 hx2) fun _ _ _ _ k => R_pure (.value k)
   | none => exact R_ifB rfl (R_pure (.value (.tuple .nil))) (R_unsup rfl)
theorem R_callMethod (hP : PF P) (hK : KF P ρ) (hX : XF P ρ.ok) {n : String} (hM : MF P ρ n) {r r' : Value} (hr : VR ρ r r') {xs xs' : Array Value} (hx : AR ρ xs xs') : SemR P NextR ρ (callMethod r n xs) (callMethod r' n xs') := by
 unfold callMethod
 cases hr
 case iface t hv =>
  refine R_bind R_prog fun σ p p' l e => ?_
  rw [e.1, e.2]
  have hM2 : MF P σ n := fun t i m f q h1 h2 h3 => by
   rw [l.ok]
   exact hM t i m f q h1 h2 h3
  refine R_bind (R_method hP n _ t (hK.mono l) hM2 (hv.mono l)) fun τ a b l2 h => ?_
  obtain ⟨a1, a2⟩ := a
  obtain ⟨b1, b2⟩ := b
  obtain ⟨e, h2, h3⟩ := h
  have e : a1 = b1 := e
  subst e
  refine R_callFunc ((hK.mono l).mono l2) (by rw [l2.ok, l.ok]; exact hX) h2 (AR.append (.cons h3 .nil) ((hx.mono l).mono l2))
 case nilIface => exact R_runtimePanic hP hK _
 all_goals exact R_stuck
theorem R_resolve {e e' : Operand → Value} (c : Call) (t : TypeId) (ha : ∀ o, o ∈ c.args.toList → VR ρ (e o) (e' o)) (hc : match c.callee with | .value f => VR ρ (e f) (e' f) | .invoke r n => VR ρ (e r) (e' r) ∧ ρ.nm n | .builtin _ => False) : SemR P DfR ρ (resolve e c t) (resolve e' c t) := by
 unfold resolve
 have hm : AR ρ (c.args.map e) (c.args.map e') := by
  unfold AR
  rw [Array.toList_map, Array.toList_map]
  revert ha
  generalize c.args.toList = l
  intro ha
  induction l with
  | nil => exact .nil
  | cons o l ih => exact .cons (ha o (by simp)) (ih fun q hq => ha q (by simp [hq]))
 dsimp only
 split
 ·rename_i b h
  rw [h] at hc
  exact hc.elim
 ·rename_i r n h
  rw [h] at hc
  exact R_pure ⟨.fn (.method hc.2) LR.nil, AR.append (.cons hc.1 .nil) hm⟩
 ·rename_i f h
  rw [h] at hc
  unfold Deferred.ofValue
  dsimp only at hc
  revert hc
  generalize e f = v
  generalize e' f = v'
  intro hc
  cases hc
  case func hf h1 h2 => exact R_pure ⟨.fn hf h2, AR.append h1 hm⟩
  case nilFunc => exact R_pure ⟨.nil, hm⟩
  all_goals exact R_stuck
theorem R_invoke (hP : PF P) (hK : KF P ρ) (hX : XF P ρ.ok) (hM : ∀ n, ρ.nm n → MF P ρ n) {t t' : Target} (ht : TgR ρ t t') {xs xs' : Array Value} (hx : AR ρ xs xs') : SemR P NextR ρ (invoke t xs) (invoke t' xs') := by
 unfold invoke
 have hext : AR ρ (xs.extract 1 xs.size) (xs'.extract 1 xs'.size) := by
  rw [hx.size]
  exact hx.extract 1 _
 cases ht with
 | nil => exact R_runtimePanic hP hK _
 | collected r => exact R_stuck
 | fn hf hc =>
  cases hf with
  | func h => exact R_callFunc hK hX h (hx.append hc)
  | method h =>
   dsimp only
   rcases hx.get 0 with ⟨h1, h2⟩ | ⟨v, v', h1, h2, hv⟩
   ·rw [h1, h2]; exact R_stuck
   ·rw [h1, h2]
    exact R_callMethod hP hK hX (hM _ h) hv hext
  | methodOf t h =>
   dsimp only
   rcases hx.get 0 with ⟨h1, h2⟩ | ⟨v, v', h1, h2, hv⟩
   ·rw [h1, h2]; exact R_stuck
   ·rw [h1, h2]
    dsimp only
    refine R_bind (R_underlying t) fun σ d d' l e => ?_
    subst e
    have hM2 : MF P σ _ := fun t i m f q h1 h2 h3 => by
     rw [l.ok]
     exact hM _ h t i m f q h1 h2 h3
    have hX2 : XF P σ.ok := by rw [l.ok]; exact hX
    split
    ·exact R_callMethod hP (hK.mono l) hX2 hM2 (hv.mono l) (hext.mono l)
    ·exact R_callMethod hP (hK.mono l) hX2 hM2 (.iface t (hv.mono l)) (hext.mono l)
  | via h =>
   dsimp only
   rcases hx.get 0 with ⟨h1, h2⟩ | ⟨v, v', h1, h2, hv⟩
   ·rw [h1, h2]; exact R_stuck
   ·rw [h1, h2]
    refine R_bind (R_receiverVia hP hK _ hv _ _) fun σ u u' l hu => ?_
    exact R_callFunc (hK.mono l) (by rw [l.ok]; exact hX) (by rw [l.ok]; exact h) (AR.append (.cons hu .nil) (hext.mono l))
  | yield h => exact R_yield h hx
def builtinOk (P : Program) (b : Builtin) (ts : Array TypeId) : Bool := match b with
 | .append | .cap | .clear | .copy | .len | .max | .unsafeSliceData => true
 | .unsafeString => strTypeOk P ts
 | _ => false
theorem R_builtin (hP : PF P) (hK : KF P ρ) (b : Builtin) (ts : Array TypeId) (t : TypeId) (cs : Array Bool) (ho : builtinOk P b ts = true) {xs xs' : Array Value} (hx : AR ρ xs xs') : SemR P NextR ρ (builtin b ts t cs xs) (builtin b ts t cs xs') := by
 have v : ∀ {s s' : Sem Value}, SemR P VRr ρ s s' → SemR P NextR ρ (do Pure.pure (.value (← s))) (do Pure.pure (.value (← s'))) := fun h => R_bind h fun _ _ _ _ k => R_pure (.value k)
 cases b
 case append => exact v (R_append hP hK ts t hx)
 case cap => exact v (R_cap ts t hx)
 case clear => exact v (R_clear hP ts t hx)
 case copy => exact v (R_copy ts t hx)
 case len => exact v (R_len ts t hx)
 case max => exact v (R_max ts t hx)
 case unsafeSliceData => exact v (R_sliceData ts t hx)
 case unsafeString => exact v (R_unsafeString hP hK ts t ho hx)
 all_goals cases ho
end
end Go.Pr
namespace Go.Pr
open Go
section
variable {P : Program} {α β γ δ : Type} {A : Rn → α → β → Prop} {C : Rn → γ → δ → Prop} {ρ : Rn}
theorem R_fieldAt2 (s : TypeId) (i : Nat) {v v' : Value} (h : VR ρ v v') : SemR P VRr ρ (Instr.fieldAt s v i) (Instr.fieldAt s v' i) := by
 unfold Instr.fieldAt
 refine R_bind (R_underlying s) fun σ d d' l hd => ?_
 subst hd
 split
 ·split
  ·refine R_bind (R_sureAddr (h.mono l)) fun τ a a' l2 ha => ?_
   exact R_bind (R_place ha _) fun _ _ _ _ k => R_pure (.ptr k)
  ·exact R_stuck
 ·exact R_stuck
def BlR (ρ : Rn) : Except (Option Bool) (TypeId × Option Value) → Except (Option Bool) (TypeId × Option Value) → Prop
 | .error a, .error b => a = b
 | .ok a, .ok b => a.1 = b.1 ∧ OVR ρ a.2 b.2
 | _, _ => False
theorem R_blind : ∀ (p : List FieldStep) (t : TypeId) {ρ : Rn} {x y : Option Value}, OVR ρ x y → SemR P BlR ρ (followBlind p t x) (followBlind p t y)
 | [], t, _, _, _, h => R_pure (show BlR _ (.ok _) (.ok _) from ⟨rfl, h⟩)
 | s :: p, t, ρ, x, y, h => by
  unfold followBlind
  refine R_bind (R_underlying _) fun σ d d' l e => ?_
  subst e
  cases d
  case struct fs =>
   dsimp only
   cases hf : fs[s.index]? with
   | none => exact R_stuck
   | some f =>
    dsimp only
    rcases h with ⟨rfl, rfl⟩ | ⟨v, v', rfl, rfl, hv⟩
    ·cases s.deref with
     | true => exact R_pure (show BlR _ (.error _) (.error _) from rfl)
     | false => exact R_blind p f.type (.inl ⟨rfl, rfl⟩)
    ·cases s.deref with
     | true =>
      cases hv
      case ptr0 => exact R_pure (show BlR _ (.error _) (.error _) from rfl)
      case ptr h => exact R_blind p f.type (.inl ⟨rfl, rfl⟩)
      all_goals exact R_stuck
     | false =>
      cases hv
      case agg h => exact R_bind (R_part _ _ (AR.mono l h)) fun τ u u' l2 hu => R_blind p f.type (.inr ⟨_, _, rfl, rfl, hu⟩)
      all_goals exact R_stuck
  all_goals exact R_stuck
theorem R_nilAhead (n : String) : ∀ (k : Nat) (t : TypeId) {ρ : Rn} {x y : Value}, VR ρ x y → SemR P (EqR (Option Bool)) ρ (nilAhead k t x n) (nilAhead k t y n)
 | 0, _, _, _, _, _ => R_pure rfl
 | k + 1, t, ρ, x, y, h => by
  unfold nilAhead
  refine R_bind (R_typeInfo t) fun σ i i' l e => ?_
  obtain ⟨rfl, hi⟩ := e
  cases hm : i.methods.find? (·.name == n) with
  | none => exact R_stuck
  | some m =>
   dsimp only
   refine R_bind (R_blind _ t (.inr ⟨x, y, rfl, rfl, h.mono l⟩)) fun τ a b l2 hab => ?_
   cases a with
   | error r =>
    cases b with
    | error r' =>
     have e : r = r' := hab
     subst e
     exact R_pure rfl
    | ok _ => exact hab.elim
   | ok a =>
    cases b with
    | error _ => exact hab.elim
    | ok b =>
     obtain ⟨a1, a2⟩ := a
     obtain ⟨b1, b2⟩ := b
     obtain ⟨e, h2⟩ := hab
     have e : a1 = b1 := e
     subst e
     have h2 : OVR τ a2 b2 := h2
     dsimp only
     cases m.func with
     | none =>
      rcases h2 with ⟨rfl, rfl⟩ | ⟨v, v', rfl, rfl, hv⟩
      ·exact R_pure rfl
      ·cases hv
       case iface t' hv => exact R_nilAhead n k t' hv
       case nilIface => exact R_pure rfl
       all_goals exact R_stuck
     | some fq =>
      obtain ⟨f, q⟩ := fq
      cases q with
      | true => exact R_pure rfl
      | false =>
       refine R_bind (R_underlying _) fun μ d d' l3 e => ?_
       subst e
       rcases h2 with ⟨rfl, rfl⟩ | ⟨v, v', rfl, rfl, hv⟩
       ·cases d <;> exact R_pure rfl
       ·cases d
        case pointer u => cases hv <;> exact R_pure rfl
        all_goals exact R_pure rfl
theorem R_nilCheck (hP : PF P) (hK : KF P ρ) (o : Oper) (x : Operand) (hop : o.op = .nilCheck x) {e e' : Operand → Value} (hx : VR ρ (e x) (e' x)) : SemR P NextR ρ (execOp e o) (execOp e' o) := by
 unfold execOp
 rw [hop]
 dsimp only
 revert hx
 generalize e x = a
 generalize e' x = b
 intro hx
 have hx1 := hx
 cases hx
 case ptr0 => exact R_runtimePanic hP hK _
 case nilIface => exact R_runtimePanic hP hK _
 case nilFunc => exact R_runtimePanic hP hK _
 case func hf h1 h2 =>
  cases hf with
  | method hn =>
   dsimp only
   rcases AR.get h1 0 with ⟨k1, k2⟩ | ⟨v, v', k1, k2, hv⟩
   ·rw [k1, k2]; exact R_pure (.value hx1)
   ·rw [k1, k2]
    have hv1 := hv
    cases hv
    case nilIface => exact R_runtimePanic hP hK _
    case iface t hv =>
     refine R_bind R_prog fun σ p p' l e => ?_
     rw [e.1, e.2]
     refine R_bind (R_nilAhead _ _ t (hv.mono l)) fun τ q q' l2 e => ?_
     subst e
     exact R_ifB rfl (R_dead (R_unsup rfl)) (R_pure (.value ((hx1.mono l).mono l2)))
    all_goals exact R_pure (.value hx1)
  | _ => exact R_pure (.value hx1)
 all_goals exact R_pure (.value hx1)
end
end Go.Pr
