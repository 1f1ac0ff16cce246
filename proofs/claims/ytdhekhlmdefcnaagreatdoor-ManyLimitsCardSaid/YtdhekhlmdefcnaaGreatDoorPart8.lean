/- Part 8 of the proof: Ms2, Ms3, Ms4. -/
import Derived.Test.YtdhekhlmdefcnaaGreatDoorPart7
import Derived.Test.YtdhekhlmdefcnaaGreatDoorProg
import Derived.KernelRfl
import GoSem.Dispatch
namespace Go.Mx
open Go Go.Pr Go.Proofs
def okF (f : Nat) : Bool := (Nat.ble 3 f && Nat.ble f 5) || ((Nat.ble 7 f && Nat.ble f 9) || ((Nat.ble 14 f && Nat.ble f 20) || ((Nat.ble 39 f && Nat.ble f 53) || ((Nat.ble 59 f && Nat.ble f 188) || (Nat.beq f 202 || (Nat.beq f 203 || (Nat.beq f 209 || (Nat.beq f 212 || (Nat.beq f 214 || (Nat.beq f 215 || (Nat.beq f 223 || Nat.beq f 226)))))))))))
def slotB : Nat → Nat → Bool
 | 92, 20 => true | 92, 41 => true | 127, 10 => true | 177, 11 => true | 178, 11 => true | _, _ => false
def alw (main : Bool) : Al where
 ok f := okF f && (main || Nat.ble 5 f)
 nm n := ["Kind", "Elem", "Implements", "AssignableTo", "As", "Unwrap"].contains n
 K g := Nat.beq g 0 || (Nat.beq g 3 || Nat.beq g 9)
 T g := Nat.beq g 1 || (Nat.beq g 2 || (Nat.beq g 4 || (Nat.beq g 5 || (Nat.beq g 6 || (Nat.beq g 7 || Nat.beq g 8)))))
 sp f := main && Nat.beq f 6
 S := slotB
set_option maxRecDepth 1000000 in
theorem funF : (List.range Tryz.prog.funcs.size).all (funB Tryz.prog (alw false)) = true := by kernel_rfl
set_option maxRecDepth 1000000 in
theorem metT : ∀ m, metB Tryz.prog (alw m) = true
 | true => by kernel_rfl
 | false => by kernel_rfl
set_option maxRecDepth 1000000 in
theorem zerT : zerB Tryz.prog = true := by kernel_rfl
theorem nFuncs : Tryz.prog.funcs.size = 240 := by kernel_rfl
theorem nGlob : Tryz.prog.globals.size = 9 := by kernel_rfl
theorem gMax : Tryz.prog.globals.findIdx? (·.name == "internal/bytealg.MaxLen") = some 3 := by kernel_rfl
noncomputable def noR (f : Nat) : Bool := match (Tryz.prog.funcs[f]?).bind (·.body) with
 | none => true
 | some c => (rounds c).isEmpty
theorem noRs : noR 92 = true ∧ noR 127 = true ∧ noR 177 = true ∧ noR 178 = true := ⟨by kernel_rfl, by kernel_rfl, by kernel_rfl, by kernel_rfl⟩
theorem okF_lt {f : Nat} (h : okF f = true) : f < 240 := by
 unfold okF at h
 simp only [Bool.or_eq_true, Bool.and_eq_true, Nat.ble_eq, Nat.beq_eq] at h
 omega
def bareF (f : Nat) : Bool := [50, 51, 52, 67, 85, 86, 87, 123, 158, 188, 202, 203, 209, 212, 214, 215].contains f
noncomputable def bareB (f : Nat) : Bool := !okF f || match Tryz.prog.funcs[f]? with
 | none => true
 | some fn => !(fn.name == "runtime.NumGoroutine") && (fn.body.isSome || bareF f)
set_option maxRecDepth 1000000 in
theorem bareT : (List.range 240).all bareB = true := by kernel_rfl
end Go.Mx
namespace Go.Mx
open Go Go.Pr Go.Proofs
theorem getD0 {ρ : Rn} {xs xs' : Array Value} (hx : AR ρ xs xs') : VR ρ (xs.getD 0 (.tuple #[])) (xs'.getD 0 (.tuple #[])) := by
 obtain ⟨xs⟩ := xs
 obtain ⟨xs'⟩ := xs'
 have hx : LR ρ xs xs' := hx
 cases hx with
 | nil => exact .tuple .nil
 | cons x _ => exact x
def XE (P : Program) (ok : Nat → Prop) (fn : Func) : Prop := match Extern.findNext fn with
 | some e => ∀ (ρ : Rn) (xs xs' : Array Value), ρ.ok = ok → KF P ρ → AR ρ xs xs' → SemR P NextR ρ (e xs) (e xs')
 | none => match Extern.find fn with
  | some e => ∀ (ρ : Rn) (xs xs' : Array Value), ρ.ok = ok → KF P ρ → AR ρ xs xs' → SemR P VRr ρ (e xs) (e xs')
  | none => True
theorem xe_of {P : Program} {ok : Nat → Prop} {fn : Func} {e : Array Value → Sem Value} (h1 : Extern.findNext fn = none) (h2 : Extern.find fn = some e) (h : ∀ (ρ : Rn) (xs xs' : Array Value), KF P ρ → AR ρ xs xs' → SemR P VRr ρ (e xs) (e xs')) : XE P ok fn := by
 unfold XE
 rw [h1]
 dsimp only
 rw [h2]
 exact fun ρ xs xs' _ k x => h ρ xs xs' k x
theorem xe_no {P : Program} {ok : Nat → Prop} {fn : Func} (h1 : Extern.findNext fn = none) (h2 : Extern.find fn = none) : XE P ok fn := by
 unfold XE
 rw [h1]
 dsimp only
 rw [h2]
 trivial
section
variable {ok : Nat → Prop}
theorem pfT : PF Tryz.prog := ⟨fun ρ t i v hi hv => info_zero (fun t i v hi hv => by
 have h4 := List.all_eq_true.1 zerT i (by
  rw [Array.getElem?_eq_some_iff] at hi
  obtain ⟨h, rfl⟩ := hi
  simp)
 rw [hv] at h4
 exact plainV_ok 8 v h4) t i v hi hv ρ⟩
set_option maxRecDepth 100000 in
theorem xe50 : XE Tryz.prog ok Tryz.f50 := xe_of (e := fun args => Extern.ReflectliteValue.unpack (args.getD 0 (.tuple #[]))) (by kernel_rfl) (by kernel_rfl) fun ρ xs xs' hk hx => R_unpack (ρ := ρ) hk (getD0 hx)
set_option maxRecDepth 100000 in
theorem xe51 : XE Tryz.prog ok Tryz.f51 := xe_of (e := Extern.ReflectliteValue.methodAny (Extern.ReflectliteValue.valueError "reflectlite.Value.Type" 0) fun t _ _ _ => Extern.ReflectliteType.toType t) (by kernel_rfl) (by kernel_rfl) fun ρ xs xs' hk hx => R_methodAny hk (fun σ l => R_valueError _ _) (fun σ t a a' n k l _ => R_toType (hk.mono l) t) hx
set_option maxRecDepth 100000 in
theorem xe52 : XE Tryz.prog ok Tryz.f52 := xe_of (e := Extern.ReflectliteValue.method (Extern.ReflectliteValue.valueError "reflectlite.Value.IsNil" 0) Extern.ReflectliteValue.isNil) (by kernel_rfl) (by kernel_rfl) fun ρ xs xs' hk hx => R_methodV hk (fun σ l => R_valueError _ _) (fun σ t a a' n k l ha => R_isNilV t ha n k) hx
set_option maxRecDepth 100000 in
theorem xe67 : XE Tryz.prog ok Tryz.f67 := xe_of (e := Extern.AbiNoEscape.same) (by kernel_rfl) (by kernel_rfl) fun ρ xs xs' hk hx => R_noEscape hx
set_option maxRecDepth 100000 in
theorem xe85 : XE Tryz.prog ok Tryz.f85 := xe_of (e := Extern.ReflectliteType.typeOf) (by kernel_rfl) (by kernel_rfl) fun ρ xs xs' hk hx => R_typeOf hk hx
set_option maxRecDepth 100000 in
theorem xe86 : XE Tryz.prog ok Tryz.f86 := xe_of (e := Extern.ReflectliteValue.method (Extern.ReflectliteValue.valueError "reflectlite.Value.Elem" 0) Extern.ReflectliteValue.elem) (by kernel_rfl) (by kernel_rfl) fun ρ xs xs' hk hx => R_methodV hk (fun σ l => R_valueError _ _) (fun σ t a a' n k l ha => R_elemV (hk.mono l) t ha n k) hx
set_option maxRecDepth 100000 in
theorem xe87 : XE Tryz.prog ok Tryz.f87 := xe_of (e := Extern.ReflectliteValue.set) (by kernel_rfl) (by kernel_rfl) fun ρ xs xs' hk hx => R_setV hk hx
set_option maxRecDepth 100000 in
theorem xe123 : XE Tryz.prog ok Tryz.f123 := xe_of (e := Extern.BytealgIndex.index) (by kernel_rfl) (by kernel_rfl) fun ρ xs xs' hk hx => R_indexStr hk hx
set_option maxRecDepth 100000 in
theorem xe158 : XE Tryz.prog ok Tryz.f158 := xe_of (e := Extern.BytealgIndexByte.indexByte) (by kernel_rfl) (by kernel_rfl) fun ρ xs xs' hk hx => R_indexByte hx
set_option maxRecDepth 100000 in
theorem xe188 : XE Tryz.prog ok Tryz.f188 := xe_of (e := Extern.BytealgMakeNoZero.makeNoZero Tryz.f188.params Tryz.f188.resultTypes) (by kernel_rfl) (by kernel_rfl) fun ρ xs xs' hk hx => R_makeNoZero pfT hk _ _ hx
set_option maxRecDepth 100000 in
theorem xe202 : XE Tryz.prog ok Tryz.f202 := xe_no (by kernel_rfl) (by kernel_rfl)
set_option maxRecDepth 100000 in
theorem xe203 : XE Tryz.prog ok Tryz.f203 := xe_of (e := Extern.ReflectliteType.abiMethod fun t => do pure (.int .u8 (← Extern.Rtype.kind t))) (by kernel_rfl) (by kernel_rfl) fun ρ xs xs' hk hx => R_abiMethod hk (fun σ t l => R_kindInt t) hx
set_option maxRecDepth 100000 in
theorem xe209 : XE Tryz.prog ok Tryz.f209 := xe_of (e := Extern.ReflectliteValue.method (pure (.int .u8 0)) fun _ _ _ k => pure (.int .u8 (Int.ofNat k))) (by kernel_rfl) (by kernel_rfl) fun ρ xs xs' hk hx => R_methodV hk (fun σ l => R_pure (.int .u8 0)) (fun σ t a a' n k l ha => R_pure (.int .u8 (Int.ofNat k))) hx
set_option maxRecDepth 100000 in
theorem xe212 : XE Tryz.prog ok Tryz.f212 := xe_of (e := Extern.ReflectliteType.relation "AssignableTo" Extern.ReflectliteType.assignableTo) (by kernel_rfl) (by kernel_rfl) fun ρ xs xs' hk hx => R_relation hk _ st_assignable hx
set_option maxRecDepth 100000 in
theorem xe214 : XE Tryz.prog ok Tryz.f214 := xe_of (e := Extern.ReflectliteType.method Extern.ReflectliteType.elem) (by kernel_rfl) (by kernel_rfl) fun ρ xs xs' hk hx => R_methodT hk (fun σ t l => R_elemT (hk.mono l) t) hx
set_option maxRecDepth 100000 in
theorem xe215 : XE Tryz.prog ok Tryz.f215 := xe_of (e := Extern.ReflectliteType.relation "Implements" Extern.ReflectliteType.implements_) (by kernel_rfl) (by kernel_rfl) fun ρ xs xs' hk hx => R_relation hk _ st_implements_ hx
set_option maxRecDepth 100000 in
theorem xfT (h : ∀ f, ok f → okF f = true) : XF Tryz.prog ok := by
 intro f fn hf ho
 have h1 := h f ho
 have h2 := List.all_eq_true.1 bareT f (List.mem_range.2 (okF_lt h1))
 unfold bareB at h2
 rw [h1, hf] at h2
 simp only [Bool.not_true, Bool.false_or, Bool.and_eq_true] at h2
 refine ⟨by simpa using h2.1, fun hb => ?_⟩
 have h3 := h2.2
 have hbs : fn.body.isSome = false := by cases hh : fn.body <;> simp_all
 rw [hbs, Bool.false_or] at h3
 unfold bareF at h3
 simp only [List.contains_cons, List.contains_nil, Bool.or_eq_true, beq_iff_eq, Bool.or_false] at h3
 show XE Tryz.prog ok fn
 rcases h3 with rfl | rfl | rfl | rfl | rfl | rfl | rfl | rfl | rfl | rfl | rfl | rfl | rfl | rfl | rfl | rfl
 ·obtain rfl := Option.some.inj (Tryz.func50.symm.trans hf)
  exact xe50
 ·obtain rfl := Option.some.inj (Tryz.func51.symm.trans hf)
  exact xe51
 ·obtain rfl := Option.some.inj (Tryz.func52.symm.trans hf)
  exact xe52
 ·obtain rfl := Option.some.inj (Tryz.func67.symm.trans hf)
  exact xe67
 ·obtain rfl := Option.some.inj (Tryz.func85.symm.trans hf)
  exact xe85
 ·obtain rfl := Option.some.inj (Tryz.func86.symm.trans hf)
  exact xe86
 ·obtain rfl := Option.some.inj (Tryz.func87.symm.trans hf)
  exact xe87
 ·obtain rfl := Option.some.inj (Tryz.func123.symm.trans hf)
  exact xe123
 ·obtain rfl := Option.some.inj (Tryz.func158.symm.trans hf)
  exact xe158
 ·obtain rfl := Option.some.inj (Tryz.func188.symm.trans hf)
  exact xe188
 ·obtain rfl := Option.some.inj (Tryz.func202.symm.trans hf)
  exact xe202
 ·obtain rfl := Option.some.inj (Tryz.func203.symm.trans hf)
  exact xe203
 ·obtain rfl := Option.some.inj (Tryz.func209.symm.trans hf)
  exact xe209
 ·obtain rfl := Option.some.inj (Tryz.func212.symm.trans hf)
  exact xe212
 ·obtain rfl := Option.some.inj (Tryz.func214.symm.trans hf)
  exact xe214
 ·obtain rfl := Option.some.inj (Tryz.func215.symm.trans hf)
  exact xe215
end
end Go.Mx
namespace Go.Pr
open Go
theorem underlying_id {P : Program} (t : TypeId) : P.underlying t = (P.info? (P.underlyingId t)).map (·.desc) := by
 unfold Program.underlying Program.underlyingId
 cases h : P.info? t with
 | none => simp [h]
 | some i =>
  obtain ⟨d⟩ := i
  cases d <;> simp [h]
theorem bare_of {P : Program} {e : TypeId} {d : TypeDesc} (h : P.underlying e = some d) (hs : ∀ fs, d ≠ .struct fs) (ha : ∀ n t, d ≠ .array n t) (hi : d ≠ .int .u8) : bare P e := by
 intro k off n u hn hu
 have hne : ¬ P.underlyingId e = P.underlyingId u := fun he => by
  rw [underlying_id, he, ← underlying_id, hu] at h
  exact hi (Option.some.inj h).symm
 have hfit : ∀ D, sameLayout P D e u = false := by
  intro D
  cases D with
  | zero => rfl
  | succ D =>
   unfold sameLayout
   rw [h, hu]
   have : (P.underlyingId e == P.underlyingId u) = false := by simpa using hne
   rw [this, Bool.false_or]
   cases d <;> first | rfl | skip
   rename_i k
   cases k <;> first | rfl | exact absurd rfl hi
 have hrow : ∀ D n, rowAt P (sameLayout P P.depth · u) D e k off n = false := by
  intro D n
  cases D with
  | zero => rfl
  | succ D =>
   unfold rowAt
   simp only [hfit, h, Bool.and_false, Bool.false_or]
   split
   ·rfl
   ·cases d <;> first | exact absurd rfl (hs _) | exact absurd rfl (ha _ _) | simp
 cases hD : P.depth with
 | zero => rfl
 | succ D =>
  unfold liesAt
  rw [hu]
  simp only [Bool.or_false]
  exact hrow _ _
end Go.Pr
