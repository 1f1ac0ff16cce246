/- Short names. -/
import Derived.KernelRfl
import Derived.Lib.Hide
import GoSem.Machine.Start
namespace Go
theorem oM{p:Prop}(h:p:= by omega):p:= h
theorem dC{p:Prop}(h:p:= by decide):p:= h
theorem sM{p:Prop}(h:p:= by simp):p:= h
theorem kR{p:Prop}(h:p:= by kernel_rfl):p:= h
theorem rF{p:Prop}(h:p:= by rfl):p:= h
theorem hI{p:Prop}(h:p):RowKit.Hid p:= h
abbrev pT (b o : Nat) : Value := .pointer (some ⟨b, o, none⟩)
abbrev fg : Array Value := #[.int .i64 0, .int .i64 0, .int .i64 0, .int .i64 0, .int .i64 0, .int .i64 0, .int .i64 0, .int .i64 0, .int .i64 0, .int .i64 0, .int .i64 0, .int .i64 0, .int .i64 0, .int .i64 0, .int .i64 0, .int .i64 0, .int .i64 0]
abbrev gK : Array Value := #[.int .i64 0, .int .i64 0, .int .i64 0, .int .i64 0, .int .i64 0, .int .i64 0, .int .i64 0, .int .i64 0, .int .i64 0, .int .i64 0, .int .i64 0, .int .i64 0, .int .i64 0, .int .i64 0, .int .i64 0, .int .i64 0, .int .i64 0, .int .i64 0, .int .i64 0, .int .i64 0, .int .i64 0, .int .i64 0, .int .i64 0]
abbrev az:= @Array.getElem?_eq_some_iff
abbrev aj:= @Nat.le_refl
abbrev ax:= @List.setIfInBounds_toArray
abbrev aD:= @List.getD_eq_getElem?_getD
abbrev aH:= @List.set_cons_zero
abbrev aI:= @List.set_cons_succ
abbrev aT:= @Nat.lt_of_lt_of_le
abbrev aR:= @List.mem_of_getElem?
abbrev aX:= @List.getElem?_eq_some_iff
abbrev aU:= @Array.getD_eq_getD_getElem?
abbrev aV:= @Bool.and_eq_true
abbrev aY:= @List.getElem?_cons_succ
abbrev aZ:= @Array.getElem?_eq_getElem
abbrev aS:= @Nat.le_trans
abbrev ba:= @List.getElem?_toArray
abbrev bf:= @List.getElem?_cons_zero
abbrev bg:= @List.getElem?_eq_getElem
abbrev bh:= @Array.getElem?_setIfInBounds_ne
abbrev bm:= @List.length_append
abbrev bj:= @List.all_eq_true
abbrev bq:= @Option.some.injEq
abbrev br:= @Option.getD_some
abbrev bA:= @Nat.le_of_lt
abbrev bD:= @Array.append_empty
abbrev bG:= @List.foldl_cons
abbrev bH:= @Array.toList_push
abbrev bQ:= @Option.map_eq_some_iff
abbrev bJ:= @Option.some.inj
abbrev bN:= @List.length_cons
abbrev bV:= @List.getElem?_eq_none
abbrev bZ:= @List.take_of_length_le
abbrev bR:= @List.size_toArray
abbrev bS:= @List.foldl_nil
abbrev cn:= @Nat.pow_le_pow_right
abbrev bT:= @Nat.zero_le
abbrev bW:= @List.mem_singleton
abbrev cp:= @Nat.lt_or_ge
abbrev cg:= @Int.toNat_natCast
abbrev cw:= @Bool.or_eq_true
abbrev bX:= @List.mem_range
abbrev cx:= @Array.getElem?_setIfInBounds
abbrev cB:= @Array.getElem?_setIfInBounds_self_of_lt
abbrev cL:= @Array.getElem?_push_lt
abbrev cM:= @List.eq_nil_of_length_eq_zero
abbrev cX:= @List.length_nil
abbrev fe:= @List.getElem?_append_right
abbrev gZ:= @List.getElem?_append_left
abbrev jc:= @Option.bind_some
abbrev cH:= @Option.map_some
abbrev gQ:= @Array.mem_toList_iff
abbrev gR:= @List.getElem?_map
abbrev aK:= @List.getD_cons_zero
abbrev aL:= @List.getD_cons_succ
abbrev om:= @Nat.not_lt
abbrev oW:= @Option.isSome_iff_exists
abbrev dA:= @Bool.false_eq_true
abbrev cV:= @Array.toList_append
abbrev cS:= @Array.toList_map
abbrev cG:= @Nat.zero_add
abbrev bw := Array Value
abbrev cD := Nat -> Prop
abbrev aa := World
abbrev ae := Value
abbrev aF := Program
abbrev aw := TypeId
abbrev ay := ByteArray
abbrev aG := Goroutine
end Go
