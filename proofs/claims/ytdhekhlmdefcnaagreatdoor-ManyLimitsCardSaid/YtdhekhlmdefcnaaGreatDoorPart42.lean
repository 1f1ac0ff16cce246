/- Part 42 of the proof: LLaid. -/
import Derived.Test.YtdhekhlmdefcnaaGreatDoorPart41
import Derived.Test.YtdhekhlmdefcnaaGreatDoorPart34
import Derived.Lay
import Derived.Lib.LaidTab
namespace Go.Proofs.YtdhekhlmdefcnaaGreatDoor
open Go.ChangeShapes Go.WideShapes Go.ChangeAt Go.RowKit Go.Deep
theorem gTab : Tryz.prog.globalNamed "math/bits.deBruijn64tab" = some 8 := by kernel_rfl
theorem tTab : (Tryz.prog.globals[8]?).map (·.type) = some 269 := by kernel_rfl
theorem gPow : Tryz.prog.globalNamed "internal/strconv.uint64pow10" = some 6 := by kernel_rfl
theorem tPow : (Tryz.prog.globals[6]?).map (·.type) = some 240 := by kernel_rfl
theorem tabList : (Rows.laid_math_bits_deBruijn64tab : DataW Unit) = Lib.tabData .u8 (dbTab.map fun (x : Nat) => (x : Int)) := by kernel_rfl
theorem powList : (Rows.laid_internal_strconv_uint64pow10 : DataW Unit) = Lib.tabData .u64 Lib.pow10Tab := by kernel_rfl
theorem etG : Tryz.prog.globalNamed "errors.errorType" = some 0 := by kernel_rfl
theorem etR : (Tryz.prog.cutTypes.find? (·.1 == "internal/reflectlite.rtype")).map (·.2) = some 135 := by kernel_rfl
theorem etOne : ((List.range Tryz.prog.types.size).filter fun t => Tryz.prog.rowNamed t [101, 114, 114, 111, 114]) = [25] := by kernel_rfl
theorem etype_of_handles {W : World} (h' : handlesMet Tryz.prog [("errors.errorType", Rows.laid_errors_errorType)] W) : EType W := by
 obtain ⟨name, u, ty, e1, e2, e3, e4, e5⟩ := h' ("errors.errorType", Rows.laid_errors_errorType) (List.mem_singleton.2 rfl)
 have en : name = [101, 114, 114, 111, 114] := (Option.some.inj e1).symm
 subst en
 obtain rfl := Option.some.inj (etR.symm.trans e2)
 have hm : ty ∈ (List.range Tryz.prog.types.size).filter fun t => Tryz.prog.rowNamed t [101, 114, 114, 111, 114] := List.mem_filter.2 ⟨List.mem_range.2 e3, e4⟩
 rw [etOne] at hm
 obtain rfl := List.mem_singleton.1 hm
 have hh : typeHandle Tryz.prog 25 = .pointer (some ⟨9, 25, none⟩) := by kernel_rfl
 rw [hh] at e5
 have := World.var?_cell etG e5 0
 simp at this
 exact this
abbrev deskList : List (String × DataW Unit) := [("math/bits.deBruijn32tab", Rows.laid_math_bits_deBruijn32tab), ("math/bits.deBruijn64tab", Rows.laid_math_bits_deBruijn64tab), ("internal/strconv.uint64pow10", Rows.laid_internal_strconv_uint64pow10), ("unicode/utf8.acceptRanges", Rows.laid_unicode_utf8_acceptRanges), ("errors.errorType", Rows.laid_errors_errorType), ("strconv.ErrRange", Rows.laid_strconv_ErrRange), ("strconv.ErrSyntax", Rows.laid_strconv_ErrSyntax), ("unicode/utf8.first", Rows.laid_unicode_utf8_first)]
abbrev dataList : List (String × DataW Unit) := [("math/bits.deBruijn32tab", Rows.laid_math_bits_deBruijn32tab), ("math/bits.deBruijn64tab", Rows.laid_math_bits_deBruijn64tab), ("internal/strconv.uint64pow10", Rows.laid_internal_strconv_uint64pow10), ("unicode/utf8.acceptRanges", Rows.laid_unicode_utf8_acceptRanges), ("strconv.ErrRange", Rows.laid_strconv_ErrRange), ("strconv.ErrSyntax", Rows.laid_strconv_ErrSyntax), ("unicode/utf8.first", Rows.laid_unicode_utf8_first)]
theorem laid_split : (deskList.filter fun x => x.2.handleName?.isNone) = dataList := by kernel_rfl
theorem laid_hand : (deskList.filter fun x => x.2.handleName?.isSome) = [("errors.errorType", Rows.laid_errors_errorType)] := by kernel_rfl
theorem std_of_laid {W : World} (h : laidMetH Tryz.prog deskList W) : Std W ∧ Lib.TabIs Tryz.prog W "math/bits.deBruijn64tab" .u8 (dbTab.map fun (x : Nat) => (x : Int)) := by
 unfold laidMetH at h
 rw [laid_hand, laid_split] at h
 have h' : laidMet Tryz.prog dataList W ∧ handlesMet Tryz.prog [("errors.errorType", Rows.laid_errors_errorType)] W := h
 obtain ⟨h1, h2⟩ := h'
 clear h
 have t1 := laidMet.tail h1
 have t2 := laidMet.tail t1
 rw [tabList] at t1
 rw [powList] at t2
 have k1 := Lib.tabIs_of_head gTab tTab Tryz.underlying269 Tryz.underlying5 (by kernel_rfl) (by kernel_rfl) t1
 have k2 := Lib.tabIs_of_head gPow tPow Tryz.underlying240 Tryz.underlying40 (by kernel_rfl) (by kernel_rfl) t2
 have ht : TabIs W := fun j v hv => by
  have hj := (List.getElem?_eq_some_iff.1 hv).1
  have := k1.cell gTab j (by simpa using hj)
  rw [this]
  congr 1
  simp [List.getD_eq_getElem?_getD, hv]
 have hs := World.block_lt_of_cell? W ⟨8, 0, none⟩ (ht 0 0 rfl)
 exact ⟨⟨k2, etype_of_handles h2, ht, hs⟩, k1⟩
noncomputable def deskW (os : Os) : World := (World.doorLaid Tryz.prog 400 os).layVars Tryz.prog dataList
theorem deskW_os (os : Os) : (deskW os).os = os := (World.layVars_os _ _ _).trans rfl
theorem desk_met (os : Os) (args : Array Value) : laidMetH Tryz.prog deskList ((deskW os).forCall (fun _ _ => 0) ⟨#[], args, []⟩).memory := by
 refine laidMetH_of_parts3 (fuel := 8) ?_ (by kernel_rfl) (by kernel_rfl)
 rw [laid_split]
 have e1 : (dataList.filter fun x => (dataList.map (·.1)).contains x.1) = dataList := List.filter_eq_self.2 fun x hx => List.contains_iff_mem.2 (List.mem_map.2 ⟨x, hx, rfl⟩)
 have e2 : (dataList.filter fun x => !(dataList.map (·.1)).contains x.1) = [] := List.filter_eq_nil_iff.2 fun x hx => by rw [List.contains_iff_mem.2 (List.mem_map.2 ⟨x, hx, rfl⟩)]; simp
 have h : laidMet Tryz.prog dataList (deskW os) := laidMet_layVars (w0 := World.doorLaid Tryz.prog 400 os) (dataList.map (·.1)) [] (by rw [e1]; rfl) (by rw [e1]; kernel_rfl) (by rw [e1]; kernel_rfl) (by rw [e2]; exact LaidIn.none)
 exact h.of_heap (by simp [World.memory, World.forCall, Input.heap])
theorem desk_shape (os : Os) (args : Array Value) : ((deskW os).forCall (fun _ _ => 0) ⟨#[], args, []⟩).Shaped Tryz.prog := World.shaped_of_ZipB (by kernel_rfl) (by kernel_rfl)
end Go.Proofs.YtdhekhlmdefcnaaGreatDoor
