/- What flows lean on, out of a row's laid list; a world in which it is laid. The handle of the type error, out of a row's condition; a world in which it is laid. A world in which the table of first bytes is laid. -/
import Derived.Test.YtnjjajanfedjiaaGreatDoorFrdM35
import Derived.Test.YtnjjajanfedjiaaGreatDoorFrdM8
import Derived.Test.YtnjjajanfedjiaaGreatDoorFrdM27
import Derived.LaidMore
set_option linter.unusedSimpArgs false
set_option linter.unusedVariables false
namespace Go.Proofs.YtnjjajanfedjiaaGreatDoor
open Go.RowKit Go.Shelf Go.ChangeShapes Go.WideShapes
theorem Fn.p10g : Tryz.prog.globalNamed "internal/strconv.uint64pow10" = some 8 := by kernel_rfl
theorem Fn.p10t : (Tryz.prog.globals[8]?).map (·.type) = some 242 := by kernel_rfl
theorem Fn.sg : Tryz.prog.globalNamed "strconv.ErrSyntax" = some 6 := by kernel_rfl
theorem Fn.st : (Tryz.prog.globals[6]?).map (·.type) = some 33 := by kernel_rfl
theorem Fn.rg : Tryz.prog.globalNamed "strconv.ErrRange" = some 7 := by kernel_rfl
theorem Fn.rt : (Tryz.prog.globals[7]?).map (·.type) = some 33 := by kernel_rfl
theorem Fn.mg : Tryz.prog.globalNamed "foreman/flow.marks" = some 2 := by kernel_rfl
theorem Fn.mt : (Tryz.prog.globals[2]?).map (·.type) = some 168 := by kernel_rfl
theorem Fn.wg : Tryz.prog.globalNamed "foreman/flow.words" = some 1 := by kernel_rfl
theorem Fn.wt : (Tryz.prog.globals[1]?).map (·.type) = some 101 := by kernel_rfl
theorem texts_at {W : World} {nm : String} {g : Nat} {t : TypeId} {n : Nat} {zs : List Bs} {d : DataW Unit} (hg : Tryz.prog.globalNamed nm = some g) (hty : (Tryz.prog.globals[g]?).map (·.type) = some t) (ht : Tryz.prog.underlying t = some (.array n 9)) (hct : Tryz.prog.cellsOf t = n)
  (e : d = .agg (zs.map fun z => .lit (.string z))) (h : laidMet Tryz.prog [(nm, d)] W) : ∀ j (hj : j < zs.length), W.cell? ⟨g, j, none⟩ = some (.string (bs zs[j])) := by
 rw [e] at h
 obtain ⟨ps, ⟨g', t', cs, fuel, p, q, hg', ht', hvar, hd, _, _⟩, _⟩ := h
 obtain rfl := Option.some.inj (hg.symm.trans hg')
 obtain rfl := Option.some.inj (hty.symm.trans ht')
 have hc := cells_of_strs ht Tryz.underlying9 (by kernel_rfl) hct hd
 intro j hj
 rw [World.var?_cell hg hvar j, ← Array.getElem?_toList, hc, List.getElem?_map, List.getElem?_eq_getElem hj]
 rfl
theorem fenv_of {laid : List (String × DataW Unit)} {W : World}
  (h1 : laid.filter (fun x => x.1 == "internal/strconv.uint64pow10") = [("internal/strconv.uint64pow10", Rows.laid_internal_strconv_uint64pow10)])
  (h2 : laid.filter (fun x => x.1 == "foreman/flow.marks") = [("foreman/flow.marks", Rows.laid_foreman_flow_marks)])
  (h3 : laid.filter (fun x => x.1 == "strconv.ErrSyntax") = [("strconv.ErrSyntax", Rows.laid_strconv_ErrSyntax)])
  (h4 : laid.filter (fun x => x.1 == "strconv.ErrRange") = [("strconv.ErrRange", Rows.laid_strconv_ErrRange)])
  (h5 : laid.filter (fun x => x.1 == "foreman/flow.words") = [("foreman/flow.words", Rows.laid_foreman_flow_words)])
  (h : laidMet Tryz.prog laid W) (hs : W.ShapedOpen Tryz.prog) : FEnv W := by
 refine ⟨?_, iface_at Fn.sg Fn.st Tryz.underlying33 (one_of _ _ h3 h), iface_at Fn.rg Fn.rt Tryz.underlying33 (one_of _ _ h4 h),
  texts_at (zs := marksL) Fn.mg Fn.mt Tryz.underlying168 (by kernel_rfl) (by kernel_rfl) (one_of _ _ h2 h), texts_at (zs := wordsL) Fn.wg Fn.wt Tryz.underlying101 (by kernel_rfl) (by kernel_rfl) (one_of _ _ h5 h), ?_⟩
 ·have e : (Rows.laid_internal_strconv_uint64pow10 : DataW Unit) = Lib.tabData .u64 Lib.pow10Tab := by kernel_rfl
  have h' := one_of _ _ h1 h
  rw [e] at h'
  exact Lib.tabIs_of_head Fn.p10g Fn.p10t Tryz.underlying242 Tryz.underlying210 (by kernel_rfl) (by kernel_rfl) h'
 ·obtain ⟨cs, h1, _⟩ := hs.1 1 #[.string ⟨#[]⟩, .string ⟨#[]⟩, .string ⟨#[]⟩, .string ⟨#[]⟩, .string ⟨#[]⟩, .string ⟨#[]⟩, .string ⟨#[]⟩, .string ⟨#[]⟩, .string ⟨#[]⟩, .string ⟨#[]⟩] 101 (of_decide_eq_true (by kernel_rfl)) (by kernel_rfl)
  exact ⟨cs, _, h1⟩
end Go.Proofs.YtnjjajanfedjiaaGreatDoor
namespace Go.Proofs.YtnjjajanfedjiaaGreatDoor
open Go.RowKit
theorem Hd.et : Tryz.prog.globalNamed "errors.errorType" = some 3 := by kernel_rfl
theorem Hd.rt : (Tryz.prog.cutTypes.find? (·.1 == "internal/reflectlite.rtype")).map (·.2) = some 216 := by kernel_rfl
theorem Hd.oneRow : ((List.range 292).filter fun t => Tryz.prog.rowNamed t [101, 114, 114, 111, 114]) = [33] := by kernel_rfl
theorem Hd.size : Tryz.prog.types.size = 292 := by kernel_rfl
theorem handle_of {laid : List (String × DataW Unit)} (hm : ("errors.errorType", Rows.laid_errors_errorType) ∈ laid) {W : World} (h : handlesMet Tryz.prog laid W) : ErrTy W := by
 obtain ⟨name, u, ty, e1, e2, e3, e4, e5⟩ := h _ hm
 have en : name = [101, 114, 114, 111, 114] := (Option.some.inj e1).symm
 subst en
 obtain rfl := Option.some.inj (Hd.rt.symm.trans e2)
 have hm : ty ∈ (List.range 292).filter fun t => Tryz.prog.rowNamed t [101, 114, 114, 111, 114] := List.mem_filter.2 ⟨List.mem_range.2 (by rw [← Hd.size]; exact e3), e4⟩
 rw [Hd.oneRow] at hm
 obtain rfl := List.mem_singleton.1 hm
 have hh : typeHandle Tryz.prog 33 = .pointer (some ⟨13, 33, none⟩) := by kernel_rfl
 rw [hh] at e5
 show W.cell? _ = _
 simpa using World.var?_cell Hd.et e5 0
def withErr (w0 : World) : World :=
 { w0 with heap := w0.heap.modify 3 fun
   | .cells _ t frozen => .cells #[.iface 216 (.agg #[.pointer (some ⟨13, 33, none⟩)])] t frozen
   | o => o }
end Go.Proofs.YtnjjajanfedjiaaGreatDoor
namespace Go.Proofs.YtnjjajanfedjiaaGreatDoor
open Go.RowKit
def litCells : DataW Unit → Array Value
 | .agg l => (l.map fun
  | .lit (.int k z) => Value.int k z
  | .lit (.string s) => Value.string (bs s)
  | _ => undef).toArray
 | _ => #[]
def withFirst (w0 : World) : World :=
 { w0 with heap := w0.heap.modify 9 fun
   | .cells _ t fz => .cells (litCells Go.Pinned.utf8First) t fz
   | o => o }
end Go.Proofs.YtnjjajanfedjiaaGreatDoor
