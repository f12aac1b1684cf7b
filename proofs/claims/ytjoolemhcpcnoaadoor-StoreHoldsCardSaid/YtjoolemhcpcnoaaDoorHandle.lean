/- The handle of the type error, out of a row's condition; a world in which it is laid. -/
import Derived.Test.YtjoolemhcpcnoaaDoorFrame
import Derived.Test.YtjoolemhcpcnoaaDoorTell
namespace Go.Proofs.YtjoolemhcpcnoaaDoor
open Go.RowKit
theorem Hd.et : Tryd.prog.globalNamed "errors.errorType" = some 0 := by kernel_rfl
theorem Hd.rt : (Tryd.prog.cutTypes.find? (·.1 == "internal/reflectlite.rtype")).map (·.2) = some 153 := by kernel_rfl
theorem Hd.oneRow : ((List.range 220).filter fun t => Tryd.prog.rowNamed t [101, 114, 114, 111, 114]) = [30] := by kernel_rfl
theorem Hd.size : Tryd.prog.types.size = 220 := by kernel_rfl
theorem handle_of {laid : List (String × DataW Unit)} (hm : ("errors.errorType", Rows.laid_errors_errorType) ∈ laid) {W : World} (h : handlesMet Tryd.prog laid W) : ErrTy W := by
  obtain ⟨name, u, ty, e1, e2, e3, e4, e5⟩ := h _ hm
  have en : name = [101, 114, 114, 111, 114] := (Option.some.inj e1).symm
  subst en
  obtain rfl := Option.some.inj (Hd.rt.symm.trans e2)
  have hm : ty ∈ (List.range 220).filter fun t => Tryd.prog.rowNamed t [101, 114, 114, 111, 114] := List.mem_filter.2 ⟨List.mem_range.2 (by rw [← Hd.size]; exact e3), e4⟩
  rw [Hd.oneRow] at hm
  obtain rfl := List.mem_singleton.1 hm
  have hh : typeHandle Tryd.prog 30 = .pointer (some ⟨8, 30, none⟩) := by kernel_rfl
  rw [hh] at e5
  show W.cell? _ = _
  simpa using World.var?_cell Hd.et e5 0
/-- The variable's cell, laid in a world. -/
def withErr (w0 : World) : World :=
  { w0 with heap := w0.heap.modify 0 fun
      | .cells _ t frozen => .cells #[.iface 153 (.agg #[.pointer (some ⟨8, 30, none⟩)])] t frozen
      | o => o }
end Go.Proofs.YtjoolemhcpcnoaaDoor
