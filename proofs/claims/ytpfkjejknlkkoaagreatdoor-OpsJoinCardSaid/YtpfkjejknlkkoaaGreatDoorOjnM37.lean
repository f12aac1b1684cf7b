/- A world in which the table of first bytes is laid. What tables lean on, out of a row's condition; a world in which it is laid. The marks that compare, out of a row's laid list. -/
import Derived.Test.YtpfkjejknlkkoaaGreatDoorOjnM36
import Derived.LaidMore
import Derived.Test.YtpfkjejknlkkoaaGreatDoorOjnM10
import Derived.Test.YtpfkjejknlkkoaaGreatDoorRows
import Derived.Lib.LaidTab
import Derived.LaidLaws
import Derived.LaidSub
import Derived.Shelf.Vars
import Derived.HandedShaped
import Derived.Test.YtpfkjejknlkkoaaGreatDoorOjnM7
set_option linter.unusedSimpArgs false
set_option linter.unusedVariables false
namespace Go.Proofs.YtpfkjejknlkkoaaGreatDoor
open Go.RowKit
def litCells : DataW Unit → Array Value
 | .agg l => (l.map fun
  | .lit (.int k z) => Value.int k z
  | .lit (.string s) => Value.string (bs s)
  | _ => undef).toArray
 | _ => #[]
def withFirst (w0 : World) : World :=
 { w0 with heap := w0.heap.modify 5 fun
   | .cells _ t fz => .cells (litCells Go.Pinned.utf8First) t fz
   | o => o }
end Go.Proofs.YtpfkjejknlkkoaaGreatDoor
namespace Go.Proofs.YtpfkjejknlkkoaaGreatDoor
open Go.RowKit Go.Shelf Go.ChangeShapes Go.WideShapes
noncomputable def doorWorld (os : Os) : World := withFirst (World.doorLaid Tryz.prog 400 os)
theorem En.p10g : Tryz.prog.globalNamed "internal/strconv.uint64pow10" = some 7 := by kernel_rfl
theorem En.p10t : (Tryz.prog.globals[7]?).map (·.type) = some 194 := by kernel_rfl
theorem En.kg : Tryz.prog.globalNamed "foreman/table.kinds" = some 0 := by kernel_rfl
theorem En.kt : (Tryz.prog.globals[0]?).map (·.type) = some 79 := by kernel_rfl
theorem En.sg : Tryz.prog.globalNamed "strconv.ErrSyntax" = some 3 := by kernel_rfl
theorem En.st : (Tryz.prog.globals[3]?).map (·.type) = some 57 := by kernel_rfl
theorem En.rg : Tryz.prog.globalNamed "strconv.ErrRange" = some 4 := by kernel_rfl
theorem En.rt : (Tryz.prog.globals[4]?).map (·.type) = some 57 := by kernel_rfl
theorem tenv_of {laid : List (String × DataW Unit)} {W : World}
  (h1 : laid.filter (fun x => x.1 == "internal/strconv.uint64pow10") = [("internal/strconv.uint64pow10", Rows.laid_internal_strconv_uint64pow10)])
  (h2 : laid.filter (fun x => x.1 == "foreman/table.kinds") = [("foreman/table.kinds", Rows.laid_foreman_table_kinds)])
  (h3 : laid.filter (fun x => x.1 == "strconv.ErrSyntax") = [("strconv.ErrSyntax", Rows.laid_strconv_ErrSyntax)])
  (h4 : laid.filter (fun x => x.1 == "strconv.ErrRange") = [("strconv.ErrRange", Rows.laid_strconv_ErrRange)])
  (h : laidMet Tryz.prog laid W) (hs : W.ShapedOpen Tryz.prog) : TEnv W := by
 refine ⟨?_, ?_, ?_, iface_at En.sg En.st Tryz.underlying57 (one_of _ _ h3 h), iface_at En.rg En.rt Tryz.underlying57 (one_of _ _ h4 h)⟩
 ·have e : (Rows.laid_internal_strconv_uint64pow10 : DataW Unit) = Lib.tabData .u64 Lib.pow10Tab := by kernel_rfl
  have h' := one_of _ _ h1 h
  rw [e] at h'
  exact Lib.tabIs_of_head En.p10g En.p10t Tryz.underlying194 Tryz.underlying165 (by kernel_rfl) (by kernel_rfl) h'
 ·have e : (Rows.laid_foreman_table_kinds : DataW Unit) = .agg ([[], [105, 110, 116], [116, 101, 120, 116]].map fun z => .lit (.string z)) := by kernel_rfl
  have h' := one_of _ _ h2 h
  rw [e] at h'
  obtain ⟨ps, ⟨g', t', cs, fuel, p, q, hg', ht', hvar, hd, _, _⟩, _⟩ := h'
  obtain rfl := Option.some.inj (En.kg.symm.trans hg')
  obtain rfl := Option.some.inj (En.kt.symm.trans ht')
  have hc := cells_of_strs Tryz.underlying79 Tryz.underlying9 (by kernel_rfl) (by kernel_rfl) hd
  intro j hj
  rw [World.var?_cell En.kg hvar j, ← Array.getElem?_toList, hc]
  rcases j with _ | _ | _ | j
  ·rfl
  ·rfl
  ·rfl
  ·omega
 ·exact Go.Proofs.cell_of_shapedOpen_int (t := 3) (zero := #[.int .i64 0]) hs (of_decide_eq_true (by kernel_rfl)) (by kernel_rfl) rfl (by kernel_rfl) (by kernel_rfl) Tryz.underlying3
end Go.Proofs.YtpfkjejknlkkoaaGreatDoor
namespace Go.Proofs.YtpfkjejknlkkoaaGreatDoor
open Go.RowKit Go.ChangeShapes Go.WideShapes
def litText : DataW Unit → Bs
 | .lit (.string s) => s
 | _ => []
theorem En.cg : Tryz.prog.globalNamed "foreman/ops.compares" = some 1 := by kernel_rfl
theorem En.ct : (Tryz.prog.globals[1]?).map (·.type) = some 30 := by kernel_rfl
theorem compares_at {W : World} (h : laidMet Tryz.prog [("foreman/ops.compares", Rows.laid_foreman_ops_compares)] W) : ∃ A c, W.cell? ⟨1, 0, none⟩ = some (.slice A 6 c) ∧ Rd W [] 1 A 6 (strs compares) := by
 obtain ⟨ps, ⟨g', t', cs, fuel, p, q, hg', ht', hvar, hd, _, _⟩, _⟩ := h
 obtain rfl := Option.some.inj (En.cg.symm.trans hg')
 obtain rfl := Option.some.inj (En.ct.symm.trans ht')
 rcases open_strings Tryz.underlying30 Tryz.underlying9 (by kernel_rfl) hd with ⟨_, h0⟩ | ⟨a, len, cap, ss, hcs, _, hl, hcap, hlen, hx, hcell, hw⟩
 ·have := congrArg Prod.fst h0
  cases this
 ·have h1 := congrArg Prod.fst hx
  injection h1 with e1 e2
  have e3 : compares = (ss.take len).map (·.data.toList) := by
   have := congrArg (List.map litText) e1
   refine (Eq.trans (by rfl) this).trans ?_
   unfold Go.ChangeShapes.strs
   rw [List.map_map]
   rfl
  have hle : len ≤ ss.length := by rw [hlen]; split <;> omega
  have hl6 : len = 6 := by
   have := congrArg List.length e3
   simp [compares] at this
   omega
  subst hl6
  have hc0 : W.cell? ⟨1, 0, none⟩ = some (.slice (some a) 6 cap) := by
   rw [World.var?_cell En.cg hvar 0, ← Array.getElem?_toList, hcs]
   rfl
  refine ⟨some a, cap, hc0, rfl, fun _ => ⟨a, rfl, by simp, ?_, fun j u hu => ?_⟩⟩
  ·have := World.block_lt_of_cell? _ _ (hcell 0 (by omega))
   rwa [block_add] at this
  ·rw [e3] at hu
   unfold strs at hu
   rw [List.map_map, List.getElem?_map, Option.map_eq_some_iff] at hu
   obtain ⟨y, hy, rfl⟩ := hu
   rw [List.getElem?_take] at hy
   split at hy
   ·rename_i hj
    rw [hcell j (by omega), List.getD_eq_getElem?_getD, hy]
    rfl
   ·cases hy
end Go.Proofs.YtpfkjejknlkkoaaGreatDoor
