/- A world in which the table of first bytes is laid. A row's condition parted from its handles; a world in which all is laid. The marks that compare, out of a row's laid list. -/
import Derived.Test.YtnjjajanfedjiaaGreatDoorPtuM37
import Derived.LaidMore
import Derived.ChangeSame
import Derived.Test.YtnjjajanfedjiaaGreatDoorPtuM27
set_option linter.unusedSimpArgs false
set_option linter.unusedVariables false
namespace Go.Proofs.YtnjjajanfedjiaaGreatDoor
open Go.RowKit
def litCells : DataW Unit → Array Value
 | .agg l => (l.map fun
  | .lit (.int k z) => Value.int k z
  | .lit (.string s) => Value.string (bs s)
  | _ => undef).toArray
 | _ => #[]
def withFirst (w0 : World) : World :=
 { w0 with heap := w0.heap.modify 9 fun
   | .cells _ t fz => .cells (litCells Go.Pinned.utf8First) t fz
   | o => o }
end Go.Proofs.YtnjjajanfedjiaaGreatDoor
namespace Go.Proofs.YtnjjajanfedjiaaGreatDoor
open Go.RowKit Go.Shelf Go.ChangeShapes Go.WideShapes Go.ChangeShapes
noncomputable def refWorld (os : Os) : World := withErr (withFirst (World.doorLaid Tryz.prog 400 os))
theorem laid_parts {P : Program} {laid : List (String × DataW Unit)} {hd : String × DataW Unit} {W : World} (hl : (laid.filter fun x => x.2.handleName?.isSome) = [hd]) (h : laidMetH P laid W) :
  laidMet P (laid.filter fun x => x.2.handleName?.isNone) W ∧ handlesMet P [hd] W := by
 unfold laidMetH at h
 rw [hl] at h
 exact h
end Go.Proofs.YtnjjajanfedjiaaGreatDoor
namespace Go.Proofs.YtnjjajanfedjiaaGreatDoor
open Go.RowKit Go.ChangeShapes Go.WideShapes
def litText : DataW Unit → Bs
 | .lit (.string s) => s
 | _ => []
theorem En.cg : Tryz.prog.globalNamed "foreman/ops.compares" = some 4 := by kernel_rfl
theorem En.ct : (Tryz.prog.globals[4]?).map (·.type) = some 39 := by kernel_rfl
theorem compares_at {W : World} (h : laidMet Tryz.prog [("foreman/ops.compares", Rows.laid_foreman_ops_compares)] W) : ∃ A c, W.cell? ⟨4, 0, none⟩ = some (.slice A 6 c) ∧ Rd W [] 1 A 6 (strs compares) := by
 obtain ⟨ps, ⟨g', t', cs, fuel, p, q, hg', ht', hvar, hd, _, _⟩, _⟩ := h
 obtain rfl := Option.some.inj (En.cg.symm.trans hg')
 obtain rfl := Option.some.inj (En.ct.symm.trans ht')
 rcases open_strings Tryz.underlying39 Tryz.underlying9 (by kernel_rfl) hd with ⟨_, h0⟩ | ⟨a, len, cap, ss, hcs, _, hl, hcap, hlen, hx, hcell, hw⟩
 ·have := congrArg Prod.fst h0
  cases this
 ·have h1 := congrArg Prod.fst hx
  injection h1 with e1 e2
  have e3 : compares = (ss.take len).map (·.data.toList) := by
   have := congrArg (List.map litText) e1
   refine (Eq.trans (by rfl) this).trans ?_
   unfold Go.ChangeShapes.strs
   rw [List.map_map]
   rfl
  have hle : len ≤ ss.length := by rw [hlen]; split <;> omega
  have hl6 : len = 6 := by
   have := congrArg List.length e3
   simp [compares] at this
   omega
  subst hl6
  have hc0 : W.cell? ⟨4, 0, none⟩ = some (.slice (some a) 6 cap) := by
   rw [World.var?_cell En.cg hvar 0, ← Array.getElem?_toList, hcs]
   rfl
  refine ⟨some a, cap, hc0, rfl, fun _ => ⟨a, rfl, by simp, ?_, fun j u hu => ?_⟩⟩
  ·have := World.block_lt_of_cell? _ _ (hcell 0 (by omega))
   rwa [block_add] at this
  ·rw [e3] at hu
   unfold strs at hu
   rw [List.map_map, List.getElem?_map, Option.map_eq_some_iff] at hu
   obtain ⟨y, hy, rfl⟩ := hu
   rw [List.getElem?_take] at hy
   split at hy
   ·rename_i hj
    rw [hcell j (by omega), List.getD_eq_getElem?_getD, hy]
    rfl
   ·cases hy
end Go.Proofs.YtnjjajanfedjiaaGreatDoor
