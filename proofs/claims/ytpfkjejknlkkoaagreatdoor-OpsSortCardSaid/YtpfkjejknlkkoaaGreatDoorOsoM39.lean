/- The marks that compare, out of a row's laid list. The package-level variables that jobs lean on, out of a row's laid list. Arguments opened: a slice of texts, by value. -/
import Derived.Test.YtpfkjejknlkkoaaGreatDoorOsoM38
import Derived.Test.YtpfkjejknlkkoaaGreatDoorOsoM7
import Derived.Test.YtpfkjejknlkkoaaGreatDoorOsoM27
import Derived.Test.YtpfkjejknlkkoaaGreatDoorOsoM36
set_option linter.unusedSimpArgs false
set_option linter.unusedVariables false
namespace Go.Proofs.YtpfkjejknlkkoaaGreatDoor
open Go.RowKit Go.ChangeShapes Go.WideShapes
def litText : DataW Unit → Bs
 | .lit (.string s) => s
 | _ => []
theorem En.cg : Tryz.prog.globalNamed "foreman/ops.compares" = some 1 := by kernel_rfl
theorem En.ct : (Tryz.prog.globals[1]?).map (·.type) = some 30 := by kernel_rfl
theorem compares_at {W : World} (h : laidMet Tryz.prog [("foreman/ops.compares", Rows.laid_foreman_ops_compares)] W) : ∃ A c, W.cell? ⟨1, 0, none⟩ = some (.slice A 6 c) ∧ Rd W [] 1 A 6 (strs compares) := by
 obtain ⟨ps, ⟨g', t', cs, fuel, p, q, hg', ht', hvar, hd, _, _⟩, _⟩ := h
 obtain rfl := Option.some.inj (En.cg.symm.trans hg')
 obtain rfl := Option.some.inj (En.ct.symm.trans ht')
 rcases open_strings Tryz.underlying30 Tryz.underlying9 (by kernel_rfl) hd with ⟨_, h0⟩ | ⟨a, len, cap, ss, hcs, _, hl, hcap, hlen, hx, hcell, hw⟩
 ·have := congrArg Prod.fst h0
  cases this
 ·have h1 := congrArg Prod.fst hx
  injection h1 with e1 e2
  have e3 : compares = (ss.take len).map (·.data.toList) := by
   have := congrArg (List.map litText) e1
   refine (Eq.trans (by rfl) this).trans ?_
   unfold Go.ChangeShapes.strs
   rw [List.map_map]
   rfl
  have hle : len ≤ ss.length := by rw [hlen]; split <;> omega
  have hl6 : len = 6 := by
   have := congrArg List.length e3
   simp [compares] at this
   omega
  subst hl6
  have hc0 : W.cell? ⟨1, 0, none⟩ = some (.slice (some a) 6 cap) := by
   rw [World.var?_cell En.cg hvar 0, ← Array.getElem?_toList, hcs]
   rfl
  refine ⟨some a, cap, hc0, rfl, fun _ => ⟨a, rfl, by simp, ?_, fun j u hu => ?_⟩⟩
  ·have := World.block_lt_of_cell? _ _ (hcell 0 (by omega))
   rwa [block_add] at this
  ·rw [e3] at hu
   unfold strs at hu
   rw [List.map_map, List.getElem?_map, Option.map_eq_some_iff] at hu
   obtain ⟨y, hy, rfl⟩ := hu
   rw [List.getElem?_take] at hy
   split at hy
   ·rename_i hj
    rw [hcell j (by omega), List.getD_eq_getElem?_getD, hy]
    rfl
   ·cases hy
end Go.Proofs.YtpfkjejknlkkoaaGreatDoor
namespace Go.Proofs.YtpfkjejknlkkoaaGreatDoor
open Go.RowKit Go.ChangeShapes Go.WideShapes
theorem oenv_of {laid : List (String × DataW Unit)} {W : World}
  (h1 : laid.filter (fun x => x.1 == "internal/strconv.uint64pow10") = [("internal/strconv.uint64pow10", Rows.laid_internal_strconv_uint64pow10)])
  (h2 : laid.filter (fun x => x.1 == "foreman/table.kinds") = [("foreman/table.kinds", Rows.laid_foreman_table_kinds)])
  (h3 : laid.filter (fun x => x.1 == "strconv.ErrSyntax") = [("strconv.ErrSyntax", Rows.laid_strconv_ErrSyntax)])
  (h4 : laid.filter (fun x => x.1 == "strconv.ErrRange") = [("strconv.ErrRange", Rows.laid_strconv_ErrRange)])
  (h5 : laid.filter (fun x => x.1 == "foreman/ops.compares") = [("foreman/ops.compares", Rows.laid_foreman_ops_compares)])
  (h : laidMet Tryz.prog laid W) (hs : W.ShapedOpen Tryz.prog) : OEnv W := ⟨tenv_of h1 h2 h3 h4 h hs, ⟨compares_at (one_of _ _ h5 h)⟩⟩
end Go.Proofs.YtpfkjejknlkkoaaGreatDoor
namespace Go.Proofs.YtpfkjejknlkkoaaGreatDoor
open Go.RowKit Go.ChangeShapes Go.WideShapes Go.Joins
section
variable {H : Type} {enc : TypeId × Value → H} {w : World} {base b0 : Nat} {spare : Nat → Bool} {held : Bool} {v : Value} {d : DataW H} {p : List MemPlace} {r : Reach}
set_option maxRecDepth 100000 in
theorem open_textsV (hv : Value.okWide Tryz.prog w r b0 30 v) (h : DataW.Trod enc Tryz.prog w base spare held 30 v d p) : ∃ (A : Option Addr) (c : Nat) (l : List Bs), v = .slice A l.length c ∧ Rd w [] 1 A l.length (strs l) ∧ l.length ≤ c := by
 obtain ⟨a, n, c, rfl⟩ := okWide_slice Tryz.underlying30 hv
 obtain ⟨m, hm⟩ := h
 obtain ⟨A, c', l, e, h1, _, h3, _⟩ := open_texts hm
 simp [Value.cells] at e
 obtain ⟨rfl, rfl, rfl⟩ := e
 exact ⟨_, _, l, rfl, h3, h1⟩
end
end Go.Proofs.YtpfkjejknlkkoaaGreatDoor
