/- What the reference leans on, out of a row's laid list. FlowReads: the law, whole. -/
import Derived.Test.YtnjjajanfedjiaaGreatDoorFrdM36
import Derived.Test.YtnjjajanfedjiaaGreatDoorFrdM16
import Derived.ChangeSame
import Derived.Test.YtnjjajanfedjiaaGreatDoorFrdM35
import Derived.ChangeMaps5
set_option linter.unusedSimpArgs false
set_option linter.unusedVariables false
namespace Go.Proofs.YtnjjajanfedjiaaGreatDoor
open Go.RowKit Go.Shelf Go.ChangeShapes Go.WideShapes Go.ChangeShapes
noncomputable def refWorld (os : Os) : World := withErr (withFirst (World.doorLaid Tryz.prog 400 os))
theorem laid_parts {P : Program} {laid : List (String × DataW Unit)} {hd : String × DataW Unit} {W : World} (hl : (laid.filter fun x => x.2.handleName?.isSome) = [hd]) (h : laidMetH P laid W) :
  laidMet P (laid.filter fun x => x.2.handleName?.isNone) W ∧ handlesMet P [hd] W := by
 unfold laidMetH at h
 rw [hl] at h
 exact h
theorem Rn.fg : Tryz.prog.globalNamed "foreman/foremanref.Fine" = some 0 := by kernel_rfl
theorem Rn.ft : (Tryz.prog.globals[0]?).map (·.type) = some 29 := by kernel_rfl
theorem Rn.c1 : Tryz.prog.cellsOf 27 = 1 := by kernel_rfl
theorem Rn.c2 : Tryz.prog.cellsOf 3 = 1 := by kernel_rfl
theorem renv_of {laid : List (String × DataW Unit)} {W : World}
  (h1 : laid.filter (fun x => x.1 == "foreman/foremanref.Fine") = [("foreman/foremanref.Fine", Rows.laid_foreman_foremanref_Fine)])
  (h : laidMet Tryz.prog laid W) (hs : W.ShapedOpen Tryz.prog) : REnv W := by
 refine ⟨?_, ?_⟩
 ·obtain ⟨ps, ⟨g', t', cs, fuel, p, q, hg', ht', hvar, hd, _, _⟩, _⟩ := one_of _ _ h1 h
  obtain rfl := Option.some.inj (Rn.fg.symm.trans hg')
  obtain rfl := Option.some.inj (Rn.ft.symm.trans ht')
  obtain ⟨y0, y1, n, e, hl, k0, k1⟩ := trod_struct2 Tryz.underlying29 hd
  have e1 := (Prod.mk.inj e).1
  have e2 : (Rows.laid_foreman_foremanref_Fine : DataW Unit) = .agg [.lit (.int .i64 0), .lit (.int .i64 (-1))] := rfl
  rw [e2] at e1
  obtain ⟨n0, c0, x0, _⟩ := DataW.trod_int Tryz.underlying27 k0
  obtain ⟨n1, c1, x1, _⟩ := DataW.trod_int Tryz.underlying3 k1
  rw [x0, x1] at e1
  injection e1 with e1
  injection e1 with a1 e1
  injection e1 with a2 _
  injection a1 with a1
  injection a1 with _ a1
  injection a2 with a2
  injection a2 with _ a2
  subst a1 a2
  refine ⟨?_, ?_⟩
  ·rw [World.var?_cell Rn.fg hvar 0, ← Array.getElem?_toList]
   have := congrArg (·[0]?) c0
   simpa [List.getElem?_take, List.getElem?_drop, Rn.c1] using this
  ·rw [World.var?_cell Rn.fg hvar 1, ← Array.getElem?_toList]
   have := congrArg (·[0]?) c1
   simpa [List.getElem?_take, List.getElem?_drop, Rn.c2] using this
 ·exact Go.Proofs.cell_of_shapedOpen_int (t := 3) (zero := #[.int .i64 0]) hs (of_decide_eq_true (by kernel_rfl)) (by kernel_rfl) rfl (by kernel_rfl) (by kernel_rfl) Tryz.underlying3
end Go.Proofs.YtnjjajanfedjiaaGreatDoor
namespace Go.Proofs.YtnjjajanfedjiaaGreatDoor
open Go.RowKit Go.Shelf Go.ChangeShapes Go.WideShapes
namespace Frd
theorem env {W : World} (h : laidMetH Tryz.prog Rows.flowReadsRow.laid W) (hs : W.ShapedOpen Tryz.prog) : FEnv W ∧ REnv W ∧ ErrTy W := by
 have hp := laid_parts (hd := ("errors.errorType", Rows.laid_errors_errorType)) (by kernel_rfl) h
 exact ⟨fenv_of (by kernel_rfl) (by kernel_rfl) (by kernel_rfl) (by kernel_rfl) (by kernel_rfl) hp.1 hs, renv_of (by kernel_rfl) hp.1 hs, handle_of (List.mem_singleton.2 rfl) hp.2⟩
theorem door_met (os : Os) (args : Array Value) : laidMetH Tryz.prog Rows.flowReadsRow.laid ((refWorld os).forCall (fun _ _ => 0) ⟨#[], args, []⟩).memory :=
 laidMetH_of_parts3 (fuel := 8) (laidMet_of_run' 8 (by kernel_rfl) (by kernel_rfl)) (by kernel_rfl) (by kernel_rfl)
set_option maxRecDepth 100000 in
theorem lifted (os : Os) (started : os.Started) (H : Type) (enc : TypeId × Value → H) :
  ReturnsInHanded {} Tryz.checked os 3 .any (fun w args => (Rows.flowReadsSpec.pre enc Tryz.prog Tryz.f3 [] false w args ∧ laidMetH Tryz.prog Rows.flowReadsRow.laid w) ∧ sizedMet enc Tryz.prog Tryz.f3 (OpenSpec.ofChange Rows.flowReadsSpec) false w args)
   (Rows.flowReadsSpec.post enc Tryz.prog Tryz.f3 false true false false) := by
 refine returns_shaped (C := Tryz.checked) (X := fun w _ => laidMetH Tryz.prog Rows.flowReadsRow.laid w) (fun _ _ _ hh h => h.of_heap hh) Fr.own started (by kernel_rfl) Tryz.func3
  (ChangeSpec.witness_shaped (enc := enc) (C := Tryz.checked) (os := os) (X := fun w _ => laidMetH Tryz.prog Rows.flowReadsRow.laid w) false (refWorld os) #[.string ⟨#[]⟩] 8 rfl (World.shaped_of_RefB (by kernel_rfl) (by kernel_rfl)) (by kernel_rfl) (by kernel_rfl) (by kernel_rfl) (door_met os _)) ?_
 intro W base args ds gs before hval0 hW hL hsh
 have hval : ∀ (j : Nat) t v, Tryz.f3.params[j]? = some t → args[j]? = some v → Value.okWide Tryz.prog W .any base t v := hval0
 have hW' := hW
 obtain ⟨p, q, hA0, hV, rfl, hfz, hnd⟩ := hW
 have hA : DataW.TrodAll enc Tryz.prog W 0 (fun _ => true) true Tryz.f3.params.toList args.toList ds p := hA0
 rw [Tryz.params3] at hA hval
 obtain ⟨v0, d0, rfl, rfl, h0⟩ := trodAll_one hA
 obtain ⟨rfl, rfl⟩ := trodVars_none hV
 have lt0 : ∀ x ∈ p, x.block < W.heap.size := by obtain ⟨m, hm⟩ := h0; exact DataW.trod_lt m _ _ _ hm
 have g0 := h0
 obtain ⟨s, rfl, -, -, -⟩ := Go.ChangeMaps.open_string Tryz.underlying9 (hval 0 _ v0 rfl rfl) g0
 refine (freads_t s.data.toList W (env hL hsh).1 (env hL hsh).2.1 (env hL hsh).2.2).mono fun ev W' ⟨he, hk⟩ => ?_
 subst he
 have k0 := Keeps.trod Fr.laidOut (by kernel_rfl) (of_decide_eq_true (by kernel_rfl)) h0 hk lt0
 exact ⟨_, rfl, _, _, _, [], _, [], hW', trodAll_mk1 (shut_bool Tryz.underlying4 _), trodAll_mk1 k0, rfl, hk.frame _, fun h => by cases h⟩
theorem said : Rows.FlowReadsSaid :=
 OpenClaim.holds_of_wide 3 Tryz.f3 rfl rfl rfl rfl rfl rfl rfl ⟨rfl, rfl, rfl, rfl, rfl⟩ rfl rfl rfl rfl rfl (by kernel_rfl) Tryz.func3 (by kernel_rfl)
  (of_decide_eq_true (by kernel_rfl)) (by unfold Func.isWrapper; rw [if_neg (of_decide_eq_false (by kernel_rfl))]; exact ⟨rfl, rfl⟩)
  (fun os started H enc _ => lifted os started H enc)
end Frd
end Go.Proofs.YtnjjajanfedjiaaGreatDoor
