/- The handle of the type error, out of a row's condition; a world in which it is laid. What the reference of tables leans on, out of a row's laid list; a world in which all is laid. TableReads: the law, whole. -/
import Derived.Test.YtpagiajlefejcaaGreatDoorTbrM4
import Derived.Test.YtpagiajlefejcaaGreatDoorTbrM16
import Derived.Test.YtpagiajlefejcaaGreatDoorTbrM21
import Derived.Test.YtpagiajlefejcaaGreatDoorTbrM11
import Derived.ChangeSame
import Derived.Test.YtpagiajlefejcaaGreatDoorTbrM20
import Derived.ChangeMaps5
set_option linter.unusedSimpArgs false
set_option linter.unusedVariables false
namespace Go.Proofs.YtpagiajlefejcaaGreatDoor
open Go.RowKit
theorem Hd.et : Tryz.prog.globalNamed "errors.errorType" = some 4 := by kernel_rfl
theorem Hd.rt : (Tryz.prog.cutTypes.find? (·.1 == "internal/reflectlite.rtype")).map (·.2) = some 307 := by kernel_rfl
theorem Hd.oneRow : ((List.range 371).filter fun t => Tryz.prog.rowNamed t [101, 114, 114, 111, 114]) = [38] := by kernel_rfl
theorem Hd.size : Tryz.prog.types.size = 371 := by kernel_rfl
theorem handle_of {laid : List (String × DataW Unit)} (hm : ("errors.errorType", Rows.laid_errors_errorType) ∈ laid) {W : World} (h : handlesMet Tryz.prog laid W) : ErrTy W := by
 obtain ⟨name, u, ty, e1, e2, e3, e4, e5⟩ := h _ hm
 have en : name = [101, 114, 114, 111, 114] := (Option.some.inj e1).symm
 subst en
 obtain rfl := Option.some.inj (Hd.rt.symm.trans e2)
 have hm : ty ∈ (List.range 371).filter fun t => Tryz.prog.rowNamed t [101, 114, 114, 111, 114] := List.mem_filter.2 ⟨List.mem_range.2 (by rw [← Hd.size]; exact e3), e4⟩
 rw [Hd.oneRow] at hm
 obtain rfl := List.mem_singleton.1 hm
 have hh : typeHandle Tryz.prog 38 = .pointer (some ⟨14, 38, none⟩) := by kernel_rfl
 rw [hh] at e5
 show W.cell? _ = _
 simpa using World.var?_cell Hd.et e5 0
def withErr (w0 : World) : World :=
 { w0 with heap := w0.heap.modify 4 fun
   | .cells _ t frozen => .cells #[.iface 307 (.agg #[.pointer (some ⟨14, 38, none⟩)])] t frozen
   | o => o }
end Go.Proofs.YtpagiajlefejcaaGreatDoor
namespace Go.Proofs.YtpagiajlefejcaaGreatDoor
open Go.RowKit Go.Shelf Go.ChangeShapes Go.WideShapes Go.ChangeShapes
noncomputable def tabWorld (os : Os) : World := withErr (doorWorld os)
theorem laid_partsT {P : Program} {laid : List (String × DataW Unit)} {hd : String × DataW Unit} {W : World} (hl : (laid.filter fun x => x.2.handleName?.isSome) = [hd]) (h : laidMetH P laid W) :
  laidMet P (laid.filter fun x => x.2.handleName?.isNone) W ∧ handlesMet P [hd] W := by
 unfold laidMetH at h
 rw [hl] at h
 exact h
theorem Rq.fg : Tryz.prog.globalNamed "foreman/foremanref.Fine" = some 0 := by kernel_rfl
theorem Rq.ft : (Tryz.prog.globals[0]?).map (·.type) = some 47 := by kernel_rfl
theorem Rq.c1 : Tryz.prog.cellsOf 34 = 1 := by kernel_rfl
theorem Rq.c2 : Tryz.prog.cellsOf 3 = 1 := by kernel_rfl
theorem renvT_of {laid : List (String × DataW Unit)} {W : World}
  (h1 : laid.filter (fun x => x.1 == "foreman/foremanref.Fine") = [("foreman/foremanref.Fine", Rows.laid_foreman_foremanref_Fine)])
  (h : laidMet Tryz.prog laid W) (hs : W.ShapedOpen Tryz.prog) : REnv W := by
 refine ⟨?_, ?_⟩
 ·obtain ⟨ps, ⟨g', t', cs, fuel, p, q, hg', ht', hvar, hd, _, _⟩, _⟩ := one_of _ _ h1 h
  obtain rfl := Option.some.inj (Rq.fg.symm.trans hg')
  obtain rfl := Option.some.inj (Rq.ft.symm.trans ht')
  obtain ⟨y0, y1, n, e, hl, k0, k1⟩ := trod_struct2 Tryz.underlying47 hd
  have e1 := (Prod.mk.inj e).1
  have e2 : (Rows.laid_foreman_foremanref_Fine : DataW Unit) = .agg [.lit (.int .i64 0), .lit (.int .i64 (-1))] := rfl
  rw [e2] at e1
  obtain ⟨n0, c0, x0, _⟩ := DataW.trod_int Tryz.underlying34 k0
  obtain ⟨n1, c1, x1, _⟩ := DataW.trod_int Tryz.underlying3 k1
  rw [x0, x1] at e1
  injection e1 with e1
  injection e1 with a1 e1
  injection e1 with a2 _
  injection a1 with a1
  injection a1 with _ a1
  injection a2 with a2
  injection a2 with _ a2
  subst a1 a2
  refine ⟨?_, ?_⟩
  ·rw [World.var?_cell Rq.fg hvar 0, ← Array.getElem?_toList]
   have := congrArg (·[0]?) c0
   simpa [List.getElem?_take, List.getElem?_drop, Rq.c1] using this
  ·rw [World.var?_cell Rq.fg hvar 1, ← Array.getElem?_toList]
   have := congrArg (·[0]?) c1
   simpa [List.getElem?_take, List.getElem?_drop, Rq.c2] using this
 ·exact Go.Proofs.cell_of_shapedOpen_int (t := 3) (zero := #[.int .i64 0]) hs (of_decide_eq_true (by kernel_rfl)) (by kernel_rfl) rfl (by kernel_rfl) (by kernel_rfl) Tryz.underlying3
end Go.Proofs.YtpagiajlefejcaaGreatDoor
namespace Go.Proofs.YtpagiajlefejcaaGreatDoor
open Go.RowKit Go.Shelf Go.ChangeShapes Go.WideShapes
namespace Tbr
theorem env {W : World} (h : laidMetH Tryz.prog Rows.tableReadsRow.laid W) (hs : W.ShapedOpen Tryz.prog) : TEnv W ∧ REnv W ∧ ErrTy W := by
 have hp := laid_partsT (hd := ("errors.errorType", Rows.laid_errors_errorType)) (by kernel_rfl) h
 exact ⟨tenv_of (by kernel_rfl) (by kernel_rfl) (by kernel_rfl) (by kernel_rfl) hp.1 hs, renvT_of (by kernel_rfl) hp.1 hs, handle_of (List.mem_singleton.2 rfl) hp.2⟩
theorem door_met (os : Os) (args : Array Value) : laidMetH Tryz.prog Rows.tableReadsRow.laid ((tabWorld os).forCall (fun _ _ => 0) ⟨#[], args, []⟩).memory :=
 laidMetH_of_parts3 (fuel := 8) (laidMet_of_run' 8 (by kernel_rfl) (by kernel_rfl)) (by kernel_rfl) (by kernel_rfl)
set_option maxRecDepth 100000 in
theorem lifted (os : Os) (started : os.Started) (H : Type) (enc : TypeId × Value → H) :
  ReturnsInHanded {} Tryz.checked os 3 .any (fun w args => (Rows.tableReadsSpec.pre enc Tryz.prog Tryz.f3 [] false w args ∧ laidMetH Tryz.prog Rows.tableReadsRow.laid w) ∧ sizedMet enc Tryz.prog Tryz.f3 (OpenSpec.ofChange Rows.tableReadsSpec) false w args)
   (Rows.tableReadsSpec.post enc Tryz.prog Tryz.f3 false true false false) := by
 refine returns_shaped (C := Tryz.checked) (X := fun w _ => laidMetH Tryz.prog Rows.tableReadsRow.laid w) (fun _ _ _ hh h => h.of_heap hh) Fr.own started (by kernel_rfl) Tryz.func3
  (ChangeSpec.witness_shaped (enc := enc) (C := Tryz.checked) (os := os) (X := fun w _ => laidMetH Tryz.prog Rows.tableReadsRow.laid w) false (tabWorld os) #[.agg #[.slice none 0 0, .slice none 0 0], .agg #[.int .i64 0, .int .i64 0, .string ⟨#[]⟩], .agg #[.int .i64 0, .int .i64 0, .string ⟨#[]⟩], .string ⟨#[]⟩] 8 rfl (World.shaped_of_RefB (by kernel_rfl) (by kernel_rfl)) (by kernel_rfl) (by kernel_rfl) (by kernel_rfl) (door_met os _)) ?_
 intro W base args ds gs before hval0 hW hL hsh
 have hval : ∀ (j : Nat) t v, Tryz.f3.params[j]? = some t → args[j]? = some v → Value.okWide Tryz.prog W .any base t v := hval0
 have hW' := hW
 obtain ⟨p, q, hA0, hV, rfl, hfz, hnd⟩ := hW
 have hA : DataW.TrodAll enc Tryz.prog W 0 (fun _ => true) true Tryz.f3.params.toList args.toList ds p := hA0
 rw [Tryz.params3] at hA hval
 obtain ⟨v0, v1, v2, v3, d0, d1, d2, d3, p0, p1, p2, p3, rfl, rfl, rfl, h0, h1, h2, h3⟩ := trodAll_four hA
 obtain ⟨rfl, rfl⟩ := trodVars_none hV
 have lt0 : ∀ x ∈ p0, x.block < W.heap.size := by obtain ⟨m, hm⟩ := h0; exact DataW.trod_lt m _ _ _ hm
 have lt1 : ∀ x ∈ p1, x.block < W.heap.size := by obtain ⟨m, hm⟩ := h1; exact DataW.trod_lt m _ _ _ hm
 have lt2 : ∀ x ∈ p2, x.block < W.heap.size := by obtain ⟨m, hm⟩ := h2; exact DataW.trod_lt m _ _ _ hm
 have lt3 : ∀ x ∈ p3, x.block < W.heap.size := by obtain ⟨m, hm⟩ := h3; exact DataW.trod_lt m _ _ _ hm
 have g0 := h0
 obtain ⟨t, tA, tB, tc, td, rfl, th⟩ := open_table (hval 0 _ v0 rfl rfl) g0
 have g1 := h1
 obtain ⟨a, rfl, aw, an⟩ := open_value (hval 1 _ v1 rfl rfl) g1
 have g2 := h2
 obtain ⟨b, rfl, bw, bn⟩ := open_value (hval 2 _ v2 rfl rfl) g2
 have g3 := h3
 obtain ⟨s, rfl, -, -, -⟩ := Go.ChangeMaps.open_string Tryz.underlying9 (hval 3 _ v3 rfl rfl) g3
 refine (treads_t t tA tB tc td a b s.data.toList W th an (env hL hsh).1 (env hL hsh).2.1 (env hL hsh).2.2).mono fun ev W' ⟨he, hk⟩ => ?_
 subst he
 have k0 := Keeps.trod Fr.laidOut (by kernel_rfl) (of_decide_eq_true (by kernel_rfl)) h0 hk lt0
 have k1 := Keeps.trod Fr.laidOut (by kernel_rfl) (of_decide_eq_true (by kernel_rfl)) h1 hk lt1
 have k2 := Keeps.trod Fr.laidOut (by kernel_rfl) (of_decide_eq_true (by kernel_rfl)) h2 hk lt2
 have k3 := Keeps.trod Fr.laidOut (by kernel_rfl) (of_decide_eq_true (by kernel_rfl)) h3 hk lt3
 exact ⟨_, rfl, _, _, _, [], _, [], hW', trodAll_mk1 (shut_bool Tryz.underlying4 _), trodAll_mk4 k0 k1 k2 k3, rfl, hk.frame _, fun h => by cases h⟩
theorem said : Rows.TableReadsSaid :=
 OpenClaim.holds_of_wide 3 Tryz.f3 rfl rfl rfl rfl rfl rfl rfl ⟨rfl, rfl, rfl, rfl, rfl⟩ rfl rfl rfl rfl rfl (by kernel_rfl) Tryz.func3 (by kernel_rfl)
  (of_decide_eq_true (by kernel_rfl)) (by unfold Func.isWrapper; rw [if_neg (of_decide_eq_false (by kernel_rfl))]; exact ⟨rfl, rfl⟩)
  (fun os started H enc _ => lifted os started H enc)
end Tbr
end Go.Proofs.YtpagiajlefejcaaGreatDoor
