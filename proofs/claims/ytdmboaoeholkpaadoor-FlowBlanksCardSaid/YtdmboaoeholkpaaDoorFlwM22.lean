/- What flows lean on, out of a row's laid list; a world in which it is laid. FlowBlanks: the law, whole. -/
import Derived.Test.YtdmboaoeholkpaaDoorFlwM21
import Derived.Test.YtdmboaoeholkpaaDoorFlwM7
import Derived.ChangeMaps5
namespace Go.Proofs.YtdmboaoeholkpaaDoor
open Go.RowKit Go.Shelf Go.ChangeShapes Go.WideShapes
noncomputable def flowWorld (os : Os) : World := World.doorLaid Tryd.prog 400 os
theorem Fn.p10g : Tryd.prog.globalNamed "internal/strconv.uint64pow10" = some 3 := by kernel_rfl
theorem Fn.p10t : (Tryd.prog.globals[3]?).map (·.type) = some 123 := by kernel_rfl
theorem Fn.sg : Tryd.prog.globalNamed "strconv.ErrSyntax" = some 4 := by kernel_rfl
theorem Fn.st : (Tryd.prog.globals[4]?).map (·.type) = some 29 := by kernel_rfl
theorem Fn.rg : Tryd.prog.globalNamed "strconv.ErrRange" = some 5 := by kernel_rfl
theorem Fn.rt : (Tryd.prog.globals[5]?).map (·.type) = some 29 := by kernel_rfl
theorem Fn.mg : Tryd.prog.globalNamed "foreman/flow.marks" = some 1 := by kernel_rfl
theorem Fn.mt : (Tryd.prog.globals[1]?).map (·.type) = some 93 := by kernel_rfl
theorem Fn.wg : Tryd.prog.globalNamed "foreman/flow.words" = some 0 := by kernel_rfl
theorem Fn.wt : (Tryd.prog.globals[0]?).map (·.type) = some 87 := by kernel_rfl
theorem texts_at {W : World} {nm : String} {g : Nat} {t : TypeId} {n : Nat} {zs : List Bs} {d : DataW Unit} (hg : Tryd.prog.globalNamed nm = some g) (hty : (Tryd.prog.globals[g]?).map (·.type) = some t) (ht : Tryd.prog.underlying t = some (.array n 9)) (hct : Tryd.prog.cellsOf t = n)
    (e : d = .agg (zs.map fun z => .lit (.string z))) (h : laidMet Tryd.prog [(nm, d)] W) : ∀ j (hj : j < zs.length), W.cell? ⟨g, j, none⟩ = some (.string (bs zs[j])) := by
  rw [e] at h
  obtain ⟨ps, ⟨g', t', cs, fuel, p, q, hg', ht', hvar, hd, _, _⟩, _⟩ := h
  obtain rfl := Option.some.inj (hg.symm.trans hg')
  obtain rfl := Option.some.inj (hty.symm.trans ht')
  have hc := cells_of_strs ht Tryd.underlying9 (by kernel_rfl) hct hd
  intro j hj
  rw [World.var?_cell hg hvar j, ← Array.getElem?_toList, hc, List.getElem?_map, List.getElem?_eq_getElem hj]
  rfl
theorem fenv_of {laid : List (String × DataW Unit)} {W : World}
    (h1 : laid.filter (fun x => x.1 == "internal/strconv.uint64pow10") = [("internal/strconv.uint64pow10", Rows.laid_internal_strconv_uint64pow10)])
    (h2 : laid.filter (fun x => x.1 == "foreman/flow.marks") = [("foreman/flow.marks", Rows.laid_foreman_flow_marks)])
    (h3 : laid.filter (fun x => x.1 == "strconv.ErrSyntax") = [("strconv.ErrSyntax", Rows.laid_strconv_ErrSyntax)])
    (h4 : laid.filter (fun x => x.1 == "strconv.ErrRange") = [("strconv.ErrRange", Rows.laid_strconv_ErrRange)])
    (h5 : laid.filter (fun x => x.1 == "foreman/flow.words") = [("foreman/flow.words", Rows.laid_foreman_flow_words)])
    (h : laidMet Tryd.prog laid W) (hs : W.ShapedOpen Tryd.prog) : FEnv W := by
  refine ⟨?_, iface_at Fn.sg Fn.st Tryd.underlying29 (one_of _ _ h3 h), iface_at Fn.rg Fn.rt Tryd.underlying29 (one_of _ _ h4 h),
    texts_at (zs := marksL) Fn.mg Fn.mt Tryd.underlying93 (by kernel_rfl) (by kernel_rfl) (one_of _ _ h2 h), texts_at (zs := wordsL) Fn.wg Fn.wt Tryd.underlying87 (by kernel_rfl) (by kernel_rfl) (one_of _ _ h5 h), ?_⟩
  · have e : (Rows.laid_internal_strconv_uint64pow10 : DataW Unit) = Lib.tabData .u64 Lib.pow10Tab := by kernel_rfl
    have h' := one_of _ _ h1 h
    rw [e] at h'
    exact Lib.tabIs_of_head Fn.p10g Fn.p10t Tryd.underlying123 Tryd.underlying109 (by kernel_rfl) (by kernel_rfl) h'
  · obtain ⟨cs, h1, _⟩ := hs.1 0 #[.string ⟨#[]⟩, .string ⟨#[]⟩, .string ⟨#[]⟩, .string ⟨#[]⟩, .string ⟨#[]⟩, .string ⟨#[]⟩, .string ⟨#[]⟩, .string ⟨#[]⟩, .string ⟨#[]⟩, .string ⟨#[]⟩] 87 (of_decide_eq_true (by kernel_rfl)) (by kernel_rfl)
    exact ⟨cs, _, h1⟩
end Go.Proofs.YtdmboaoeholkpaaDoor
namespace Go.Proofs.YtdmboaoeholkpaaDoor
open Go.RowKit Go.Shelf Go.ChangeShapes Go.WideShapes
namespace Fbn
theorem env {W : World} (h : laidMetH Tryd.prog Rows.flowBlanksRow.laid W) (hs : W.ShapedOpen Tryd.prog) : FEnv W := by
  rw [MakeChecks.laidMetH_plain _ _ _ (by kernel_rfl)] at h
  exact fenv_of (by kernel_rfl) (by kernel_rfl) (by kernel_rfl) (by kernel_rfl) (by kernel_rfl) h hs
theorem door_met (os : Os) (args : Array Value) : laidMetH Tryd.prog Rows.flowBlanksRow.laid ((flowWorld os).forCall (fun _ _ => 0) ⟨#[], args, []⟩).memory :=
  laidMetH_of_parts3 (fuel := 8) (laidMet_of_run' 8 (by kernel_rfl) (by kernel_rfl)) (by kernel_rfl) (by kernel_rfl)
set_option maxRecDepth 100000 in
theorem lifted (os : Os) (started : os.Started) (H : Type) (enc : TypeId × Value → H) :
    ReturnsInHanded {} Tryd.checked os 4 .any (fun w args => (Rows.flowBlanksSpec.pre enc Tryd.prog Tryd.f4 [] false w args ∧ laidMetH Tryd.prog Rows.flowBlanksRow.laid w) ∧ sizedMet enc Tryd.prog Tryd.f4 (OpenSpec.ofChange Rows.flowBlanksSpec) false w args)
      (Rows.flowBlanksSpec.post enc Tryd.prog Tryd.f4 false true false false) := by
  refine returns_shaped (C := Tryd.checked) (X := fun w _ => laidMetH Tryd.prog Rows.flowBlanksRow.laid w) (fun _ _ _ hh h => h.of_heap hh) Fr.own started (by kernel_rfl) Tryd.func4
    (ChangeSpec.witness_shaped (enc := enc) (C := Tryd.checked) (os := os) (X := fun w _ => laidMetH Tryd.prog Rows.flowBlanksRow.laid w) false (flowWorld os) #[.string ⟨#[]⟩, .slice none 0 0] 8 rfl (World.shaped_of_RefB (by kernel_rfl) (by kernel_rfl)) (by kernel_rfl) (by kernel_rfl) (by kernel_rfl) (door_met os _)) ?_
  intro W base args ds gs before hval0 hW hL hsh
  have hval : ∀ (j : Nat) t v, Tryd.f4.params[j]? = some t → args[j]? = some v → Value.okWide Tryd.prog W .any base t v := hval0
  have hW' := hW
  obtain ⟨p, q, hA0, hV, rfl, hfz, hnd⟩ := hW
  have hA : DataW.TrodAll enc Tryd.prog W 0 (fun _ => true) true Tryd.f4.params.toList args.toList ds p := hA0
  rw [Tryd.params4] at hA hval
  obtain ⟨v0, v1, d0, d1, p0, p1, rfl, rfl, rfl, h0, h1⟩ := trodAll_two hA
  obtain ⟨rfl, rfl⟩ := trodVars_none hV
  have lt0 : ∀ x ∈ p0, x.block < W.heap.size := by obtain ⟨m, hm⟩ := h0; exact DataW.trod_lt m _ _ _ hm
  have lt1 : ∀ x ∈ p1, x.block < W.heap.size := by obtain ⟨m, hm⟩ := h1; exact DataW.trod_lt m _ _ _ hm
  have g0 := h0
  obtain ⟨s, rfl, -, -, -⟩ := Go.ChangeMaps.open_string Tryd.underlying9 (hval 0 _ v0 rfl rfl) g0
  have g1 := h1
  obtain ⟨lA, lc, l, rfl, lh, -, -⟩ := open_nums Tryd.underlying34 Tryd.underlying3 (by kernel_rfl) (hval 1 _ v1 rfl rfl) g1
  refine (blanks_any s.data.toList l lA lc W (env hL hsh) lh).mono fun ev W' ⟨he, hk⟩ => ?_
  subst he
  have k0 := Keeps.trod Fr.laidOut (by kernel_rfl) (of_decide_eq_true (by kernel_rfl)) h0 hk lt0
  have k1 := Keeps.trod Fr.laidOut (by kernel_rfl) (of_decide_eq_true (by kernel_rfl)) h1 hk lt1
  exact ⟨_, rfl, _, _, _, [], _, [], hW', trodAll_mk1 (shut_bool Tryd.underlying4 _), trodAll_mk2 k0 k1, rfl, hk.frame _, fun h => by cases h⟩
theorem said : Rows.FlowBlanksSaid :=
  OpenClaim.holds_of_wide 4 Tryd.f4 rfl rfl rfl rfl rfl rfl rfl ⟨rfl, rfl, rfl, rfl, rfl⟩ rfl rfl rfl rfl rfl (by kernel_rfl) Tryd.func4 (by kernel_rfl)
    (of_decide_eq_true (by kernel_rfl)) (by unfold Func.isWrapper; rw [if_neg (of_decide_eq_false (by kernel_rfl))]; exact ⟨rfl, rfl⟩)
    (fun os started H enc _ => lifted os started H enc)
end Fbn
end Go.Proofs.YtdmboaoeholkpaaDoor
