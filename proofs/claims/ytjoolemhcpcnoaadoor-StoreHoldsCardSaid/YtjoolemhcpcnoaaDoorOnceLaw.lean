/- StoreOnce: the law, whole. -/
import Derived.Test.YtjoolemhcpcnoaaDoorOnce
import Derived.Test.YtjoolemhcpcnoaaDoorHandle
import Derived.Lib.LaidTab
import Derived.ChangeMaps5
namespace Go.Proofs.YtjoolemhcpcnoaaDoor
open Go.RowKit Go.Shelf Go.ChangeShapes Go.WideShapes
theorem Hd.rg : Tryd.prog.globalNamed "foreman/sum.rounds" = some 1 := by kernel_rfl
theorem Hd.rgt : (Tryd.prog.globals[1]?).map (·.type) = some 91 := by kernel_rfl
/-- The table of rounds, out of a row's condition. -/
theorem rnds_of {rest : List (String × DataW Unit)} {W : World} (h : laidMet Tryd.prog (("foreman/sum.rounds", Rows.laid_foreman_sum_rounds) :: rest) W) : Rnds W := by
  have e : (Rows.laid_foreman_sum_rounds : DataW Unit) = Lib.tabData .u32 ktab := by kernel_rfl
  rw [e] at h
  have ht := Lib.tabIs_of_head Hd.rg Hd.rgt Tryd.underlying91 Tryd.underlying85 (by kernel_rfl) (by kernel_rfl) h
  intro j hj
  exact ht.cell Hd.rg j hj
/-- Both laid in a world. -/
def withRnds (w0 : World) : World :=
  { w0 with heap := w0.heap.modify 1 fun
      | .cells _ t frozen => .cells (ktab.map fun z => Value.int .u32 z).toArray t frozen
      | o => o }
namespace Once
theorem laid_of {W : World} (h : laidMetH Tryd.prog Rows.storeOnceRow.laid W) : ErrTy W ∧ Rnds W := by
  have h' : laidMet Tryd.prog [("foreman/sum.rounds", Rows.laid_foreman_sum_rounds)] W ∧ handlesMet Tryd.prog [("errors.errorType", Rows.laid_errors_errorType)] W := h
  exact ⟨handle_of (List.mem_singleton.2 rfl) h'.2, rnds_of h'.1⟩
noncomputable def laidWorld (os : Os) : World := withRnds (withErr (World.holding Tryd.prog os ⟨#[], #[], []⟩))
theorem laidWorld_met (os : Os) (args : Array Value) : laidMetH Tryd.prog Rows.storeOnceRow.laid ((laidWorld os).forCall (fun _ _ => 0) ⟨#[], args, []⟩).memory :=
  laidMetH_of_parts (laidMet_of_run' 8 (by kernel_rfl) (by kernel_rfl)) (by kernel_rfl)
theorem cells1 : Tryd.prog.cellsOf 9 = 1 := by kernel_rfl
set_option maxRecDepth 100000 in
theorem lifted (os : Os) (started : os.Started) (H : Type) (enc : TypeId × Value → H) :
    ReturnsInHanded {} Tryd.checked os 5 .any (fun w args => (Rows.storeOnceSpec.pre enc Tryd.prog Tryd.f5 [] false w args ∧ laidMetH Tryd.prog Rows.storeOnceRow.laid w) ∧ sizedMet enc Tryd.prog Tryd.f5 (OpenSpec.ofChange Rows.storeOnceSpec) false w args)
      (Rows.storeOnceSpec.post enc Tryd.prog Tryd.f5 false true false false) := by
  refine returnsInHanded_of_change_and (C := Tryd.checked) (X := fun w _ => laidMetH Tryd.prog Rows.storeOnceRow.laid w) (fun _ _ _ hh h => h.of_heap hh) Fr.own started (by kernel_rfl) Tryd.func5
    (ChangeSpec.witness_at (enc := enc) (C := Tryd.checked) (os := os) (X := fun w _ => laidMetH Tryd.prog Rows.storeOnceRow.laid w) false (laidWorld os) #[.slice none 0 0, .string ⟨#[]⟩] 8 rfl (by kernel_rfl) (by kernel_rfl) (by kernel_rfl) (by kernel_rfl) (by kernel_rfl) (laidWorld_met os _)) ?_
  intro W base args ds gs before hval0 hW _ _ hL _
  have hval : ∀ (j : Nat) t v, Tryd.f5.params[j]? = some t → args[j]? = some v → Value.okWide Tryd.prog W .any base t v := hval0
  have hW' := hW
  obtain ⟨p, q, hA0, hV, rfl, hfz, hnd⟩ := hW
  have hA : DataW.TrodAll enc Tryd.prog W 0 (fun _ => true) true Tryd.f5.params.toList args.toList ds p := hA0
  rw [Tryd.params5] at hA hval
  obtain ⟨v0, v1, d0, d1, p0, p1, rfl, rfl, rfl, h0, h1⟩ := trodAll_two hA
  obtain ⟨rfl, rfl⟩ := trodVars_none hV
  have lt0 : ∀ x ∈ p0, x.block < W.heap.size := by obtain ⟨m, hm⟩ := h0; exact DataW.trod_lt m _ _ _ hm
  have lt1 : ∀ x ∈ p1, x.block < W.heap.size := by obtain ⟨m, hm⟩ := h1; exact DataW.trod_lt m _ _ _ hm
  have k1 := h1
  obtain ⟨A, c, l, rfl, hA1, -, -⟩ := open_strs Tryd.underlying22 Tryd.underlying9 cells1 (hval 0 _ v0 rfl rfl) h0
  obtain ⟨s, rfl, -, -, -⟩ := Go.ChangeMaps.open_string Tryd.underlying9 (hval 1 _ v1 rfl rfl) h1
  refine (once_all l s.data.toList A c W (laid_of hL).1 (laid_of hL).2 hA1).mono fun ev W' ⟨he, hk⟩ => ?_
  subst he
  exact ⟨_, rfl, _, _, _, [], _, [], hW', trodAll_mk1 (shut_bool Tryd.underlying4 _), trodAll_mk2 (Keeps.trod Fr.laidOut (by kernel_rfl) (of_decide_eq_true (by kernel_rfl)) h0 hk lt0) (Keeps.trod Fr.laidOut (by kernel_rfl) (of_decide_eq_true (by kernel_rfl)) k1 hk lt1), rfl, hk.frame _, fun h => by cases h⟩
theorem said : Rows.StoreOnceSaid :=
  OpenClaim.holds_of_wide 5 Tryd.f5 rfl rfl rfl rfl rfl rfl rfl ⟨rfl, rfl, rfl, rfl, rfl⟩ rfl rfl rfl rfl rfl (by kernel_rfl) Tryd.func5 (by kernel_rfl)
    (of_decide_eq_true (by kernel_rfl)) (by unfold Func.isWrapper; rw [if_neg (of_decide_eq_false (by kernel_rfl))]; exact ⟨rfl, rfl⟩)
    (fun os started H enc _ => lifted os started H enc)
end Once
end Go.Proofs.YtjoolemhcpcnoaaDoor
