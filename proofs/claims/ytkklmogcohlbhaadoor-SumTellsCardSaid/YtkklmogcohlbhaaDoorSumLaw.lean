/- SumTells: the law, whole. -/
import Derived.Test.YtkklmogcohlbhaaDoorSumW
import Derived.Test.YtkklmogcohlbhaaDoorFrame
import Derived.Test.YtkklmogcohlbhaaDoorRows
import Derived.Lib.LaidTab
import Derived.LaidLaws
import Derived.LaidSub
import Derived.LaidMore
import Derived.Shelf.Vars
import Derived.ChangeMaps5
namespace Go.Proofs.YtkklmogcohlbhaaDoor
open Go.RowKit Go.ChangeShapes Go.WideShapes
theorem Hd.rg : Tryd.prog.globalNamed "foreman/sum.rounds" = some 0 := by kernel_rfl
theorem Hd.rgt : (Tryd.prog.globals[0]?).map (·.type) = some 31 := by kernel_rfl
theorem Hd.bg : Tryd.prog.globalNamed "math/bits.deBruijn64tab" = some 3 := by kernel_rfl
theorem Hd.bgt : (Tryd.prog.globals[3]?).map (·.type) = some 54 := by kernel_rfl
def brTab : List Int := [0, 1, 56, 2, 57, 49, 28, 3, 61, 58, 42, 50, 38, 29, 17, 4, 62, 47, 59, 36, 45, 43, 51, 22, 53, 39, 33, 30, 24, 18, 12, 5, 63, 55, 48, 27, 60, 41, 37, 16, 46, 35, 44, 21, 52, 32, 23, 11, 54, 26, 40, 15, 34, 20, 31, 10, 25, 14, 19, 9, 13, 8, 7, 6]
theorem laid_one {P : Program} {W : World} {laid : List (String × DataW Unit)} (nm : String) (d : DataW Unit) (hf : laid.filter (fun x => x.1 == nm) = [(nm, d)]) (h : laidMet P laid W) : laidMet P [(nm, d)] W := hf ▸ h.filter fun x => x.1 == nm
namespace Stl
theorem env {W : World} (h : laidMetH Tryd.prog Rows.sumTellsRow.laid W) : (∀ j, j < 64 → W.cell? ⟨0, j, none⟩ = some (.int .u32 (kt j))) ∧ W.cell? ⟨3, 15, none⟩ = some (.int .u8 4) := by
  rw [MakeChecks.laidMetH_plain _ _ _ (by kernel_rfl)] at h
  constructor
  · have e : (Rows.laid_foreman_sum_rounds : DataW Unit) = Lib.tabData .u32 ktab := by kernel_rfl
    have h' := laid_one "foreman/sum.rounds" Rows.laid_foreman_sum_rounds (by kernel_rfl) h
    rw [e] at h'
    have ht := Lib.tabIs_of_head Hd.rg Hd.rgt Tryd.underlying31 Tryd.underlying24 (by kernel_rfl) (by kernel_rfl) h'
    intro j hj
    exact ht.cell Hd.rg j hj
  · have e : (Rows.laid_math_bits_deBruijn64tab : DataW Unit) = Lib.tabData .u8 brTab := by kernel_rfl
    have h' := laid_one "math/bits.deBruijn64tab" Rows.laid_math_bits_deBruijn64tab (by kernel_rfl) h
    rw [e] at h'
    have ht := Lib.tabIs_of_head Hd.bg Hd.bgt Tryd.underlying54 Tryd.underlying5 (by kernel_rfl) (by kernel_rfl) h'
    exact ht.cell Hd.bg 15 (by decide)
noncomputable def laidWorld (os : Os) : World := World.doorLaid Tryd.prog 400 os
theorem laidWorld_met (os : Os) (args : Array Value) : laidMetH Tryd.prog Rows.sumTellsRow.laid ((laidWorld os).forCall (fun _ _ => 0) ⟨#[], args, []⟩).memory :=
  laidMetH_of_parts3 (fuel := 8) (laidMet_of_run' 8 (by kernel_rfl) (by kernel_rfl)) (by kernel_rfl) (by kernel_rfl)
set_option maxRecDepth 100000 in
theorem lifted (os : Os) (started : os.Started) (H : Type) (enc : TypeId × Value → H) :
    ReturnsInHanded {} Tryd.checked os 3 .any (fun w args => (Rows.sumTellsSpec.pre enc Tryd.prog Tryd.f3 [] false w args ∧ laidMetH Tryd.prog Rows.sumTellsRow.laid w) ∧ sizedMet enc Tryd.prog Tryd.f3 (OpenSpec.ofChange Rows.sumTellsSpec) false w args)
      (Rows.sumTellsSpec.post enc Tryd.prog Tryd.f3 false true false false) := by
  refine returnsInHanded_of_change_and (C := Tryd.checked) (X := fun w _ => laidMetH Tryd.prog Rows.sumTellsRow.laid w) (fun _ _ _ hh h => h.of_heap hh) Fr.own started (by kernel_rfl) Tryd.func3
    (ChangeSpec.witness_at (enc := enc) (C := Tryd.checked) (os := os) (X := fun w _ => laidMetH Tryd.prog Rows.sumTellsRow.laid w) false (laidWorld os) #[.string ⟨#[]⟩] 8 rfl (by kernel_rfl) (by kernel_rfl) (by kernel_rfl) (by kernel_rfl) (by kernel_rfl) (laidWorld_met os _)) ?_
  intro W base args ds gs before hval0 hW _ _ hL _
  have hval : ∀ (j : Nat) t v, Tryd.f3.params[j]? = some t → args[j]? = some v → Value.okWide Tryd.prog W .any base t v := hval0
  have hW' := hW
  obtain ⟨p, q, hA0, hV, rfl, hfz, hnd⟩ := hW
  have hA : DataW.TrodAll enc Tryd.prog W 0 (fun _ => true) true Tryd.f3.params.toList args.toList ds p := hA0
  rw [Tryd.params3] at hA hval
  obtain ⟨v0, d0, rfl, rfl, h0⟩ := trodAll_one hA
  obtain ⟨rfl, rfl⟩ := trodVars_none hV
  have lt0 : ∀ x ∈ p, x.block < W.heap.size := by obtain ⟨m, hm⟩ := h0; exact DataW.trod_lt m _ _ _ hm
  have k0 := h0
  obtain ⟨s, rfl, -, -, -⟩ := Go.ChangeMaps.open_string Tryd.underlying9 (hval 0 _ v0 rfl rfl) k0
  refine (stells_all s.data.toList W (env hL).1 (env hL).2).mono fun ev W' ⟨he, hk⟩ => ?_
  subst he
  exact ⟨_, rfl, _, _, _, [], _, [], hW', trodAll_mk1 (shut_bool Tryd.underlying4 _), trodAll_mk1 (Keeps.trod Fr.laidOut (by kernel_rfl) (of_decide_eq_true (by kernel_rfl)) h0 hk lt0), rfl, hk.frame _, fun h => by cases h⟩
theorem said : Rows.SumTellsSaid :=
  OpenClaim.holds_of_wide 3 Tryd.f3 rfl rfl rfl rfl rfl rfl rfl ⟨rfl, rfl, rfl, rfl, rfl⟩ rfl rfl rfl rfl rfl (by kernel_rfl) Tryd.func3 (by kernel_rfl)
    (of_decide_eq_true (by kernel_rfl)) (by unfold Func.isWrapper; rw [if_neg (of_decide_eq_false (by kernel_rfl))]; exact ⟨rfl, rfl⟩)
    (fun os started H enc _ => lifted os started H enc)
end Stl
end Go.Proofs.YtkklmogcohlbhaaDoor
