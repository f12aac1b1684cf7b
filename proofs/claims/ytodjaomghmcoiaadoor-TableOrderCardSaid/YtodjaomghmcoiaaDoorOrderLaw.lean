/- TableOrder: the law, whole. -/
import Derived.Test.YtodjaomghmcoiaaDoorOrder
import Derived.Test.YtodjaomghmcoiaaDoorTEnv
import Derived.Test.YtodjaomghmcoiaaDoorOpenV
import Derived.ChangeMaps5
namespace Go.Proofs.YtodjaomghmcoiaaDoor
open Go.RowKit Go.Shelf Go.ChangeShapes Go.WideShapes
namespace Ord
theorem env {W : World} (h : laidMetH Tryd.prog Rows.tableOrderRow.laid W) (hs : W.ShapedOpen Tryd.prog) : TEnv W := by
  rw [MakeChecks.laidMetH_plain _ _ _ (by kernel_rfl)] at h
  exact tenv_of (by kernel_rfl) (by kernel_rfl) (by kernel_rfl) (by kernel_rfl) h hs
theorem door_met (os : Os) (args : Array Value) : laidMetH Tryd.prog Rows.tableOrderRow.laid ((doorWorld os).forCall (fun _ _ => 0) ⟨#[], args, []⟩).memory :=
  laidMetH_of_parts3 (fuel := 8) (laidMet_of_run' 8 (by kernel_rfl) (by kernel_rfl)) (by kernel_rfl) (by kernel_rfl)
def zeroA : Value := .agg #[.int .i64 0, .int .i64 0, .string ⟨#[]⟩]
set_option maxRecDepth 100000 in
theorem lifted (os : Os) (started : os.Started) (H : Type) (enc : TypeId × Value → H) :
    ReturnsInHanded {} Tryd.checked os 3 .any (fun w args => (Rows.tableOrderSpec.pre enc Tryd.prog Tryd.f3 [] false w args ∧ laidMetH Tryd.prog Rows.tableOrderRow.laid w) ∧ sizedMet enc Tryd.prog Tryd.f3 (OpenSpec.ofChange Rows.tableOrderSpec) false w args)
      (Rows.tableOrderSpec.post enc Tryd.prog Tryd.f3 false true false false) := by
  refine returns_shaped (C := Tryd.checked) (X := fun w _ => laidMetH Tryd.prog Rows.tableOrderRow.laid w) (fun _ _ _ hh h => h.of_heap hh) Fr.own started (by kernel_rfl) Tryd.func3
    (ChangeSpec.witness_shaped (enc := enc) (C := Tryd.checked) (os := os) (X := fun w _ => laidMetH Tryd.prog Rows.tableOrderRow.laid w) false (doorWorld os) #[zeroA, zeroA, zeroA] 8 rfl (World.shaped_of_RefB (by kernel_rfl) (by kernel_rfl)) (by kernel_rfl) (by kernel_rfl) (by kernel_rfl) (door_met os _)) ?_
  intro W base args ds gs before hval0 hW hL hsh
  have hval : ∀ (j : Nat) t v, Tryd.f3.params[j]? = some t → args[j]? = some v → Value.okWide Tryd.prog W .any base t v := hval0
  have hW' := hW
  obtain ⟨p, q, hA0, hV, rfl, hfz, hnd⟩ := hW
  have hA : DataW.TrodAll enc Tryd.prog W 0 (fun _ => true) true Tryd.f3.params.toList args.toList ds p := hA0
  rw [Tryd.params3] at hA hval
  obtain ⟨v0, v1, v2, d0, d1, d2, p0, p1, p2, rfl, rfl, rfl, h0, h1, h2⟩ := trodAll_three hA
  obtain ⟨rfl, rfl⟩ := trodVars_none hV
  have lt0 : ∀ x ∈ p0, x.block < W.heap.size := by obtain ⟨m, hm⟩ := h0; exact DataW.trod_lt m _ _ _ hm
  have lt1 : ∀ x ∈ p1, x.block < W.heap.size := by obtain ⟨m, hm⟩ := h1; exact DataW.trod_lt m _ _ _ hm
  have lt2 : ∀ x ∈ p2, x.block < W.heap.size := by obtain ⟨m, hm⟩ := h2; exact DataW.trod_lt m _ _ _ hm
  obtain ⟨a, rfl, ha, hna⟩ := open_value (hval 0 _ v0 rfl rfl) h0
  obtain ⟨b, rfl, hb, hnb⟩ := open_value (hval 1 _ v1 rfl rfl) h1
  obtain ⟨c, rfl, hc, hnc⟩ := open_value (hval 2 _ v2 rfl rfl) h2
  refine (order_all a b c ⟨hna, ha⟩ ⟨hnb, hb⟩ ⟨hnc, hc⟩ W (env hL hsh)).mono fun ev W' ⟨he, hk⟩ => ?_
  subst he
  have k0 := Keeps.trod Fr.laidOut (by kernel_rfl) (of_decide_eq_true (by kernel_rfl)) h0 hk lt0
  have k1 := Keeps.trod Fr.laidOut (by kernel_rfl) (of_decide_eq_true (by kernel_rfl)) h1 hk lt1
  have k2 := Keeps.trod Fr.laidOut (by kernel_rfl) (of_decide_eq_true (by kernel_rfl)) h2 hk lt2
  exact ⟨_, rfl, _, _, _, [], _, [], hW', trodAll_mk1 (shut_bool Tryd.underlying4 _), trodAll_mk3 k0 k1 k2, rfl, hk.frame _, fun h => by cases h⟩
theorem said : Rows.TableOrderSaid :=
  OpenClaim.holds_of_wide 3 Tryd.f3 rfl rfl rfl rfl rfl rfl rfl ⟨rfl, rfl, rfl, rfl, rfl⟩ rfl rfl rfl rfl rfl (by kernel_rfl) Tryd.func3 (by kernel_rfl)
    (of_decide_eq_true (by kernel_rfl)) (by unfold Func.isWrapper; rw [if_neg (of_decide_eq_false (by kernel_rfl))]; exact ⟨rfl, rfl⟩)
    (fun os started H enc _ => lifted os started H enc)
end Ord
end Go.Proofs.YtodjaomghmcoiaaDoor
