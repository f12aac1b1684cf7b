/- DiskRests: the law, whole. -/
import Derived.Test.YtjoolemhcpcnoaaDoorRests
import Derived.Test.YtjoolemhcpcnoaaDoorHandle
namespace Go.Proofs.YtjoolemhcpcnoaaDoor
open Go.RowKit Go.Shelf Go.ChangeShapes Go.WideShapes
attribute [local go_sem] bs_size bs_extract bs_append bs_toList
set_option maxRecDepth 100000 in
set_option maxHeartbeats 4000000 in
theorem rests_all (l : List Bs) (at_ : List Int) (ks : List Bool) (A B C : Option Addr) (c d e : Nat) (w : World) (hE : ErrTy w)
    (hA : Rd w [] 1 A l.length (strs l)) (hB : Rd w [] 1 B at_.length (ints at_)) (hC : Rd w [] 1 C ks.length (bools ks)) :
    Calls Tryd.prog 3 #[.slice A l.length c, .slice B at_.length d, .slice C ks.length e] w fun ev w' => ev = .returned (.bool true) ∧ Keeps [] w w' := by
  by_cases h1 : (20:Int) < (l.length : Int)
  · clear hA hB hC hE
    go_enter Tryd.func3, Tryd.ntmps3
    go_wp2
    go_ret
    exact ⟨rfl, Keeps.refl _ _⟩
  by_cases h2 : at_.length = 0
  · have h2' : ((at_.length : Int) == 0) = true := by rw [h2]; rfl
    clear hA hB hC hE
    go_enter Tryd.func3, Tryd.ntmps3
    go_wp2
    go_ret
    exact ⟨rfl, Keeps.refl _ _⟩
  have h2' : ((at_.length : Int) == 0) = false := by rw [beq_eq_false_iff_ne]; omega
  by_cases h3 : (20:Int) < (at_.length : Int)
  · clear hA hB hC hE
    go_enter Tryd.func3, Tryd.ntmps3
    go_wp2
    go_ret
    exact ⟨rfl, Keeps.refl _ _⟩
  by_cases h4 : (30:Int) < (ks.length : Int)
  · clear hA hB hC hE
    go_enter Tryd.func3, Tryd.ntmps3
    go_wp2
    go_ret
    exact ⟨rfl, Keeps.refl _ _⟩
  cases hany : (l.any fun s => decide (64 < s.length)) with
  | true =>
    have HCF := Lib.hid (containsFunc_any 10 #[] (enters_of Tryd.func10 (by kernel_rfl) rfl) (fun s => decide (64 < s.length)) l A c w hA (by omega) (long1_pred l w))
    rw [hany] at HCF
    clear hA hB hC hE hany
    go_enter Tryd.func3, Tryd.ntmps3
    go_wp2_with fail
    refine HCF.out.mono ?_
    rintro ev W1 ⟨rfl, k1⟩
    go_wp2
    go_ret
    exact ⟨rfl, k1⟩
  | false =>
    rw [List.any_eq_false] at hany
    exact rests_main l at_ ks A B C c d e w hE (by omega) (by omega) (by omega) (by omega) (fun s hs => by have := hany s hs; simp at this; omega) hA hB hC

namespace Rests
theorem laid_of {W : World} (h : laidMetH Tryd.prog Rows.diskRestsRow.laid W) : ErrTy W := by
  have h' : laidMet Tryd.prog [] W ∧ handlesMet Tryd.prog Rows.diskRestsRow.laid W := h
  exact handle_of (List.mem_singleton.2 rfl) h'.2
noncomputable def laidWorld (os : Os) : World := withErr (World.holding Tryd.prog os ⟨#[], #[], []⟩)
theorem laidWorld_met (os : Os) (args : Array Value) : laidMetH Tryd.prog Rows.diskRestsRow.laid ((laidWorld os).forCall (fun _ _ => 0) ⟨#[], args, []⟩).memory :=
  laidMetH_of_parts (laidMet_nil _ _) (by kernel_rfl)
theorem cells1 : Tryd.prog.cellsOf 9 = 1 := by kernel_rfl
theorem cells2 : Tryd.prog.cellsOf 3 = 1 := by kernel_rfl
theorem cells3 : Tryd.prog.cellsOf 4 = 1 := by kernel_rfl

set_option maxRecDepth 100000 in
theorem lifted (os : Os) (started : os.Started) (H : Type) (enc : TypeId × Value → H) :
    ReturnsInHanded {} Tryd.checked os 3 .any (fun w args => (Rows.diskRestsSpec.pre enc Tryd.prog Tryd.f3 [] false w args ∧ laidMetH Tryd.prog Rows.diskRestsRow.laid w) ∧ sizedMet enc Tryd.prog Tryd.f3 (OpenSpec.ofChange Rows.diskRestsSpec) false w args)
      (Rows.diskRestsSpec.post enc Tryd.prog Tryd.f3 false true false false) := by
  refine returnsInHanded_of_change_and (C := Tryd.checked) (X := fun w _ => laidMetH Tryd.prog Rows.diskRestsRow.laid w) (fun _ _ _ hh h => h.of_heap hh) Fr.own started (by kernel_rfl) Tryd.func3
    (ChangeSpec.witness_at (enc := enc) (C := Tryd.checked) (os := os) (X := fun w _ => laidMetH Tryd.prog Rows.diskRestsRow.laid w) false (laidWorld os) #[.slice none 0 0, .slice none 0 0, .slice none 0 0] 8 rfl (by kernel_rfl) (by kernel_rfl) (by kernel_rfl) (by kernel_rfl) (by kernel_rfl) (laidWorld_met os _)) ?_
  intro W base args ds gs before hval0 hW _ _ hL _
  have hval : ∀ (j : Nat) t v, Tryd.f3.params[j]? = some t → args[j]? = some v → Value.okWide Tryd.prog W .any base t v := hval0
  have hW' := hW
  obtain ⟨p, q, hA0, hV, rfl, hfz, hnd⟩ := hW
  have hA : DataW.TrodAll enc Tryd.prog W 0 (fun _ => true) true Tryd.f3.params.toList args.toList ds p := hA0
  rw [Tryd.params3] at hA hval
  obtain ⟨v0, v1, v2, d0, d1, d2, p0, p1, p2, rfl, rfl, rfl, h0, h1, h2⟩ := trodAll_three hA
  obtain ⟨rfl, rfl⟩ := trodVars_none hV
  have lt0 : ∀ x ∈ p0, x.block < W.heap.size := by obtain ⟨m, hm⟩ := h0; exact DataW.trod_lt m _ _ _ hm
  have lt1 : ∀ x ∈ p1, x.block < W.heap.size := by obtain ⟨m, hm⟩ := h1; exact DataW.trod_lt m _ _ _ hm
  have lt2 : ∀ x ∈ p2, x.block < W.heap.size := by obtain ⟨m, hm⟩ := h2; exact DataW.trod_lt m _ _ _ hm
  obtain ⟨A, c, l, rfl, hA1, -, -⟩ := open_strs Tryd.underlying22 Tryd.underlying9 cells1 (hval 0 _ v0 rfl rfl) h0
  obtain ⟨B, d, at_, rfl, hB1, -, -⟩ := open_nums Tryd.underlying23 Tryd.underlying3 cells2 (hval 1 _ v1 rfl rfl) h1
  obtain ⟨C, e, ks, rfl, hC1, -⟩ := open_flags Tryd.underlying24 Tryd.underlying4 cells3 (hval 2 _ v2 rfl rfl) h2
  refine (rests_all l at_ ks A B C c d e W (laid_of hL) hA1 hB1 hC1).mono fun ev W' ⟨he, hk⟩ => ?_
  subst he
  have bel : Below W.heap.size W W' := hk.below (by simp) (Nat.le_refl _)
  exact ⟨_, rfl, _, _, _, [], _, [], hW', trodAll_mk1 (shut_bool Tryd.underlying4 _), trodAll_mk3 (Below.trod Fr.laidOut (by kernel_rfl) (of_decide_eq_true (by kernel_rfl)) h0 bel lt0) (Below.trod Fr.laidOut (by kernel_rfl) (of_decide_eq_true (by kernel_rfl)) h1 bel lt1) (Below.trod Fr.laidOut (by kernel_rfl) (of_decide_eq_true (by kernel_rfl)) h2 bel lt2), rfl, bel.frame _, fun h => by cases h⟩

theorem said : Rows.DiskRestsSaid :=
  OpenClaim.holds_of_wide 3 Tryd.f3 rfl rfl rfl rfl rfl rfl rfl ⟨rfl, rfl, rfl, rfl, rfl⟩ rfl rfl rfl rfl rfl (by kernel_rfl) Tryd.func3 (by kernel_rfl)
    (of_decide_eq_true (by kernel_rfl)) (by unfold Func.isWrapper; rw [if_neg (of_decide_eq_false (by kernel_rfl))]; exact ⟨rfl, rfl⟩)
    (fun os started H enc _ => lifted os started H enc)
end Rests
end Go.Proofs.YtjoolemhcpcnoaaDoor
