/- DiskSure: the law, whole. -/
import Derived.Test.YtelafmakgokhbaaDoorSureD
import Derived.Test.YtelafmakgokhbaaDoorFrame
import Derived.Lib.LaidTab
import Derived.LaidMore
import Derived.Shelf.Vars
namespace Go.Proofs.YtelafmakgokhbaaDoor
open Go.RowKit Go.ChangeShapes Go.WideShapes Go.BigFrame
attribute [local go_sem] bs_size bs_extract bs_append bs_toList
set_option maxRecDepth 100000 in
set_option maxHeartbeats 4000000 in
theorem sure_all (l more : List Bs) (at_ : List Int) (ks : List Bool) (A M B C : Option Addr) (c cm d e : Nat) (w : World)
    (hA : Rd w [] 1 A l.length (strs l)) (hM : Rd w [] 1 M more.length (strs more)) (hB : Rd w [] 1 B at_.length (ints at_)) (hC : Rd w [] 1 C ks.length (bools ks)) :
    Calls Tryd.prog 3 #[.slice A l.length c, .slice M more.length cm, .slice B at_.length d, .slice C ks.length e] w fun ev w' => ev = .returned (.bool true) ∧ Keeps [] w w' := by
  by_cases h1 : (20:Int) < (l.length : Int)
  · skip
    clear hA hM hB hC
    go_enter Tryd.func3, Tryd.ntmps3
    go_upto_region 2 with (fail)
    have KF := Lib.hid ((Keeps.refl [] w).alloc (.cells #[.slice B at_.length d] 23))
    go_wp2
    go_ret
    exact ⟨rfl, KF.out⟩
  by_cases h2 : (20:Int) < (more.length : Int)
  · skip
    clear hA hM hB hC
    go_enter Tryd.func3, Tryd.ntmps3
    go_upto_region 2 with (fail)
    have KF := Lib.hid ((Keeps.refl [] w).alloc (.cells #[.slice B at_.length d] 23))
    go_wp2
    go_ret
    exact ⟨rfl, KF.out⟩
  by_cases h3 : at_.length = 0
  · skip
    have h3' : ((at_.length : Int) == 0) = true := by rw [h3]; rfl
    clear h3
    clear hA hM hB hC
    go_enter Tryd.func3, Tryd.ntmps3
    go_upto_region 2 with (fail)
    have KF := Lib.hid ((Keeps.refl [] w).alloc (.cells #[.slice B at_.length d] 23))
    go_wp2
    go_ret
    exact ⟨rfl, KF.out⟩
  have h3' : ((at_.length : Int) == 0) = false := by rw [beq_eq_false_iff_ne]; omega
  by_cases h4 : (20:Int) < (at_.length : Int)
  · skip
    clear hA hM hB hC
    go_enter Tryd.func3, Tryd.ntmps3
    go_upto_region 2 with (fail)
    have KF := Lib.hid ((Keeps.refl [] w).alloc (.cells #[.slice B at_.length d] 23))
    go_wp2
    go_ret
    exact ⟨rfl, KF.out⟩
  by_cases h5 : (30:Int) < (ks.length : Int)
  · skip
    clear hA hM hB hC
    go_enter Tryd.func3, Tryd.ntmps3
    go_upto_region 2 with (fail)
    have KF := Lib.hid ((Keeps.refl [] w).alloc (.cells #[.slice B at_.length d] 23))
    go_wp2
    go_ret
    exact ⟨rfl, KF.out⟩
  have HF1 : Hid (∀ W, Keeps [] w W → Calls Tryd.prog 5 #[.slice A l.length c, .func (.func 4) #[] #[]] W fun ev W' => ev = .returned (.bool (l.any fun s => decide (64 < s.length))) ∧ Keeps [] W W') := Lib.hid (fun W q =>
    containsFunc_any 4 #[] (enters_of Tryd.func4 (by kernel_rfl) rfl) (fun s => decide (64 < s.length)) l A c W (hA.keep q) (by omega) (long1_predS l W))
  have HF2 : Hid (∀ W, Keeps [] w W → Calls Tryd.prog 5 #[.slice M more.length cm, .func (.func 4) #[] #[]] W fun ev W' => ev = .returned (.bool (more.any fun s => decide (64 < s.length))) ∧ Keeps [] W W') := Lib.hid (fun W q =>
    containsFunc_any 4 #[] (enters_of Tryd.func4 (by kernel_rfl) rfl) (fun s => decide (64 < s.length)) more M cm W (hM.keep q) (by omega) (long1_predS more W))
  cases hany : (l.any fun s => decide (64 < s.length)) with
  | true =>
    rw [hany] at HF1
    clear hA hM hB hC hany HF2
    go_enter Tryd.func3, Tryd.ntmps3
    go_upto_region 2 with (fail)
    have KF := Lib.hid ((Keeps.refl [] w).alloc (.cells #[.slice B at_.length d] 23))
    go_wp2_with fail
    refine (HF1.out _ KF.out).mono ?_
    rintro ev W1 ⟨rfl, k1⟩
    go_wp2
    go_ret
    exact ⟨rfl, KF.out.trans k1⟩
  | false =>
    cases hany2 : (more.any fun s => decide (64 < s.length)) with
    | true =>
      rw [hany] at HF1
      rw [hany2] at HF2
      clear hA hM hB hC hany hany2
      go_enter Tryd.func3, Tryd.ntmps3
      go_upto_region 2 with (fail)
      have KF := Lib.hid ((Keeps.refl [] w).alloc (.cells #[.slice B at_.length d] 23))
      go_wp2_with fail
      refine (HF1.out _ KF.out).mono ?_
      rintro ev W1 ⟨rfl, k1⟩
      have KG := Lib.hid (KF.out.trans k1)
      clear k1
      go_wp2_with fail
      refine (HF2.out _ KG.out).mono ?_
      rintro ev W2 ⟨rfl, k2⟩
      go_wp2
      go_ret
      exact ⟨rfl, KG.out.trans k2⟩
    | false =>
      rw [List.any_eq_false] at hany hany2
      exact sure_main l more at_ ks A M B C c cm d e w (by omega) (by omega) (by omega) (by omega) (by omega) (fun s hs => by have := hany s hs; simp at this; omega) (fun s hs => by have := hany2 s hs; simp at this; omega) hA hM hB hC
namespace Sur
/-- A flat datum's cells. -/
def litCells : DataW Unit → Array Value
  | .agg l => (l.map fun
    | .lit (.int k z) => Value.int k z
    | .lit (.string s) => Value.string (bs s)
    | _ => undef).toArray
  | _ => #[]
/-- The table of first bytes, laid in a world. -/
def withFirst (w0 : World) : World :=
  { w0 with heap := w0.heap.modify 1 fun
      | .cells _ t fz => .cells (litCells Go.Pinned.utf8First) t fz
      | o => o }
noncomputable def laidWorld (os : Os) : World := withFirst (World.doorLaid Tryd.prog 400 os)
theorem laidWorld_met (os : Os) (args : Array Value) : laidMetH Tryd.prog Rows.diskSureRow.laid ((laidWorld os).forCall (fun _ _ => 0) ⟨#[], args, []⟩).memory :=
  laidMetH_of_parts3 (fuel := 8) (laidMet_of_run' 8 (by kernel_rfl) (by kernel_rfl)) (by kernel_rfl) (by kernel_rfl)
theorem cells1 : Tryd.prog.cellsOf 9 = 1 := by kernel_rfl
theorem cells2 : Tryd.prog.cellsOf 3 = 1 := by kernel_rfl
theorem cells3 : Tryd.prog.cellsOf 4 = 1 := by kernel_rfl
set_option maxRecDepth 100000 in
theorem lifted (os : Os) (started : os.Started) (H : Type) (enc : TypeId × Value → H) :
    ReturnsInHanded {} Tryd.checked os 3 .any (fun w args => (Rows.diskSureSpec.pre enc Tryd.prog Tryd.f3 [] false w args ∧ laidMetH Tryd.prog Rows.diskSureRow.laid w) ∧ sizedMet enc Tryd.prog Tryd.f3 (OpenSpec.ofChange Rows.diskSureSpec) false w args)
      (Rows.diskSureSpec.post enc Tryd.prog Tryd.f3 false true false false) := by
  refine returnsInHanded_of_change_and (C := Tryd.checked) (X := fun w _ => laidMetH Tryd.prog Rows.diskSureRow.laid w) (fun _ _ _ hh h => h.of_heap hh) Fr.own started (by kernel_rfl) Tryd.func3
    (ChangeSpec.witness_at (enc := enc) (C := Tryd.checked) (os := os) (X := fun w _ => laidMetH Tryd.prog Rows.diskSureRow.laid w) false (laidWorld os) #[.slice none 0 0, .slice none 0 0, .slice none 0 0, .slice none 0 0] 8 rfl (by kernel_rfl) (by kernel_rfl) (by kernel_rfl) (by kernel_rfl) (by kernel_rfl) (laidWorld_met os _)) ?_
  intro W base args ds gs before hval0 hW _ _ hL _
  have hval : ∀ (j : Nat) t v, Tryd.f3.params[j]? = some t → args[j]? = some v → Value.okWide Tryd.prog W .any base t v := hval0
  have hW' := hW
  obtain ⟨p, q, hA0, hV, rfl, hfz, hnd⟩ := hW
  have hA : DataW.TrodAll enc Tryd.prog W 0 (fun _ => true) true Tryd.f3.params.toList args.toList ds p := hA0
  rw [Tryd.params3] at hA hval
  obtain ⟨v0, v1, v2, v3, d0, d1, d2, d3, p0, p1, p2, p3, rfl, rfl, rfl, h0, h1, h2, h3⟩ := trodAll_four hA
  obtain ⟨rfl, rfl⟩ := trodVars_none hV
  have lt0 : ∀ x ∈ p0, x.block < W.heap.size := by obtain ⟨m, hm⟩ := h0; exact DataW.trod_lt m _ _ _ hm
  have lt1 : ∀ x ∈ p1, x.block < W.heap.size := by obtain ⟨m, hm⟩ := h1; exact DataW.trod_lt m _ _ _ hm
  have lt2 : ∀ x ∈ p2, x.block < W.heap.size := by obtain ⟨m, hm⟩ := h2; exact DataW.trod_lt m _ _ _ hm
  have lt3 : ∀ x ∈ p3, x.block < W.heap.size := by obtain ⟨m, hm⟩ := h3; exact DataW.trod_lt m _ _ _ hm
  obtain ⟨A, c, l, rfl, hA1, -, -⟩ := open_strs Tryd.underlying22 Tryd.underlying9 cells1 (hval 0 _ v0 rfl rfl) h0
  obtain ⟨M, cm, more, rfl, hM1, -, -⟩ := open_strs Tryd.underlying22 Tryd.underlying9 cells1 (hval 1 _ v1 rfl rfl) h1
  obtain ⟨B, d, at_, rfl, hB1, -, -⟩ := open_nums Tryd.underlying23 Tryd.underlying3 cells2 (hval 2 _ v2 rfl rfl) h2
  obtain ⟨C, e, ks, rfl, hC1, -⟩ := open_flags Tryd.underlying24 Tryd.underlying4 cells3 (hval 3 _ v3 rfl rfl) h3
  refine (sure_all l more at_ ks A M B C c cm d e W hA1 hM1 hB1 hC1).mono fun ev W' ⟨he, hk⟩ => ?_
  subst he
  have k0 := Keeps.trod Fr.laidOut (by kernel_rfl) (of_decide_eq_true (by kernel_rfl)) h0 hk lt0
  have k1 := Keeps.trod Fr.laidOut (by kernel_rfl) (of_decide_eq_true (by kernel_rfl)) h1 hk lt1
  have k2 := Keeps.trod Fr.laidOut (by kernel_rfl) (of_decide_eq_true (by kernel_rfl)) h2 hk lt2
  have k3 := Keeps.trod Fr.laidOut (by kernel_rfl) (of_decide_eq_true (by kernel_rfl)) h3 hk lt3
  exact ⟨_, rfl, _, _, _, [], _, [], hW', trodAll_mk1 (shut_bool Tryd.underlying4 _), trodAll_mk4 k0 k1 k2 k3, rfl, hk.frame _, fun h => by cases h⟩
theorem said : Rows.DiskSureSaid :=
  OpenClaim.holds_of_wide 3 Tryd.f3 rfl rfl rfl rfl rfl rfl rfl ⟨rfl, rfl, rfl, rfl, rfl⟩ rfl rfl rfl rfl rfl (by kernel_rfl) Tryd.func3 (by kernel_rfl)
    (of_decide_eq_true (by kernel_rfl)) (by unfold Func.isWrapper; rw [if_neg (of_decide_eq_false (by kernel_rfl))]; exact ⟨rfl, rfl⟩)
    (fun os started H enc _ => lifted os started H enc)
end Sur
end Go.Proofs.YtelafmakgokhbaaDoor
