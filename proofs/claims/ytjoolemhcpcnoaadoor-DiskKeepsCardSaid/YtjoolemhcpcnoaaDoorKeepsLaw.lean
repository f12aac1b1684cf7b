/- DiskKeeps: the law, whole. -/
import Derived.Test.YtjoolemhcpcnoaaDoorKeepsA
import Derived.Test.YtjoolemhcpcnoaaDoorHandle
import Derived.Test.YtjoolemhcpcnoaaDoorReads
import Derived.Lib.SmallJoins
namespace Go.Proofs.YtjoolemhcpcnoaaDoor
open Go.RowKit Go.Shelf Go.ChangeShapes Go.WideShapes
attribute [local go_sem] bs_size bs_extract bs_append bs_toList errV_0 errV_2
set_option maxRecDepth 100000 in
set_option maxHeartbeats 4000000 in
theorem keeps_all (n : Int) (l : List OpC) (A : Option Addr) (c : Nat) (w : World) (hE : ErrTy w)
    (hA : Rd w [] 4 A l.length (opCells l)) (hK : ∀ o ∈ l, Rd w [] 1 o.kA o.ks.length (bools o.ks)) (hB : ∀ o ∈ l, o.at_ ≤ 9223372036854775807) :
    Calls Tryd.prog 6 #[.int .i64 n, .slice A l.length c] w fun ev w' => ev = .returned (.bool true) ∧ Keeps [] w w' := by
  by_cases h1 : (40 : Int) < (l.length : Int)
  · clear hA hK hB hE
    go_enter Tryd.func6, Tryd.ntmps6
    go_wp2
    go_ret
    exact ⟨rfl, Keeps.refl _ _⟩
  by_cases h2 : 8 ≤ n ∧ n ≤ 16384
  · obtain ⟨m, rfl⟩ := Int.eq_ofNat_of_zero_le (show 0 ≤ n by omega)
    exact keeps_main m l A c w hE (by omega) (by omega) (by omega) hA hK hB
  · have HN1 := Lib.hid (rnew_no n w (by omega))
    have HN2 := Lib.hid (new_no n w (by omega))
    have HE := Lib.hid hE
    clear hA hK hB hE h2
    go_enter Tryd.func6, Tryd.ntmps6
    go_wp2_with fail
    refine HN1.out.mono ?_
    rintro ev W1 ⟨rfl, rfl⟩
    go_wp2_with fail
    refine HN2.out.mono ?_
    rintro ev W2 ⟨rfl, rfl⟩
    go_wp2_with fail
    refine (bare_same 2 w HE.out).mono ?_
    rintro ev W3 ⟨rfl, k3⟩
    have hE3 : ErrTy W3 := HE.out.keep k3 (by simp)
    go_wp2_with fail
    refine (bare_same 2 W3 hE3).mono ?_
    rintro ev W4 ⟨rfl, k4⟩
    go_wp2
    go_ret
    exact ⟨rfl, k3.trans k4⟩

/-- A slice value by its cells. -/
theorem slice_of {P : Program} {W : World} {r : Reach} {base n c : Nat} {t e : TypeId} {v : Value} {A : Option Addr} (ht : P.underlying t = some (.slice e)) (hok : Value.okWide P W r base t v) (hc : v.cells.toList = [.slice A n c]) : v = .slice A n c := by
  obtain ⟨a, m, k, rfl⟩ := okWide_slice ht hok
  simpa [Value.cells] using hc

namespace KeepsL
theorem cells1 : Tryd.prog.cellsOf 9 = 1 := by kernel_rfl
theorem cells2 : Tryd.prog.cellsOf 3 = 1 := by kernel_rfl
theorem cells3 : Tryd.prog.cellsOf 4 = 1 := by kernel_rfl
theorem cells4 : Tryd.prog.cellsOf 57 = 4 := by kernel_rfl
theorem cells5 : Tryd.prog.cellsOf 24 = 1 := by kernel_rfl
theorem op_of {H : Type} {enc : TypeId × Value → H} {W : World} {cs : List Value} (h : Reads enc Tryd.prog W 57 cs) :
    ∃ o : OpC, cs = opCell o ∧ Rd W [] 1 o.kA o.ks.length (bools o.ks) ∧ o.at_ ≤ 9223372036854775807 := by
  have hl := (h.struct Tryd.underlying57).1
  rw [cells4] at hl
  obtain ⟨c0, c1, c2, c3, rfl⟩ := list4 hl
  have h0 : Reads enc Tryd.prog W 3 [c0] := h.fieldAt Tryd.underlying57 0 rfl rfl rfl cells2
  have h1 : Reads enc Tryd.prog W 3 [c1] := h.fieldAt Tryd.underlying57 1 rfl rfl rfl cells2
  have h2 : Reads enc Tryd.prog W 9 [c2] := h.fieldAt Tryd.underlying57 2 rfl rfl rfl cells1
  have h3 : Reads enc Tryd.prog W 24 [c3] := h.fieldAt Tryd.underlying57 3 rfl rfl rfl cells5
  obtain ⟨a, e0, -⟩ := h0.i64 Tryd.underlying3
  obtain ⟨b, e1, -, hb⟩ := h1.i64 Tryd.underlying3
  obtain ⟨s, e2, -⟩ := h2.str Tryd.underlying9
  obtain ⟨K, c, ks, e3, -, hk⟩ := h3.bools Tryd.underlying24 Tryd.underlying4 cells3
  simp only [List.cons.injEq, and_true] at e0 e1 e2 e3
  subst e0 e1 e2 e3
  exact ⟨⟨a, b, s, ks, K, c⟩, rfl, hk, hb⟩
theorem laid_of {W : World} (h : laidMetH Tryd.prog Rows.diskKeepsRow.laid W) : ErrTy W := by
  have h' : laidMet Tryd.prog [] W ∧ handlesMet Tryd.prog Rows.diskKeepsRow.laid W := h
  exact handle_of (List.mem_singleton.2 rfl) h'.2
noncomputable def laidWorld (os : Os) : World := withErr (World.holding Tryd.prog os ⟨#[], #[], []⟩)
theorem laidWorld_met (os : Os) (args : Array Value) : laidMetH Tryd.prog Rows.diskKeepsRow.laid ((laidWorld os).forCall (fun _ _ => 0) ⟨#[], args, []⟩).memory :=
  laidMetH_of_parts (laidMet_nil _ _) (by kernel_rfl)

set_option maxRecDepth 100000 in
theorem lifted (os : Os) (started : os.Started) (H : Type) (enc : TypeId × Value → H) :
    ReturnsInHanded {} Tryd.checked os 6 .any (fun w args => (Rows.diskKeepsSpec.pre enc Tryd.prog Tryd.f6 [] false w args ∧ laidMetH Tryd.prog Rows.diskKeepsRow.laid w) ∧ sizedMet enc Tryd.prog Tryd.f6 (OpenSpec.ofChange Rows.diskKeepsSpec) false w args)
      (Rows.diskKeepsSpec.post enc Tryd.prog Tryd.f6 false true false false) := by
  refine returnsInHanded_of_change_and (C := Tryd.checked) (X := fun w _ => laidMetH Tryd.prog Rows.diskKeepsRow.laid w) (fun _ _ _ hh h => h.of_heap hh) Fr.own started (by kernel_rfl) Tryd.func6
    (ChangeSpec.witness_at (enc := enc) (C := Tryd.checked) (os := os) (X := fun w _ => laidMetH Tryd.prog Rows.diskKeepsRow.laid w) false (laidWorld os) #[.int .i64 0, .slice none 0 0] 8 rfl (by kernel_rfl) (by kernel_rfl) (by kernel_rfl) (by kernel_rfl) (by kernel_rfl) (laidWorld_met os _)) ?_
  intro W base args ds gs before hval0 hW _ _ hL _
  have hval : ∀ (j : Nat) t v, Tryd.f6.params[j]? = some t → args[j]? = some v → Value.okWide Tryd.prog W .any base t v := hval0
  have hW' := hW
  obtain ⟨p, q, hA0, hV, rfl, hfz, hnd⟩ := hW
  have hA : DataW.TrodAll enc Tryd.prog W 0 (fun _ => true) true Tryd.f6.params.toList args.toList ds p := hA0
  rw [Tryd.params6] at hA hval
  obtain ⟨v0, v1, d0, d1, p0, p1, rfl, rfl, rfl, h0, h1⟩ := trodAll_two hA
  obtain ⟨rfl, rfl⟩ := trodVars_none hV
  have lt0 : ∀ x ∈ p0, x.block < W.heap.size := by obtain ⟨m, hm⟩ := h0; exact DataW.trod_lt m _ _ _ hm
  have lt1 : ∀ x ∈ p1, x.block < W.heap.size := by obtain ⟨m, hm⟩ := h1; exact DataW.trod_lt m _ _ _ hm
  have k0 := h0
  obtain ⟨n, rfl, -, -, -⟩ := open_int Tryd.underlying3 (hval 0 _ v0 rfl rfl) h0
  obtain ⟨A, c, l, hc, -, hA1, hQ⟩ := (Reads.of h1).list opCell (fun o => Rd W [] 1 o.kA o.ks.length (bools o.ks) ∧ o.at_ ≤ 9223372036854775807) Tryd.underlying51 cells4 (by omega) (fun cs h => op_of h)
  obtain rfl := slice_of Tryd.underlying51 (hval 1 _ v1 rfl rfl) hc
  refine (keeps_all n l A c W (laid_of hL) hA1 (fun o ho => (hQ o ho).1) (fun o ho => (hQ o ho).2)).mono fun ev W' ⟨he, hk⟩ => ?_
  subst he
  have bel : Below W.heap.size W W' := hk.below (by simp) (Nat.le_refl _)
  exact ⟨_, rfl, _, _, _, [], _, [], hW', trodAll_mk1 (shut_bool Tryd.underlying4 _), trodAll_mk2 (Below.trod Fr.laidOut (by kernel_rfl) (of_decide_eq_true (by kernel_rfl)) k0 bel lt0) (Below.trod Fr.laidOut (by kernel_rfl) (of_decide_eq_true (by kernel_rfl)) h1 bel lt1), rfl, bel.frame _, fun h => by cases h⟩

theorem said : Rows.DiskKeepsSaid :=
  OpenClaim.holds_of_wide 6 Tryd.f6 rfl rfl rfl rfl rfl rfl rfl ⟨rfl, rfl, rfl, rfl, rfl⟩ rfl rfl rfl rfl rfl (by kernel_rfl) Tryd.func6 (by kernel_rfl)
    (of_decide_eq_true (by kernel_rfl)) (by unfold Func.isWrapper; rw [if_neg (of_decide_eq_false (by kernel_rfl))]; exact ⟨rfl, rfl⟩)
    (fun os started H enc _ => lifted os started H enc)
end KeepsL
end Go.Proofs.YtjoolemhcpcnoaaDoor
