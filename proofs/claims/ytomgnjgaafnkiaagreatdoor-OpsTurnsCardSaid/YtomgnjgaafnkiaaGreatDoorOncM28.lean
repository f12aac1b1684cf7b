/- The package-level variables that jobs lean on, out of a row's laid list. Arguments opened: a slice of texts, by value. OpsTurns: the law, whole. -/
import Derived.Test.YtomgnjgaafnkiaaGreatDoorOncM27
import Derived.Test.YtomgnjgaafnkiaaGreatDoorOncM7
import Derived.Test.YtomgnjgaafnkiaaGreatDoorOncM22
import Derived.Test.YtomgnjgaafnkiaaGreatDoorOncM21
import Derived.ChangeMaps5
namespace Go.Proofs.YtomgnjgaafnkiaaGreatDoor
open Go.RowKit Go.ChangeShapes Go.WideShapes
def litText : DataW Unit → Bs
  | .lit (.string s) => s
  | _ => []
theorem En.cg : Tryz.prog.globalNamed "foreman/ops.compares" = some 1 := by kernel_rfl
theorem En.ct : (Tryz.prog.globals[1]?).map (·.type) = some 30 := by kernel_rfl
theorem compares_at {W : World} (h : laidMet Tryz.prog [("foreman/ops.compares", Rows.laid_foreman_ops_compares)] W) : ∃ A c, W.cell? ⟨1, 0, none⟩ = some (.slice A 6 c) ∧ Rd W [] 1 A 6 (strs compares) := by
  obtain ⟨ps, ⟨g', t', cs, fuel, p, q, hg', ht', hvar, hd, _, _⟩, _⟩ := h
  obtain rfl := Option.some.inj (En.cg.symm.trans hg')
  obtain rfl := Option.some.inj (En.ct.symm.trans ht')
  rcases open_strings Tryz.underlying30 Tryz.underlying9 (by kernel_rfl) hd with ⟨_, h0⟩ | ⟨a, len, cap, ss, hcs, _, hl, hcap, hlen, hx, hcell, hw⟩
  · have := congrArg Prod.fst h0
    cases this
  · have h1 := congrArg Prod.fst hx
    injection h1 with e1 e2
    have e3 : compares = (ss.take len).map (·.data.toList) := by
      have := congrArg (List.map litText) e1
      refine (Eq.trans (by rfl) this).trans ?_
      unfold Go.ChangeShapes.strs
      rw [List.map_map]
      rfl
    have hle : len ≤ ss.length := by rw [hlen]; split <;> omega
    have hl6 : len = 6 := by
      have := congrArg List.length e3
      simp [compares] at this
      omega
    subst hl6
    have hc0 : W.cell? ⟨1, 0, none⟩ = some (.slice (some a) 6 cap) := by
      rw [World.var?_cell En.cg hvar 0, ← Array.getElem?_toList, hcs]
      rfl
    refine ⟨some a, cap, hc0, rfl, fun _ => ⟨a, rfl, by simp, ?_, fun j u hu => ?_⟩⟩
    · have := World.block_lt_of_cell? _ _ (hcell 0 (by omega))
      rwa [block_add] at this
    · rw [e3] at hu
      unfold strs at hu
      rw [List.map_map, List.getElem?_map, Option.map_eq_some_iff] at hu
      obtain ⟨y, hy, rfl⟩ := hu
      rw [List.getElem?_take] at hy
      split at hy
      · rename_i hj
        rw [hcell j (by omega), List.getD_eq_getElem?_getD, hy]
        rfl
      · cases hy
theorem oenv_of {laid : List (String × DataW Unit)} {W : World}
    (h1 : laid.filter (fun x => x.1 == "internal/strconv.uint64pow10") = [("internal/strconv.uint64pow10", Rows.laid_internal_strconv_uint64pow10)])
    (h2 : laid.filter (fun x => x.1 == "foreman/table.kinds") = [("foreman/table.kinds", Rows.laid_foreman_table_kinds)])
    (h3 : laid.filter (fun x => x.1 == "strconv.ErrSyntax") = [("strconv.ErrSyntax", Rows.laid_strconv_ErrSyntax)])
    (h4 : laid.filter (fun x => x.1 == "strconv.ErrRange") = [("strconv.ErrRange", Rows.laid_strconv_ErrRange)])
    (h5 : laid.filter (fun x => x.1 == "foreman/ops.compares") = [("foreman/ops.compares", Rows.laid_foreman_ops_compares)])
    (h : laidMet Tryz.prog laid W) (hs : W.ShapedOpen Tryz.prog) : OEnv W := ⟨tenv_of h1 h2 h3 h4 h hs, compares_at (one_of _ _ h5 h)⟩
end Go.Proofs.YtomgnjgaafnkiaaGreatDoor
namespace Go.Proofs.YtomgnjgaafnkiaaGreatDoor
open Go.RowKit Go.ChangeShapes Go.WideShapes Go.Joins
section
variable {H : Type} {enc : TypeId × Value → H} {w : World} {base b0 : Nat} {spare : Nat → Bool} {held : Bool} {v : Value} {d : DataW H} {p : List MemPlace} {r : Reach}
set_option maxRecDepth 100000 in
theorem open_textsV (hv : Value.okWide Tryz.prog w r b0 30 v) (h : DataW.Trod enc Tryz.prog w base spare held 30 v d p) : ∃ (A : Option Addr) (c : Nat) (l : List Bs), v = .slice A l.length c ∧ Rd w [] 1 A l.length (strs l) ∧ l.length ≤ c := by
  obtain ⟨a, n, c, rfl⟩ := okWide_slice Tryz.underlying30 hv
  obtain ⟨m, hm⟩ := h
  obtain ⟨A, c', l, e, h1, _, h3, _⟩ := open_texts hm
  simp [Value.cells] at e
  obtain ⟨rfl, rfl, rfl⟩ := e
  exact ⟨_, _, l, rfl, h3, h1⟩
end
end Go.Proofs.YtomgnjgaafnkiaaGreatDoor
namespace Go.Proofs.YtomgnjgaafnkiaaGreatDoor
open Go.RowKit Go.Shelf Go.ChangeShapes Go.WideShapes
namespace Otn
theorem env {W : World} (h : laidMetH Tryz.prog Rows.opsTurnsRow.laid W) (hs : W.ShapedOpen Tryz.prog) : OEnv W := by
  rw [MakeChecks.laidMetH_plain _ _ _ (by kernel_rfl)] at h
  exact oenv_of (by kernel_rfl) (by kernel_rfl) (by kernel_rfl) (by kernel_rfl) (by kernel_rfl) h hs
theorem door_met (os : Os) (args : Array Value) : laidMetH Tryz.prog Rows.opsTurnsRow.laid ((doorWorld os).forCall (fun _ _ => 0) ⟨#[], args, []⟩).memory :=
  laidMetH_of_parts3 (fuel := 8) (laidMet_of_run' 8 (by kernel_rfl) (by kernel_rfl)) (by kernel_rfl) (by kernel_rfl)
set_option maxRecDepth 100000 in
theorem lifted (os : Os) (started : os.Started) (H : Type) (enc : TypeId × Value → H) :
    ReturnsInHanded {} Tryz.checked os 7 .any (fun w args => (Rows.opsTurnsSpec.pre enc Tryz.prog Tryz.f7 [] false w args ∧ laidMetH Tryz.prog Rows.opsTurnsRow.laid w) ∧ sizedMet enc Tryz.prog Tryz.f7 (OpenSpec.ofChange Rows.opsTurnsSpec) false w args)
      (Rows.opsTurnsSpec.post enc Tryz.prog Tryz.f7 false true false false) := by
  refine returns_shaped (C := Tryz.checked) (X := fun w _ => laidMetH Tryz.prog Rows.opsTurnsRow.laid w) (fun _ _ _ hh h => h.of_heap hh) Fr.own started (by kernel_rfl) Tryz.func7
    (ChangeSpec.witness_shaped (enc := enc) (C := Tryz.checked) (os := os) (X := fun w _ => laidMetH Tryz.prog Rows.opsTurnsRow.laid w) false (doorWorld os) #[.agg #[.int .i64 0, .int .i64 0, .slice none 0 0, .slice none 0 0, .slice none 0 0, .string ⟨#[]⟩, .string ⟨#[]⟩, .int .i64 0, .int .i64 0, .string ⟨#[]⟩, .string ⟨#[]⟩, .int .i64 0, .int .i64 0, .string ⟨#[]⟩, .int .i64 0], .agg #[.slice none 0 0, .slice none 0 0], .agg #[.slice none 0 0, .slice none 0 0], .slice none 0 0] 8 rfl (World.shaped_of_RefB (by kernel_rfl) (by kernel_rfl)) (by kernel_rfl) (by kernel_rfl) (by kernel_rfl) (door_met os _)) ?_
  intro W base args ds gs before hval0 hW hL hsh
  have hval : ∀ (j : Nat) t v, Tryz.f7.params[j]? = some t → args[j]? = some v → Value.okWide Tryz.prog W .any base t v := hval0
  have hW' := hW
  obtain ⟨p, q, hA0, hV, rfl, hfz, hnd⟩ := hW
  have hA : DataW.TrodAll enc Tryz.prog W 0 (fun _ => true) true Tryz.f7.params.toList args.toList ds p := hA0
  rw [Tryz.params7] at hA hval
  obtain ⟨v0, v1, v2, v3, d0, d1, d2, d3, p0, p1, p2, p3, rfl, rfl, rfl, h0, h1, h2, h3⟩ := trodAll_four hA
  obtain ⟨rfl, rfl⟩ := trodVars_none hV
  have lt0 : ∀ x ∈ p0, x.block < W.heap.size := by obtain ⟨m, hm⟩ := h0; exact DataW.trod_lt m _ _ _ hm
  have lt1 : ∀ x ∈ p1, x.block < W.heap.size := by obtain ⟨m, hm⟩ := h1; exact DataW.trod_lt m _ _ _ hm
  have lt2 : ∀ x ∈ p2, x.block < W.heap.size := by obtain ⟨m, hm⟩ := h2; exact DataW.trod_lt m _ _ _ hm
  have lt3 : ∀ x ∈ p3, x.block < W.heap.size := by obtain ⟨m, hm⟩ := h3; exact DataW.trod_lt m _ _ _ hm
  have g0 := h0
  obtain ⟨j, jAo, jco, jAi, jni, jci, jAc, jcc, rfl, jh⟩ := open_job (hval 0 _ v0 rfl rfl) g0
  have g1 := h1
  obtain ⟨t, tA, tB, tc, td, rfl, th⟩ := open_table (hval 1 _ v1 rfl rfl) g1
  have g2 := h2
  obtain ⟨u, uA, uB, uc, ud, rfl, uh⟩ := open_table (hval 2 _ v2 rfl rfl) g2
  have g3 := h3
  obtain ⟨lA, lc, l, rfl, lh⟩ := open_textsV (hval 3 _ v3 rfl rfl) g3
  refine (oturns_all j jAo jco jAi jni jci jAc jcc t tA tB tc td u uA uB uc ud l lA lc W jh th uh lh.1 lh.2 (env hL hsh)).mono fun ev W' ⟨he, hk⟩ => ?_
  subst he
  have k0 := Keeps.trod Fr.laidOut (by kernel_rfl) (of_decide_eq_true (by kernel_rfl)) h0 hk lt0
  have k1 := Keeps.trod Fr.laidOut (by kernel_rfl) (of_decide_eq_true (by kernel_rfl)) h1 hk lt1
  have k2 := Keeps.trod Fr.laidOut (by kernel_rfl) (of_decide_eq_true (by kernel_rfl)) h2 hk lt2
  have k3 := Keeps.trod Fr.laidOut (by kernel_rfl) (of_decide_eq_true (by kernel_rfl)) h3 hk lt3
  exact ⟨_, rfl, _, _, _, [], _, [], hW', trodAll_mk1 (shut_bool Tryz.underlying4 _), trodAll_mk4 k0 k1 k2 k3, rfl, hk.frame _, fun h => by cases h⟩
theorem said : Rows.OpsTurnsSaid :=
  OpenClaim.holds_of_wide 7 Tryz.f7 rfl rfl rfl rfl rfl rfl rfl ⟨rfl, rfl, rfl, rfl, rfl⟩ rfl rfl rfl rfl rfl (by kernel_rfl) Tryz.func7 (by kernel_rfl)
    (of_decide_eq_true (by kernel_rfl)) (by unfold Func.isWrapper; rw [if_neg (of_decide_eq_false (by kernel_rfl))]; exact ⟨rfl, rfl⟩)
    (fun os started H enc _ => lifted os started H enc)
end Otn
end Go.Proofs.YtomgnjgaafnkiaaGreatDoor
