/- Arguments opened: jobs, slices of texts. The package-level variables that jobs lean on, out of a row's laid list. OpsJoin: the law, whole. -/
import Derived.Test.YtpfkjejknlkkoaaGreatDoorOjnM36
import Derived.Test.YtpfkjejknlkkoaaGreatDoorOjnM7
import Derived.SliceStrings
import Derived.Test.YtpfkjejknlkkoaaGreatDoorOjnM37
import Derived.Test.YtpfkjejknlkkoaaGreatDoorOjnM27
import Derived.Test.YtpfkjejknlkkoaaGreatDoorOjnM35
import Derived.ChangeMaps5
set_option linter.unusedSimpArgs false
set_option linter.unusedVariables false
namespace Go.Proofs.YtpfkjejknlkkoaaGreatDoor
open Go.RowKit Go.ChangeShapes Go.WideShapes Go.Joins
section
variable {H : Type} {enc : TypeId × Value → H} {w : World} {base b0 : Nat} {spare : Nat → Bool} {held : Bool} {fuel : Nat} {cs : List Value} {x : DataW H × List MemPlace}
end
structure JobAny (w : World) (j : Jb) (Ao : Option Addr) (co : Nat) (Ac : Option Addr) (cc : Nat) : Prop where
 outs : Rd w [] 1 Ao j.outs.length (strs j.outs)
 oc : j.outs.length ≤ co
 cols : Rd w [] 1 Ac j.cols.length (strs j.cols)
 cq : j.cols.length ≤ cc
 lo : co ≤ maxLen
 lc : cc ≤ maxLen
 names : ∀ s ∈ j.cols, s.length ≤ maxLen
 lop : j.op.length ≤ maxLen
 ll : j.left.col.length ≤ maxLen ∧ j.left.val.word.length ≤ maxLen ∧ numOk j.left.val.num
 lr : j.right.col.length ≤ maxLen ∧ j.right.val.word.length ≤ maxLen ∧ numOk j.right.val.num
section
variable {H : Type} {enc : TypeId × Value → H} {w : World} {base b0 : Nat} {spare : Nat → Bool} {held : Bool} {fuel : Nat} {v : Value} {d : DataW H} {p : List MemPlace} {r : Reach}
end
end Go.Proofs.YtpfkjejknlkkoaaGreatDoor
namespace Go.Proofs.YtpfkjejknlkkoaaGreatDoor
open Go.RowKit Go.ChangeShapes Go.WideShapes
theorem oenv_of {laid : List (String × DataW Unit)} {W : World}
  (h1 : laid.filter (fun x => x.1 == "internal/strconv.uint64pow10") = [("internal/strconv.uint64pow10", Rows.laid_internal_strconv_uint64pow10)])
  (h2 : laid.filter (fun x => x.1 == "foreman/table.kinds") = [("foreman/table.kinds", Rows.laid_foreman_table_kinds)])
  (h3 : laid.filter (fun x => x.1 == "strconv.ErrSyntax") = [("strconv.ErrSyntax", Rows.laid_strconv_ErrSyntax)])
  (h4 : laid.filter (fun x => x.1 == "strconv.ErrRange") = [("strconv.ErrRange", Rows.laid_strconv_ErrRange)])
  (h5 : laid.filter (fun x => x.1 == "foreman/ops.compares") = [("foreman/ops.compares", Rows.laid_foreman_ops_compares)])
  (h : laidMet Tryz.prog laid W) (hs : W.ShapedOpen Tryz.prog) : OEnv W := ⟨tenv_of h1 h2 h3 h4 h hs, ⟨compares_at (one_of _ _ h5 h)⟩⟩
end Go.Proofs.YtpfkjejknlkkoaaGreatDoor
namespace Go.Proofs.YtpfkjejknlkkoaaGreatDoor
open Go.RowKit Go.Shelf Go.ChangeShapes Go.WideShapes
namespace Ojn
theorem env {W : World} (h : laidMetH Tryz.prog Rows.opsJoinRow.laid W) (hs : W.ShapedOpen Tryz.prog) : OEnv W := by
 rw [MakeChecks.laidMetH_plain _ _ _ (by kernel_rfl)] at h
 exact oenv_of (by kernel_rfl) (by kernel_rfl) (by kernel_rfl) (by kernel_rfl) (by kernel_rfl) h hs
theorem door_met (os : Os) (args : Array Value) : laidMetH Tryz.prog Rows.opsJoinRow.laid ((doorWorld os).forCall (fun _ _ => 0) ⟨#[], args, []⟩).memory :=
 laidMetH_of_parts3 (fuel := 8) (laidMet_of_run' 8 (by kernel_rfl) (by kernel_rfl)) (by kernel_rfl) (by kernel_rfl)
set_option maxRecDepth 100000 in
theorem lifted (os : Os) (started : os.Started) (H : Type) (enc : TypeId × Value → H) :
  ReturnsInHanded {} Tryz.checked os 3 .any (fun w args => (Rows.opsJoinSpec.pre enc Tryz.prog Tryz.f3 [] false w args ∧ laidMetH Tryz.prog Rows.opsJoinRow.laid w) ∧ sizedMet enc Tryz.prog Tryz.f3 (OpenSpec.ofChange Rows.opsJoinSpec) false w args)
   (Rows.opsJoinSpec.post enc Tryz.prog Tryz.f3 false true false false) := by
 refine returns_shaped (C := Tryz.checked) (X := fun w _ => laidMetH Tryz.prog Rows.opsJoinRow.laid w) (fun _ _ _ hh h => h.of_heap hh) Fr.own started (by kernel_rfl) Tryz.func3
  (ChangeSpec.witness_shaped (enc := enc) (C := Tryz.checked) (os := os) (X := fun w _ => laidMetH Tryz.prog Rows.opsJoinRow.laid w) false (doorWorld os) #[.agg #[.slice none 0 0, .slice none 0 0], .agg #[.slice none 0 0, .slice none 0 0], .string ⟨#[]⟩, .string ⟨#[]⟩] 8 rfl (World.shaped_of_RefB (by kernel_rfl) (by kernel_rfl)) (by kernel_rfl) (by kernel_rfl) (by kernel_rfl) (door_met os _)) ?_
 intro W base args ds gs before hval0 hW hL hsh
 have hval : ∀ (j : Nat) t v, Tryz.f3.params[j]? = some t → args[j]? = some v → Value.okWide Tryz.prog W .any base t v := hval0
 have hW' := hW
 obtain ⟨p, q, hA0, hV, rfl, hfz, hnd⟩ := hW
 have hA : DataW.TrodAll enc Tryz.prog W 0 (fun _ => true) true Tryz.f3.params.toList args.toList ds p := hA0
 rw [Tryz.params3] at hA hval
 obtain ⟨v0, v1, v2, v3, d0, d1, d2, d3, p0, p1, p2, p3, rfl, rfl, rfl, h0, h1, h2, h3⟩ := trodAll_four hA
 obtain ⟨rfl, rfl⟩ := trodVars_none hV
 have lt0 : ∀ x ∈ p0, x.block < W.heap.size := by obtain ⟨m, hm⟩ := h0; exact DataW.trod_lt m _ _ _ hm
 have lt1 : ∀ x ∈ p1, x.block < W.heap.size := by obtain ⟨m, hm⟩ := h1; exact DataW.trod_lt m _ _ _ hm
 have lt2 : ∀ x ∈ p2, x.block < W.heap.size := by obtain ⟨m, hm⟩ := h2; exact DataW.trod_lt m _ _ _ hm
 have lt3 : ∀ x ∈ p3, x.block < W.heap.size := by obtain ⟨m, hm⟩ := h3; exact DataW.trod_lt m _ _ _ hm
 have g0 := h0
 obtain ⟨a, aA, aB, ac, ad, rfl, ah⟩ := open_table (hval 0 _ v0 rfl rfl) g0
 have g1 := h1
 obtain ⟨b, bA, bB, bc, bd, rfl, bh⟩ := open_table (hval 1 _ v1 rfl rfl) g1
 have g2 := h2
 obtain ⟨x, rfl, -, -, -⟩ := Go.ChangeMaps.open_string Tryz.underlying9 (hval 2 _ v2 rfl rfl) g2
 have g3 := h3
 obtain ⟨y, rfl, -, -, -⟩ := Go.ChangeMaps.open_string Tryz.underlying9 (hval 3 _ v3 rfl rfl) g3
 refine (ojoin_all a b aA aB ac ad bA bB bc bd x.data.toList y.data.toList W ah bh (env hL hsh)).mono fun ev W' ⟨he, hk⟩ => ?_
 subst he
 have k0 := Keeps.trod Fr.laidOut (by kernel_rfl) (of_decide_eq_true (by kernel_rfl)) h0 hk lt0
 have k1 := Keeps.trod Fr.laidOut (by kernel_rfl) (of_decide_eq_true (by kernel_rfl)) h1 hk lt1
 have k2 := Keeps.trod Fr.laidOut (by kernel_rfl) (of_decide_eq_true (by kernel_rfl)) h2 hk lt2
 have k3 := Keeps.trod Fr.laidOut (by kernel_rfl) (of_decide_eq_true (by kernel_rfl)) h3 hk lt3
 exact ⟨_, rfl, _, _, _, [], _, [], hW', trodAll_mk1 (shut_bool Tryz.underlying4 _), trodAll_mk4 k0 k1 k2 k3, rfl, hk.frame _, fun h => by cases h⟩
theorem said : Rows.OpsJoinSaid :=
 OpenClaim.holds_of_wide 3 Tryz.f3 rfl rfl rfl rfl rfl rfl rfl ⟨rfl, rfl, rfl, rfl, rfl⟩ rfl rfl rfl rfl rfl (by kernel_rfl) Tryz.func3 (by kernel_rfl)
  (of_decide_eq_true (by kernel_rfl)) (by unfold Func.isWrapper; rw [if_neg (of_decide_eq_false (by kernel_rfl))]; exact ⟨rfl, rfl⟩)
  (fun os started H enc _ => lifted os started H enc)
end Ojn
end Go.Proofs.YtpfkjejknlkkoaaGreatDoor
