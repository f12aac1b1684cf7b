/- What the reference leans on: Fine, and internal/bytealg.MaxLen. A struct's cells as a result, and a slot beside it. The reference's ParseValue. -/
import Derived.Test.YtpagiajlefejcaaGreatDoorTbrM4
import Derived.Laws.ResultCell
import Derived.Laws.Rows
import Derived.Test.YtpagiajlefejcaaGreatDoorTbrM9
import Derived.Test.YtpagiajlefejcaaGreatDoorTbrM8
import Derived.Test.YtpagiajlefejcaaGreatDoorTbrM6
import Derived.Test.YtpagiajlefejcaaGreatDoorTbrM10
import Derived.Deep.CutBlock
import Derived.Deep.DeepCutAuto
import Derived.Deep.CutRange
set_option linter.unusedSimpArgs false
set_option linter.unusedVariables false
namespace Go.Proofs.YtpagiajlefejcaaGreatDoor
open Go.RowKit
def FineAt (w : World) : Prop := w.cell? ⟨0, 0, none⟩ = some (.int .i64 0) ∧ w.cell? ⟨0, 1, none⟩ = some (.int .i64 (-1))
theorem FineAt.keep {w w' : World} {L : List Nat} (h : FineAt w) (hk : Keeps L w w') (hL : 0 ∉ L) : FineAt w' := ⟨hk.cell_of h.1 hL, hk.cell_of h.2 hL⟩
structure REnv (w : World) : Prop where
 fine : FineAt w
 mlen : ∃ m, w.cell? ⟨5, 0, none⟩ = some (.int .i64 m)
theorem REnv.keep {w w' : World} {b : Nat} (h : REnv w) (hk : Keeps [b] w w') (h1 : 0 ≠ b) (h2 : 5 ≠ b) : REnv w' :=
 ⟨h.fine.keep hk (by simpa using h1), by obtain ⟨m, hm⟩ := h.mlen; exact ⟨m, hk.cell_of hm (by simpa using h2)⟩⟩
theorem REnv.quiet {w w' : World} (h : REnv w) (hk : Keeps [] w w') : REnv w' :=
 ⟨h.fine.keep hk (by simp), by obtain ⟨m, hm⟩ := h.mlen; exact ⟨m, hk.cell_of hm (by simp)⟩⟩
end Go.Proofs.YtpagiajlefejcaaGreatDoor
namespace Go.Proofs.YtpagiajlefejcaaGreatDoor
open Go.RowKit Go.BigFrame
attribute [local go_sem] bs_size bs_extract bs_append bs_toList
theorem results_cell_row_tmp {P : Program} {fn : Func} {p u : Tmp} {ty : TypeId} (h : fn.results = #[.cell p ty, .tmp u]) (tmps : Array Value) (w : World) (g : Nat) (t : TypeId) (cs : Array Value) (fr : Nat × Nat) (d : TypeDesc)
  (hp : tmps.getD p undef = .pointer (some ⟨g, 0, none⟩)) (hg : w.heap[g]? = some (.cells cs t fr))
  (hu : P.underlying ty = some d) (hd : (match d with | .struct _ | .array _ _ => true | _ => false) = true) (hi : (P.info? ty).map (·.size) = some cs.size) :
  (results fn tmps).run P w = .ok (.tuple #[.agg cs, tmps.getD u undef]) w := by
 rw [results_cell_tmp h, hp]
 simp [asAddr, run_loadVar_row w g t ty cs fr d hg hu hd hi, Result.andThen]
theorem results_cells2 {P : Program} {fn : Func} {p q : Tmp} {ty ty2 : TypeId} (h : fn.results = #[.cell p ty, .cell q ty2]) (tmps : Array Value) (w : World) (g g2 : Nat) (t t2 : TypeId) (cs cs2 : Array Value) (fr fr2 : Nat × Nat) (d d2 : TypeDesc)
  (hp : tmps.getD p undef = .pointer (some ⟨g, 0, none⟩)) (hq : tmps.getD q undef = .pointer (some ⟨g2, 0, none⟩)) (hg : w.heap[g]? = some (.cells cs t fr)) (hg2 : w.heap[g2]? = some (.cells cs2 t2 fr2))
  (hu : P.underlying ty = some d) (hd : (match d with | .struct _ | .array _ _ => true | _ => false) = true) (hi : (P.info? ty).map (·.size) = some cs.size)
  (hu2 : P.underlying ty2 = some d2) (hd2 : (match d2 with | .struct _ | .array _ _ => true | _ => false) = true) (hi2 : (P.info? ty2).map (·.size) = some cs2.size) :
  (results fn tmps).run P w = .ok (.tuple #[.agg cs, .agg cs2]) w := by
 have e : (results fn tmps).run P w = ((asAddr (tmps.getD p undef)).run P w).andThen fun a w₁ => ((loadVar ty a).run P w₁).andThen fun v w₂ => ((asAddr (tmps.getD q undef)).run P w₂).andThen fun a2 w₃ => ((loadVar ty2 a2).run P w₃).andThen fun v2 w₄ => .ok (.tuple #[v, v2]) w₄ := by
  simp only [results, h]
  simp [Sem.run_bind, Result.andThen]
 rw [e, hp, hq]
 simp [asAddr, run_loadVar_row w g t ty cs fr d hg hu hd hi, run_loadVar_row w g2 t2 ty2 cs2 fr2 d2 hg2 hu2 hd2 hi2, Result.andThen]
end Go.Proofs.YtpagiajlefejcaaGreatDoor
namespace Go.Proofs.YtpagiajlefejcaaGreatDoor
open Go.RowKit Go.BigFrame
attribute [local go_sem] bs_size bs_extract bs_append bs_toList
def rpvRes : Option Vl → Value
 | some v => .tuple #[vAgg v, .int .i64 0]
 | none => .tuple #[zeroV, .int .i64 3]
theorem trim39 (s : Bs) (hs : s.length ≤ 1000000) (w : World) : Calls Tryz.prog 54 #[.string (bs s), .string ⟨#[39]⟩] w fun e w' => e = .returned (.string (bs (Lib.trimB s 39))) ∧ Keeps [] w w' := by
 refine (Tryz.strings_Trim_one (bs s) 39 (by decide) w (by rw [bs_size]; omega)).mono ?_
 rintro e w' ⟨rfl, hw⟩
 refine ⟨by rw [show (bs s).data.toList = s from by simp [bs]]; rfl, ?_⟩
 rcases hw with rfl | rfl
 ·exact Keeps.refl _ _
 ·exact (Keeps.refl _ _).drew
theorem contains39 (s : Bs) (hs : s.length ≤ 1000000) (w : World) (hE : REnv w) : Calls Tryz.prog 64 #[.string (bs s), .string ⟨#[39]⟩] w fun e w' => e = .returned (.bool (decide ((39 : UInt8) ∈ s))) ∧ w = w' := by
 obtain ⟨m, hm⟩ := hE.mlen
 exact (Tryz.strings_Contains (bs s) (bs [39]) m w (by rw [bs_size]; omega) hm).mono fun e W' ⟨h1, h2⟩ => ⟨by rw [h1]; exact congrArg (fun b => Ending.returned (.bool b)) (contains_one 39 s), h2.symm⟩
theorem trimB_len (s : Bs) (c : UInt8) : (Lib.trimB s c).length ≤ s.length := by
 unfold Lib.trimB Lib.trimLeftB Lib.trimRightB
 refine Nat.le_trans (List.dropWhile_sublist _).length_le ?_
 rw [List.length_reverse]
 refine Nat.le_trans (List.dropWhile_sublist _).length_le ?_
 rw [List.length_reverse]
 exact Nat.le_refl _
set_option maxRecDepth 100000 in
set_option maxHeartbeats 8000000 in
theorem rpval_any (s : Bs) (hs : s.length ≤ 1000000) (w : World) (hE : TEnv w) (hN : REnv w) :
  Calls Tryz.prog 23 #[.string (bs s)] w fun e w' => e = .returned (rpvRes (pvL s)) ∧ Keeps [] w w' := by
 have HE := Lib.hid hE
 have HN := Lib.hid hN
 clear hE hN
 have HTL := Lib.hid (Nat.le_trans (trimB_len s 39) hs)
 obtain ⟨tr, htr⟩ : ∃ tr, Lib.trimB s 39 = tr := ⟨_, rfl⟩
 have HT := Lib.hid (fun W => trim39 s hs W)
 rw [htr] at HT HTL
 have HC := Lib.hid (fun W (z : Keeps [] w W) => contains39 s hs W (HN.out.quiet z))
 have HQ : Hid ((39 : UInt8) ∈ s → pvL s = rpv ⟨2, 0, tr⟩ s) := Lib.hid (fun h => by rw [← htr]; exact pv_quote h)
 have hX := Blk.new w 27 #[.int .i64 0, .int .i64 0, .string ⟨#[]⟩]
 have hk1 := (Keeps.refl [] w).alloc (.cells #[.int .i64 0, .int .i64 0, .string ⟨#[]⟩] 27)
 have HX := Lib.hid hX
 have HK1 := Lib.hid hk1
 clear hX hk1 htr
 go_enter Tryz.func23, Tryz.ntmps23
 go_upto_region 1 with (fail)
 generalize w.alloc (.cells #[.int .i64 0, .int .i64 0, .string ⟨#[]⟩] 27) = w1 at HX HK1 ⊢
 have HXW : Hid (w.heap.size ≤ w.heap.size) := Lib.hid (Nat.le_refl _)
 generalize hXe : w.heap.size = X at HX HXW ⊢
 have HXE : Hid (w.heap.size = X) := Lib.hid hXe
 clear hXe HXW
 go_wp2_with fail
 refine (HT.out _).mono ?_
 rintro e w2 ⟨rfl, k2⟩
 have HX2 := Lib.hid (HX.out.keep k2 (by simp))
 have HK2 := Lib.hid (HK1.out.trans k2)
 clear k2 HX HK1 HT
 go_upto_region 2 with (fail)
 have hV := Blk.new w2 27 #[.int .i64 2, .int .i64 0, .string (bs tr)]
 have hk3 := (Keeps.refl [] w2).alloc (.cells #[.int .i64 2, .int .i64 0, .string (bs tr)] 27)
 have hX3 := HX2.out.keep hk3 (by simp)
 have hxv : X ≠ w2.heap.size := by have := HX2.out.lt; omega
 generalize w2.alloc (.cells #[.int .i64 2, .int .i64 0, .string (bs tr)] 27) = w3 at hV hk3 hX3 ⊢
 have HVW0 : w.heap.size ≤ w2.heap.size := HK2.out.size
 generalize w2.heap.size = V at hV hxv HVW0 ⊢
 have HV := Lib.hid hV
 have HX3 := Lib.hid hX3
 have HK3 := Lib.hid (HK2.out.trans hk3)
 have HXV := Lib.hid hxv
 clear hV hX3 hk3 hxv HX2 HK2
 have HXW : Hid (w.heap.size ≤ X) := Lib.hid (Nat.le_of_eq HXE.out)
 have HVW : Hid (w.heap.size ≤ V) := Lib.hid HVW0
 clear HVW0 HXE
 go_wp2_with fail
 refine (HC.out _ HK3.out).mono ?_
 rintro e w4 ⟨rfl, rfl⟩
 obtain ⟨D, hD⟩ : ∃ D, decide ((39 : UInt8) ∈ s) = D := ⟨_, rfl⟩
 rw [hD]
 have HD := Lib.hid hD
 clear hD HC
 go_upto_if 12 with (fail)
 go_cut [5, 6] (fun _ _ wx => ∃ v : Vl, Hid (pvL s = rpv v s) ∧ Hid (v.kind = 1 ∨ v.kind = 2) ∧ Hid (v.word.length ≤ 1000000) ∧ Hid (Blk wx V 27 #[.int .i64 v.kind, .int .i64 v.num, .string (bs v.word)]) ∧ Hid (Blk wx X 27 #[.int .i64 0, .int .i64 0, .string ⟨#[]⟩]) ∧ Hid (Keeps [] w wx))
 case first =>
  cases D with
  | true =>
   have HPV := Lib.hid (HQ.out (of_decide_eq_true HD.out))
   go_wp2
   go_meet
   case rel => exact ⟨⟨2, 0, tr⟩, HPV, Lib.hid (.inr rfl), HTL, HV, HX3, HK3⟩
  | false =>
   have h39 := of_decide_eq_false HD.out
   have HAT : Hid (Calls Tryz.prog 65 #[.string (bs s)] w3 fun e w' => (∃ n u, e = .returned (.tuple #[.int .i64 n, u]) ∧ pvL s = rpv ⟨1, n, []⟩ s) ∧ Keeps [] w3 w') := Lib.hid (by
    rcases atoi_any s (by omega) w3 (HE.out.quiet HK3.out) with ⟨v, h1, h2, h3⟩ | ⟨h1, h3⟩
    ·exact h3.mono fun e w' ⟨h, k⟩ => ⟨⟨v, _, h, pv_num h39 h1⟩, k⟩
    ·exact h3.mono fun e w' ⟨⟨n, t, p, h⟩, k⟩ => ⟨⟨n, _, h, pv_bad h39 h1 n⟩, k⟩)
   clear h39
   go_wp2_with fail
   refine HAT.out.mono ?_
   rintro e w5 ⟨⟨n, u, rfl, hpv⟩, k5⟩
   have HPV := Lib.hid hpv
   have hv5 := HV.out.keep k5 (by simp)
   have c0 : w5.cell? ⟨V, 0, none⟩ = some (.int .i64 2) := hv5.cell 0
   have c1 : w5.cell? ⟨V, 1, none⟩ = some (.int .i64 0) := hv5.cell 1
   have c2 : w5.cell? ⟨V, 2, none⟩ = some (.string (bs tr)) := hv5.cell 2
   have f0 := hv5.frozen 0
   have f1 := hv5.frozen 1
   have f2 := hv5.frozen 2
   have HV6 := Lib.hid (((hv5.set 0 (.int .i64 1)).set 1 (.int .i64 n)).set 2 (.string ⟨#[]⟩))
   have HX6 := Lib.hid ((((HX3.out.keep k5 (by simp)).far (p := ⟨V, 0, none⟩) HXV.out (.int .i64 1)).far (p := ⟨V, 1, none⟩) HXV.out (.int .i64 n)).far (p := ⟨V, 2, none⟩) HXV.out (.string ⟨#[]⟩))
   have HK6 := Lib.hid ((((HK3.out.trans k5).setCell (p := ⟨V, 0, none⟩) (.inr HVW.out) (.int .i64 1)).setCell (p := ⟨V, 1, none⟩) (.inr HVW.out) (.int .i64 n)).setCell (p := ⟨V, 2, none⟩) (.inr HVW.out) (.string ⟨#[]⟩))
   clear hpv hv5 k5 HAT
   go_wp2
   go_meet
   case rel => exact ⟨⟨1, n, []⟩, HPV, Lib.hid (.inl rfl), Lib.hid (Nat.zero_le _), HV6, HX6, HK6⟩
 case rest =>
  obtain ⟨v, HPV, HKD, HWL, HV5, HX5, HK5⟩ := hcut
  obtain ⟨w5, rfl⟩ : ∃ z : World, z = wc := ⟨_, rfl⟩
  clear HV HX3 HK3 HTL HQ HD
  have d0 : w5.cell? ⟨V, 0, none⟩ = some (.int .i64 v.kind) := HV5.out.cell 0
  have d1 : w5.cell? ⟨V, 1, none⟩ = some (.int .i64 v.num) := HV5.out.cell 1
  have d2 : w5.cell? ⟨V, 2, none⟩ = some (.string (bs v.word)) := HV5.out.cell 2
  have HRV := Lib.hid (rRightValue_any v (Nat.le_trans HWL.out (by decide)) w5)
  obtain ⟨r, hr⟩ : ∃ r, rvB v = r := ⟨_, rfl⟩
  rw [hr] at HRV
  go_wp2_with fail
  refine HRV.out.mono ?_
  rintro e w6 ⟨rfl, k6⟩
  have hv6 := HV5.out.keep k6 (by simp)
  have hx6 := HX5.out.keep k6 (by simp)
  have HK6 := Lib.hid (HK5.out.trans k6)
  clear k6 d0 d1 d2
  cases r with
  | false =>
   have HF := Lib.hid (HPV.out.trans (rpv_no1 hr))
   have x0 : w6.cell? ⟨X, 0, none⟩ = some (.int .i64 0) := hx6.cell 0
   have x1 : w6.cell? ⟨X, 1, none⟩ = some (.int .i64 0) := hx6.cell 1
   have x2 : w6.cell? ⟨X, 2, none⟩ = some (.string ⟨#[]⟩) := hx6.cell 2
   have f0 := hx6.frozen 0
   have f1 := hx6.frozen 1
   have f2 := hx6.frozen 2
   have HB := Lib.hid (((hx6.set 0 (.int .i64 0)).set 1 (.int .i64 0)).set 2 (.string ⟨#[]⟩))
   have HKE := Lib.hid (((HK6.out.setCell (p := ⟨X, 0, none⟩) (.inr HXW.out) (.int .i64 0)).setCell (p := ⟨X, 1, none⟩) (.inr HXW.out) (.int .i64 0)).setCell (p := ⟨X, 2, none⟩) (.inr HXW.out) (.string ⟨#[]⟩))
   clear hv6 hx6 hr
   go_wp2
   (try simp only [Exit.inBlock, Exit.then])
   refine bodyPost_ret (results_cell_row_tmp rfl _ _ X _ _ _ _ rfl HB.out Tryz.underlying27 rfl (by kernel_rfl)) rfl ?_
   exact ⟨by rw [HF.out]; rfl, HKE.out⟩
  | true =>
   have d0 : w6.cell? ⟨V, 0, none⟩ = some (.int .i64 v.kind) := hv6.cell 0
   have d1 : w6.cell? ⟨V, 1, none⟩ = some (.int .i64 v.num) := hv6.cell 1
   have d2 : w6.cell? ⟨V, 2, none⟩ = some (.string (bs v.word)) := hv6.cell 2
   have hno : numOk v.num := by
    rcases HKD.out with h | h
    ·have := rvB_int hr h
     exact ⟨by omega, by omega⟩
    ·have := (rvB_text hr (by omega)).2.1
     rw [this]
     exact ⟨by omega, by omega⟩
   have HVT := Lib.hid (rValue_any v HKD.out hno (Nat.le_trans HWL.out (by decide)) w6 (HE.out.quiet HK6.out))
   have HV6 := Lib.hid hv6
   have HX6 := Lib.hid hx6
   have HR := Lib.hid hr
   clear hv6 hx6 hr hno
   go_wp2_with fail
   refine HVT.out.mono ?_
   rintro e w7 ⟨rfl, k7⟩
   have hv7 := HV6.out.keep k7 (by simp)
   have hx7 := HX6.out.keep k7 (by simp)
   have HK7 := Lib.hid (HK6.out.trans k7)
   have x0 : w7.cell? ⟨X, 0, none⟩ = some (.int .i64 0) := hx7.cell 0
   have x1 : w7.cell? ⟨X, 1, none⟩ = some (.int .i64 0) := hx7.cell 1
   have x2 : w7.cell? ⟨X, 2, none⟩ = some (.string ⟨#[]⟩) := hx7.cell 2
   have f0 := hx7.frozen 0
   have f1 := hx7.frozen 1
   have f2 := hx7.frozen 2
   by_cases hvs : valueL v = s
   ·have hbe : (valueL v == s) = true := by rw [beq_iff_eq]; exact hvs
    have HF := Lib.hid (HPV.out.trans (rpv_yes HR.out hvs))
    have e0 : w7.cell? ⟨V, 0, none⟩ = some (.int .i64 v.kind) := hv7.cell 0
    have e1 : w7.cell? ⟨V, 1, none⟩ = some (.int .i64 v.num) := hv7.cell 1
    have e2 : w7.cell? ⟨V, 2, none⟩ = some (.string (bs v.word)) := hv7.cell 2
    have HB := Lib.hid (((hx7.set 0 (.int .i64 v.kind)).set 1 (.int .i64 v.num)).set 2 (.string (bs v.word)))
    have HKE := Lib.hid (((HK7.out.setCell (p := ⟨X, 0, none⟩) (.inr HXW.out) (.int .i64 v.kind)).setCell (p := ⟨X, 1, none⟩) (.inr HXW.out) (.int .i64 v.num)).setCell (p := ⟨X, 2, none⟩) (.inr HXW.out) (.string (bs v.word)))
    clear d0 d1 d2 k7 hvs hv7 hx7
    go_wp2
    (try simp only [Exit.inBlock, Exit.then])
    refine bodyPost_ret (results_cell_row_tmp rfl _ _ X _ _ _ _ rfl HB.out Tryz.underlying27 rfl (by kernel_rfl)) rfl ?_
    exact ⟨by rw [HF.out]; rfl, HKE.out⟩
   ·have hbe : (valueL v == s) = false := by rw [beq_eq_false_iff_ne]; exact hvs
    have HF := Lib.hid (HPV.out.trans (rpv_no2 hvs))
    have HB := Lib.hid (((hx7.set 0 (.int .i64 0)).set 1 (.int .i64 0)).set 2 (.string ⟨#[]⟩))
    have HKE := Lib.hid (((HK7.out.setCell (p := ⟨X, 0, none⟩) (.inr HXW.out) (.int .i64 0)).setCell (p := ⟨X, 1, none⟩) (.inr HXW.out) (.int .i64 0)).setCell (p := ⟨X, 2, none⟩) (.inr HXW.out) (.string ⟨#[]⟩))
    clear d0 d1 d2 k7 hvs hv7 hx7
    go_wp2
    (try simp only [Exit.inBlock, Exit.then])
    refine bodyPost_ret (results_cell_row_tmp rfl _ _ X _ _ _ _ rfl HB.out Tryz.underlying27 rfl (by kernel_rfl)) rfl ?_
    exact ⟨by rw [HF.out]; rfl, HKE.out⟩
end Go.Proofs.YtpagiajlefejcaaGreatDoor
