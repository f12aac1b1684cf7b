/- FlowReads: its walk. The frame of a law: arguments opened as lists, the handle of the type error. A row's wrap; what a laid list says of variables: for any seat. -/
import Derived.Test.YtnjjajanfedjiaaGreatDoorFrdM31
import Derived.Test.YtnjjajanfedjiaaGreatDoorFrdM34
import Derived.Test.YtnjjajanfedjiaaGreatDoorFrdM1
import Derived.Test.YtnjjajanfedjiaaGreatDoorRows
import Derived.WalkKit
import Derived.ProofKit
import Derived.OpenShut
import Derived.ShutString
import Derived.ChangeOld
import Derived.ChangeSlices
import Derived.SliceStrings
import Derived.Deep.Slices
import Derived.Carry
import Derived.Handed
import Derived.LaidLaws
import Derived.LaidHandle
import Derived.JoinedOf
import Derived.Stop.Joined
import Derived.Test.YtnjjajanfedjiaaGreatDoorProg
import Derived.Lib.LaidTab
import Derived.LaidSub
import Derived.LaidMore
import Derived.Shelf.Vars
import Derived.HandedShaped
set_option linter.unusedSimpArgs false
set_option linter.unusedVariables false
namespace Go.Proofs.YtnjjajanfedjiaaGreatDoor
open Go.RowKit Go.BigFrame
attribute [local go_sem] bs_size bs_extract bs_append bs_toList KW.cell
set_option maxRecDepth 100000 in
set_option maxHeartbeats 16000000 in
theorem freads_t (s : Bs) (w : World) (hE : FEnv w) (hR : REnv w) (hT : ErrTy w) :
  Calls Tryz.prog 3 #[.string (bs s)] w fun ev w' => ev = .returned (.bool true) ∧ Keeps [] w w' := by
 have HE := Lib.hid hE
 have HR := Lib.hid hR
 have HT := Lib.hid hT
 clear hE hR hT
 by_cases h15 : 1500 < s.length
 ·have hi : (1500 : Int) < (s.length : Int) := by omega
  go_enter Tryz.func3, Tryz.ntmps3
  go_wp2
  go_ret
  exact ⟨rfl, Keeps.refl _ _⟩
 ·have hi : ¬ (1500 : Int) < (s.length : Int) := by omega
  obtain ⟨R, hR⟩ : ∃ R, parseF s = R := ⟨_, rfl⟩
  have HFW : Hid (∀ f, R = .ok f → FlW f) := Lib.hid (fun f hf => (parseF_o (by omega) (hR.trans hf)).1)
  have HPO : Hid (∀ x, R = .error x → 0 < x.1) := Lib.hid (fun x hx => parse_erp s x (hR.trans hx))
  have H1 : Hid (Calls Tryz.prog 6 #[.string (bs s)] w fun e w' => ParR R w.heap.size e w' ∧ Keeps [] w w') := Lib.hid (by
   rw [← hR]
   exact rParse_any s (by omega) w HE.out HR.out)
  have H2 : Hid (∀ W, Keeps [] w W → Calls Tryz.prog 7 #[.string (bs s)] W fun e w' => FParseOut R W.heap.size e w' ∧ Keeps [] W w') := Lib.hid (fun W z => by
   rw [← hR]
   exact parse_any s (by omega) W (HE.out.quiet z))
  clear hR
  go_enter Tryz.func3, Tryz.ntmps3
  go_upto_region 3 with (fail)
  go_cut [3, 4] (fun a b wx => ∃ na nb base V0 V1 V2, a = .pointer (some ⟨na, 0, none⟩) ∧ b = .pointer (some ⟨nb, 0, none⟩) ∧ Hid (Blk wx na 26 #[V0, V1, V2]) ∧ Hid (Blk wx nb 29 #[.int .i64 (resF R).2.1, .int .i64 (resF R).2.2]) ∧ Hid (FlAt wx base V0 V1 V2 (resF R).1) ∧ Hid (Keeps [] w wx))
  case first =>
   go_wp2_with ((with_reducible refine H1.out.mono ?_); rintro e w1 ⟨hp, k1⟩; obtain ⟨A0, n0, c0', A1, n1, c1', A2, n2, c2', rfl, hf⟩ := parR_form hp; clear hp; have hf := Lib.hid hf)
   go_meet
   exact ⟨_, _, _, _, _, _, rfl, rfl, Lib.hid ((Blk.new _ _ _).alloc _), Lib.hid (Blk.new' _ _ _ _ (by simp)), Lib.hid (hf.out.keep (((Keeps.refl _ _).alloc _).alloc _)), Lib.hid ((k1.alloc _).alloc _)⟩
  case rest =>
   obtain ⟨na, nb, base, V0, V1, V2, rfl, rfl, HA, HBB, HFL, HK1⟩ := hcut
   obtain ⟨wa, rfl⟩ : ∃ z : World, z = wc := ⟨_, rfl⟩
   clear H1
   go_upto_region 4 with (fail)
   go_cut [5, 6] (fun a b wx => ∃ nc base2 U0 U1 U2, a = .pointer (some ⟨nc, 0, none⟩) ∧ Hid (Blk wx nc 26 #[U0, U1, U2]) ∧ Hid (FlAt wx base2 U0 U1 U2 (resF R).1) ∧ Hid (ErAt wx b R) ∧ Hid (Keeps [] wa wx))
   case first =>
    go_wp2_with ((with_reducible refine (H2.out _ HK1.out).mono ?_); rintro e w1 ⟨hp, k1⟩; obtain ⟨A0, n0, c0', A1, n1, c1', A2, n2, c2', er, rfl, hf, her⟩ := parseOut_form hp; clear hp; have hf := Lib.hid hf; have her := Lib.hid her)
    go_meet
    exact ⟨_, _, _, _, _, rfl, Lib.hid (Blk.new _ _ _), Lib.hid (hf.out.keep ((Keeps.refl _ _).alloc _)), Lib.hid (her.out.keep ((Keeps.refl _ _).alloc _)), Lib.hid (k1.alloc _)⟩
   case rest =>
    obtain ⟨nc, base2, U0, U1, U2, rfl, HC, HFU, HER, HK2⟩ := hcut
    obtain ⟨wb, rfl⟩ : ∃ z : World, z = wc := ⟨_, rfl⟩
    clear H2
    have HKW := Lib.hid (HK1.out.trans HK2.out)
    have HF0 := Lib.hid (fun (W : World) (z : Keeps [] wb W) => HBB.out.keep (HK2.out.trans z) (by simp))
    have f0 : wb.cell? ⟨nb, 0, none⟩ = some (.int .i64 (resF R).2.1) := (HF0.out _ (Keeps.refl _ _)).cell 0
    have f1 : wb.cell? ⟨nb, 1, none⟩ = some (.int .i64 (resF R).2.2) := (HF0.out _ (Keeps.refl _ _)).cell 1
    have HI := Lib.hid (is_er HER.out (HT.out.keep HKW.out (by simp)))
    have HSF : Hid (∀ W, Keeps [] wb W → Calls Tryz.prog 9 #[.agg #[U0, U1, U2], .agg #[V0, V1, V2]] W fun e w' => e = .returned (.bool true) ∧ Keeps [] W w') := Lib.hid (fun W z => sameFlow_at (HFU.out.keep z) (HFL.out.keep (HK2.out.trans z)))
    have HA0 : Hid (∀ W, Keeps [] wb W → W.cell? ⟨na, 0, none⟩ = some V0 ∧ W.cell? ⟨na, 1, none⟩ = some V1 ∧ W.cell? ⟨na, 2, none⟩ = some V2) := Lib.hid (fun W z => ⟨(HA.out.keep (HK2.out.trans z) (by simp)).cell 0, (HA.out.keep (HK2.out.trans z) (by simp)).cell 1, (HA.out.keep (HK2.out.trans z) (by simp)).cell 2⟩)
    have HC0 : Hid (∀ W, Keeps [] wb W → W.cell? ⟨nc, 0, none⟩ = some U0 ∧ W.cell? ⟨nc, 1, none⟩ = some U1 ∧ W.cell? ⟨nc, 2, none⟩ = some U2) := Lib.hid (fun W z => ⟨(HC.out.keep z (by simp)).cell 0, (HC.out.keep z (by simp)).cell 1, (HC.out.keep z (by simp)).cell 2⟩)
    go_upto_region 5 with (fail)
    go_cut [30] (fun v wx => v = .bool false ∧ Hid (Keeps [] wb wx))
    case first =>
     go_wp2_with (first | ((with_reducible refine HI.out.mono ?_); rintro e w5 ⟨rfl, k5⟩; obtain ⟨a0, a1, a2⟩ := HA0.out _ k5; obtain ⟨b0, b1, b2⟩ := HC0.out _ k5) | ((with_reducible refine (HSF.out _ k5).mono ?_); rintro e w6 ⟨rfl, k6⟩))
     go_meet
     exact ⟨rfl, Lib.hid (k5.trans k6)⟩
    case rest =>
     obtain ⟨rfl, HK3⟩ := hcut
     obtain ⟨y, rfl⟩ : ∃ z : World, z = wc := ⟨_, rfl⟩
     clear f0 f1 HI HSF
     have HKY := Lib.hid (HKW.out.trans HK3.out)
     have HEY := Lib.hid (HE.out.quiet HKY.out)
     have HRY := Lib.hid (HR.out.quiet HKY.out)
     have HFV := Lib.hid (HFL.out.keep (HK2.out.trans HK3.out))
     have HFX := Lib.hid (HFU.out.keep HK3.out)
     have HCC := Lib.hid (HC.out.keep HK3.out (by simp))
     have HAA := Lib.hid (HA.out.keep (HK2.out.trans HK3.out) (by simp))
     have HFF := Lib.hid (HF0.out _ HK3.out)
     obtain ⟨B0, d0, B1, d1, B2, d2, rfl, rfl, rfl⟩ := HFV.out.forms
     obtain ⟨D0, e0, D1, e1, D2, e2, rfl, rfl, rfl⟩ := HFX.out.forms
     clear HFL HFU HA0 HC0 HER HF0 HBB HK1 HK2 HA HC
     obtain ⟨jl, hjl⟩ : ∃ n, (resF R).1.jobs.length = n := ⟨_, rfl⟩
     have HJL := Lib.hid hjl
     go_upto_region 7 with (fail)
     go_wp2_with fail
     go_loopw [7] (fun i wr => ∃ j : Nat, j ≤ jl ∧ i = .int .i64 j ∧ Hid (Keeps [] y wr)) (fun i _ => jl - (intOf i).toNat)
     case atStart => exact ⟨0, Nat.zero_le _, rfl, Lib.hid (Keeps.refl _ _)⟩
     case round =>
      obtain ⟨j, hj, rfl, HKR⟩ := hrel
      obtain ⟨wr, rfl⟩ : ∃ z : World, z = wr := ⟨_, rfl⟩
      have a1 : wr.cell? ⟨na, 1, none⟩ = some (.slice B1 jl d1) := by rw [← hjl]; exact (HAA.out.keep HKR.out (by simp)).cell 1
      have b1 : wr.cell? ⟨nc, 1, none⟩ = some (.slice D1 jl e1) := by rw [← hjl]; exact (HCC.out.keep HKR.out (by simp)).cell 1
      by_cases hlt : j < jl
      ·have hi' : (j : Int) < (jl : Int) := by omega
       rcases hr : R with z | f
       ·rw [hr] at hjl
        have h0 : (0 : Nat) = jl := hjl
        omega
       ·have hw := HFW.out f hr
        have hvv := HFV.out.i1
        have huu := HFX.out.i1
        rw [hr] at hvv huu hjl
        have hl2 : f.jobs.length = jl := hjl
        obtain ⟨gv, cv, rfl, -, ⟨pv2, pv3, pv4, rfl, hrv⟩, hcv⟩ := lst_at hvv JbEl.len j (by show j < f.jobs.length; omega)
        obtain ⟨gu, cu, rfl, -, ⟨pu2, pu3, pu4, rfl, hru⟩, hcu⟩ := lst_at huu JbEl.len j (by show j < f.jobs.length; omega)
        have hjw := hw.jobs _ (List.getElem_mem (show j < f.jobs.length by omega))
        have ex : (resF (.ok f)).1.jobs[j]'(by show j < f.jobs.length; omega) = f.jobs[j]'(by omega) := rfl
        rw [ex] at hrv hru hcv hcu
        generalize f.jobs[j]'(by omega) = x at *
        obtain ⟨P2, p2, rfl, -⟩ := own_form hrv.o2
        obtain ⟨P3, p3, rfl, -⟩ := own_form hrv.o3
        obtain ⟨P4, p4, rfl, -⟩ := own_form hrv.o4
        obtain ⟨U2, u2, rfl, -⟩ := own_form hru.o2
        obtain ⟨U3, u3, rfl, -⟩ := own_form hru.o3
        obtain ⟨U4, u4, rfl, -⟩ := own_form hru.o4
        have p0' := HKR.out.cell_of (hcv 0 (.int .i64 x.at_) rfl) (by simp)
        have p1' := HKR.out.cell_of (hcv 1 (.int .i64 x.code) rfl) (by simp)
        have p2' := HKR.out.cell_of (hcv 2 (.slice P2 x.outs.length p2) rfl) (by simp)
        have p3' := HKR.out.cell_of (hcv 3 (.slice P3 x.ins.length p3) rfl) (by simp)
        have p4' := HKR.out.cell_of (hcv 4 (.slice P4 x.cols.length p4) rfl) (by simp)
        have p5' := HKR.out.cell_of (hcv 5 (.string (bs x.op)) rfl) (by simp)
        have p6' := HKR.out.cell_of (hcv 6 (.string (bs x.left.col)) rfl) (by simp)
        have p7' := HKR.out.cell_of (hcv 7 (.int .i64 x.left.val.kind) rfl) (by simp)
        have p8' := HKR.out.cell_of (hcv 8 (.int .i64 x.left.val.num) rfl) (by simp)
        have p9' := HKR.out.cell_of (hcv 9 (.string (bs x.left.val.word)) rfl) (by simp)
        have p10' := HKR.out.cell_of (hcv 10 (.string (bs x.right.col)) rfl) (by simp)
        have p11' := HKR.out.cell_of (hcv 11 (.int .i64 x.right.val.kind) rfl) (by simp)
        have p12' := HKR.out.cell_of (hcv 12 (.int .i64 x.right.val.num) rfl) (by simp)
        have p13' := HKR.out.cell_of (hcv 13 (.string (bs x.right.val.word)) rfl) (by simp)
        have p14' := HKR.out.cell_of (hcv 14 (.int .i64 x.retry) rfl) (by simp)
        have u0' := HKR.out.cell_of (hcu 0 (.int .i64 x.at_) rfl) (by simp)
        have u1' := HKR.out.cell_of (hcu 1 (.int .i64 x.code) rfl) (by simp)
        have u2' := HKR.out.cell_of (hcu 2 (.slice U2 x.outs.length u2) rfl) (by simp)
        have u3' := HKR.out.cell_of (hcu 3 (.slice U3 x.ins.length u3) rfl) (by simp)
        have u4' := HKR.out.cell_of (hcu 4 (.slice U4 x.cols.length u4) rfl) (by simp)
        have u5' := HKR.out.cell_of (hcu 5 (.string (bs x.op)) rfl) (by simp)
        have u6' := HKR.out.cell_of (hcu 6 (.string (bs x.left.col)) rfl) (by simp)
        have u7' := HKR.out.cell_of (hcu 7 (.int .i64 x.left.val.kind) rfl) (by simp)
        have u8' := HKR.out.cell_of (hcu 8 (.int .i64 x.left.val.num) rfl) (by simp)
        have u9' := HKR.out.cell_of (hcu 9 (.string (bs x.left.val.word)) rfl) (by simp)
        have u10' := HKR.out.cell_of (hcu 10 (.string (bs x.right.col)) rfl) (by simp)
        have u11' := HKR.out.cell_of (hcu 11 (.int .i64 x.right.val.kind) rfl) (by simp)
        have u12' := HKR.out.cell_of (hcu 12 (.int .i64 x.right.val.num) rfl) (by simp)
        have u13' := HKR.out.cell_of (hcu 13 (.string (bs x.right.val.word)) rfl) (by simp)
        have u14' := HKR.out.cell_of (hcu 14 (.int .i64 x.retry) rfl) (by simp)
        rw [Nat.add_zero] at p0' u0'
        have lgv : gv < wr.heap.size := World.block_lt_of_cell? _ _ p0'
        have lgu : gu < wr.heap.size := World.block_lt_of_cell? _ _ u0'
        have la : na < wr.heap.size := World.block_lt_of_cell? _ _ a1
        have lb : nc < wr.heap.size := World.block_lt_of_cell? _ _ b1
        have HTX : Hid (∀ W, Keeps [] wr W → Calls Tryz.prog 10 #[.agg #[.int .i64 x.at_, .int .i64 x.code, .slice U2 x.outs.length u2, .slice U3 x.ins.length u3, .slice U4 x.cols.length u4, .string (bs x.op), .string (bs x.left.col), .int .i64 x.left.val.kind, .int .i64 x.left.val.num, .string (bs x.left.val.word), .string (bs x.right.col), .int .i64 x.right.val.kind, .int .i64 x.right.val.num, .string (bs x.right.val.word), .int .i64 x.retry]] W fun e w' => e = .returned (.string (bs (textJ x))) ∧ Keeps [] W w') := Lib.hid (fun W hk => by
         have hq := HKR.out.trans hk
         exact text_any x hjw base2 _ _ _ W (HEY.out.quiet hq) ⟨own_keep hru.o2 hq (fun _ _ hm => by cases hm), own_keep hru.o3 hq (fun _ _ hm => by cases hm), own_keep hru.o4 hq (fun _ _ hm => by cases hm)⟩)
        have HTJ : Hid (∀ W, Keeps [] wr W → Calls Tryz.prog 11 #[.agg #[.int .i64 x.at_, .int .i64 x.code, .slice P2 x.outs.length p2, .slice P3 x.ins.length p3, .slice P4 x.cols.length p4, .string (bs x.op), .string (bs x.left.col), .int .i64 x.left.val.kind, .int .i64 x.left.val.num, .string (bs x.left.val.word), .string (bs x.right.col), .int .i64 x.right.val.kind, .int .i64 x.right.val.num, .string (bs x.right.val.word), .int .i64 x.retry]] W fun e w' => e = .returned (.string (bs (textJ x))) ∧ Keeps [] W w') := Lib.hid (fun W hk => by
         have hq := HKR.out.trans hk
         exact rjtext_any x hjw base _ _ _ W (HEY.out.quiet hq) (HRY.out.quiet hq) ⟨own_keep hrv.o2 hq (fun _ _ hm => by cases hm), own_keep hrv.o3 hq (fun _ _ hm => by cases hm), own_keep hrv.o4 hq (fun _ _ hm => by cases hm)⟩)
        have hjb : jl ≤ 16 := by have := hw.njobs; omega
        generalize textJ x = TX at *
        clear hrv hru hcv hcu hvv huu ex hjw hw hr hjl hl2
        go_upto_region 10 with (fail)
        refine wp_region_keeps (by kernel_rfl) (by kernel_rfl) ?_
        repeat (go_big_quiet_step (first | with_reducible exact KW.of HTX.out _ | with_reducible exact KW.of HTJ.out _))
        refine wpQuiet_nil ?_
        intro wx kx
        have HKN := Lib.hid (HKR.out.trans kx)
        go_wp2
        go_roundw
        case rel => exact ⟨j + 1, by omega, by go_num, HKN⟩
        case measure => simp [intOf]; omega
      ·have hi' : ¬ (j : Int) < (jl : Int) := by omega
       have HKF := Lib.hid (HKY.out.trans HKR.out)
       go_upto_region 12 with (fail)
       clear a1 b1
       have HFB := Lib.hid (HFF.out.keep HKR.out (by simp))
       have g0 : wr.cell? ⟨nb, 0, none⟩ = some (.int .i64 (resF R).2.1) := HFB.out.cell 0
       have g1 : wr.cell? ⟨nb, 1, none⟩ = some (.int .i64 (resF R).2.2) := HFB.out.cell 1
       have lnb := HFB.out.lt
       have hfin := HRY.out.fine.keep HKR.out (by simp)
       have h0 : wr.cell? ⟨0, 0, none⟩ = some (.int .i64 0) := hfin.1
       have h1 : wr.cell? ⟨0, 1, none⟩ = some (.int .i64 (-1)) := hfin.2
       have lfn : 0 < wr.heap.size := World.block_lt_of_cell? _ _ h0
       rcases hr : R with z | f
       ·have hz := HPO.out z hr
        rw [hr] at g0 g1
        have g0' : wr.cell? ⟨nb, 0, none⟩ = some (.int .i64 z.1) := g0
        have g1' : wr.cell? ⟨nb, 1, none⟩ = some (.int .i64 z.2) := g1
        have hz0 : (z.1 == 0) = false := by rw [beq_eq_false_iff_ne]; omega
        clear g0 g1
        refine wp_region_keeps (by kernel_rfl) (by kernel_rfl) ?_
        repeat (go_big_quiet_step (fail))
        refine wpQuiet_nil ?_
        intro wx kx
        have HKN := Lib.hid (HKF.out.trans kx)
        go_wp2
        go_ret
        exact ⟨rfl, HKN.out⟩
       ·have hw := HFW.out f hr
        rw [hr] at g0 g1
        have g0' : wr.cell? ⟨nb, 0, none⟩ = some (.int .i64 0) := g0
        have g1' : wr.cell? ⟨nb, 1, none⟩ = some (.int .i64 (-1)) := g1
        have hvv := HFV.out
        have huu := HFX.out
        rw [hr] at hvv huu
        have p0 := (HAA.out.keep HKR.out (by simp)).cell 0
        have p1 := (HAA.out.keep HKR.out (by simp)).cell 1
        have p2 := (HAA.out.keep HKR.out (by simp)).cell 2
        have u0 := (HCC.out.keep HKR.out (by simp)).cell 0
        have u1 := (HCC.out.keep HKR.out (by simp)).cell 1
        have u2 := (HCC.out.keep HKR.out (by simp)).cell 2
        have p0 : wr.cell? ⟨na, 0, none⟩ = some (.slice B0 (resF R).1.ins.length d0) := p0
        have p1 : wr.cell? ⟨na, 1, none⟩ = some (.slice B1 (resF R).1.jobs.length d1) := p1
        have p2 : wr.cell? ⟨na, 2, none⟩ = some (.slice B2 (resF R).1.outs.length d2) := p2
        have u0 : wr.cell? ⟨nc, 0, none⟩ = some (.slice D0 (resF R).1.ins.length e0) := u0
        have u1 : wr.cell? ⟨nc, 1, none⟩ = some (.slice D1 (resF R).1.jobs.length e1) := u1
        have u2 : wr.cell? ⟨nc, 2, none⟩ = some (.slice D2 (resF R).1.outs.length e2) := u2
        rw [hr] at p0 p1 p2 u0 u1 u2
        have HPR : Hid (∀ W, Keeps [] wr W → Calls Tryz.prog 12 #[.agg #[.slice D0 (resF (.ok f)).1.ins.length e0, .slice D1 (resF (.ok f)).1.jobs.length e1, .slice D2 (resF (.ok f)).1.outs.length e2]] W fun e w' => e = .returned (.string (bs (printF f))) ∧ Keeps [] W w') := Lib.hid (fun W hk => by
         have hq := HKR.out.trans hk
         have hk' := huu.keep hq
         exact print_any f hw base2 _ _ _ W (HEY.out.quiet hq) hk'.i0 hk'.i1 hk'.i2)
        have HFT : Hid (∀ W, Keeps [] wr W → Calls Tryz.prog 13 #[.agg #[.slice B0 (resF (.ok f)).1.ins.length d0, .slice B1 (resF (.ok f)).1.jobs.length d1, .slice B2 (resF (.ok f)).1.outs.length d2]] W fun e w' => e = .returned (.string (bs (printF f))) ∧ Keeps [] W w') := Lib.hid (fun W hk => by
         have hq := HKR.out.trans hk
         have hk' := hvv.keep hq
         exact ftext_any f hw base _ _ _ W (HEY.out.quiet hq) (HRY.out.quiet hq) hk'.i0 hk'.i1 hk'.i2)
        have la : na < wr.heap.size := World.block_lt_of_cell? _ _ p0
        have lb : nc < wr.heap.size := World.block_lt_of_cell? _ _ u0
        generalize printF f = PT at *
        clear g0 g1 hvv huu hw
        refine wp_region_keeps (by kernel_rfl) (by kernel_rfl) ?_
        repeat (go_big_quiet_step (first | with_reducible exact KW.of HPR.out _ | with_reducible exact KW.of HFT.out _))
        refine wpQuiet_nil ?_
        intro wx kx
        have HKN := Lib.hid (HKF.out.trans kx)
        go_wp2
        go_ret
        exact ⟨rfl, HKN.out⟩
end Go.Proofs.YtnjjajanfedjiaaGreatDoor
namespace Go.Proofs.YtnjjajanfedjiaaGreatDoor
open Go.RowKit Go.ChangeShapes Go.WideShapes
theorem Fr.own : ownKnob Tryz.prog.godebug = none := by kernel_rfl
theorem Fr.laidOut : laidOutB Tryz.prog = true := by kernel_rfl
section
variable {P : Program} {H : Type} {enc : TypeId × Value → H} {W : World} {r : Reach} {base : Nat} {t e : TypeId} {v : Value} {d : DataW H} {p : List MemPlace}
theorem Keeps.trod {W' : World} (hl : laidOutB P = true) (hr : P.readableRec t = true) (hrow : t < P.types.size)
  (h : DataW.Trod enc P W 0 (fun _ => true) true t v d p) (hb : Keeps [] W W') (hlt : ∀ x ∈ p, x.block < W.heap.size) :
  DataW.Trod enc P W' 0 (fun b => decide (b < W.heap.size)) true t v d p :=
 WideElems.Trod_stays hl hr hrow h (fun x hx => hb.same (hlt x hx)) (fun x hx => by simpa using hlt x hx)
end
end Go.Proofs.YtnjjajanfedjiaaGreatDoor
namespace Go.Proofs.YtnjjajanfedjiaaGreatDoor
open Go.RowKit Go.ChangeShapes Go.WideShapes
theorem returns_shaped {H : Type} {enc : TypeId × Value → H} {a : Assume} {C : Checked} {os : Os} {f : FuncId} {fn : Func} {s : ChangeSpec} {conds : List PathCond} {apart fresh handsOn again : Bool} {X : World → Array Value → Prop}
  (hX : ∀ (w w' : World) (args : Array Value), w.heap = w'.heap → X w args → X w' args)
  (own : ownKnob C.prog.godebug = none) (started : os.Started) (noInit : C.prog.inits.idxOf? f = none) (hfn : C.prog.funcs[f]? = some fn)
  (witness : ∃ (w : World) (tape : Tape) (i : Input), w.os = os ∧ (w.forCall tape i).Shaped C.prog ∧ i.vars = [] ∧ Input.okWide C.prog (w.forCall tape i) .any w.heap.size f i ∧
   ((s.pre enc C.prog fn conds apart (w.forCall tape i).memory i.args ∧ X (w.forCall tape i).memory i.args) ∧ sizedMet enc C.prog fn (OpenSpec.ofChange s) apart (w.forCall tape i).memory i.args) ∧ a.holds C.prog (lone (Frame.enter C.prog f i.args .normal) [] (w.forCall tape i)))
  (contract : ∀ (W : World) (base : Nat) (args : Array Value) (ds gs : List (DataW H)) (before : List MemPlace),
   (∀ (j : Nat) t v, fn.params[j]? = some t → args[j]? = some v → Value.okWide C.prog W .any base t v) →
   DataW.Whole enc C.prog fn.params.toList s.vars apart W args.toList ds gs before → X W args → W.ShapedOpen C.prog →
   Calls C.prog f args W fun e W' => ∃ v, e = .returned v ∧ s.post enc C.prog fn apart fresh handsOn again W args v W') :
  ReturnsInHanded a C os f .any (fun w args => (s.pre enc C.prog fn conds apart w args ∧ X w args) ∧ sizedMet enc C.prog fn (OpenSpec.ofChange s) apart w args) (s.post enc C.prog fn apart fresh handsOn again) := by
 refine returnsInHanded_of_calls own started noInit witness ?_
 intro w tape i _ hsh _ hok hpre _
 obtain ⟨_, _, _, fn', hfn', _, _, _, _, hval⟩ := hok
 obtain rfl : fn' = fn := Option.some.inj (hfn'.symm.trans hfn)
 obtain ⟨⟨⟨ds, gs, before, hw, _⟩, hx⟩, _⟩ := hpre
 have hw' := DataW.Whole.of_heap (w' := w.forCall tape i) (by rfl) hw
 refine (contract (w.forCall tape i) w.heap.size i.args ds gs before hval hw' (hX _ _ _ (by rfl) hx) hsh).mono fun e W' ⟨v, he, hp⟩ => ?_
 subst he
 exact ChangeSpec.post_blind hp
theorem one_of {P : Program} {W : World} {laid : List (String × DataW Unit)} (nm : String) (d : DataW Unit) (hf : laid.filter (fun x => x.1 == nm) = [(nm, d)]) (h : laidMet P laid W) : laidMet P [(nm, d)] W := hf ▸ h.filter fun x => x.1 == nm
theorem cells_of_strs {H : Type} {enc : TypeId × Value → H} {P : Program} {w : World} {base : Nat} {sp : Nat → Bool} {held : Bool} {fuel : Nat} {t e : TypeId} {n : Nat} {cs : List Value} {zs : List Bs} {p : List MemPlace}
  (ht : P.underlying t = some (.array n e)) (he : P.underlying e = some .string) (hce : P.cellsOf e = 1) (hct : P.cellsOf t = n)
  (h : DataW.trod enc P w base sp held fuel t cs = some (.agg (zs.map fun z => .lit (.string z)), p)) : cs = zs.map fun z => Value.string (bs z) := by
 cases fuel with
 | zero => simp [DataW.trod] at h
 | succ fuel =>
  simp only [DataW.trod, ht, hce, hct, Nat.mul_one] at h
  split at h
  ·rename_i hl
   obtain ⟨xs, hm, hx⟩ := Option.map_eq_some_iff.1 h
   have hxs : xs.map (·.1) = zs.map fun z => (DataW.lit (.string z) : DataW H) := by
    have := congrArg Prod.fst hx
    simpa using this
   have hxl : xs.length = n := by simpa using Lib.mapM_length hm
   have hzl : zs.length = n := by
    have := congrArg List.length hxs
    simp at this
    omega
   apply List.ext_getElem?
   intro i
   by_cases hi : i < n
   ·obtain ⟨b, hb, hf⟩ := Lib.mapM_at hm i i (by simp [hi])
    obtain ⟨s, hc, rfl, _⟩ := DataW.trod_string he hf
    have h1 : cs[i]? = some (.string s) := by
     have := congrArg (·[0]?) hc
     simpa [List.getElem?_take, List.getElem?_drop] using this
    have h2 : (xs.map (·.1))[i]? = some (DataW.lit (.string s.data.toList) : DataW H) := by simp [hb]
    rw [hxs] at h2
    simp only [List.getElem?_map, Option.map_eq_some_iff, DataW.lit.injEq, Lit.string.injEq] at h2
    obtain ⟨z', hz', rfl⟩ := h2
    simp [h1, hz', bs_data]
   ·rw [List.getElem?_eq_none (by omega), List.getElem?_eq_none (by simp; omega)]
  ·cases h
theorem iface_at {P : Program} {W : World} {nm : String} {g : Nat} {t : TypeId} {ms : Array (String × TypeId)} {name : String} {d : DataW Unit} (hg : P.globalNamed nm = some g) (hty : (P.globals[g]?).map (·.type) = some t) (ht : P.underlying t = some (.interface ms))
  (h : laidMet P [(nm, .iface name d)] W) : ∃ u v, W.cell? ⟨g, 0, none⟩ = some (.iface u v) := by
 obtain ⟨ps, ⟨g', t', cs, fuel, p, q, hg', ht', hvar, hd, _, _⟩, _⟩ := h
 obtain rfl := Option.some.inj (hg.symm.trans hg')
 obtain rfl := Option.some.inj (hty.symm.trans ht')
 obtain ⟨_, u, v, hc, _, _⟩ := iface_of_trod ht hd
 refine ⟨u, v, ?_⟩
 rw [World.var?_cell hg hvar 0]
 have : cs = #[.iface u v] := by rw [← hc]
 rw [this]
 rfl
end Go.Proofs.YtnjjajanfedjiaaGreatDoor
