/- sameFlow, of two that are the same. What the program's Parse hands back, in one form, whether the text is a flow or none. What the reader and the program's Parse hand back, in one form, whether the text is a flow or none; is, and sameFlow, of both. -/
import Derived.Test.YtnjjajanfedjiaaGreatDoorFrdM28
import Derived.Test.YtnjjajanfedjiaaGreatDoorFrdM30
import Derived.Test.YtnjjajanfedjiaaGreatDoorFrdM25
import Derived.Test.YtnjjajanfedjiaaGreatDoorFrdM26
import Derived.Test.YtnjjajanfedjiaaGreatDoorFrdM27
set_option linter.unusedSimpArgs false
set_option linter.unusedVariables false
namespace Go.Proofs.YtnjjajanfedjiaaGreatDoor
open Go.RowKit Go.BigFrame
attribute [local go_sem] bs_size bs_extract bs_append bs_toList KW.cell setCells_size there_alloc_new there_alloc there_set
theorem aNeq (a : Ar) (W : World) : (binOp .neq 43 (.agg #[.string (bs a.col), .int .i64 a.val.kind, .int .i64 a.val.num, .string (bs a.val.word)]) (.agg #[.string (bs a.col), .int .i64 a.val.kind, .int .i64 a.val.num, .string (bs a.val.word)])).run Tryz.prog W = .ok (.bool false) W := by
 simp [go_sem]
theorem pNeq (a : Pb) (W : World) : (binOp .neq 83 (.agg #[.int .i64 a.at_, .string (bs a.name), .string (bs a.src)]) (.agg #[.int .i64 a.at_, .string (bs a.name), .string (bs a.src)])).run Tryz.prog W = .ok (.bool false) W := by
 simp [go_sem]
theorem jobRow : ∃ d, Tryz.prog.underlying 45 = some d ∧ d.isRow = true := by
 have h : (Tryz.prog.underlying 45).map (·.isRow) = some true := by kernel_rfl
 cases hd : Tryz.prog.underlying 45 with
 | none => rw [hd] at h; cases h
 | some d => rw [hd] at h; exact ⟨d, rfl, by simpa using h⟩
set_option maxRecDepth 100000 in
set_option maxHeartbeats 8000000 in
theorem sameFlow_any (f : Fl) (b1 b2 : Nat) (v0 v1 v2 u0 u1 u2 : Value) (w : World) (h0 : InsIs w b1 v0 f.ins) (h1 : JobsIs w b1 v1 f.jobs) (h2 : OutsIs w b1 v2 f.outs) (k0 : InsIs w b2 u0 f.ins) (k1 : JobsIs w b2 u1 f.jobs) (k2 : OutsIs w b2 u2 f.outs) :
  Calls Tryz.prog 9 #[.agg #[v0, v1, v2], .agg #[u0, u1, u2]] w fun e w' => e = .returned (.bool true) ∧ Keeps [] w w' := by
 have hm0 : f.ins.length ≤ 9223372036854775807 := by obtain ⟨_, _, h, _⟩ := h0; exact own_len h
 obtain ⟨A0, c0, rfl⟩ : ∃ A c, v0 = .slice A f.ins.length c := by obtain ⟨_, _, h, _⟩ := h0; obtain ⟨A, c, h, _⟩ := own_form h; exact ⟨A, c, h⟩
 obtain ⟨B0, d0, rfl⟩ : ∃ A c, u0 = .slice A f.ins.length c := by obtain ⟨_, _, h, _⟩ := k0; obtain ⟨A, c, h, _⟩ := own_form h; exact ⟨A, c, h⟩
 have H0 := Lib.hid h0
 have K0 := Lib.hid k0
 have hm1 : f.jobs.length ≤ 9223372036854775807 := by obtain ⟨_, _, h, _⟩ := h1; exact own_len h
 obtain ⟨A1, c1, rfl⟩ : ∃ A c, v1 = .slice A f.jobs.length c := by obtain ⟨_, _, h, _⟩ := h1; obtain ⟨A, c, h, _⟩ := own_form h; exact ⟨A, c, h⟩
 obtain ⟨B1, d1, rfl⟩ : ∃ A c, u1 = .slice A f.jobs.length c := by obtain ⟨_, _, h, _⟩ := k1; obtain ⟨A, c, h, _⟩ := own_form h; exact ⟨A, c, h⟩
 have H1 := Lib.hid h1
 have K1 := Lib.hid k1
 have hm2 : f.outs.length ≤ 9223372036854775807 := by obtain ⟨_, _, h, _⟩ := h2; exact own_len h
 obtain ⟨A2, c2, rfl⟩ : ∃ A c, v2 = .slice A f.outs.length c := by obtain ⟨_, _, h, _⟩ := h2; obtain ⟨A, c, h, _⟩ := own_form h; exact ⟨A, c, h⟩
 obtain ⟨B2, d2, rfl⟩ : ∃ A c, u2 = .slice A f.outs.length c := by obtain ⟨_, _, h, _⟩ := k2; obtain ⟨A, c, h, _⟩ := own_form h; exact ⟨A, c, h⟩
 have H2 := Lib.hid h2
 have K2 := Lib.hid k2
 have hb1 := (Blk.new w 26 #[.slice A0 f.ins.length c0, .slice A1 f.jobs.length c1, .slice A2 f.outs.length c2]).alloc (.cells #[.slice B0 f.ins.length d0, .slice B1 f.jobs.length d1, .slice B2 f.outs.length d2] 26)
 have hb2 := Blk.new (w.alloc (.cells #[.slice A0 f.ins.length c0, .slice A1 f.jobs.length c1, .slice A2 f.outs.length c2] 26)) 26 #[.slice B0 f.ins.length d0, .slice B1 f.jobs.length d1, .slice B2 f.outs.length d2]
 rw [fsz] at hb2
 have hk := ((Keeps.refl [] w).alloc (.cells #[.slice A0 f.ins.length c0, .slice A1 f.jobs.length c1, .slice A2 f.outs.length c2] 26)).alloc (.cells #[.slice B0 f.ins.length d0, .slice B1 f.jobs.length d1, .slice B2 f.outs.length d2] 26)
 clear h0 h1 h2 k0 k1 k2
 go_enter Tryz.func9, Tryz.ntmps9
 go_upto_region 1 with (fail)
 obtain ⟨X1, hX1⟩ : ∃ z, w.heap.size = z := ⟨_, rfl⟩
 rw [hX1] at hb1 hb2 ⊢
 obtain ⟨X2, hX2⟩ : ∃ z, X1 + 1 = z := ⟨_, rfl⟩
 rw [hX2] at hb2 ⊢
 obtain ⟨y0, hy⟩ : ∃ z, (w.alloc (.cells #[.slice A0 f.ins.length c0, .slice A1 f.jobs.length c1, .slice A2 f.outs.length c2] 26)).alloc (.cells #[.slice B0 f.ins.length d0, .slice B1 f.jobs.length d1, .slice B2 f.outs.length d2] 26) = z := ⟨_, rfl⟩
 rw [hy] at hb1 hb2 hk ⊢
 have HB1 := Lib.hid hb1
 have HB2 := Lib.hid hb2
 have HK := Lib.hid hk
 have p0 : y0.cell? ⟨X1, 0, none⟩ = some (.slice A0 f.ins.length c0) := hb1.cell 0
 have q0 : y0.cell? ⟨X2, 0, none⟩ = some (.slice B0 f.ins.length d0) := hb2.cell 0
 have p1 : y0.cell? ⟨X1, 1, none⟩ = some (.slice A1 f.jobs.length c1) := hb1.cell 1
 have q1 : y0.cell? ⟨X2, 1, none⟩ = some (.slice B1 f.jobs.length d1) := hb2.cell 1
 have p2 : y0.cell? ⟨X1, 2, none⟩ = some (.slice A2 f.outs.length c2) := hb1.cell 2
 have q2 : y0.cell? ⟨X2, 2, none⟩ = some (.slice B2 f.outs.length d2) := hb2.cell 2
 have l1 := hb1.lt
 have l2 := hb2.lt
 clear hb1 hb2 hk hy hX1 hX2
 go_wp2
 go_loopw [5] (fun i wr => ∃ m : Nat, m ≤ f.ins.length ∧ i = .int .i64 m ∧ Hid (Keeps [] y0 wr)) (fun i _ => f.ins.length - (intOf i).toNat)
 case atStart => exact ⟨0, Nat.zero_le _, rfl, Lib.hid (Keeps.refl _ _)⟩
 case round =>
  clear p0 p1 p2 q0 q1 q2 l1 l2
  obtain ⟨m, hm, rfl, HKR⟩ := hrel
  obtain ⟨wr, rfl⟩ : ∃ z : World, z = wr := ⟨_, rfl⟩
  have p0 : wr.cell? ⟨X1, 0, none⟩ = some (.slice A0 f.ins.length c0) := (HB1.out.keep HKR.out (by simp)).cell 0
  have q0 : wr.cell? ⟨X2, 0, none⟩ = some (.slice B0 f.ins.length d0) := (HB2.out.keep HKR.out (by simp)).cell 0
  have l1 := (HB1.out.keep HKR.out (by simp)).lt
  have l2 := (HB2.out.keep HKR.out (by simp)).lt
  by_cases hlt : m < f.ins.length
  ·have hi : (m : Int) < (f.ins.length : Int) := by omega
   obtain ⟨g1, cs1, hA, gl1, he1, hc1⟩ := lst_at H0.out InEl.len m hlt
   obtain ⟨g2, cs2, hB, gl2, he2, hc2⟩ := lst_at K0.out InEl.len m hlt
   subst hA hB
   have HKW := Lib.hid (HK.out.trans HKR.out)
   obtain ⟨x, hx⟩ : ∃ x, f.ins[m] = x := ⟨_, rfl⟩
   rw [hx] at he1 he2
   obtain ⟨z1, rfl, o1⟩ := he1
   obtain ⟨z2, rfl, o2⟩ := he2
   have e0 := HKW.out.cell_of (hc1 0 _ rfl) (by simp)
   have e1 := HKW.out.cell_of (hc1 1 _ rfl) (by simp)
   have e2 := HKW.out.cell_of (hc1 2 _ rfl) (by simp)
   have r0 := HKW.out.cell_of (hc2 0 _ rfl) (by simp)
   have r1 := HKW.out.cell_of (hc2 1 _ rfl) (by simp)
   have r2 := HKW.out.cell_of (hc2 2 _ rfl) (by simp)
   have t1 : g1 < wr.heap.size := World.block_lt_of_cell? _ _ e0
   have t2 : g2 < wr.heap.size := World.block_lt_of_cell? _ _ r0
   rw [Nat.add_zero] at e0 r0
   have HC : Hid (∀ W, Keeps [] wr W → Calls Tryz.prog 39 #[z1, z2] W fun e W' => e = .returned (.bool true) ∧ Keeps [] W W') := Lib.hid (fun W z => sameCols_any x.cols _ _ z1 z2 W (own_keep o1 (HKW.out.trans z) (fun g hg hm => by cases hm)) (own_keep o2 (HKW.out.trans z) (fun g hg hm => by cases hm)))
   clear hc1 hc2 o1 o2 hx gl1 gl2
   go_upto_region 6 with (fail)
   refine wp_region_keeps (by kernel_rfl) (by kernel_rfl) ?_
   repeat (go_big_quiet_step (first | with_reducible exact KW.of HC.out _))
   refine wpQuiet_nil ?_
   intro wx kx
   have HX := Lib.hid (HKR.out.trans kx)
   go_wp2
   go_roundw
   case rel => exact ⟨m + 1, by omega, by go_num, HX⟩
   case measure => simp [intOf]; omega
  ·have hi : ¬ (m : Int) < (f.ins.length : Int) := by omega
   have p1 : wr.cell? ⟨X1, 1, none⟩ = some (.slice A1 f.jobs.length c1) := (HB1.out.keep HKR.out (by simp)).cell 1
   have q1 : wr.cell? ⟨X2, 1, none⟩ = some (.slice B1 f.jobs.length d1) := (HB2.out.keep HKR.out (by simp)).cell 1
   have l1 := (HB1.out.keep HKR.out (by simp)).lt
   have l2 := (HB2.out.keep HKR.out (by simp)).lt
   have p2 : wr.cell? ⟨X1, 2, none⟩ = some (.slice A2 f.outs.length c2) := (HB1.out.keep HKR.out (by simp)).cell 2
   have q2 : wr.cell? ⟨X2, 2, none⟩ = some (.slice B2 f.outs.length d2) := (HB2.out.keep HKR.out (by simp)).cell 2
   have l1 := (HB1.out.keep HKR.out (by simp)).lt
   have l2 := (HB2.out.keep HKR.out (by simp)).lt
   go_wp2
   go_loopw [6] (fun i wr => ∃ m : Nat, m ≤ f.jobs.length ∧ i = .int .i64 m ∧ Hid (Keeps [] y0 wr)) (fun i _ => f.jobs.length - (intOf i).toNat)
   case atStart => exact ⟨0, Nat.zero_le _, rfl, HKR⟩
   case round =>
    clear p0 p1 p2 q0 q1 q2 l1 l2 HKR hi hlt hm
    obtain ⟨m, hm, rfl, HKR⟩ := hrel
    obtain ⟨wr, rfl⟩ : ∃ z : World, z = wr := ⟨_, rfl⟩
    have p1 : wr.cell? ⟨X1, 1, none⟩ = some (.slice A1 f.jobs.length c1) := (HB1.out.keep HKR.out (by simp)).cell 1
    have q1 : wr.cell? ⟨X2, 1, none⟩ = some (.slice B1 f.jobs.length d1) := (HB2.out.keep HKR.out (by simp)).cell 1
    have l1 := (HB1.out.keep HKR.out (by simp)).lt
    have l2 := (HB2.out.keep HKR.out (by simp)).lt
    by_cases hlt : m < f.jobs.length
    ·have hi : (m : Int) < (f.jobs.length : Int) := by omega
     obtain ⟨g1, cs1, hA, gl1, he1, hc1⟩ := lst_at H1.out JbEl.len m hlt
     obtain ⟨g2, cs2, hB, gl2, he2, hc2⟩ := lst_at K1.out JbEl.len m hlt
     subst hA hB
     have HKW := Lib.hid (HK.out.trans HKR.out)
     obtain ⟨x, hx⟩ : ∃ x, f.jobs[m] = x := ⟨_, rfl⟩
     rw [hx] at he1 he2
     obtain ⟨z2, z3, z4, rfl, o1⟩ := he1
     obtain ⟨s2, s3, s4, rfl, o2⟩ := he2
     obtain ⟨Z2, n2, rfl, -⟩ := own_form o1.o2
     obtain ⟨Z3, n3, rfl, -⟩ := own_form o1.o3
     obtain ⟨Z4, n4, rfl, -⟩ := own_form o1.o4
     obtain ⟨Y2, k2, rfl, -⟩ := own_form o2.o2
     obtain ⟨Y3, k3, rfl, -⟩ := own_form o2.o3
     obtain ⟨Y4, k4, rfl, -⟩ := own_form o2.o4
     have e0 : wr.cell? ⟨g1, m * 15, none⟩ = some (.int .i64 x.at_) := HKW.out.cell_of (hc1 0 _ rfl) (by simp)
     have r0 : wr.cell? ⟨g2, m * 15, none⟩ = some (.int .i64 x.at_) := HKW.out.cell_of (hc2 0 _ rfl) (by simp)
     have e1 : wr.cell? ⟨g1, m * 15 + 1, none⟩ = some (.int .i64 x.code) := HKW.out.cell_of (hc1 1 _ rfl) (by simp)
     have r1 : wr.cell? ⟨g2, m * 15 + 1, none⟩ = some (.int .i64 x.code) := HKW.out.cell_of (hc2 1 _ rfl) (by simp)
     have e2 : wr.cell? ⟨g1, m * 15 + 2, none⟩ = some (.slice Z2 x.outs.length n2) := HKW.out.cell_of (hc1 2 _ rfl) (by simp)
     have r2 : wr.cell? ⟨g2, m * 15 + 2, none⟩ = some (.slice Y2 x.outs.length k2) := HKW.out.cell_of (hc2 2 _ rfl) (by simp)
     have e3 : wr.cell? ⟨g1, m * 15 + 3, none⟩ = some (.slice Z3 x.ins.length n3) := HKW.out.cell_of (hc1 3 _ rfl) (by simp)
     have r3 : wr.cell? ⟨g2, m * 15 + 3, none⟩ = some (.slice Y3 x.ins.length k3) := HKW.out.cell_of (hc2 3 _ rfl) (by simp)
     have e4 : wr.cell? ⟨g1, m * 15 + 4, none⟩ = some (.slice Z4 x.cols.length n4) := HKW.out.cell_of (hc1 4 _ rfl) (by simp)
     have r4 : wr.cell? ⟨g2, m * 15 + 4, none⟩ = some (.slice Y4 x.cols.length k4) := HKW.out.cell_of (hc2 4 _ rfl) (by simp)
     have e5 : wr.cell? ⟨g1, m * 15 + 5, none⟩ = some (.string (bs x.op)) := HKW.out.cell_of (hc1 5 _ rfl) (by simp)
     have r5 : wr.cell? ⟨g2, m * 15 + 5, none⟩ = some (.string (bs x.op)) := HKW.out.cell_of (hc2 5 _ rfl) (by simp)
     have e6 : wr.cell? ⟨g1, m * 15 + 6, none⟩ = some (.string (bs x.left.col)) := HKW.out.cell_of (hc1 6 _ rfl) (by simp)
     have r6 : wr.cell? ⟨g2, m * 15 + 6, none⟩ = some (.string (bs x.left.col)) := HKW.out.cell_of (hc2 6 _ rfl) (by simp)
     have e7 : wr.cell? ⟨g1, m * 15 + 7, none⟩ = some (.int .i64 x.left.val.kind) := HKW.out.cell_of (hc1 7 _ rfl) (by simp)
     have r7 : wr.cell? ⟨g2, m * 15 + 7, none⟩ = some (.int .i64 x.left.val.kind) := HKW.out.cell_of (hc2 7 _ rfl) (by simp)
     have e8 : wr.cell? ⟨g1, m * 15 + 8, none⟩ = some (.int .i64 x.left.val.num) := HKW.out.cell_of (hc1 8 _ rfl) (by simp)
     have r8 : wr.cell? ⟨g2, m * 15 + 8, none⟩ = some (.int .i64 x.left.val.num) := HKW.out.cell_of (hc2 8 _ rfl) (by simp)
     have e9 : wr.cell? ⟨g1, m * 15 + 9, none⟩ = some (.string (bs x.left.val.word)) := HKW.out.cell_of (hc1 9 _ rfl) (by simp)
     have r9 : wr.cell? ⟨g2, m * 15 + 9, none⟩ = some (.string (bs x.left.val.word)) := HKW.out.cell_of (hc2 9 _ rfl) (by simp)
     have e10 : wr.cell? ⟨g1, m * 15 + 10, none⟩ = some (.string (bs x.right.col)) := HKW.out.cell_of (hc1 10 _ rfl) (by simp)
     have r10 : wr.cell? ⟨g2, m * 15 + 10, none⟩ = some (.string (bs x.right.col)) := HKW.out.cell_of (hc2 10 _ rfl) (by simp)
     have e11 : wr.cell? ⟨g1, m * 15 + 11, none⟩ = some (.int .i64 x.right.val.kind) := HKW.out.cell_of (hc1 11 _ rfl) (by simp)
     have r11 : wr.cell? ⟨g2, m * 15 + 11, none⟩ = some (.int .i64 x.right.val.kind) := HKW.out.cell_of (hc2 11 _ rfl) (by simp)
     have e12 : wr.cell? ⟨g1, m * 15 + 12, none⟩ = some (.int .i64 x.right.val.num) := HKW.out.cell_of (hc1 12 _ rfl) (by simp)
     have r12 : wr.cell? ⟨g2, m * 15 + 12, none⟩ = some (.int .i64 x.right.val.num) := HKW.out.cell_of (hc2 12 _ rfl) (by simp)
     have e13 : wr.cell? ⟨g1, m * 15 + 13, none⟩ = some (.string (bs x.right.val.word)) := HKW.out.cell_of (hc1 13 _ rfl) (by simp)
     have r13 : wr.cell? ⟨g2, m * 15 + 13, none⟩ = some (.string (bs x.right.val.word)) := HKW.out.cell_of (hc2 13 _ rfl) (by simp)
     have e14 : wr.cell? ⟨g1, m * 15 + 14, none⟩ = some (.int .i64 x.retry) := HKW.out.cell_of (hc1 14 _ rfl) (by simp)
     have r14 : wr.cell? ⟨g2, m * 15 + 14, none⟩ = some (.int .i64 x.retry) := HKW.out.cell_of (hc2 14 _ rfl) (by simp)
     have t1 : g1 < wr.heap.size := World.block_lt_of_cell? _ _ e0
     have t2 : g2 < wr.heap.size := World.block_lt_of_cell? _ _ r0
     have HC2 : Hid (∀ W, Keeps [] wr W → Calls Tryz.prog 40 #[.slice Z2 x.outs.length n2, .slice Y2 x.outs.length k2] W fun e W' => e = .returned (.bool true) ∧ Keeps [] W W') := Lib.hid (fun W z => sameTexts_any _ _ _ _ _ W (own_keep o1.o2 (HKW.out.trans z) (fun g hg hm => by cases hm)) (own_keep o2.o2 (HKW.out.trans z) (fun g hg hm => by cases hm)))
     have HC3 : Hid (∀ W, Keeps [] wr W → Calls Tryz.prog 40 #[.slice Z3 x.ins.length n3, .slice Y3 x.ins.length k3] W fun e W' => e = .returned (.bool true) ∧ Keeps [] W W') := Lib.hid (fun W z => sameTexts_any _ _ _ _ _ W (own_keep o1.o3 (HKW.out.trans z) (fun g hg hm => by cases hm)) (own_keep o2.o3 (HKW.out.trans z) (fun g hg hm => by cases hm)))
     have HC4 : Hid (∀ W, Keeps [] wr W → Calls Tryz.prog 40 #[.slice Z4 x.cols.length n4, .slice Y4 x.cols.length k4] W fun e W' => e = .returned (.bool true) ∧ Keeps [] W W') := Lib.hid (fun W z => sameTexts_any _ _ _ _ _ W (own_keep o1.o4 (HKW.out.trans z) (fun g hg hm => by cases hm)) (own_keep o2.o4 (HKW.out.trans z) (fun g hg hm => by cases hm)))
     have hne := aNeq x.left
     have hne2 := aNeq x.right
     have HC1 := Lib.hid hc1
     have HC2' := Lib.hid hc2
     clear hc1 hc2 o1 o2 hx gl1 gl2 e1 e2 e3 e4 e5 e6 e7 e8 e9 e10 e11 e12 e13 e14 r1 r2 r3 r4 r5 r6 r7 r8 r9 r10 r11 r12 r13 r14
     have HN := Lib.hid hne
     have HN2' := Lib.hid hne2
     clear hne hne2
     go_upto_region 11 with (fail)
     go_cut [7, 8] (fun a b wx => ∃ na nb, a = .pointer (some ⟨na, 0, none⟩) ∧ b = .pointer (some ⟨nb, 0, none⟩) ∧ Hid (Blk wx na 45 #[.int .i64 x.at_, .int .i64 x.code, .slice Z2 x.outs.length n2, .slice Z3 x.ins.length n3, .slice Z4 x.cols.length n4, .string (bs x.op), .string (bs x.left.col), .int .i64 x.left.val.kind, .int .i64 x.left.val.num, .string (bs x.left.val.word), .string (bs x.right.col), .int .i64 x.right.val.kind, .int .i64 x.right.val.num, .string (bs x.right.val.word), .int .i64 x.retry]) ∧ Hid (Blk wx nb 45 #[.int .i64 x.at_, .int .i64 x.code, .slice Y2 x.outs.length k2, .slice Y3 x.ins.length k3, .slice Y4 x.cols.length k4, .string (bs x.op), .string (bs x.left.col), .int .i64 x.left.val.kind, .int .i64 x.left.val.num, .string (bs x.left.val.word), .string (bs x.right.col), .int .i64 x.right.val.kind, .int .i64 x.right.val.num, .string (bs x.right.val.word), .int .i64 x.retry]) ∧ Hid (Keeps [] wr wx))
     case first =>
      obtain ⟨C1, hC1⟩ : ∃ C : List Value, C = [.int .i64 x.at_, .int .i64 x.code, .slice Z2 x.outs.length n2, .slice Z3 x.ins.length n3, .slice Z4 x.cols.length n4, .string (bs x.op), .string (bs x.left.col), .int .i64 x.left.val.kind, .int .i64 x.left.val.num, .string (bs x.left.val.word), .string (bs x.right.col), .int .i64 x.right.val.kind, .int .i64 x.right.val.num, .string (bs x.right.val.word), .int .i64 x.retry] := ⟨_, rfl⟩
      obtain ⟨C2, hC2⟩ : ∃ C : List Value, C = [.int .i64 x.at_, .int .i64 x.code, .slice Y2 x.outs.length k2, .slice Y3 x.ins.length k3, .slice Y4 x.cols.length k4, .string (bs x.op), .string (bs x.left.col), .int .i64 x.left.val.kind, .int .i64 x.left.val.num, .string (bs x.left.val.word), .string (bs x.right.col), .int .i64 x.right.val.kind, .int .i64 x.right.val.num, .string (bs x.right.val.word), .int .i64 x.retry] := ⟨_, rfl⟩
      have s1 : C1.length = 15 := by rw [hC1]; rfl
      have s2 : C2.length = 15 := by rw [hC2]; rfl
      have z1 : C1.toArray.size = 15 := by rw [List.size_toArray, s1]
      have z2 : C2.toArray.size = 15 := by rw [List.size_toArray, s2]
      have HR1 : ∀ W, Keeps [] wr W → W.rangeAt g1 (m * 15) C1 := fun W hk j u hu => by
       rw [hC1] at hu
       exact (HKW.out.trans hk).cell_of (HC1.out j u hu) (by simp)
      have HR2 : ∀ W, Keeps [] wr W → W.rangeAt g2 (m * 15) C2 := fun W hk j u hu => by
       rw [hC2] at hu
       exact (HKW.out.trans hk).cell_of (HC2'.out j u hu) (by simp)
      have o1 : ∀ v ∈ C1, v.oneCell' = true := by rw [hC1]; simp [Value.oneCell']
      have o2 : ∀ v ∈ C2, v.oneCell' = true := by rw [hC2]; simp [Value.oneCell']
      obtain ⟨dJ, hdJ, hdR⟩ := jobRow
      have hz : (Tryz.prog.info? 45).map (·.size) = some 15 := by kernel_rfl
      have P1 : ∀ W, Keeps [] wr W → W.cell? ⟨X1, 1, none⟩ = some (.slice (some ⟨g1, 0, none⟩) f.jobs.length c1) := fun W hk => hk.cell_of p1 (by simp)
      have Q1 : ∀ W, Keeps [] wr W → W.cell? ⟨X2, 1, none⟩ = some (.slice (some ⟨g2, 0, none⟩) f.jobs.length d1) := fun W hk => hk.cell_of q1 (by simp)
      have hC1' := Lib.hid hC1
      have hC2' := Lib.hid hC2
      clear hC1 hC2
      refine wp_region_held_drew (S := fun W => Keeps [] wr W) (by kernel_rfl) (Keeps.refl [] wr).drew (fun hHeld => ?_)
      refine wpAnyH_take (i := 0) (v := ?v0) rfl (by kernel_rfl) (by kernel_rfl) (by kernel_rfl) (fun _ _ _ h => h) (Or.inl ⟨by rfl, ?hy0⟩) hHeld ?rest0
      case hy0 => (intro w hSw; (try dsimp only at hSw); go_simp; try with_reducible rfl)
      simp only [Act.put, List.getElem_toArray, List.getElem_cons_zero, List.getElem_cons_succ, List.setIfInBounds_toArray, List.set_cons_zero, List.set_cons_succ]
      refine wpAnyH_take (i := 1) (v := ?v1) rfl (by kernel_rfl) (by kernel_rfl) (by kernel_rfl) (fun _ _ _ h => h) (Or.inl ⟨by rfl, ?hy1⟩) hHeld ?rest1
      case hy1 => (intro w hSw; (try dsimp only at hSw); go_simp; try with_reducible rfl)
      simp only [Act.put, List.getElem_toArray, List.getElem_cons_zero, List.getElem_cons_succ, List.setIfInBounds_toArray, List.set_cons_zero, List.set_cons_succ]
      refine wpAnyH_take (i := 2) (v := ?v2) rfl (by kernel_rfl) (by kernel_rfl) (by kernel_rfl) (fun _ _ _ h => h) (Or.inl ⟨by rfl, ?hy2⟩) hHeld ?rest2
      case hy2 => (intro w hSw; (try dsimp only at hSw); go_simp; try with_reducible rfl)
      simp only [Act.put, List.getElem_toArray, List.getElem_cons_zero, List.getElem_cons_succ, List.setIfInBounds_toArray, List.set_cons_zero, List.set_cons_succ]
      refine wpAnyH_take (i := 3) (v := ?v3) rfl (by kernel_rfl) (by kernel_rfl) (by kernel_rfl) (fun _ _ _ h => h) (Or.inl ⟨by rfl, ?hy3⟩) hHeld ?rest3
      case hy3 => (intro w hSw; (try dsimp only at hSw); go_simp; try with_reducible rfl)
      simp only [Act.put, List.getElem_toArray, List.getElem_cons_zero, List.getElem_cons_succ, List.setIfInBounds_toArray, List.set_cons_zero, List.set_cons_succ]
      refine' wpAnyH_take (i := 4) (v := _) rfl (by kernel_rfl) (by kernel_rfl) (by kernel_rfl) (fun _ _ _ h => h) (yieldsIf_load_mid (by rfl) _ _ rfl _ _ rfl C1 _ HR1 hdJ hdR (by rw [s1]; exact hz)) hHeld ?rest4
      simp only [Act.put, List.getElem_toArray, List.getElem_cons_zero, List.getElem_cons_succ, List.setIfInBounds_toArray, List.set_cons_zero, List.set_cons_succ]
      refine wpAnyH_take (i := 5) (v := ?v5) rfl (by kernel_rfl) (by kernel_rfl) (by kernel_rfl) (fun _ _ _ h => h) (Or.inl ⟨by rfl, ?hy5⟩) hHeld ?rest5
      case hy5 => (intro w hSw; (try dsimp only at hSw); go_simp; try with_reducible rfl)
      simp only [Act.put, List.getElem_toArray, List.getElem_cons_zero, List.getElem_cons_succ, List.setIfInBounds_toArray, List.set_cons_zero, List.set_cons_succ]
      refine wpAnyH_take (i := 6) (v := ?v6) rfl (by kernel_rfl) (by kernel_rfl) (by kernel_rfl) (fun _ _ _ h => h) (Or.inl ⟨by rfl, ?hy6⟩) hHeld ?rest6
      case hy6 => (intro w hSw; (try dsimp only at hSw); go_simp; try with_reducible rfl)
      simp only [Act.put, List.getElem_toArray, List.getElem_cons_zero, List.getElem_cons_succ, List.setIfInBounds_toArray, List.set_cons_zero, List.set_cons_succ]
      refine wpAnyH_take (i := 7) (v := ?v7) rfl (by kernel_rfl) (by kernel_rfl) (by kernel_rfl) (fun _ _ _ h => h) (Or.inl ⟨by rfl, ?hy7⟩) hHeld ?rest7
      case hy7 => (intro w hSw; (try dsimp only at hSw); go_simp; try with_reducible rfl)
      simp only [Act.put, List.getElem_toArray, List.getElem_cons_zero, List.getElem_cons_succ, List.setIfInBounds_toArray, List.set_cons_zero, List.set_cons_succ]
      refine wpAnyH_take (i := 8) (v := ?v8) rfl (by kernel_rfl) (by kernel_rfl) (by kernel_rfl) (fun _ _ _ h => h) (Or.inl ⟨by rfl, ?hy8⟩) hHeld ?rest8
      case hy8 => (intro w hSw; (try dsimp only at hSw); go_simp; try with_reducible rfl)
      simp only [Act.put, List.getElem_toArray, List.getElem_cons_zero, List.getElem_cons_succ, List.setIfInBounds_toArray, List.set_cons_zero, List.set_cons_succ]
      refine' wpAnyH_take (i := 9) (v := _) rfl (by kernel_rfl) (by kernel_rfl) (by kernel_rfl) (fun _ _ _ h => h) (yieldsIf_load_mid (by rfl) _ _ rfl _ _ rfl C2 _ HR2 hdJ hdR (by rw [s2]; exact hz)) hHeld ?rest9
      simp only [Act.put, List.getElem_toArray, List.getElem_cons_zero, List.getElem_cons_succ, List.setIfInBounds_toArray, List.set_cons_zero, List.set_cons_succ]
      refine wpAnyH_ready (rs := [10, 11]) (by kernel_rfl) (by simp) ?_
      refine AllReadyH.cons (o := _) rfl (fun K hK => ?_) (AllReadyH.cons (o := _) rfl (fun K hK => ?_) AllReadyH.nil)
      ·go_simp
       refine hK.out _ _ ?_ (fun hHeld2 => ?_)
       ·exact Keeps.alloc hHeld _
       clear hK K
       try simp only [Act.put, List.getElem_toArray, List.getElem_cons_zero, List.getElem_cons_succ, List.setIfInBounds_toArray, List.set_cons_zero, List.set_cons_succ]
       refine wpAnyH_ready (rs := [11]) (by kernel_rfl) (by simp) ?_
       refine AllReadyH.cons (o := _) rfl (fun K hK => ?_) AllReadyH.nil
       go_simp
       refine hK.out _ _ ?_ (fun hHeld3 => ?_)
       ·exact Keeps.alloc hHeld2 _
       clear hK K
       try simp only [Act.put, List.getElem_toArray, List.getElem_cons_zero, List.getElem_cons_succ, List.setIfInBounds_toArray, List.set_cons_zero, List.set_cons_succ]
       refine wpAnyH_ready (rs := [12]) (by kernel_rfl) (by simp) ?_
       refine AllReadyH.cons (o := _) rfl (fun K hK => ?_) AllReadyH.nil
       rw [if_pos (by rfl)]
       refine wp_store_mid _ _ _ rfl (wr.heap.size) 0 C1.toArray rfl rfl (z1.symm ▸ there_drew _ _ _ (there_alloc _ _ _ _ (there_alloc_new _ _ _ _ _ rfl (by decide)))) (z1.symm ▸ hz) (all_oneCell_toArray o1) ?_
       refine hK.out _ _ ?_ (fun hHeld4 => ?_)
       ·exact Keeps.setCells hHeld3 (.inr (Nat.le_refl _)) _ _
       clear hK K
       try simp only [Act.put, List.getElem_toArray, List.getElem_cons_zero, List.getElem_cons_succ, List.setIfInBounds_toArray, List.set_cons_zero, List.set_cons_succ]
       refine wpAnyH_ready (rs := [13]) (by kernel_rfl) (by simp) ?_
       refine AllReadyH.cons (o := _) rfl (fun K hK => ?_) AllReadyH.nil
       rw [if_pos (by rfl)]
       refine wp_store_mid _ _ _ rfl (wr.heap.size + 1) 0 C2.toArray rfl rfl (z2.symm ▸ there_set _ _ _ _ _ _ (there_drew _ _ _ (there_alloc_new _ _ _ _ _ (by simp) (by decide)))) (z2.symm ▸ hz) (all_oneCell_toArray o2) ?_
       refine hK.out _ _ ?_ (fun hHeld5 => ?_)
       ·exact Keeps.setCells hHeld4 (.inr (Nat.le_succ _)) _ _
       clear hK K
       try simp only [Act.put, List.getElem_toArray, List.getElem_cons_zero, List.getElem_cons_succ, List.setIfInBounds_toArray, List.set_cons_zero, List.set_cons_succ]
       refine wpAnyH_done (by kernel_rfl) ?_ _
       clear hHeld hHeld2 hHeld3 hHeld4
       have hK5 := Lib.hid hHeld5
       clear hHeld5
       go_wp2
       go_meet
       refine ⟨wr.heap.size, wr.heap.size + 1, rfl, rfl, Lib.hid ?_, Lib.hid ?_, hK5⟩
       ·exact (((((Blk.new wr 45 _).alloc _).drew).setAll C1 (by rw [s1]; rfl)).setFar (by omega) 0 C2).congr (by rw [hC1'.out])
       ·exact ((((Blk.new' (wr.alloc _) _ 45 _ (by simp)).drew).setFar (by omega) 0 C1).setAll C2 (by rw [s2]; rfl)).congr (by rw [hC2'.out])
      ·go_simp
       refine hK.out _ _ ?_ (fun hHeld2 => ?_)
       ·exact Keeps.alloc hHeld _
       clear hK K
       try simp only [Act.put, List.getElem_toArray, List.getElem_cons_zero, List.getElem_cons_succ, List.setIfInBounds_toArray, List.set_cons_zero, List.set_cons_succ]
       refine wpAnyH_ready (rs := [10]) (by kernel_rfl) (by simp) ?_
       refine AllReadyH.cons (o := _) rfl (fun K hK => ?_) AllReadyH.nil
       go_simp
       refine hK.out _ _ ?_ (fun hHeld3 => ?_)
       ·exact Keeps.alloc hHeld2 _
       clear hK K
       try simp only [Act.put, List.getElem_toArray, List.getElem_cons_zero, List.getElem_cons_succ, List.setIfInBounds_toArray, List.set_cons_zero, List.set_cons_succ]
       refine wpAnyH_ready (rs := [12]) (by kernel_rfl) (by simp) ?_
       refine AllReadyH.cons (o := _) rfl (fun K hK => ?_) AllReadyH.nil
       rw [if_pos (by rfl)]
       refine wp_store_mid _ _ _ rfl (wr.heap.size + 1) 0 C1.toArray rfl rfl (z1.symm ▸ there_drew _ _ _ (there_alloc_new _ _ _ _ _ (by simp) (by decide))) (z1.symm ▸ hz) (all_oneCell_toArray o1) ?_
       refine hK.out _ _ ?_ (fun hHeld4 => ?_)
       ·exact Keeps.setCells hHeld3 (.inr (Nat.le_succ _)) _ _
       clear hK K
       try simp only [Act.put, List.getElem_toArray, List.getElem_cons_zero, List.getElem_cons_succ, List.setIfInBounds_toArray, List.set_cons_zero, List.set_cons_succ]
       refine wpAnyH_ready (rs := [13]) (by kernel_rfl) (by simp) ?_
       refine AllReadyH.cons (o := _) rfl (fun K hK => ?_) AllReadyH.nil
       rw [if_pos (by rfl)]
       refine wp_store_mid _ _ _ rfl (wr.heap.size) 0 C2.toArray rfl rfl (z2.symm ▸ there_set _ _ _ _ _ _ (there_drew _ _ _ (there_alloc _ _ _ _ (there_alloc_new _ _ _ _ _ rfl (by decide))))) (z2.symm ▸ hz) (all_oneCell_toArray o2) ?_
       refine hK.out _ _ ?_ (fun hHeld5 => ?_)
       ·exact Keeps.setCells hHeld4 (.inr (Nat.le_refl _)) _ _
       clear hK K
       try simp only [Act.put, List.getElem_toArray, List.getElem_cons_zero, List.getElem_cons_succ, List.setIfInBounds_toArray, List.set_cons_zero, List.set_cons_succ]
       refine wpAnyH_done (by kernel_rfl) ?_ _
       clear hHeld hHeld2 hHeld3 hHeld4
       have hK5 := Lib.hid hHeld5
       clear hHeld5
       go_wp2
       go_meet
       refine ⟨wr.heap.size + 1, wr.heap.size, rfl, rfl, Lib.hid ?_, Lib.hid ?_, hK5⟩
       ·exact ((((Blk.new' (wr.alloc _) _ 45 _ (by simp)).drew).setAll C1 (by rw [s1]; rfl)).setFar (by omega) 0 C2).congr (by rw [hC1'.out])
       ·exact (((((Blk.new wr 45 _).alloc _).drew).setFar (by omega) 0 C1).setAll C2 (by rw [s2]; rfl)).congr (by rw [hC2'.out])
     case rest =>
      obtain ⟨na, nb, rfl, rfl, HN1, HN2, HKX⟩ := hcut
      clear p1 q1 l1 l2 e0 r0 t1 t2
      have e0 : wc.cell? ⟨na, 0, none⟩ = some (.int .i64 x.at_) := HN1.out.cell 0
      have r0 : wc.cell? ⟨nb, 0, none⟩ = some (.int .i64 x.at_) := HN2.out.cell 0
      have e1 : wc.cell? ⟨na, 1, none⟩ = some (.int .i64 x.code) := HN1.out.cell 1
      have r1 : wc.cell? ⟨nb, 1, none⟩ = some (.int .i64 x.code) := HN2.out.cell 1
      have e2 : wc.cell? ⟨na, 2, none⟩ = some (.slice Z2 x.outs.length n2) := HN1.out.cell 2
      have r2 : wc.cell? ⟨nb, 2, none⟩ = some (.slice Y2 x.outs.length k2) := HN2.out.cell 2
      have e3 : wc.cell? ⟨na, 3, none⟩ = some (.slice Z3 x.ins.length n3) := HN1.out.cell 3
      have r3 : wc.cell? ⟨nb, 3, none⟩ = some (.slice Y3 x.ins.length k3) := HN2.out.cell 3
      have e4 : wc.cell? ⟨na, 4, none⟩ = some (.slice Z4 x.cols.length n4) := HN1.out.cell 4
      have r4 : wc.cell? ⟨nb, 4, none⟩ = some (.slice Y4 x.cols.length k4) := HN2.out.cell 4
      have e5 : wc.cell? ⟨na, 5, none⟩ = some (.string (bs x.op)) := HN1.out.cell 5
      have r5 : wc.cell? ⟨nb, 5, none⟩ = some (.string (bs x.op)) := HN2.out.cell 5
      have e6 : wc.cell? ⟨na, 6, none⟩ = some (.string (bs x.left.col)) := HN1.out.cell 6
      have r6 : wc.cell? ⟨nb, 6, none⟩ = some (.string (bs x.left.col)) := HN2.out.cell 6
      have e7 : wc.cell? ⟨na, 7, none⟩ = some (.int .i64 x.left.val.kind) := HN1.out.cell 7
      have r7 : wc.cell? ⟨nb, 7, none⟩ = some (.int .i64 x.left.val.kind) := HN2.out.cell 7
      have e8 : wc.cell? ⟨na, 8, none⟩ = some (.int .i64 x.left.val.num) := HN1.out.cell 8
      have r8 : wc.cell? ⟨nb, 8, none⟩ = some (.int .i64 x.left.val.num) := HN2.out.cell 8
      have e9 : wc.cell? ⟨na, 9, none⟩ = some (.string (bs x.left.val.word)) := HN1.out.cell 9
      have r9 : wc.cell? ⟨nb, 9, none⟩ = some (.string (bs x.left.val.word)) := HN2.out.cell 9
      have e10 : wc.cell? ⟨na, 10, none⟩ = some (.string (bs x.right.col)) := HN1.out.cell 10
      have r10 : wc.cell? ⟨nb, 10, none⟩ = some (.string (bs x.right.col)) := HN2.out.cell 10
      have e11 : wc.cell? ⟨na, 11, none⟩ = some (.int .i64 x.right.val.kind) := HN1.out.cell 11
      have r11 : wc.cell? ⟨nb, 11, none⟩ = some (.int .i64 x.right.val.kind) := HN2.out.cell 11
      have e12 : wc.cell? ⟨na, 12, none⟩ = some (.int .i64 x.right.val.num) := HN1.out.cell 12
      have r12 : wc.cell? ⟨nb, 12, none⟩ = some (.int .i64 x.right.val.num) := HN2.out.cell 12
      have e13 : wc.cell? ⟨na, 13, none⟩ = some (.string (bs x.right.val.word)) := HN1.out.cell 13
      have r13 : wc.cell? ⟨nb, 13, none⟩ = some (.string (bs x.right.val.word)) := HN2.out.cell 13
      have e14 : wc.cell? ⟨na, 14, none⟩ = some (.int .i64 x.retry) := HN1.out.cell 14
      have r14 : wc.cell? ⟨nb, 14, none⟩ = some (.int .i64 x.retry) := HN2.out.cell 14
      have HA3 : Hid (∀ W, Keeps [] wc W → W.cell? ⟨na, 3, none⟩ = some (.slice Z3 x.ins.length n3)) := Lib.hid fun W z => z.cell_of e3 (by simp)
      have HB3 : Hid (∀ W, Keeps [] wc W → W.cell? ⟨nb, 3, none⟩ = some (.slice Y3 x.ins.length k3)) := Lib.hid fun W z => z.cell_of r3 (by simp)
      have HA4 : Hid (∀ W, Keeps [] wc W → W.cell? ⟨na, 4, none⟩ = some (.slice Z4 x.cols.length n4)) := Lib.hid fun W z => z.cell_of e4 (by simp)
      have HB4 : Hid (∀ W, Keeps [] wc W → W.cell? ⟨nb, 4, none⟩ = some (.slice Y4 x.cols.length k4)) := Lib.hid fun W z => z.cell_of r4 (by simp)
      clear e3 e4 r3 r4
      have hne := HN.out
      have hne2 := HN2'.out
      go_wp2_with (first | ((with_reducible refine (HC2.out _ HKX.out).mono ?_); rintro e v1 ⟨rfl, kv1⟩; have a3 := HA3.out _ kv1; have b3 := HB3.out _ kv1) | ((with_reducible refine (HC3.out _ (HKX.out.trans kv1)).mono ?_); rintro e v2 ⟨rfl, kv2⟩; have a4 := HA4.out _ (kv1.trans kv2); have b4 := HB4.out _ (kv1.trans kv2)) | ((with_reducible refine (HC4.out _ (HKX.out.trans (kv1.trans kv2))).mono ?_); rintro e v3 ⟨rfl, kv3⟩))
      have HX := Lib.hid (HKR.out.trans (HKX.out.trans ((kv1.trans kv2).trans kv3)))
      go_roundw
      case rel => exact ⟨m + 1, by omega, by go_num, HX⟩
      case measure => simp [intOf]; omega
    ·have hi : ¬ (m : Int) < (f.jobs.length : Int) := by omega
     have p2 : wr.cell? ⟨X1, 2, none⟩ = some (.slice A2 f.outs.length c2) := (HB1.out.keep HKR.out (by simp)).cell 2
     have q2 : wr.cell? ⟨X2, 2, none⟩ = some (.slice B2 f.outs.length d2) := (HB2.out.keep HKR.out (by simp)).cell 2
     have l1 := (HB1.out.keep HKR.out (by simp)).lt
     have l2 := (HB2.out.keep HKR.out (by simp)).lt
     go_wp2
     go_loopw [9] (fun i wr => ∃ m : Nat, m ≤ f.outs.length ∧ i = .int .i64 m ∧ Hid (Keeps [] y0 wr)) (fun i _ => f.outs.length - (intOf i).toNat)
     case atStart => exact ⟨0, Nat.zero_le _, rfl, HKR⟩
     case round =>
      clear p1 q1 p2 q2 l1 l2 HKR hi hlt hm
      obtain ⟨m, hm, rfl, HKR⟩ := hrel
      obtain ⟨wr, rfl⟩ : ∃ z : World, z = wr := ⟨_, rfl⟩
      have p2 : wr.cell? ⟨X1, 2, none⟩ = some (.slice A2 f.outs.length c2) := (HB1.out.keep HKR.out (by simp)).cell 2
      have q2 : wr.cell? ⟨X2, 2, none⟩ = some (.slice B2 f.outs.length d2) := (HB2.out.keep HKR.out (by simp)).cell 2
      have l1 := (HB1.out.keep HKR.out (by simp)).lt
      have l2 := (HB2.out.keep HKR.out (by simp)).lt
      by_cases hlt : m < f.outs.length
      ·have hi : (m : Int) < (f.outs.length : Int) := by omega
       obtain ⟨g1, cs1, hA, gl1, he1, hc1⟩ := lst_at H2.out PbEl.len m hlt
       obtain ⟨g2, cs2, hB, gl2, he2, hc2⟩ := lst_at K2.out PbEl.len m hlt
       subst hA hB
       have HKW := Lib.hid (HK.out.trans HKR.out)
       obtain ⟨x, hx⟩ : ∃ x, f.outs[m] = x := ⟨_, rfl⟩
       rw [hx] at he1 he2
       subst he1 he2
       have e0 := HKW.out.cell_of (hc1 0 _ rfl) (by simp)
       have e1 := HKW.out.cell_of (hc1 1 _ rfl) (by simp)
       have e2 := HKW.out.cell_of (hc1 2 _ rfl) (by simp)
       have r0 := HKW.out.cell_of (hc2 0 _ rfl) (by simp)
       have r1 := HKW.out.cell_of (hc2 1 _ rfl) (by simp)
       have r2 := HKW.out.cell_of (hc2 2 _ rfl) (by simp)
       have t1 : g1 < wr.heap.size := World.block_lt_of_cell? _ _ e0
       have t2 : g2 < wr.heap.size := World.block_lt_of_cell? _ _ r0
       rw [Nat.add_zero] at e0 r0
       have hne := pNeq x
       clear hc1 hc2 hx gl1 gl2
       go_upto_region 17 with (fail)
       refine wp_region_keeps (by kernel_rfl) (by kernel_rfl) ?_
       repeat (go_big_quiet_step (fail))
       refine wpQuiet_nil ?_
       intro wx kx
       have HX := Lib.hid (HKR.out.trans kx)
       go_wp2
       go_roundw
       case rel => exact ⟨m + 1, by omega, by go_num, HX⟩
       case measure => simp [intOf]; omega
      ·have hi : ¬ (m : Int) < (f.outs.length : Int) := by omega
       go_wp2
       go_ret
       exact ⟨rfl, HK.out.trans HKR.out⟩
end Go.Proofs.YtnjjajanfedjiaaGreatDoor
namespace Go.Proofs.YtnjjajanfedjiaaGreatDoor
open Go.RowKit Go.BigFrame
def resF : Except (Int × Int) Fl → Fl × Int × Int
 | .ok f => (f, 0, -1)
 | .error x => (⟨[], [], []⟩, x.1, x.2)
structure FlAt (W : World) (base : Nat) (v0 v1 v2 : Value) (f : Fl) : Prop where
 i0 : InsIs W base v0 f.ins
 i1 : JobsIs W base v1 f.jobs
 i2 : OutsIs W base v2 f.outs
theorem FarOf.nil (S : List TypeId) {W W' : World} (hk : Keeps [] W W') : FarOf S [] W W' := ⟨hk, fun x hx => by cases hx⟩
theorem FlAt.keep {W W' : World} {base : Nat} {v0 v1 v2 : Value} {f : Fl} (h : FlAt W base v0 v1 v2 f) (hk : Keeps [] W W') : FlAt W' base v0 v1 v2 f :=
 ⟨h.i0.far (FarOf.nil flTys hk) (by decide) (by decide), h.i1.far (FarOf.nil flTys hk) (by decide) (by decide), h.i2.far (FarOf.nil flTys hk) (by decide)⟩
theorem FlAt.forms {W : World} {base : Nat} {v0 v1 v2 : Value} {f : Fl} (h : FlAt W base v0 v1 v2 f) : ∃ A0 c0 A1 c1 A2 c2, v0 = .slice A0 f.ins.length c0 ∧ v1 = .slice A1 f.jobs.length c1 ∧ v2 = .slice A2 f.outs.length c2 := by
 obtain ⟨⟨_, _, h0, _⟩, ⟨_, _, h1, _⟩, ⟨_, _, h2, _⟩⟩ := h
 obtain ⟨A0, c0, e0, _⟩ := own_form h0
 obtain ⟨A1, c1, e1, _⟩ := own_form h1
 obtain ⟨A2, c2, e2, _⟩ := own_form h2
 exact ⟨A0, c0, A1, c1, A2, c2, e0, e1, e2⟩
theorem FlAt.nil (W : World) (base : Nat) : FlAt W base (.slice none 0 0) (.slice none 0 0) (.slice none 0 0) ⟨[], [], []⟩ := ⟨LstIs.nil, LstIs.nil, LstIs.nil⟩
def ErAt (W : World) (er : Value) (R : Except (Int × Int) Fl) : Prop := match R with
 | .ok _ => er = .nilIface
 | .error x => ∃ gi, er = .iface 122 (.pointer (some ⟨gi, 0, none⟩)) ∧ Blk W gi 123 #[.int .i64 x.1, .int .i64 x.2]
theorem ErAt.keep {W W' : World} {er : Value} {R : Except (Int × Int) Fl} (h : ErAt W er R) (hk : Keeps [] W W') : ErAt W' er R := by
 cases R with
 | ok f => exact h
 | error x => obtain ⟨gi, h1, h2⟩ := h; exact ⟨gi, h1, h2.keep hk (by simp)⟩
theorem parseOut_form {R : Except (Int × Int) Fl} {base : Nat} {e : Ending} {w' : World} (h : FParseOut R base e w') :
  ∃ A0 n0 c0 A1 n1 c1 A2 n2 c2 er, e = .returned (.tuple #[.agg #[.slice A0 n0 c0, .slice A1 n1 c1, .slice A2 n2 c2], er]) ∧ FlAt w' base (.slice A0 n0 c0) (.slice A1 n1 c1) (.slice A2 n2 c2) (resF R).1 ∧ ErAt w' er R := by
 cases R with
 | ok f =>
  obtain ⟨v0, v1, v2, rfl, h0, h1, h2⟩ := h
  have hf : FlAt w' base v0 v1 v2 f := ⟨h0, h1, h2⟩
  obtain ⟨A0, c0, A1, c1, A2, c2, rfl, rfl, rfl⟩ := hf.forms
  exact ⟨_, _, _, _, _, _, _, _, _, _, rfl, hf, rfl⟩
 | error x =>
  obtain ⟨gi, h1, h2⟩ := h
  exact ⟨_, _, _, _, _, _, _, _, _, _, h1, FlAt.nil _ _, gi, rfl, h2⟩
end Go.Proofs.YtnjjajanfedjiaaGreatDoor
namespace Go.Proofs.YtnjjajanfedjiaaGreatDoor
open Go.RowKit Go.BigFrame
theorem parR_form {R : Except (Int × Int) Fl} {base : Nat} {e : Ending} {w' : World} (h : ParR R base e w') :
  ∃ A0 n0 c0 A1 n1 c1 A2 n2 c2, e = .returned (.tuple #[.agg #[.slice A0 n0 c0, .slice A1 n1 c1, .slice A2 n2 c2], .agg #[.int .i64 (resF R).2.1, .int .i64 (resF R).2.2]]) ∧ FlAt w' base (.slice A0 n0 c0) (.slice A1 n1 c1) (.slice A2 n2 c2) (resF R).1 := by
 cases R with
 | ok f =>
  obtain ⟨v0, v1, v2, rfl, h0, h1, h2⟩ := h
  have hf : FlAt w' base v0 v1 v2 f := ⟨h0, h1, h2⟩
  obtain ⟨A0, c0, A1, c1, A2, c2, rfl, rfl, rfl⟩ := hf.forms
  exact ⟨_, _, _, _, _, _, _, _, _, rfl, hf⟩
 | error x => exact ⟨_, _, _, _, _, _, _, _, _, h, FlAt.nil _ _⟩
theorem is_er {W : World} {er : Value} {R : Except (Int × Int) Fl} (h : ErAt W er R) (hT : ErrTy W) : Calls Tryz.prog 8 #[er, .agg #[.int .i64 (resF R).2.1, .int .i64 (resF R).2.2]] W fun ev w' => ev = .returned (.bool true) ∧ Keeps [] W w' := by
 cases R with
 | ok f => obtain rfl : er = .nilIface := h; exact is_nil W
 | error x => obtain ⟨gi, rfl, h2⟩ := h; exact is_at gi _ _ W hT h2
theorem sameFlow_at {f : Fl} {b1 b2 : Nat} {v0 v1 v2 u0 u1 u2 : Value} {w : World} (h : FlAt w b1 v0 v1 v2 f) (k : FlAt w b2 u0 u1 u2 f) :
  Calls Tryz.prog 9 #[.agg #[v0, v1, v2], .agg #[u0, u1, u2]] w fun e w' => e = .returned (.bool true) ∧ Keeps [] w w' :=
 sameFlow_any f b1 b2 v0 v1 v2 u0 u1 u2 w h.i0 h.i1 h.i2 k.i0 k.i1 k.i2
end Go.Proofs.YtnjjajanfedjiaaGreatDoor
