/- Print. Structs of many cells that are boxed inside a region: loads and stores of all cells at once, by short words. No program in sight. -/
import Derived.Test.YtnjjajanfedjiaaGreatDoorFrdM29
import Derived.Test.YtnjjajanfedjiaaGreatDoorFrdM25
import Derived.Test.YtnjjajanfedjiaaGreatDoorFrdM1
import Derived.Laws.IdiomCopy
import Derived.Deep.MidRow
set_option linter.unusedSimpArgs false
set_option linter.unusedVariables false
namespace Go.Proofs.YtnjjajanfedjiaaGreatDoor
open Go.RowKit Go.BigFrame
theorem bs_pr0 (a : Bs) : bs a ++ ⟨#[58, 32]⟩ = bs (a ++ [58, 32]) := bs_append a [58, 32]
theorem bs_pr1 (a : Bs) : bs a ++ ⟨#[59, 10]⟩ = bs (a ++ [59, 10]) := bs_append a [59, 10]
theorem bs_pr2 (a : Bs) : bs a ++ ⟨#[32, 61, 32]⟩ = bs (a ++ [32, 61, 32]) := bs_append a [32, 61, 32]
theorem bs_pr3 (a : Bs) : bs a ++ ⟨#[32]⟩ = bs (a ++ [32]) := bs_append a [32]
theorem bs_pr4 (a : Bs) : ⟨#[105, 110, 32]⟩ ++ bs a = bs ([105, 110, 32] ++ a) := bs_append [105, 110, 32] a
theorem bs_pr5 (a : Bs) : ⟨#[106, 111, 98, 32]⟩ ++ bs a = bs ([106, 111, 98, 32] ++ a) := bs_append [106, 111, 98, 32] a
theorem bs_pr6 (a : Bs) : ⟨#[111, 117, 116, 32]⟩ ++ bs a = bs ([111, 117, 116, 32] ++ a) := bs_append [111, 117, 116, 32] a
theorem bs_pr7 (a : Bs) : ⟨#[32, 114, 101, 116, 114, 121, 32]⟩ ++ bs a = bs ([32, 114, 101, 116, 114, 121, 32] ++ a) := bs_append [32, 114, 101, 116, 114, 121, 32] a
attribute [local go_sem] bs_size bs_extract bs_append bs_toList bs_pr0 bs_pr1 bs_pr2 bs_pr3 bs_pr4 bs_pr5 bs_pr6 bs_pr7
theorem take_flat {α : Type} (p : α → Bs) (l : List α) (n : Nat) (h : n < l.length) : (l.take (n + 1)).flatMap p = (l.take n).flatMap p ++ p l[n] := by
 rw [List.take_succ_eq_append_getElem h, List.flatMap_append]
 simp
theorem flat_len {α : Type} (p : α → Bs) (m : Nat) : ∀ (l : List α), (∀ x ∈ l, (p x).length ≤ m) → (l.flatMap p).length ≤ l.length * m
 | [], _ => by simp
 | a :: l, h => by
  have h1 := h a (by simp)
  have h2 := flat_len p m l (fun x hx => h x (List.mem_cons_of_mem _ hx))
  rw [List.flatMap_cons, List.length_append, List.length_cons, Nat.succ_mul]
  omega
set_option maxRecDepth 100000 in
set_option maxHeartbeats 8000000 in
theorem print_any (f : Fl) (hf : FlW f) (base : Nat) (v0 v1 v2 : Value) (w : World) (hE : FEnv w) (hi0 : InsIs w base v0 f.ins) (hi1 : JobsIs w base v1 f.jobs) (hi2 : OutsIs w base v2 f.outs) :
  Calls Tryz.prog 12 #[.agg #[v0, v1, v2]] w fun e w' => e = .returned (.string (bs (printF f))) ∧ Keeps [] w w' := by
 obtain ⟨i0, hi, hz0, hz1, hz2⟩ := info_parts sinf
 obtain ⟨A0, c0, rfl⟩ : ∃ A c, v0 = .slice A f.ins.length c := by obtain ⟨_, _, h, _⟩ := hi0; obtain ⟨A, c, h, _⟩ := own_form h; exact ⟨A, c, h⟩
 obtain ⟨A1, c1, rfl⟩ : ∃ A c, v1 = .slice A f.jobs.length c := by obtain ⟨_, _, h, _⟩ := hi1; obtain ⟨A, c, h, _⟩ := own_form h; exact ⟨A, c, h⟩
 obtain ⟨A2, c2, rfl⟩ : ∃ A c, v2 = .slice A f.outs.length c := by obtain ⟨_, _, h, _⟩ := hi2; obtain ⟨A, c, h, _⟩ := own_form h; exact ⟨A, c, h⟩
 have hc0 : f.ins.length ≤ c0 := by obtain ⟨_, _, h, _⟩ := hi0; exact cap_le h
 have hc1 : f.jobs.length ≤ c1 := by obtain ⟨_, _, h, _⟩ := hi1; exact cap_le h
 have hc2 : f.outs.length ≤ c2 := by obtain ⟨_, _, h, _⟩ := hi2; exact cap_le h
 have HI0 := Lib.hid hi0
 have HI1 := Lib.hid hi1
 have HI2 := Lib.hid hi2
 have HF := Lib.hid hf
 have HE := Lib.hid hE
 have hn0 := hf.nins
 have hn1 := hf.njobs
 have hn2 := hf.nouts
 have HT0 : Hid (∀ n, ((f.ins.take n).flatMap inT).length ≤ 400000) := Lib.hid fun n => by
  have h1 := flat_len inT 20000 (f.ins.take n) (fun x hx => inT_len (hf.ins x (List.mem_of_mem_take hx)))
  rw [List.length_take] at h1
  have : min n f.ins.length * 20000 ≤ 16 * 20000 := Nat.mul_le_mul_right _ (by omega)
  omega
 have HT1 : Hid (∀ n, ((f.jobs.take n).flatMap jobT).length ≤ 400000) := Lib.hid fun n => by
  have h1 := flat_len jobT 25000 (f.jobs.take n) (fun x hx => jobT_len x (hf.jobs x (List.mem_of_mem_take hx)))
  rw [List.length_take] at h1
  have : min n f.jobs.length * 25000 ≤ 16 * 25000 := Nat.mul_le_mul_right _ (by omega)
  omega
 have HT2 : Hid (∀ n, ((f.outs.take n).flatMap outT).length ≤ 400000) := Lib.hid fun n => by
  have h1 := flat_len outT 40 (f.outs.take n) (fun x hx => outT_len (hf.outs x (List.mem_of_mem_take hx)))
  rw [List.length_take] at h1
  have : min n f.outs.length * 40 ≤ 16 * 40 := Nat.mul_le_mul_right _ (by omega)
  omega
 clear hi0 hi1 hi2 hf hE
 go_enter Tryz.func12, Tryz.ntmps12
 go_upto_region 2 with (fail)
 obtain ⟨W1, hW1⟩ : ∃ x, w.alloc (.cells #[.slice A0 f.ins.length c0, .slice A1 f.jobs.length c1, .slice A2 f.outs.length c2] 26) = x := ⟨_, rfl⟩
 have hk1 : Keeps [] w W1 := by rw [← hW1]; exact (Keeps.refl _ _).alloc _
 have hfb : Blk W1 w.heap.size 26 #[.slice A0 f.ins.length c0, .slice A1 f.jobs.length c1, .slice A2 f.outs.length c2] := by rw [← hW1]; exact Blk.new _ _ _
 have z1 : W1.heap.size = w.heap.size + 1 := by rw [← hW1]; exact fsz _ _
 obtain ⟨y0, hy0⟩ : ∃ x, W1.alloc (.cells #[.pointer none, .slice none 0 0] 109) = x := ⟨_, rfl⟩
 have hk2 : Keeps [] W1 y0 := by rw [← hy0]; exact (Keeps.refl _ _).alloc _
 have hbl : Bld y0 W1.heap.size W1.heap.size [] := by rw [← hy0]; exact bld_new W1
 rw [hW1, hy0]
 rw [z1] at hbl
 obtain ⟨bb, hbb⟩ : ∃ x, w.heap.size + 1 = x := ⟨_, rfl⟩
 rw [hbb] at hbl ⊢
 obtain ⟨fb, hfbn⟩ : ∃ x, w.heap.size = x := ⟨_, rfl⟩
 have HFN := Lib.hid hfbn
 rw [hfbn] at hfb ⊢
 have HFB := Lib.hid hfb
 have HB1 : Hid (bb = W1.heap.size) := Lib.hid (by omega)
 have HKW := Lib.hid hk1
 have HK := Lib.hid hk2
 have HBL := Lib.hid hbl
 clear hk1 hk2 hbl hfb z1 hW1 hy0 hbb hfbn
 have f0 : y0.cell? ⟨fb, 0, none⟩ = some (.slice A0 f.ins.length c0) := (HFB.out.keep HK.out (by simp)).cell 0
 have lf := (HFB.out.keep HK.out (by simp)).lt
 go_upto_block 0 with (fail)
 go_cut [] (fun wx => Hid (Bld wx bb bb (f.ins.flatMap inT)) ∧ Hid (Keeps [] W1 wx))
 case first =>
  go_wp2_with fail
  go_loopw [17] (fun i wx => ∃ n : Nat, n ≤ f.ins.length ∧ i = .int .i64 n ∧ Hid (Bld wx bb bb ((f.ins.take n).flatMap inT)) ∧ Hid (Keeps [] W1 wx)) (fun i _ => f.ins.length - (intOf i).toNat)
  case atStart => exact ⟨0, Nat.zero_le _, rfl, HBL, HK⟩
  case round =>
   clear HBL HK f0 lf
   obtain ⟨n, hn, rfl, HBL, HK⟩ := hrel
   obtain ⟨y, rfl⟩ : ∃ y : World, y = wr := ⟨_, rfl⟩
   by_cases hlt : n < f.ins.length
   ·have hni : (n : Int) < (f.ins.length : Int) := by omega
    obtain ⟨g0, cs, rfl, lg0, ⟨vc, rfl, hov⟩, hcell⟩ := lst_at HI0.out InEl.len n hlt
    have hxw := HF.out.ins _ (List.getElem_mem hlt)
    have hstep := take_flat inT f.ins n hlt
    generalize f.ins[n] = x at *
    obtain ⟨Av, cv, rfl, -⟩ := own_form hov
    have hcv := cap_le hov
    have x0 := HK.out.cell_of (HKW.out.cell_of (hcell 0 _ rfl) (by simp)) (by simp)
    have x1 := HK.out.cell_of (HKW.out.cell_of (hcell 1 _ rfl) (by simp)) (by simp)
    have x2 := HK.out.cell_of (HKW.out.cell_of (hcell 2 _ rfl) (by simp)) (by simp)
    rw [Nat.add_zero] at x0
    have lg : g0 < y.heap.size := World.block_lt_of_cell? _ _ x0
    have HXW := Lib.hid hxw
    have HST := Lib.hid hstep
    have HOV := Lib.hid hov
    have HLN : Hid (((f.ins.take n).flatMap inT).length ≤ 400000) := Lib.hid (HT0.out n)
    have HLT : Hid ((inT x).length ≤ 20000) := Lib.hid (inT_len hxw)
    have hxl := hxw.len
    clear hcell hov hstep hxw lg0
    go_upto_region 5 with (fail)
    have hxb := Blk.new y 63 #[.int .i64 x.at_, .string (bs x.name), .slice Av x.cols.length cv]
    have hk3 := (Keeps.refl [] y).alloc (.cells #[.int .i64 x.at_, .string (bs x.name), .slice Av x.cols.length cv] 63)
    obtain ⟨y1, hy1⟩ : ∃ z, y.alloc (.cells #[.int .i64 x.at_, .string (bs x.name), .slice Av x.cols.length cv] 63) = z := ⟨_, rfl⟩
    rw [hy1] at hxb hk3 ⊢
    obtain ⟨xb, hxbn⟩ : ∃ z, y.heap.size = z := ⟨_, rfl⟩
    rw [hxbn] at hxb ⊢
    have HXB := Lib.hid hxb
    have HK3 := Lib.hid hk3
    have q1 : y1.cell? ⟨xb, 1, none⟩ = some (.string (bs x.name)) := hxb.cell 1
    have q2 : y1.cell? ⟨xb, 2, none⟩ = some (.slice Av x.cols.length cv) := hxb.cell 2
    have lx := hxb.lt
    clear hxb hk3 hy1 hxbn x0 x1 x2 lg
    go_upto_block 2 with (fail)
    go_cut [6] (fun v wx => Hid (wx.ownsRow y1.heap.size 9 1 v (x.cols.map colT).length (strs (x.cols.map colT))) ∧ Hid (Keeps [] y1 wx))
    case first =>
     go_wp2_with fail
     go_loopw [6, 24] (fun v i wx => ∃ m : Nat, m ≤ x.cols.length ∧ i = .int .i64 m ∧ Hid (wx.ownsRow y1.heap.size 9 1 v m (strs ((x.cols.take m).map colT))) ∧ Hid (Keeps [] y1 wx)) (fun _ i _ => x.cols.length - (intOf i).toNat)
     case atStart => exact ⟨0, Nat.zero_le _, rfl, Lib.hid (World.ownsRow_nil _ _ _ _), Lib.hid (Keeps.refl _ _)⟩
     case round =>
      clear q1 q2 lx
      obtain ⟨m, hm, rfl, HO, HKm⟩ := hrel
      obtain ⟨z, rfl⟩ : ∃ z : World, z = wr := ⟨_, rfl⟩
      obtain ⟨A6, c6, rfl, -⟩ := own_form HO.out
      by_cases hml : m < x.cols.length
      ·have hmi : (m : Int) < (x.cols.length : Int) := by omega
       have hgv : ∃ gv, Av = some ⟨gv, 0, none⟩ ∧ ∀ j u, (csCells x.cols)[j]? = some u → z.cell? ⟨gv, j, none⟩ = some u := by
        obtain ⟨A', c', e, hx⟩ := own_form HOV.out
        injection e with e1 e2 e3
        subst e1
        obtain ⟨g, h1, _, h2⟩ := hx (by omega)
        exact ⟨g, h1, fun j u hu => (((HKW.out.trans HK.out).trans HK3.out).trans HKm.out).cell_of (h2 j u hu) (by simp)⟩
       obtain ⟨gv, rfl, hcell⟩ := hgv
       have d1 := hcell (m * 2) _ (csCells_at x.cols m hml).1
       have d2 := hcell (m * 2 + 1) _ (csCells_at x.cols m hml).2
       have hcw := HXW.out.cols _ (List.getElem_mem hml)
       have hst : (x.cols.take (m + 1)).map colT = (x.cols.take m).map colT ++ [colT x.cols[m]] := by
        rw [List.take_succ_eq_append_getElem hml, List.map_append]; rfl
       generalize x.cols[m] = c at *
       obtain ⟨nm, kd⟩ := c
       dsimp only at d1 d2 hcw
       have lgv : gv < z.heap.size := World.block_lt_of_cell? _ _ d1
       have hnl := hcw.1.len
       have HSTm := Lib.hid hst
       clear hcell hst
       go_upto_region 9 with (fail)
       have hcb := Blk.new z 61 #[.string (bs nm), .int .i64 kd]
       have hk4 := (Keeps.refl [] z).alloc (.cells #[.string (bs nm), .int .i64 kd] 61)
       have HO4 := Lib.hid (HO.out.alloc (.cells #[.string (bs nm), .int .i64 kd] 61))
       obtain ⟨z1, hz1'⟩ : ∃ u, z.alloc (.cells #[.string (bs nm), .int .i64 kd] 61) = u := ⟨_, rfl⟩
       rw [hz1'] at hcb hk4 HO4 ⊢
       obtain ⟨cb, hcbn⟩ : ∃ u, z.heap.size = u := ⟨_, rfl⟩
       rw [hcbn] at hcb ⊢
       have HK4 := Lib.hid (HKm.out.trans hk4)
       have e0 : z1.cell? ⟨cb, 0, none⟩ = some (.string (bs nm)) := hcb.cell 0
       have e1 : z1.cell? ⟨cb, 1, none⟩ = some (.int .i64 kd) := hcb.cell 1
       have lc := hcb.lt
       have hbd := Lib.hid (show m + 1 ≤ maxLen ∧ (m + 1) * 16 ≤ 140737488355328 by simp only [maxLen]; omega)
       have HWZ := Lib.hid (show y1.heap.size ≤ z1.heap.size + 1 from Nat.le_succ_of_le HK4.out.size)
       have hkk := hcw.2
       clear hcb hk4 hz1' hcbn d1 d2 hcw lgv HO HKm
       rcases hkk with rfl | rfl
       ·have hst2 := HSTm.out
        rw [show colT ⟨nm, 1⟩ = nm ++ [32, 105, 110, 116] by simp [colT, kindW]] at hst2
        have HSTn := Lib.hid hst2
        clear hst2
        have s1 : ¬ 9223372036854775807 < nm.length + 1 := by omega
        have s2 : ¬ 9223372036854775807 < nm.length + 1 + 3 := by omega
        have s3 : ¬ 9223372036854775807 < nm.length + 4 := by omega
        have ix : ∀ w, (Instr.index 110 (.agg #[.string ⟨#[]⟩, .string ⟨#[105, 110, 116]⟩, .string ⟨#[116, 101, 120, 116]⟩]) (.int .i64 1)).run Tryz.prog w = .ok (.string (bs [105, 110, 116])) w := fun _ => by kernel_rfl
        go_region_law (first | (refine step_append_lies _ (by rfl) _ _ _ (by rfl) y1.heap.size 9 i0 _ 1 16 Tryz.underlying39 hi hz0 hz1 hz2 rfl (by decide) (.slice A6 m c6) m (strs ((x.cols.take m).map colT)) (by rfl) (HO4.out.alloc _) ⟨z1.heap.size, 0, none⟩ 1 1 [.string (bs (nm ++ [32, 105, 110, 116]))] (by rfl) rfl (World.news_of_block (heap_alloc_new _ _)) (by simp [Value.oneCell']) (by decide) hbd.out.1 hbd.out.2 (by simp; exact HWZ.out) _ rfl ?_; intro gw cap w7 hown7 hgrow7 hat7 hlt7))
        all_goals
         have HK7 := Lib.hid ((HK4.out.drew.alloc _).grown hgrow7 (fun g hg => .inr (HO4.out.lt g hg).1))
         rw [← strs_snoc, ← HSTn.out] at hown7
         have HO7 := Lib.hid hown7
         clear hown7 hgrow7 hat7 hlt7
         go_wp2
         go_roundw
         case rel => exact ⟨m + 1, by omega, by go_num, HO7, HK7⟩
         case measure => simp [intOf]; omega
       ·have hst2 := HSTm.out
        rw [show colT ⟨nm, 2⟩ = nm ++ [32, 116, 101, 120, 116] by simp [colT, kindW]] at hst2
        have HSTn := Lib.hid hst2
        clear hst2
        have s1 : ¬ 9223372036854775807 < nm.length + 1 := by omega
        have s2 : ¬ 9223372036854775807 < nm.length + 1 + 4 := by omega
        have s3 : ¬ 9223372036854775807 < nm.length + 5 := by omega
        have ix : ∀ w, (Instr.index 110 (.agg #[.string ⟨#[]⟩, .string ⟨#[105, 110, 116]⟩, .string ⟨#[116, 101, 120, 116]⟩]) (.int .i64 2)).run Tryz.prog w = .ok (.string (bs [116, 101, 120, 116])) w := fun _ => by kernel_rfl
        go_region_law (first | (refine step_append_lies _ (by rfl) _ _ _ (by rfl) y1.heap.size 9 i0 _ 1 16 Tryz.underlying39 hi hz0 hz1 hz2 rfl (by decide) (.slice A6 m c6) m (strs ((x.cols.take m).map colT)) (by rfl) (HO4.out.alloc _) ⟨z1.heap.size, 0, none⟩ 1 1 [.string (bs (nm ++ [32, 116, 101, 120, 116]))] (by rfl) rfl (World.news_of_block (heap_alloc_new _ _)) (by simp [Value.oneCell']) (by decide) hbd.out.1 hbd.out.2 (by simp; exact HWZ.out) _ rfl ?_; intro gw cap w7 hown7 hgrow7 hat7 hlt7))
        all_goals
         have HK7 := Lib.hid ((HK4.out.drew.alloc _).grown hgrow7 (fun g hg => .inr (HO4.out.lt g hg).1))
         rw [← strs_snoc, ← HSTn.out] at hown7
         have HO7 := Lib.hid hown7
         clear hown7 hgrow7 hat7 hlt7
         go_wp2
         go_roundw
         case rel => exact ⟨m + 1, by omega, by go_num, HO7, HK7⟩
         case measure => simp [intOf]; omega
      ·have hmi : ¬ (m : Int) < (x.cols.length : Int) := by omega
       obtain rfl : m = x.cols.length := by omega
       go_wp2
       go_meet
       rw [List.take_of_length_le (Nat.le_refl _)] at HO
       exact ⟨by rw [List.length_map]; exact HO, HKm⟩
    case rest =>
     obtain ⟨HO, HKx⟩ := hcut
     obtain ⟨z, rfl⟩ : ∃ z : World, z = wc := ⟨_, rfl⟩
     have hbl := HBL.out.keep (HK3.out.trans HKx.out)
     have hkz := HK.out.trans (HK3.out.trans HKx.out)
     obtain ⟨JT, hJT⟩ : ∃ t, joinCm (x.cols.map colT) = t := ⟨_, rfl⟩
     have hjl : JT.length ≤ 20000 := by
      have h1 := HLT.out
      unfold inT at h1
      rw [hJT] at h1
      simp only [List.length_append] at h1
      omega
     obtain ⟨A6, c6, rfl, -⟩ := own_form HO.out
     have HJ : Hid (∀ W, Keeps [] z W → Calls Tryz.prog 42 #[.slice A6 x.cols.length c6, .string (bs [44, 32])] W fun e w' => e = .returned (.string (bs JT)) ∧ Keeps [] W w') := Lib.hid (fun W hk => by
      have h := joinS_any (x.cols.map colT) (by simpa using HXW.out.ne) (by simpa using (by have := HXW.out.len; omega : x.cols.length ≤ 1000000)) (by rw [hJT]; omega) A6 c6 W _ (own_keep HO.out hk (fun _ _ hm => by cases hm))
      rw [hJT, List.length_map] at h
      exact h)
     have HJT := Lib.hid hJT
     clear HBL HK
     have HBL := Lib.hid hbl
     have HK := Lib.hid hkz
     have HWS : Hid (∀ (T : Bs) (W : World), T = inT x → Keeps [] z W → Calls Tryz.prog 45 #[.pointer (some ⟨bb, 0, none⟩), .string (bs T)] W fun e w' => (∃ n, e = .returned (.tuple #[.int .i64 n, .nilIface])) ∧ Bld w' bb bb ((f.ins.take n).flatMap inT ++ inT x) ∧ Keeps [] W1 w') := Lib.hid (fun T W hT hk => by
      subst hT
      refine (writeString_any (HBL.out.keep hk) _ (by have := HLN.out; omega) (by have := HLT.out; omega) (by have h1 := (HK.out.trans hk).size; have := HB1.out; omega)).mono (fun e w' h => ⟨⟨_, h.1⟩, h.2.1, ?_⟩)
      have hb := h.2.2.1
      rw [HB1.out] at hb
      exact (HK.out.trans hk).under hb)
     have q1 : z.cell? ⟨xb, 1, none⟩ = some (.string (bs x.name)) := (HXB.out.keep HKx.out (by simp)).cell 1
     have lx : xb < z.heap.size := (HXB.out.keep HKx.out (by simp)).lt
     have hnl := HXW.out.name.len
     have s1 : ¬ 9223372036854775807 < 3 + x.name.length := by omega
     have s2 : ∀ a b c d, a + b + c + d ≤ 1000 → ¬ 9223372036854775807 < x.name.length + a + b + c + d := fun a b c d h => by omega
     have s3 : ∀ a b c d, a + b + c + d ≤ 1000 → ¬ 9223372036854775807 < x.name.length + a + b + c + d + JT.length := fun a b c d h => by omega
     have s4 : ∀ a b c d, a + b + c + d ≤ 1000 → ¬ 9223372036854775807 < x.name.length + (JT.length + a) + b + c + d := fun a b c d h => by omega
     have s5 : ∀ a b c d e, a + b + c + d + e ≤ 1000 → ¬ 9223372036854775807 < x.name.length + (JT.length + a + b) + c + d + e := fun a b c d e h => by omega
     have s6 : ∀ a b c d e f, a + b + c + d + e + f ≤ 1000 → ¬ 9223372036854775807 < x.name.length + (JT.length + a + b) + c + d + e + f := fun a b c d e f h => by omega
     clear hjl hJT hbl hkz
     go_upto_region 11 with (fail)
     go_region_law (first | (go_simp; go_at_call 42; refine (HJ.out _ (Keeps.refl [] z).drew).mono ?_; rintro e w6 ⟨rfl, hk6⟩; have q6 : w6.cell? ⟨xb, 1, none⟩ = some (.string (bs x.name)) := hk6.cell_of q1 (by simp); have lx6 : xb < w6.heap.size := World.block_lt_of_cell? _ _ q6) | (go_simp; go_at_call 45; refine (HWS.out _ _ (by simp [inT, HJT.out]) hk6.undrew).mono ?_; rintro e w7 ⟨⟨nw, rfl⟩, hbl7, hk7⟩))
     all_goals
      have HBL7 : Hid (Bld w7 bb bb ((f.ins.take (n + 1)).flatMap inT)) := Lib.hid (by rw [HST.out]; exact hbl7)
      have HK7 := Lib.hid hk7
      clear hbl7 hk7
      go_wp2
      go_roundw
      case rel => exact ⟨n + 1, by omega, by go_num, HBL7, HK7⟩
      case measure => simp [intOf]; omega
   ·have hni : ¬ (n : Int) < (f.ins.length : Int) := by omega
    obtain rfl : n = f.ins.length := by omega
    rw [List.take_of_length_le (Nat.le_refl _)] at HBL
    go_wp2
    go_meet
    exact ⟨HBL, HK⟩
 case rest =>
  clear HBL HK f0 lf
  obtain ⟨HBL, HK⟩ := hcut
  obtain ⟨y0', rfl⟩ : ∃ y : World, y = wc := ⟨_, rfl⟩
  have f1 : y0'.cell? ⟨fb, 1, none⟩ = some (.slice A1 f.jobs.length c1) := (HFB.out.keep HK.out (by simp)).cell 1
  have lf := (HFB.out.keep HK.out (by simp)).lt
  go_upto_block 4 with (fail)
  go_cut [] (fun wx => Hid (Bld wx bb bb (f.ins.flatMap inT ++ f.jobs.flatMap jobT)) ∧ Hid (Keeps [] W1 wx))
  case first =>
   go_wp2_with fail
   go_loopw [53] (fun i wx => ∃ n : Nat, n ≤ f.jobs.length ∧ i = .int .i64 n ∧ Hid (Bld wx bb bb (f.ins.flatMap inT ++ (f.jobs.take n).flatMap jobT)) ∧ Hid (Keeps [] W1 wx)) (fun i _ => f.jobs.length - (intOf i).toNat)
   case atStart => exact ⟨0, Nat.zero_le _, rfl, Lib.hid (by rw [List.take_zero, List.flatMap_nil, List.append_nil]; exact HBL.out), HK⟩
   case round =>
    clear HBL HK f1 lf
    obtain ⟨n, hn, rfl, HBL, HK⟩ := hrel
    obtain ⟨y, rfl⟩ : ∃ y : World, y = wr := ⟨_, rfl⟩
    by_cases hlt : n < f.jobs.length
    ·have hni : (n : Int) < (f.jobs.length : Int) := by omega
     obtain ⟨g1, cs, rfl, lg0, ⟨u2, u3, u4, rfl, hrows⟩, hcell⟩ := lst_at HI1.out JbEl.len n hlt
     have hxw := HF.out.jobs _ (List.getElem_mem hlt)
     have hstep := take_flat jobT f.jobs n hlt
     generalize f.jobs[n] = x at *
     obtain ⟨A2', c2', rfl, -⟩ := own_form hrows.o2
     obtain ⟨A3', c3', rfl, -⟩ := own_form hrows.o3
     obtain ⟨A4', c4', rfl, -⟩ := own_form hrows.o4
     have x0 := HK.out.cell_of (HKW.out.cell_of (hcell 0 (.int .i64 x.at_) rfl) (by simp)) (by simp)
     have x1 := HK.out.cell_of (HKW.out.cell_of (hcell 1 (.int .i64 x.code) rfl) (by simp)) (by simp)
     have x2 := HK.out.cell_of (HKW.out.cell_of (hcell 2 (.slice A2' x.outs.length c2') rfl) (by simp)) (by simp)
     have x3 := HK.out.cell_of (HKW.out.cell_of (hcell 3 (.slice A3' x.ins.length c3') rfl) (by simp)) (by simp)
     have x4 := HK.out.cell_of (HKW.out.cell_of (hcell 4 (.slice A4' x.cols.length c4') rfl) (by simp)) (by simp)
     have x5 := HK.out.cell_of (HKW.out.cell_of (hcell 5 (.string (bs x.op)) rfl) (by simp)) (by simp)
     have x6 := HK.out.cell_of (HKW.out.cell_of (hcell 6 (.string (bs x.left.col)) rfl) (by simp)) (by simp)
     have x7 := HK.out.cell_of (HKW.out.cell_of (hcell 7 (.int .i64 x.left.val.kind) rfl) (by simp)) (by simp)
     have x8 := HK.out.cell_of (HKW.out.cell_of (hcell 8 (.int .i64 x.left.val.num) rfl) (by simp)) (by simp)
     have x9 := HK.out.cell_of (HKW.out.cell_of (hcell 9 (.string (bs x.left.val.word)) rfl) (by simp)) (by simp)
     have x10 := HK.out.cell_of (HKW.out.cell_of (hcell 10 (.string (bs x.right.col)) rfl) (by simp)) (by simp)
     have x11 := HK.out.cell_of (HKW.out.cell_of (hcell 11 (.int .i64 x.right.val.kind) rfl) (by simp)) (by simp)
     have x12 := HK.out.cell_of (HKW.out.cell_of (hcell 12 (.int .i64 x.right.val.num) rfl) (by simp)) (by simp)
     have x13 := HK.out.cell_of (HKW.out.cell_of (hcell 13 (.string (bs x.right.val.word)) rfl) (by simp)) (by simp)
     have x14 := HK.out.cell_of (HKW.out.cell_of (hcell 14 (.int .i64 x.retry) rfl) (by simp)) (by simp)
     rw [Nat.add_zero] at x0
     have lg : g1 < y.heap.size := World.block_lt_of_cell? _ _ x0
     have HXW := Lib.hid hxw
     have HST := Lib.hid hstep
     have HRO := Lib.hid hrows
     have HLN : Hid ((f.ins.flatMap inT ++ (f.jobs.take n).flatMap jobT).length ≤ 1000000) := Lib.hid (by
      have h1 := HT0.out f.ins.length
      have h2 := HT1.out n
      rw [List.take_of_length_le (Nat.le_refl _)] at h1
      rw [List.length_append]
      omega)
     have HLT : Hid ((jobT x).length ≤ 25000) := Lib.hid (jobT_len x hxw)
     clear hcell hrows hstep hxw lg0
     go_upto_region 16 with (fail)
     have hxb := Blk.new y 45 #[.int .i64 x.at_, .int .i64 x.code, .slice A2' x.outs.length c2', .slice A3' x.ins.length c3', .slice A4' x.cols.length c4', .string (bs x.op), .string (bs x.left.col), .int .i64 x.left.val.kind, .int .i64 x.left.val.num, .string (bs x.left.val.word), .string (bs x.right.col), .int .i64 x.right.val.kind, .int .i64 x.right.val.num, .string (bs x.right.val.word), .int .i64 x.retry]
     have hk3 := (Keeps.refl [] y).alloc (.cells #[.int .i64 x.at_, .int .i64 x.code, .slice A2' x.outs.length c2', .slice A3' x.ins.length c3', .slice A4' x.cols.length c4', .string (bs x.op), .string (bs x.left.col), .int .i64 x.left.val.kind, .int .i64 x.left.val.num, .string (bs x.left.val.word), .string (bs x.right.col), .int .i64 x.right.val.kind, .int .i64 x.right.val.num, .string (bs x.right.val.word), .int .i64 x.retry] 45)
     obtain ⟨y1, hy1⟩ : ∃ z, y.alloc (.cells #[.int .i64 x.at_, .int .i64 x.code, .slice A2' x.outs.length c2', .slice A3' x.ins.length c3', .slice A4' x.cols.length c4', .string (bs x.op), .string (bs x.left.col), .int .i64 x.left.val.kind, .int .i64 x.left.val.num, .string (bs x.left.val.word), .string (bs x.right.col), .int .i64 x.right.val.kind, .int .i64 x.right.val.num, .string (bs x.right.val.word), .int .i64 x.retry] 45) = z := ⟨_, rfl⟩
     rw [hy1] at hxb hk3 ⊢
     obtain ⟨xb, hxbn⟩ : ∃ z, y.heap.size = z := ⟨_, rfl⟩
     rw [hxbn] at hxb ⊢
     have HXB := Lib.hid hxb
     have hbl := HBL.out.keep hk3
     have hkz := HK.out.trans hk3
     clear HBL HK
     have HBL := Lib.hid hbl
     have HK := Lib.hid hkz
     obtain ⟨JT, hJT⟩ : ∃ t, joinCm x.outs = t := ⟨_, rfl⟩
     obtain ⟨TX, hTX⟩ : ∃ t, textJ x = t := ⟨_, rfl⟩
     have hjl : JT.length ≤ 12000 := by rw [← hJT]; exact names_len HXW.out.outs
     have htl : TX.length ≤ 12100 := by rw [← hTX]; exact textJ_len x HXW.out
     have HJT := Lib.hid hJT
     have HTX := Lib.hid hTX
     have HKB := Lib.hid (HKW.out.trans hkz)
     have HJ : Hid (∀ W, Keeps [] y1 W → Calls Tryz.prog 42 #[.slice A2' x.outs.length c2', .string (bs [44, 32])] W fun e w' => e = .returned (.string (bs JT)) ∧ Keeps [] W w') := Lib.hid (fun W hk => by
      have h := joinS_any x.outs HXW.out.outs.1 (by have := HXW.out.outs.2.1; omega) (by rw [hJT]; omega) A2' c2' W base (own_keep HRO.out.o2 (HKB.out.trans hk) (fun _ _ hm => by cases hm))
      rw [hJT] at h
      exact h)
     have HTE : Hid (∀ W, Keeps [] y1 W → Calls Tryz.prog 10 #[.agg #[.int .i64 x.at_, .int .i64 x.code, .slice A2' x.outs.length c2', .slice A3' x.ins.length c3', .slice A4' x.cols.length c4', .string (bs x.op), .string (bs x.left.col), .int .i64 x.left.val.kind, .int .i64 x.left.val.num, .string (bs x.left.val.word), .string (bs x.right.col), .int .i64 x.right.val.kind, .int .i64 x.right.val.num, .string (bs x.right.val.word), .int .i64 x.retry]] W fun e w' => e = .returned (.string (bs TX)) ∧ Keeps [] W w') := Lib.hid (fun W hk => by
      have hq := HKB.out.trans hk
      have h := text_any x HXW.out base (.slice A2' x.outs.length c2') (.slice A3' x.ins.length c3') (.slice A4' x.cols.length c4') W (HE.out.quiet hq) ⟨own_keep HRO.out.o2 hq (fun _ _ hm => by cases hm), own_keep HRO.out.o3 hq (fun _ _ hm => by cases hm), own_keep HRO.out.o4 hq (fun _ _ hm => by cases hm)⟩
      rw [hTX] at h
      exact h)
     have HWS : Hid (∀ (T : Bs) (W : World), T = jobT x → Keeps [] y1 W → Calls Tryz.prog 45 #[.pointer (some ⟨bb, 0, none⟩), .string (bs T)] W fun e w' => (∃ n, e = .returned (.tuple #[.int .i64 n, .nilIface])) ∧ Bld w' bb bb ((f.ins.flatMap inT ++ (f.jobs.take n).flatMap jobT) ++ jobT x) ∧ Keeps [] W1 w') := Lib.hid (fun T W hT hk => by
      subst hT
      refine (writeString_any (HBL.out.keep hk) _ (by have := HLN.out; omega) (by have := HLT.out; omega) (by have h1 := (HK.out.trans hk).size; have := HB1.out; omega)).mono (fun e w' h => ⟨⟨_, h.1⟩, h.2.1, ?_⟩)
      have hb := h.2.2.1
      rw [HB1.out] at hb
      exact (HK.out.trans hk).under hb)
     have q0 : y1.cell? ⟨xb, 0, none⟩ = some (.int .i64 x.at_) := hxb.cell 0
     have q1 : y1.cell? ⟨xb, 1, none⟩ = some (.int .i64 x.code) := hxb.cell 1
     have q2 : y1.cell? ⟨xb, 2, none⟩ = some (.slice A2' x.outs.length c2') := hxb.cell 2
     have q3 : y1.cell? ⟨xb, 3, none⟩ = some (.slice A3' x.ins.length c3') := hxb.cell 3
     have q4 : y1.cell? ⟨xb, 4, none⟩ = some (.slice A4' x.cols.length c4') := hxb.cell 4
     have q5 : y1.cell? ⟨xb, 5, none⟩ = some (.string (bs x.op)) := hxb.cell 5
     have q6 : y1.cell? ⟨xb, 6, none⟩ = some (.string (bs x.left.col)) := hxb.cell 6
     have q7 : y1.cell? ⟨xb, 7, none⟩ = some (.int .i64 x.left.val.kind) := hxb.cell 7
     have q8 : y1.cell? ⟨xb, 8, none⟩ = some (.int .i64 x.left.val.num) := hxb.cell 8
     have q9 : y1.cell? ⟨xb, 9, none⟩ = some (.string (bs x.left.val.word)) := hxb.cell 9
     have q10 : y1.cell? ⟨xb, 10, none⟩ = some (.string (bs x.right.col)) := hxb.cell 10
     have q11 : y1.cell? ⟨xb, 11, none⟩ = some (.int .i64 x.right.val.kind) := hxb.cell 11
     have q12 : y1.cell? ⟨xb, 12, none⟩ = some (.int .i64 x.right.val.num) := hxb.cell 12
     have q13 : y1.cell? ⟨xb, 13, none⟩ = some (.string (bs x.right.val.word)) := hxb.cell 13
     have q14 : y1.cell? ⟨xb, 14, none⟩ = some (.int .i64 x.retry) := hxb.cell 14
     have lx := hxb.lt
     have HQ := Lib.hid (fun (W : World) (hk : Keeps [] y1 W) => HXB.out.keep hk (by simp))
     have hrr := HXW.out.hi
     have hrl := HXW.out.lo
     clear hxb hk3 hy1 hxbn hbl hkz hJT hTX x0 x1 x2 x3 x4 x5 x6 x7 x8 x9 x10 x11 x12 x13 x14 lg
     have s1 : ¬ 9223372036854775807 < 4 + JT.length := by omega
     go_wp2_with fail
     refine (HJ.out _ (Keeps.refl _ _)).mono ?_
     rintro e y2 ⟨rfl, hk2⟩
     clear q0 q1 q2 q3 q4 q5 q6 q7 q8 q9 q10 q11 q12 q13 q14 lx
     have q0 : y2.cell? ⟨xb, 0, none⟩ = some (.int .i64 x.at_) := (HQ.out _ hk2).cell 0
     have q1 : y2.cell? ⟨xb, 1, none⟩ = some (.int .i64 x.code) := (HQ.out _ hk2).cell 1
     have q2 : y2.cell? ⟨xb, 2, none⟩ = some (.slice A2' x.outs.length c2') := (HQ.out _ hk2).cell 2
     have q3 : y2.cell? ⟨xb, 3, none⟩ = some (.slice A3' x.ins.length c3') := (HQ.out _ hk2).cell 3
     have q4 : y2.cell? ⟨xb, 4, none⟩ = some (.slice A4' x.cols.length c4') := (HQ.out _ hk2).cell 4
     have q5 : y2.cell? ⟨xb, 5, none⟩ = some (.string (bs x.op)) := (HQ.out _ hk2).cell 5
     have q6 : y2.cell? ⟨xb, 6, none⟩ = some (.string (bs x.left.col)) := (HQ.out _ hk2).cell 6
     have q7 : y2.cell? ⟨xb, 7, none⟩ = some (.int .i64 x.left.val.kind) := (HQ.out _ hk2).cell 7
     have q8 : y2.cell? ⟨xb, 8, none⟩ = some (.int .i64 x.left.val.num) := (HQ.out _ hk2).cell 8
     have q9 : y2.cell? ⟨xb, 9, none⟩ = some (.string (bs x.left.val.word)) := (HQ.out _ hk2).cell 9
     have q10 : y2.cell? ⟨xb, 10, none⟩ = some (.string (bs x.right.col)) := (HQ.out _ hk2).cell 10
     have q11 : y2.cell? ⟨xb, 11, none⟩ = some (.int .i64 x.right.val.kind) := (HQ.out _ hk2).cell 11
     have q12 : y2.cell? ⟨xb, 12, none⟩ = some (.int .i64 x.right.val.num) := (HQ.out _ hk2).cell 12
     have q13 : y2.cell? ⟨xb, 13, none⟩ = some (.string (bs x.right.val.word)) := (HQ.out _ hk2).cell 13
     have q14 : y2.cell? ⟨xb, 14, none⟩ = some (.int .i64 x.retry) := (HQ.out _ hk2).cell 14
     have lx := (HQ.out _ hk2).lt
     have HK2 := Lib.hid hk2
     clear hk2
     by_cases hre : 0 < x.retry
     ·have HRE := Lib.hid hre
      obtain ⟨IT, hIT⟩ : ∃ t, Lib.itoa x.retry = t := ⟨_, rfl⟩
      have hil : IT.length ≤ 21 := by rw [← hIT]; exact itoa_len (by omega) (by omega)
      have HIT := Lib.hid hIT
      have HI : Hid (∀ W, Keeps [] y1 W → Calls Tryz.prog 46 #[.int .i64 x.retry] W fun e w' => e = .returned (.string (bs IT)) ∧ Keeps [] W w') := Lib.hid (fun W hk => by
       refine (Tryz.strconv_Itoa x.retry (by omega) (by omega) W (tabIs_quiet HE.out.p10 (HKB.out.trans hk))).mono ?_
       rintro e w' ⟨rfl, k2, os, rfl⟩
       exact ⟨by rw [← hIT]; rfl, ((Keeps.refl _ _).drewN _).trans (keeps_grow _ _)⟩)
      clear hIT
      go_wp2_with fail
      refine (HI.out _ HK2.out).mono ?_
      rintro e y3 ⟨rfl, hk3⟩
      clear q0 q1 q2 q3 q4 q5 q6 q7 q8 q9 q10 q11 q12 q13 q14 lx
      have HK3 := Lib.hid (HK2.out.trans hk3)
      have q0 : y3.cell? ⟨xb, 0, none⟩ = some (.int .i64 x.at_) := (HQ.out _ HK3.out).cell 0
      have q1 : y3.cell? ⟨xb, 1, none⟩ = some (.int .i64 x.code) := (HQ.out _ HK3.out).cell 1
      have q2 : y3.cell? ⟨xb, 2, none⟩ = some (.slice A2' x.outs.length c2') := (HQ.out _ HK3.out).cell 2
      have q3 : y3.cell? ⟨xb, 3, none⟩ = some (.slice A3' x.ins.length c3') := (HQ.out _ HK3.out).cell 3
      have q4 : y3.cell? ⟨xb, 4, none⟩ = some (.slice A4' x.cols.length c4') := (HQ.out _ HK3.out).cell 4
      have q5 : y3.cell? ⟨xb, 5, none⟩ = some (.string (bs x.op)) := (HQ.out _ HK3.out).cell 5
      have q6 : y3.cell? ⟨xb, 6, none⟩ = some (.string (bs x.left.col)) := (HQ.out _ HK3.out).cell 6
      have q7 : y3.cell? ⟨xb, 7, none⟩ = some (.int .i64 x.left.val.kind) := (HQ.out _ HK3.out).cell 7
      have q8 : y3.cell? ⟨xb, 8, none⟩ = some (.int .i64 x.left.val.num) := (HQ.out _ HK3.out).cell 8
      have q9 : y3.cell? ⟨xb, 9, none⟩ = some (.string (bs x.left.val.word)) := (HQ.out _ HK3.out).cell 9
      have q10 : y3.cell? ⟨xb, 10, none⟩ = some (.string (bs x.right.col)) := (HQ.out _ HK3.out).cell 10
      have q11 : y3.cell? ⟨xb, 11, none⟩ = some (.int .i64 x.right.val.kind) := (HQ.out _ HK3.out).cell 11
      have q12 : y3.cell? ⟨xb, 12, none⟩ = some (.int .i64 x.right.val.num) := (HQ.out _ HK3.out).cell 12
      have q13 : y3.cell? ⟨xb, 13, none⟩ = some (.string (bs x.right.val.word)) := (HQ.out _ HK3.out).cell 13
      have q14 : y3.cell? ⟨xb, 14, none⟩ = some (.int .i64 x.retry) := (HQ.out _ HK3.out).cell 14
      have lx := (HQ.out _ HK3.out).lt
      have s2 : ¬ 9223372036854775807 < 7 + IT.length := by omega
      go_wp2_with fail
      refine (HTE.out _ HK3.out).mono ?_
      rintro e y4 ⟨rfl, hk4⟩
      have HKZ := Lib.hid (HK3.out.trans hk4)
      go_wp2_with fail
      refine (HWS.out _ _ (by simp [jobT, HJT.out, HTX.out, HRE.out, HIT.out]) HKZ.out).mono ?_
      rintro e w7 ⟨⟨nw, rfl⟩, hbl7, hk7⟩
      have HBL7 : Hid (Bld w7 bb bb (f.ins.flatMap inT ++ (f.jobs.take (n + 1)).flatMap jobT)) := Lib.hid (by rw [HST.out, ← List.append_assoc]; exact hbl7)
      have HK7 := Lib.hid hk7
      clear hbl7 hk7
      go_wp2
      go_roundw
      case rel => exact ⟨n + 1, by omega, by go_num, HBL7, HK7⟩
      case measure => simp [intOf]; omega
     ·have HRE := Lib.hid hre
      go_wp2_with fail
      refine (HTE.out _ HK2.out).mono ?_
      rintro e y3 ⟨rfl, hk3⟩
      have HKZ := Lib.hid (HK2.out.trans hk3)
      go_wp2_with fail
      refine (HWS.out _ _ (by simp [jobT, HJT.out, HTX.out, HRE.out]) HKZ.out).mono ?_
      rintro e w7 ⟨⟨nw, rfl⟩, hbl7, hk7⟩
      have HBL7 : Hid (Bld w7 bb bb (f.ins.flatMap inT ++ (f.jobs.take (n + 1)).flatMap jobT)) := Lib.hid (by rw [HST.out, ← List.append_assoc]; exact hbl7)
      have HK7 := Lib.hid hk7
      clear hbl7 hk7
      go_wp2
      go_roundw
      case rel => exact ⟨n + 1, by omega, by go_num, HBL7, HK7⟩
      case measure => simp [intOf]; omega
    ·have hni : ¬ (n : Int) < (f.jobs.length : Int) := by omega
     obtain rfl : n = f.jobs.length := by omega
     rw [List.take_of_length_le (Nat.le_refl _)] at HBL
     go_wp2
     go_meet
     exact ⟨HBL, HK⟩
  case rest =>
   clear HBL HK f1 lf
   obtain ⟨HBL, HK⟩ := hcut
   obtain ⟨y0z, rfl⟩ : ∃ y : World, y = wc := ⟨_, rfl⟩
   have f2 : y0z.cell? ⟨fb, 2, none⟩ = some (.slice A2 f.outs.length c2) := (HFB.out.keep HK.out (by simp)).cell 2
   have lf := (HFB.out.keep HK.out (by simp)).lt
   go_upto_block 6 with (fail)
   go_cut [] (fun wx => Hid (Bld wx bb bb (f.ins.flatMap inT ++ f.jobs.flatMap jobT ++ f.outs.flatMap outT)) ∧ Hid (Keeps [] W1 wx))
   case first =>
    go_wp2_with fail
    go_loopw [81] (fun i wx => ∃ n : Nat, n ≤ f.outs.length ∧ i = .int .i64 n ∧ Hid (Bld wx bb bb (f.ins.flatMap inT ++ f.jobs.flatMap jobT ++ (f.outs.take n).flatMap outT)) ∧ Hid (Keeps [] W1 wx)) (fun i _ => f.outs.length - (intOf i).toNat)
    case atStart => exact ⟨0, Nat.zero_le _, rfl, Lib.hid (by rw [List.take_zero, List.flatMap_nil, List.append_nil]; exact HBL.out), HK⟩
    case round =>
     clear HBL HK f2 lf
     obtain ⟨n, hn, rfl, HBL, HK⟩ := hrel
     obtain ⟨y, rfl⟩ : ∃ y : World, y = wr := ⟨_, rfl⟩
     by_cases hlt : n < f.outs.length
     ·have hni : (n : Int) < (f.outs.length : Int) := by omega
      obtain ⟨g2, cs, rfl, lg0, hcs, hcell⟩ := lst_at HI2.out PbEl.len n hlt
      have hxw := HF.out.outs _ (List.getElem_mem hlt)
      have hstep := take_flat outT f.outs n hlt
      generalize f.outs[n] = x at *
      unfold PbEl at hcs
      subst hcs
      have x0 := HK.out.cell_of (HKW.out.cell_of (hcell 0 (.int .i64 x.at_) rfl) (by simp)) (by simp)
      have x1 := HK.out.cell_of (HKW.out.cell_of (hcell 1 (.string (bs x.name)) rfl) (by simp)) (by simp)
      have x2 := HK.out.cell_of (HKW.out.cell_of (hcell 2 (.string (bs x.src)) rfl) (by simp)) (by simp)
      rw [Nat.add_zero] at x0
      have lg : g2 < y.heap.size := World.block_lt_of_cell? _ _ x0
      have HST := Lib.hid hstep
      have HLN : Hid ((f.ins.flatMap inT ++ f.jobs.flatMap jobT ++ (f.outs.take n).flatMap outT).length ≤ 2000000) := Lib.hid (by
       have h1 := HT0.out f.ins.length
       have h2 := HT1.out f.jobs.length
       have h3 := HT2.out n
       rw [List.take_of_length_le (Nat.le_refl _)] at h1 h2
       simp only [List.length_append]
       omega)
      have HLT : Hid ((outT x).length ≤ 40) := Lib.hid (outT_len hxw)
      have hn1' := hxw.name.len
      have hn2' := hxw.src.len
      clear hcell hstep hxw lg0
      go_upto_region 24 with (fail)
      have hxb := Blk.new y 83 #[.int .i64 x.at_, .string (bs x.name), .string (bs x.src)]
      have hk3 := (Keeps.refl [] y).alloc (.cells #[.int .i64 x.at_, .string (bs x.name), .string (bs x.src)] 83)
      obtain ⟨y1, hy1⟩ : ∃ z, y.alloc (.cells #[.int .i64 x.at_, .string (bs x.name), .string (bs x.src)] 83) = z := ⟨_, rfl⟩
      rw [hy1] at hxb hk3 ⊢
      obtain ⟨xb, hxbn⟩ : ∃ z, y.heap.size = z := ⟨_, rfl⟩
      rw [hxbn] at hxb ⊢
      have hbl := HBL.out.keep hk3
      have hkz := HK.out.trans hk3
      clear HBL HK
      have HBL := Lib.hid hbl
      have HK := Lib.hid hkz
      have HWS : Hid (∀ (T : Bs) (W : World), T = outT x → Keeps [] y1 W → Calls Tryz.prog 45 #[.pointer (some ⟨bb, 0, none⟩), .string (bs T)] W fun e w' => (∃ n, e = .returned (.tuple #[.int .i64 n, .nilIface])) ∧ Bld w' bb bb ((f.ins.flatMap inT ++ f.jobs.flatMap jobT ++ (f.outs.take n).flatMap outT) ++ outT x) ∧ Keeps [] W1 w') := Lib.hid (fun T W hT hk => by
       subst hT
       refine (writeString_any (HBL.out.keep hk) _ (by have := HLN.out; omega) (by have := HLT.out; omega) (by have h1 := (HK.out.trans hk).size; have := HB1.out; omega)).mono (fun e w' h => ⟨⟨_, h.1⟩, h.2.1, ?_⟩)
       have hb := h.2.2.1
       rw [HB1.out] at hb
       exact (HK.out.trans hk).under hb)
      have q0 : y1.cell? ⟨xb, 0, none⟩ = some (.int .i64 x.at_) := hxb.cell 0
      have q1 : y1.cell? ⟨xb, 1, none⟩ = some (.string (bs x.name)) := hxb.cell 1
      have q2 : y1.cell? ⟨xb, 2, none⟩ = some (.string (bs x.src)) := hxb.cell 2
      have lx := hxb.lt
      clear hxb hk3 hy1 hxbn hbl hkz x0 x1 x2 lg
      go_wp2_with fail
      refine (HWS.out _ _ (by simp [outT]) (Keeps.refl _ _)).mono ?_
      rintro e w7 ⟨⟨nw, rfl⟩, hbl7, hk7⟩
      have HBL7 : Hid (Bld w7 bb bb (f.ins.flatMap inT ++ f.jobs.flatMap jobT ++ (f.outs.take (n + 1)).flatMap outT)) := Lib.hid (by rw [HST.out, ← List.append_assoc]; exact hbl7)
      have HK7 := Lib.hid hk7
      clear hbl7 hk7
      go_wp2
      go_roundw
      case rel => exact ⟨n + 1, by omega, by go_num, HBL7, HK7⟩
      case measure => simp [intOf]; omega
     ·have hni : ¬ (n : Int) < (f.outs.length : Int) := by omega
      obtain rfl : n = f.outs.length := by omega
      rw [List.take_of_length_le (Nat.le_refl _)] at HBL
      go_wp2
      go_meet
      exact ⟨HBL, HK⟩
   case rest =>
    clear HBL HK f2 lf
    obtain ⟨HBL, HK⟩ := hcut
    obtain ⟨z, rfl⟩ : ∃ y : World, y = wc := ⟨_, rfl⟩
    have hst := Tryz.Builder_String_any bb bb (printF f) z HBL.out (by have := HB1.out; have := HK.out.size; omega)
    have HS := Lib.hid hst
    clear hst
    go_wp2_with fail
    refine HS.out.mono ?_
    rintro e w7 ⟨rfl, hb⟩
    rw [HB1.out] at hb
    have HK7 := Lib.hid (HKW.out.trans (HK.out.under hb))
    clear hb
    go_wp2
    go_ret
    exact ⟨rfl, HK7.out⟩
end Go.Proofs.YtnjjajanfedjiaaGreatDoor
namespace Go.Proofs.YtnjjajanfedjiaaGreatDoor
open Go.RowKit
theorem setCells_size (b : Nat) : ∀ (vs : List Value) (o : Nat) (w : World), (w.setCells b o vs).heap.size = w.heap.size
 | [], _, _ => rfl
 | v :: r, o, w => by
  rw [World.setCells, setCells_size b r (o + 1)]
  simp [World.setCell]
theorem setCells_other (b : Nat) : ∀ (vs : List Value) (o : Nat) (w : World) {i : Nat}, i ≠ b → (w.setCells b o vs).heap[i]? = w.heap[i]?
 | [], _, _, _, _ => rfl
 | v :: r, o, w, i, h => by
  rw [World.setCells, setCells_other b r (o + 1) _ h]
  exact Below.heap_setCell w ⟨b, o, none⟩ v i (fun e => h e)
theorem setCells_os (b : Nat) : ∀ (vs : List Value) (o : Nat) (w : World), (w.setCells b o vs).os = w.os ∧ (w.setCells b o vs).output = w.output
 | [], _, _ => ⟨rfl, rfl⟩
 | v :: r, o, w => by rw [World.setCells]; exact setCells_os b r (o + 1) _
theorem Keeps.setCells {L : List Nat} {a w : World} (h : Keeps L a w) {b : Nat} (hp : b ∈ L ∨ a.heap.size ≤ b) (o : Nat) (vs : List Value) : Keeps L a (w.setCells b o vs) :=
 ⟨(setCells_os b vs o w).1.trans h.os, (setCells_os b vs o w).2.trans h.output, by rw [setCells_size]; exact h.size, fun k hk hn => (setCells_other b vs o w (by
  rintro rfl
  rcases hp with hp | hp
  ·exact hn hp
  ·omega)).trans (h.block k hk hn)⟩
theorem there_alloc_new (W : World) (k n : Nat) (c : Array Value) (t : TypeId) (hk : k = W.heap.size) (hn : n ≤ c.size) : (W.alloc (.cells c t)).there k 0 n := fun j hj => by
 subst hk
 have hb := Blk.new W t c
 rw [Nat.zero_add]
 refine ⟨?_, hb.frozen j⟩
 rw [hb.cell j, Array.getElem?_eq_getElem (by omega)]
 rfl
theorem there_alloc (W : World) (k n : Nat) (o : Obj) (h : W.there k 0 n) : (W.alloc o).there k 0 n := fun j hj => by
 obtain ⟨h1, h2⟩ := h j hj
 obtain ⟨u, hu⟩ := Option.isSome_iff_exists.1 h1
 have hl := World.block_lt_of_cell? W _ hu
 have hb : (W.alloc o).heap[k]? = W.heap[k]? := Below.heap_alloc W o k hl
 exact ⟨by rw [World.cell?_of_block (w := W) hb]; exact h1, by rw [World.frozen?_of_block (w := W) hb]; exact h2⟩
theorem there_drew (W : World) (k n : Nat) (h : W.there k 0 n) : W.drew.there k 0 n := h
theorem Blk.new' (W : World) (k : Nat) (t : TypeId) (c : Array Value) (hk : k = W.heap.size) : Blk (W.alloc (.cells c t)) k t c := hk ▸ Blk.new W t c
theorem there_set (W : World) (k n b o : Nat) (vs : List Value) (h : W.there k 0 n) : (W.setCells b o vs).there k 0 n := World.there_setCells h b o vs
theorem setCells_blk {t : TypeId} {b : Nat} : ∀ (vs pre post : List Value) (w : World), Blk w b t (pre ++ post).toArray → vs.length = post.length → Blk (w.setCells b pre.length vs) b t (pre ++ vs).toArray
 | [], pre, post, w, h, hl => by
  have : post = [] := List.eq_nil_of_length_eq_zero hl.symm
  subst this
  exact h
 | v :: r, pre, [], w, h, hl => by simp at hl
 | v :: r, pre, p :: post, w, h, hl => by
  rw [World.setCells]
  have h1 := (h.set pre.length v).congr (cs' := ((pre ++ [v]) ++ post).toArray) (by simp)
  have := setCells_blk r (pre ++ [v]) post _ h1 (by simpa using hl)
  simpa using this
theorem Blk.setAll {w : World} {b : Nat} {t : TypeId} {c : Array Value} (h : Blk w b t c) (vs : List Value) (hl : vs.length = c.size) : Blk (w.setCells b 0 vs) b t vs.toArray := by
 have := setCells_blk vs [] c.toList w (by simpa using h) (by simpa using hl)
 simpa using this
theorem Blk.setFar {w : World} {b g : Nat} {t : TypeId} {c : Array Value} (h : Blk w g t c) (hn : g ≠ b) (o : Nat) (vs : List Value) : Blk (w.setCells b o vs) g t c := (setCells_other b vs o w hn).trans h
end Go.Proofs.YtnjjajanfedjiaaGreatDoor
