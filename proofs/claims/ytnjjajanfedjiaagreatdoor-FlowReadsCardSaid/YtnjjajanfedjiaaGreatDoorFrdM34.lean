/- The reference's text of a job that was read is the program's. The reference's text of a flow. What a text that is no flow is told: never nothing. No program in sight. -/
import Derived.Test.YtnjjajanfedjiaaGreatDoorFrdM33
import Derived.Test.YtnjjajanfedjiaaGreatDoorFrdM29
import Derived.Test.YtnjjajanfedjiaaGreatDoorFrdM30
import Derived.Test.YtnjjajanfedjiaaGreatDoorFrdM31
import Derived.Test.YtnjjajanfedjiaaGreatDoorFrdM2
set_option linter.unusedSimpArgs false
set_option linter.unusedVariables false
namespace Go.Proofs.YtnjjajanfedjiaaGreatDoor
open Go.RowKit
theorem rfV_of {v : Vl} (h : rvB v = true) : rfV v = valueL v := by
 unfold rfV valueL
 unfold rvB at h
 by_cases h1 : v.kind = 1
 ·rw [if_pos h1, if_neg (by omega)]
 ·rw [if_neg h1] at h ⊢
  by_cases h2 : v.kind = 2
  ·rw [if_pos h2]
  ·rw [if_neg h2] at h
   cases h
theorem rfArg_of {a : Ar} (h : ArgW a) : rfArg a = argT a := by
 unfold rfArg argT
 rcases h with ⟨hn, _⟩ | ⟨e, hv⟩
 ·rw [if_neg hn.ne, if_neg hn.ne]
 ·rw [if_pos e, if_pos e]
  exact rfV_of hv
theorem rfArg_len {a : Ar} (h : ArgZ a) : (rfArg a).length ≤ 21 := by
 rcases h with h | h
 ·rw [h]
  have : rfArg ⟨[], zV⟩ = Lib.itoa 0 := rfl
  rw [this]
  exact itoa_len (by decide) (by decide)
 ·rw [rfArg_of h]; exact argT_len (.inr h)
theorem rjtext_any (j : Jb) (hj : JobW j) (base : Nat) (v2 v3 v4 : Value) (w : World) (hE : FEnv w) (hR : REnv w) (h : JRows w base j v2 v3 v4) :
  Calls Tryz.prog 11 #[.agg (jbCells j v2 v3 v4)] w fun e w' => e = .returned (.string (bs (textJ j))) ∧ Keeps [] w w' := by
 obtain ⟨ho, hlo, hhi, hl, hr, hop, hb⟩ := hj
 obtain ⟨at_, code, outs, ins, cols, op, left, right, retry⟩ := j
 dsimp only at ho hlo hhi hl hr hop
 have t1 := rfArg_len hl
 have t2 := rfArg_len hr
 have t3 := argZ_col hl
 have key : ∀ (k : Nat) (hk : k < 9) (hc : code = (k : Int) + 1) (a0 : Bs) (h0 : ins[0]? = some a0) (l0 : a0.length ≤ 1000000) (lj : (joinCm cols).length ≤ 1000000) (lc : cols.length ≤ 1000000)
   (h46 : k = 4 ∨ k = 6 → ∃ a1, ins[1]? = some a1 ∧ a1.length ≤ 1000000) (h67 : k = 6 ∨ k = 7 → ∃ d0 d1, cols[0]? = some d0 ∧ cols[1]? = some d1 ∧ d0.length ≤ 1000000 ∧ d1.length ≤ 1000000)
   (ht : refWords.getD k [] ++ [32] ++ a0 ++ restT k ins cols op (mapR left.col op (joinCm cols) (rfArg left) (rfArg right) code) = textJ ⟨at_, code, outs, ins, cols, op, left, right, retry⟩),
   Calls Tryz.prog 11 #[.agg (jbCells ⟨at_, code, outs, ins, cols, op, left, right, retry⟩ v2 v3 v4)] w fun e w' => e = .returned (.string (bs (textJ ⟨at_, code, outs, ins, cols, op, left, right, retry⟩))) ∧ Keeps [] w w' := by
  intro k hk hc a0 h0 l0 lj lc h46 h67 ht
  rw [← ht]
  exact rjtext_k at_ k hk code hc outs ins cols op left right retry a0 h0 hl.arw hr.arw ⟨l0, by omega, by omega, by omega, by omega, lj⟩ lc h46 h67 base v2 v3 v4 w hE hR h
 rcases hb with ⟨e, a, b, c, d, ha, hb, hc, hd, e1, e2⟩ | ⟨e, a, b, ha, hb, e1, e2⟩ | ⟨e, a, ha, e1, e2⟩ | ⟨e, a, s, ha, hs, e1, e2, e3, e4, e5⟩ | ⟨e, a, c, ha, hc, e1, e2, e3, e4, e5⟩ | ⟨e, a, ha, e1, e2⟩ | ⟨e, a, c, d, ha, hc, hd, e1, e2, e3⟩
 ·dsimp only at e e1 e2
  subst e e1 e2
  have ja : (joinCm [c, d]).length ≤ 1000000 := by have := joinCm_len (l := [c, d]) (n := 10) (by simp [hc.len, hd.len]); simp at this; omega
  exact key 6 (by decide) rfl a rfl (by have := ha.len; omega) ja (by simp) (fun _ => ⟨b, rfl, by have := hb.len; omega⟩) (fun _ => ⟨c, d, rfl, rfl, by have := hc.len; omega, by have := hd.len; omega⟩) (by simp [restT, textJ, wordW, wordsL, refWords])
 ·dsimp only at e e1 e2
  subst e e1 e2
  exact key 4 (by decide) rfl a rfl (by have := ha.len; omega) (by decide) (by simp) (fun _ => ⟨b, rfl, by have := hb.len; omega⟩) (fun h => by omega) (by simp [restT, textJ, wordW, wordsL, refWords])
 ·dsimp only at e e1 e2
  subst e e1 e2
  exact key 5 (by decide) rfl a rfl (by have := ha.len; omega) (by decide) (by simp) (fun h => by omega) (fun h => by omega) (by simp [restT, textJ, wordW, wordsL, refWords, mapR])
 ·dsimp only at e e1 e2 e3 e5
  have ea := rfArg_of e5
  rcases e with e | e
  ·subst e e1 e2 e3
   exact key 0 (by decide) rfl a rfl (by have := ha.len; omega) (by decide) (by simp) (fun h => by omega) (fun h => by omega) (by rw [ea]; simp [restT, textJ, wordW, wordsL, refWords, mapR, xWhere])
  ·subst e e1 e2 e3
   exact key 8 (by decide) rfl a rfl (by have := ha.len; omega) (by decide) (by simp) (fun h => by omega) (fun h => by omega) (by rw [ea]; simp [restT, textJ, wordW, wordsL, refWords, mapR, xWhere])
 ·dsimp only at e e1 e2 e3 e5
  have ea := rfArg_of e5
  have eb := rfArg_of e3
  subst e e1 e2
  have ja : joinCm [c] = c := by simp [joinCm, Lib.join]
  exact key 1 (by decide) rfl a rfl (by have := ha.len; omega) (by rw [ja]; have := hc.len; omega) (by simp) (fun h => by omega) (fun h => by omega) (by rw [ea, eb, ja]; simp [restT, textJ, wordW, wordsL, refWords, mapR, xSet])
 ·have hn := names_len e2
  dsimp only at e e1 e2 hn
  have hcl := e2.2.1
  rcases e with e | e
  ·subst e e1
   exact key 2 (by decide) rfl a rfl (by have := ha.len; omega) (by omega) (by omega) (fun h => by omega) (fun h => by omega) (by simp [restT, textJ, wordW, wordsL, refWords, mapR, xBy])
  ·subst e e1
   exact key 3 (by decide) rfl a rfl (by have := ha.len; omega) (by omega) (by omega) (fun h => by omega) (fun h => by omega) (by simp [restT, textJ, wordW, wordsL, refWords, mapR, xBy])
 ·dsimp only at e e1 e2
  subst e e1 e2
  have ja : (joinCm [c, d]).length ≤ 1000000 := by have := joinCm_len (l := [c, d]) (n := 10) (by simp [hc.len, hd.len]); simp at this; omega
  exact key 7 (by decide) rfl a rfl (by have := ha.len; omega) ja (by simp) (fun h => by omega) (fun _ => ⟨c, d, rfl, rfl, by have := hc.len; omega, by have := hd.len; omega⟩) (by simp [restT, textJ, wordW, wordsL, refWords])
end Go.Proofs.YtnjjajanfedjiaaGreatDoor
namespace Go.Proofs.YtnjjajanfedjiaaGreatDoor
open Go.RowKit Go.BigFrame
attribute [local go_sem] bs_size bs_extract bs_append bs_toList bs_jl bs_jr KW.cell
theorem join_snoc (x : Bs) : ∀ (l : List Bs), joinCm (l ++ [x]) = if l = [] then x else joinCm l ++ [44, 32] ++ x
 | [] => by simp [joinCm, Lib.join]
 | [a] => by simp [joinCm, Lib.join]
 | a :: b :: l => by
  have ih := join_snoc x (b :: l)
  rw [if_neg (by simp)] at ih ⊢
  have e : ∀ (r : List Bs) (b : Bs), joinCm (a :: b :: r) = a ++ [44, 32] ++ joinCm (b :: r) := fun r b => by simp [joinCm, Lib.join]
  rw [List.cons_append, List.cons_append, e, e, ← List.cons_append, ih]
  simp
set_option maxRecDepth 100000 in
set_option maxHeartbeats 16000000 in
theorem ftext_any (f : Fl) (hf : FlW f) (base : Nat) (v0 v1 v2 : Value) (w : World) (hE : FEnv w) (hR : REnv w) (hi0 : InsIs w base v0 f.ins) (hi1 : JobsIs w base v1 f.jobs) (hi2 : OutsIs w base v2 f.outs) :
  Calls Tryz.prog 13 #[.agg #[v0, v1, v2]] w fun e w' => e = .returned (.string (bs (printF f))) ∧ Keeps [] w w' := by
 obtain ⟨A0, c0, rfl⟩ : ∃ A c, v0 = .slice A f.ins.length c := by obtain ⟨_, _, h, _⟩ := hi0; obtain ⟨A, c, h, _⟩ := own_form h; exact ⟨A, c, h⟩
 obtain ⟨A1, c1, rfl⟩ : ∃ A c, v1 = .slice A f.jobs.length c := by obtain ⟨_, _, h, _⟩ := hi1; obtain ⟨A, c, h, _⟩ := own_form h; exact ⟨A, c, h⟩
 obtain ⟨A2, c2, rfl⟩ : ∃ A c, v2 = .slice A f.outs.length c := by obtain ⟨_, _, h, _⟩ := hi2; obtain ⟨A, c, h, _⟩ := own_form h; exact ⟨A, c, h⟩
 have HI0 := Lib.hid hi0
 have HI1 := Lib.hid hi1
 have HI2 := Lib.hid hi2
 have HF := Lib.hid hf
 have HE := Lib.hid hE
 have HR := Lib.hid hR
 have hn0 := hf.nins
 have hn1 := hf.njobs
 have hn2 := hf.nouts
 have HT0 : Hid (∀ n, ((f.ins.take n).flatMap inT).length ≤ 400000) := Lib.hid fun n => by
  have h1 := flat_len inT 20000 (f.ins.take n) (fun x hx => inT_len (hf.ins x (List.mem_of_mem_take hx)))
  rw [List.length_take] at h1
  have : min n f.ins.length * 20000 ≤ 16 * 20000 := Nat.mul_le_mul_right _ (by omega)
  omega
 have HT1 : Hid (∀ n, ((f.jobs.take n).flatMap jobT).length ≤ 400000) := Lib.hid fun n => by
  have h1 := flat_len jobT 25000 (f.jobs.take n) (fun x hx => jobT_len x (hf.jobs x (List.mem_of_mem_take hx)))
  rw [List.length_take] at h1
  have : min n f.jobs.length * 25000 ≤ 16 * 25000 := Nat.mul_le_mul_right _ (by omega)
  omega
 have HT2 : Hid (∀ n, ((f.outs.take n).flatMap outT).length ≤ 400000) := Lib.hid fun n => by
  have h1 := flat_len outT 40 (f.outs.take n) (fun x hx => outT_len (hf.outs x (List.mem_of_mem_take hx)))
  rw [List.length_take] at h1
  have : min n f.outs.length * 40 ≤ 16 * 40 := Nat.mul_le_mul_right _ (by omega)
  omega
 clear hi0 hi1 hi2 hf hE hR
 go_enter Tryz.func13, Tryz.ntmps13
 go_upto_region 2 with (fail)
 obtain ⟨W1, hW1⟩ : ∃ x, w.alloc (.cells #[.slice A0 f.ins.length c0, .slice A1 f.jobs.length c1, .slice A2 f.outs.length c2] 26) = x := ⟨_, rfl⟩
 have hk1 : Keeps [] w W1 := by rw [← hW1]; exact (Keeps.refl _ _).alloc _
 have hfb : Blk W1 w.heap.size 26 #[.slice A0 f.ins.length c0, .slice A1 f.jobs.length c1, .slice A2 f.outs.length c2] := by rw [← hW1]; exact Blk.new _ _ _
 rw [hW1]
 obtain ⟨fb, hfbn⟩ : ∃ x, w.heap.size = x := ⟨_, rfl⟩
 rw [hfbn] at hfb ⊢
 have HFB := Lib.hid hfb
 have HKW := Lib.hid hk1
 have f0 : W1.cell? ⟨fb, 0, none⟩ = some (.slice A0 f.ins.length c0) := hfb.cell 0
 clear hk1 hfb hW1 hfbn
 go_upto_block 0 with (fail)
 go_cut [3] (fun o wx => o = .string (bs (f.ins.flatMap inT)) ∧ Hid (Keeps [] W1 wx))
 case first =>
  go_wp2_with fail
  go_loopw [3, 16] (fun o i wx => ∃ n : Nat, n ≤ f.ins.length ∧ i = .int .i64 n ∧ o = .string (bs ((f.ins.take n).flatMap inT)) ∧ Hid (Keeps [] W1 wx)) (fun _ i _ => f.ins.length - (intOf i).toNat)
  case atStart => exact ⟨0, Nat.zero_le _, rfl, rfl, Lib.hid (Keeps.refl _ _)⟩
  case round =>
   clear f0
   obtain ⟨n, hn, rfl, rfl, HK⟩ := hrel
   obtain ⟨y, rfl⟩ : ∃ y : World, y = wr := ⟨_, rfl⟩
   by_cases hlt : n < f.ins.length
   ·have hni : (n : Int) < (f.ins.length : Int) := by omega
    obtain ⟨g0, cs, rfl, lg0, ⟨vc, rfl, hov⟩, hcell⟩ := lst_at HI0.out InEl.len n hlt
    have hxw := HF.out.ins _ (List.getElem_mem hlt)
    have hstep := take_flat inT f.ins n hlt
    generalize f.ins[n] = x at *
    obtain ⟨Av, cv, rfl, -⟩ := own_form hov
    have x0 := HK.out.cell_of (HKW.out.cell_of (hcell 0 _ rfl) (by simp)) (by simp)
    have x1 := HK.out.cell_of (HKW.out.cell_of (hcell 1 _ rfl) (by simp)) (by simp)
    have x2 := HK.out.cell_of (HKW.out.cell_of (hcell 2 _ rfl) (by simp)) (by simp)
    rw [Nat.add_zero] at x0
    have lg : g0 < y.heap.size := World.block_lt_of_cell? _ _ x0
    have HXW := Lib.hid hxw
    have HST := Lib.hid hstep
    have HOV := Lib.hid hov
    have hln : ((f.ins.take n).flatMap inT).length ≤ 400000 := HT0.out n
    have hxl := hxw.len
    have hnl := hxw.name.len
    clear hcell hov hstep hxw lg0
    go_upto_region 5 with (fail)
    have hxb := Blk.new y 63 #[.int .i64 x.at_, .string (bs x.name), .slice Av x.cols.length cv]
    have hk3 := (Keeps.refl [] y).alloc (.cells #[.int .i64 x.at_, .string (bs x.name), .slice Av x.cols.length cv] 63)
    obtain ⟨y1, hy1⟩ : ∃ z, y.alloc (.cells #[.int .i64 x.at_, .string (bs x.name), .slice Av x.cols.length cv] 63) = z := ⟨_, rfl⟩
    rw [hy1] at hxb hk3 ⊢
    obtain ⟨xb, hxbn⟩ : ∃ z, y.heap.size = z := ⟨_, rfl⟩
    rw [hxbn] at hxb ⊢
    have HXB := Lib.hid hxb
    have HK3 := Lib.hid hk3
    have q1 : y1.cell? ⟨xb, 1, none⟩ = some (.string (bs x.name)) := hxb.cell 1
    have q2 : y1.cell? ⟨xb, 2, none⟩ = some (.slice Av x.cols.length cv) := hxb.cell 2
    clear hxb hk3 hy1 hxbn x0 x1 x2 lg
    go_upto_block 2 with (fail)
    go_cut [6] (fun v wx => v = .string (bs (joinCm (x.cols.map colT))) ∧ Hid (Keeps [] y1 wx))
    case first =>
     go_wp2_with fail
     go_loopw [6, 23] (fun v i wx => ∃ m : Nat, m ≤ x.cols.length ∧ i = .int .i64 m ∧ v = .string (bs (joinCm ((x.cols.take m).map colT))) ∧ Hid (Keeps [] y1 wx)) (fun _ i _ => x.cols.length - (intOf i).toNat)
     case atStart => exact ⟨0, Nat.zero_le _, rfl, rfl, Lib.hid (Keeps.refl _ _)⟩
     case round =>
      clear q1 q2
      obtain ⟨m, hm, rfl, rfl, HKm⟩ := hrel
      obtain ⟨z, rfl⟩ : ∃ z : World, z = wr := ⟨_, rfl⟩
      by_cases hml : m < x.cols.length
      ·have hmi : (m : Int) < (x.cols.length : Int) := by omega
       have hgv : ∃ gv, Av = some ⟨gv, 0, none⟩ ∧ ∀ j u, (csCells x.cols)[j]? = some u → z.cell? ⟨gv, j, none⟩ = some u := by
        obtain ⟨A', c', e, hx⟩ := own_form HOV.out
        injection e with e1 e2 e3
        subst e1
        obtain ⟨g, h1, _, h2⟩ := hx (by omega)
        exact ⟨g, h1, fun j u hu => (((HKW.out.trans HK.out).trans HK3.out).trans HKm.out).cell_of (h2 j u hu) (by simp)⟩
       obtain ⟨gv, rfl, hcell⟩ := hgv
       have d1 := hcell (m * 2) _ (csCells_at x.cols m hml).1
       have d2 := hcell (m * 2 + 1) _ (csCells_at x.cols m hml).2
       have hcw := HXW.out.cols _ (List.getElem_mem hml)
       have hst : joinCm ((x.cols.take (m + 1)).map colT) = if m = 0 then colT x.cols[m] else joinCm ((x.cols.take m).map colT) ++ [44, 32] ++ colT x.cols[m] := by
        rw [List.take_succ_eq_append_getElem hml, List.map_append, List.map_singleton, join_snoc]
        have hc : (List.map colT (List.take m x.cols) = []) = (m = 0) := by
         refine propext ⟨fun h => ?_, fun h => by rw [h]; rfl⟩
         rw [List.map_eq_nil_iff, List.take_eq_nil_iff] at h
         rcases h with h | h
         ·exact h
         ·rw [h] at hml
          simp at hml
        simp only [hc]
       have hjm : (joinCm ((x.cols.take m).map colT)).length ≤ 20000 := by
        have h1 := joinCm_len (l := (x.cols.take m).map colT) (n := 15) (fun s hs => by
         obtain ⟨c, hc, rfl⟩ := List.mem_map.1 hs
         exact colT_len (HXW.out.cols c (List.mem_of_mem_take hc)))
        rw [List.length_map, List.length_take] at h1
        have : min m x.cols.length * (15 + 2) ≤ 1000 * 17 := Nat.mul_le_mul_right _ (by omega)
        omega
       have hj0 : m = 0 → joinCm ((x.cols.take m).map colT) = [] := fun h => by rw [h]; rfl
       generalize x.cols[m] = c at *
       generalize joinCm ((x.cols.take m).map colT) = JM at *
       obtain ⟨nm, kd⟩ := c
       dsimp only at d1 d2 hcw
       have lgv : gv < z.heap.size := World.block_lt_of_cell? _ _ d1
       have hnl2 := hcw.1.len
       have HSTm := Lib.hid hst
       have HJ0 := Lib.hid hj0
       clear hcell hst hj0
       go_upto_region 9 with (fail)
       have hcb := Blk.new z 61 #[.string (bs nm), .int .i64 kd]
       have hk4 := (Keeps.refl [] z).alloc (.cells #[.string (bs nm), .int .i64 kd] 61)
       obtain ⟨z1, hz1'⟩ : ∃ u, z.alloc (.cells #[.string (bs nm), .int .i64 kd] 61) = u := ⟨_, rfl⟩
       rw [hz1'] at hcb hk4 ⊢
       obtain ⟨cb, hcbn⟩ : ∃ u, z.heap.size = u := ⟨_, rfl⟩
       rw [hcbn] at hcb ⊢
       have HK4 := Lib.hid (HKm.out.trans hk4)
       have e0 : z1.cell? ⟨cb, 0, none⟩ = some (.string (bs nm)) := hcb.cell 0
       have e1 : z1.cell? ⟨cb, 1, none⟩ = some (.int .i64 kd) := hcb.cell 1
       have lc := hcb.lt
       have hkk := hcw.2
       clear hcb hk4 hz1' hcbn d1 d2 hcw lgv HKm
       by_cases hm0 : m = 0
       ·have hmg : ¬ (0 : Int) < (m : Int) := by omega
        have hJE : JM = [] := HJ0.out hm0
        subst hJE
        rcases hkk with rfl | rfl
        ·have HSn : Hid (joinCm ((x.cols.take (m + 1)).map colT) = nm ++ [32, 105, 110, 116]) := Lib.hid (by
          rw [HSTm.out, if_pos hm0]
          simp [colT, kindW])
         have ix : ∀ w, (Instr.index 110 (.agg #[.string ⟨#[]⟩, .string ⟨#[32, 105, 110, 116]⟩, .string ⟨#[32, 116, 101, 120, 116]⟩]) (.int .i64 1)).run Tryz.prog w = .ok (.string (bs [32, 105, 110, 116])) w := fun _ => by kernel_rfl
         clear hm0 HSTm
         go_upto_region 11 with (fail)
         refine wp_region_keeps (by kernel_rfl) (by kernel_rfl) ?_
         repeat (go_big_quiet_step (fail))
         refine wpQuiet_nil ?_
         intro wx kx
         have HKn := Lib.hid (HK4.out.trans kx)
         go_wp2
         go_roundw
         case rel => exact ⟨m + 1, by omega, by go_num, by rw [HSn.out], HKn⟩
         case measure => simp [intOf]; omega
        ·have HSn : Hid (joinCm ((x.cols.take (m + 1)).map colT) = nm ++ [32, 116, 101, 120, 116]) := Lib.hid (by
          rw [HSTm.out, if_pos hm0]
          simp [colT, kindW])
         have ix : ∀ w, (Instr.index 110 (.agg #[.string ⟨#[]⟩, .string ⟨#[32, 105, 110, 116]⟩, .string ⟨#[32, 116, 101, 120, 116]⟩]) (.int .i64 2)).run Tryz.prog w = .ok (.string (bs [32, 116, 101, 120, 116])) w := fun _ => by kernel_rfl
         clear hm0 HSTm
         go_upto_region 11 with (fail)
         refine wp_region_keeps (by kernel_rfl) (by kernel_rfl) ?_
         repeat (go_big_quiet_step (fail))
         refine wpQuiet_nil ?_
         intro wx kx
         have HKn := Lib.hid (HK4.out.trans kx)
         go_wp2
         go_roundw
         case rel => exact ⟨m + 1, by omega, by go_num, by rw [HSn.out], HKn⟩
         case measure => simp [intOf]; omega
       ·have hmg : (0 : Int) < (m : Int) := by omega
        rcases hkk with rfl | rfl
        ·have HSn : Hid (joinCm ((x.cols.take (m + 1)).map colT) = (JM ++ [44, 32]) ++ (nm ++ [32, 105, 110, 116])) := Lib.hid (by
          rw [HSTm.out, if_neg hm0]
          simp [colT, kindW])
         have ix : ∀ w, (Instr.index 110 (.agg #[.string ⟨#[]⟩, .string ⟨#[32, 105, 110, 116]⟩, .string ⟨#[32, 116, 101, 120, 116]⟩]) (.int .i64 1)).run Tryz.prog w = .ok (.string (bs [32, 105, 110, 116])) w := fun _ => by kernel_rfl
         clear hm0 HSTm
         go_upto_region 11 with (fail)
         refine wp_region_keeps (by kernel_rfl) (by kernel_rfl) ?_
         repeat (go_big_quiet_step (fail))
         refine wpQuiet_nil ?_
         intro wx kx
         have HKn := Lib.hid (HK4.out.trans kx)
         go_wp2
         go_roundw
         case rel => exact ⟨m + 1, by omega, by go_num, by rw [HSn.out]; simp, HKn⟩
         case measure => simp [intOf]; omega
        ·have HSn : Hid (joinCm ((x.cols.take (m + 1)).map colT) = (JM ++ [44, 32]) ++ (nm ++ [32, 116, 101, 120, 116])) := Lib.hid (by
          rw [HSTm.out, if_neg hm0]
          simp [colT, kindW])
         have ix : ∀ w, (Instr.index 110 (.agg #[.string ⟨#[]⟩, .string ⟨#[32, 105, 110, 116]⟩, .string ⟨#[32, 116, 101, 120, 116]⟩]) (.int .i64 2)).run Tryz.prog w = .ok (.string (bs [32, 116, 101, 120, 116])) w := fun _ => by kernel_rfl
         clear hm0 HSTm
         go_upto_region 11 with (fail)
         refine wp_region_keeps (by kernel_rfl) (by kernel_rfl) ?_
         repeat (go_big_quiet_step (fail))
         refine wpQuiet_nil ?_
         intro wx kx
         have HKn := Lib.hid (HK4.out.trans kx)
         go_wp2
         go_roundw
         case rel => exact ⟨m + 1, by omega, by go_num, by rw [HSn.out]; simp, HKn⟩
         case measure => simp [intOf]; omega
      ·have hmi : ¬ (m : Int) < (x.cols.length : Int) := by omega
       obtain rfl : m = x.cols.length := by omega
       go_wp2
       go_meet
       exact ⟨rfl, HKm⟩
    case rest =>
     obtain ⟨rfl, HKx⟩ := hcut
     obtain ⟨z, rfl⟩ : ∃ z : World, z = wc := ⟨_, rfl⟩
     have HKZ := Lib.hid (HK.out.trans (HK3.out.trans HKx.out))
     obtain ⟨JT, hJT⟩ : ∃ t, joinCm (x.cols.map colT) = t := ⟨_, rfl⟩
     have hjl : JT.length ≤ 20000 := by
      have h1 := inT_len HXW.out
      unfold inT at h1
      rw [hJT] at h1
      simp only [List.length_append] at h1
      omega
     have q1 : z.cell? ⟨xb, 1, none⟩ = some (.string (bs x.name)) := (HXB.out.keep HKx.out (by simp)).cell 1
     have HXT : Hid ((f.ins.take (n + 1)).flatMap inT = (f.ins.take n).flatMap inT ++ (((([105, 110, 32] ++ x.name) ++ [58, 32]) ++ JT) ++ [59, 10])) := Lib.hid (by
      rw [HST.out, ← hJT]
      unfold inT
      rfl)
     rw [hJT]
     generalize (f.ins.take n).flatMap inT = OT at *
     clear hJT
     go_wp2
     go_roundw
     case rel => exact ⟨n + 1, by omega, by go_num, by rw [HXT.out]; simp, HKZ⟩
     case measure => simp [intOf]; omega
   ·have hni : ¬ (n : Int) < (f.ins.length : Int) := by omega
    obtain rfl : n = f.ins.length := by omega
    go_wp2
    go_meet
    exact ⟨rfl, HK⟩
 case rest =>
  clear f0
  obtain ⟨rfl, HK⟩ := hcut
  obtain ⟨y0, rfl⟩ : ∃ y : World, y = wc := ⟨_, rfl⟩
  have f1 : y0.cell? ⟨fb, 1, none⟩ = some (.slice A1 f.jobs.length c1) := (HFB.out.keep HK.out (by simp)).cell 1
  go_upto_block 4 with (fail)
  go_cut [3] (fun o wx => o = .string (bs (f.ins.flatMap inT ++ f.jobs.flatMap jobT)) ∧ Hid (Keeps [] W1 wx))
  case first =>
   go_wp2_with fail
   go_loopw [3, 55] (fun o i wx => ∃ n : Nat, n ≤ f.jobs.length ∧ i = .int .i64 n ∧ o = .string (bs (f.ins.flatMap inT ++ (f.jobs.take n).flatMap jobT)) ∧ Hid (Keeps [] W1 wx)) (fun _ i _ => f.jobs.length - (intOf i).toNat)
   case atStart => exact ⟨0, Nat.zero_le _, rfl, by simp, HK⟩
   case round =>
    clear HK f1
    obtain ⟨n, hn, rfl, rfl, HK⟩ := hrel
    obtain ⟨y, rfl⟩ : ∃ y : World, y = wr := ⟨_, rfl⟩
    by_cases hlt : n < f.jobs.length
    ·have hni : (n : Int) < (f.jobs.length : Int) := by omega
     obtain ⟨g1, cs, rfl, lg0, ⟨u2, u3, u4, rfl, hrows⟩, hcell⟩ := lst_at HI1.out JbEl.len n hlt
     have hxw := HF.out.jobs _ (List.getElem_mem hlt)
     have hstep := take_flat jobT f.jobs n hlt
     have hln : (f.ins.flatMap inT ++ (f.jobs.take n).flatMap jobT).length ≤ 1000000 := by
      have h1 := HT0.out f.ins.length
      have h2 := HT1.out n
      rw [List.take_of_length_le (Nat.le_refl _)] at h1
      rw [List.length_append]
      omega
     generalize f.jobs[n] = x at *
     obtain ⟨A2', c2', rfl, -⟩ := own_form hrows.o2
     obtain ⟨A3', c3', rfl, -⟩ := own_form hrows.o3
     obtain ⟨A4', c4', rfl, -⟩ := own_form hrows.o4
     have x0 := HK.out.cell_of (HKW.out.cell_of (hcell 0 (.int .i64 x.at_) rfl) (by simp)) (by simp)
     have x1 := HK.out.cell_of (HKW.out.cell_of (hcell 1 (.int .i64 x.code) rfl) (by simp)) (by simp)
     have x2 := HK.out.cell_of (HKW.out.cell_of (hcell 2 (.slice A2' x.outs.length c2') rfl) (by simp)) (by simp)
     have x3 := HK.out.cell_of (HKW.out.cell_of (hcell 3 (.slice A3' x.ins.length c3') rfl) (by simp)) (by simp)
     have x4 := HK.out.cell_of (HKW.out.cell_of (hcell 4 (.slice A4' x.cols.length c4') rfl) (by simp)) (by simp)
     have x5 := HK.out.cell_of (HKW.out.cell_of (hcell 5 (.string (bs x.op)) rfl) (by simp)) (by simp)
     have x6 := HK.out.cell_of (HKW.out.cell_of (hcell 6 (.string (bs x.left.col)) rfl) (by simp)) (by simp)
     have x7 := HK.out.cell_of (HKW.out.cell_of (hcell 7 (.int .i64 x.left.val.kind) rfl) (by simp)) (by simp)
     have x8 := HK.out.cell_of (HKW.out.cell_of (hcell 8 (.int .i64 x.left.val.num) rfl) (by simp)) (by simp)
     have x9 := HK.out.cell_of (HKW.out.cell_of (hcell 9 (.string (bs x.left.val.word)) rfl) (by simp)) (by simp)
     have x10 := HK.out.cell_of (HKW.out.cell_of (hcell 10 (.string (bs x.right.col)) rfl) (by simp)) (by simp)
     have x11 := HK.out.cell_of (HKW.out.cell_of (hcell 11 (.int .i64 x.right.val.kind) rfl) (by simp)) (by simp)
     have x12 := HK.out.cell_of (HKW.out.cell_of (hcell 12 (.int .i64 x.right.val.num) rfl) (by simp)) (by simp)
     have x13 := HK.out.cell_of (HKW.out.cell_of (hcell 13 (.string (bs x.right.val.word)) rfl) (by simp)) (by simp)
     have x14 := HK.out.cell_of (HKW.out.cell_of (hcell 14 (.int .i64 x.retry) rfl) (by simp)) (by simp)
     rw [Nat.add_zero] at x0
     have lg : g1 < y.heap.size := World.block_lt_of_cell? _ _ x0
     have HXW := Lib.hid hxw
     have HRO := Lib.hid hrows
     have HST : Hid (f.ins.flatMap inT ++ (f.jobs.take (n + 1)).flatMap jobT = f.ins.flatMap inT ++ (f.jobs.take n).flatMap jobT ++ jobT x) := Lib.hid (by rw [hstep, List.append_assoc])
     clear hcell hrows hstep hxw lg0
     go_upto_region 18 with (fail)
     have hxb := Blk.new y 45 #[.int .i64 x.at_, .int .i64 x.code, .slice A2' x.outs.length c2', .slice A3' x.ins.length c3', .slice A4' x.cols.length c4', .string (bs x.op), .string (bs x.left.col), .int .i64 x.left.val.kind, .int .i64 x.left.val.num, .string (bs x.left.val.word), .string (bs x.right.col), .int .i64 x.right.val.kind, .int .i64 x.right.val.num, .string (bs x.right.val.word), .int .i64 x.retry]
     have hk3 := (Keeps.refl [] y).alloc (.cells #[.int .i64 x.at_, .int .i64 x.code, .slice A2' x.outs.length c2', .slice A3' x.ins.length c3', .slice A4' x.cols.length c4', .string (bs x.op), .string (bs x.left.col), .int .i64 x.left.val.kind, .int .i64 x.left.val.num, .string (bs x.left.val.word), .string (bs x.right.col), .int .i64 x.right.val.kind, .int .i64 x.right.val.num, .string (bs x.right.val.word), .int .i64 x.retry] 45)
     obtain ⟨y1, hy1⟩ : ∃ z, y.alloc (.cells #[.int .i64 x.at_, .int .i64 x.code, .slice A2' x.outs.length c2', .slice A3' x.ins.length c3', .slice A4' x.cols.length c4', .string (bs x.op), .string (bs x.left.col), .int .i64 x.left.val.kind, .int .i64 x.left.val.num, .string (bs x.left.val.word), .string (bs x.right.col), .int .i64 x.right.val.kind, .int .i64 x.right.val.num, .string (bs x.right.val.word), .int .i64 x.retry] 45) = z := ⟨_, rfl⟩
     rw [hy1] at hxb hk3 ⊢
     obtain ⟨xb, hxbn⟩ : ∃ z, y.heap.size = z := ⟨_, rfl⟩
     rw [hxbn] at hxb ⊢
     have HXB := Lib.hid hxb
     have HKB0 := Lib.hid (HK.out.trans hk3)
     have HKB := Lib.hid (HKW.out.trans (HK.out.trans hk3))
     obtain ⟨JT, hJT⟩ : ∃ t, joinCm x.outs = t := ⟨_, rfl⟩
     obtain ⟨TX, hTX⟩ : ∃ t, textJ x = t := ⟨_, rfl⟩
     have hjl : JT.length ≤ 12000 := by rw [← hJT]; exact names_len HXW.out.outs
     have htl : TX.length ≤ 12100 := by rw [← hTX]; exact textJ_len x HXW.out
     have HJT := Lib.hid hJT
     have HTX := Lib.hid hTX
     have HJ : Hid (∀ W, Keeps [] y1 W → Calls Tryz.prog 42 #[.slice A2' x.outs.length c2', .string (bs [44, 32])] W fun e w' => e = .returned (.string (bs JT)) ∧ Keeps [] W w') := Lib.hid (fun W hk => by
      have h := join_any x.outs (by have := HXW.out.outs.2.1; omega) (by rw [hJT]; omega) A2' c2' W base (own_keep HRO.out.o2 (HKB.out.trans hk) (fun _ _ hm => by cases hm))
      rw [hJT] at h
      exact h)
     have HTE : Hid (∀ W, Keeps [] y1 W → Calls Tryz.prog 11 #[.agg #[.int .i64 x.at_, .int .i64 x.code, .slice A2' x.outs.length c2', .slice A3' x.ins.length c3', .slice A4' x.cols.length c4', .string (bs x.op), .string (bs x.left.col), .int .i64 x.left.val.kind, .int .i64 x.left.val.num, .string (bs x.left.val.word), .string (bs x.right.col), .int .i64 x.right.val.kind, .int .i64 x.right.val.num, .string (bs x.right.val.word), .int .i64 x.retry]] W fun e w' => e = .returned (.string (bs TX)) ∧ Keeps [] W w') := Lib.hid (fun W hk => by
      have hq := HKB.out.trans hk
      have h := rjtext_any x HXW.out base (.slice A2' x.outs.length c2') (.slice A3' x.ins.length c3') (.slice A4' x.cols.length c4') W (HE.out.quiet hq) (HR.out.quiet hq) ⟨own_keep HRO.out.o2 hq (fun _ _ hm => by cases hm), own_keep HRO.out.o3 hq (fun _ _ hm => by cases hm), own_keep HRO.out.o4 hq (fun _ _ hm => by cases hm)⟩
      rw [hTX] at h
      exact h)
     have q0 : y1.cell? ⟨xb, 0, none⟩ = some (.int .i64 x.at_) := hxb.cell 0
     have q1 : y1.cell? ⟨xb, 1, none⟩ = some (.int .i64 x.code) := hxb.cell 1
     have q2 : y1.cell? ⟨xb, 2, none⟩ = some (.slice A2' x.outs.length c2') := hxb.cell 2
     have q3 : y1.cell? ⟨xb, 3, none⟩ = some (.slice A3' x.ins.length c3') := hxb.cell 3
     have q4 : y1.cell? ⟨xb, 4, none⟩ = some (.slice A4' x.cols.length c4') := hxb.cell 4
     have q5 : y1.cell? ⟨xb, 5, none⟩ = some (.string (bs x.op)) := hxb.cell 5
     have q6 : y1.cell? ⟨xb, 6, none⟩ = some (.string (bs x.left.col)) := hxb.cell 6
     have q7 : y1.cell? ⟨xb, 7, none⟩ = some (.int .i64 x.left.val.kind) := hxb.cell 7
     have q8 : y1.cell? ⟨xb, 8, none⟩ = some (.int .i64 x.left.val.num) := hxb.cell 8
     have q9 : y1.cell? ⟨xb, 9, none⟩ = some (.string (bs x.left.val.word)) := hxb.cell 9
     have q10 : y1.cell? ⟨xb, 10, none⟩ = some (.string (bs x.right.col)) := hxb.cell 10
     have q11 : y1.cell? ⟨xb, 11, none⟩ = some (.int .i64 x.right.val.kind) := hxb.cell 11
     have q12 : y1.cell? ⟨xb, 12, none⟩ = some (.int .i64 x.right.val.num) := hxb.cell 12
     have q13 : y1.cell? ⟨xb, 13, none⟩ = some (.string (bs x.right.val.word)) := hxb.cell 13
     have q14 : y1.cell? ⟨xb, 14, none⟩ = some (.int .i64 x.retry) := hxb.cell 14
     have lx := hxb.lt
     have HQ := Lib.hid (fun (W : World) (hk : Keeps [] y1 W) => HXB.out.keep hk (by simp))
     have hrr := HXW.out.hi
     have hrl := HXW.out.lo
     obtain ⟨OT, hOT⟩ : ∃ t, f.ins.flatMap inT ++ (f.jobs.take n).flatMap jobT = t := ⟨_, rfl⟩
     rw [hOT] at hln HST ⊢
     clear hxb hk3 hy1 hxbn hJT hTX x0 x1 x2 x3 x4 x5 x6 x7 x8 x9 x10 x11 x12 x13 x14 lg hOT
     go_wp2_with fail
     refine (HJ.out _ (Keeps.refl _ _)).mono ?_
     rintro e y2 ⟨rfl, hk2⟩
     clear q0 q1 q2 q3 q4 q5 q6 q7 q8 q9 q10 q11 q12 q13 q14 lx
     have q0 : y2.cell? ⟨xb, 0, none⟩ = some (.int .i64 x.at_) := (HQ.out _ hk2).cell 0
     have q1 : y2.cell? ⟨xb, 1, none⟩ = some (.int .i64 x.code) := (HQ.out _ hk2).cell 1
     have q2 : y2.cell? ⟨xb, 2, none⟩ = some (.slice A2' x.outs.length c2') := (HQ.out _ hk2).cell 2
     have q3 : y2.cell? ⟨xb, 3, none⟩ = some (.slice A3' x.ins.length c3') := (HQ.out _ hk2).cell 3
     have q4 : y2.cell? ⟨xb, 4, none⟩ = some (.slice A4' x.cols.length c4') := (HQ.out _ hk2).cell 4
     have q5 : y2.cell? ⟨xb, 5, none⟩ = some (.string (bs x.op)) := (HQ.out _ hk2).cell 5
     have q6 : y2.cell? ⟨xb, 6, none⟩ = some (.string (bs x.left.col)) := (HQ.out _ hk2).cell 6
     have q7 : y2.cell? ⟨xb, 7, none⟩ = some (.int .i64 x.left.val.kind) := (HQ.out _ hk2).cell 7
     have q8 : y2.cell? ⟨xb, 8, none⟩ = some (.int .i64 x.left.val.num) := (HQ.out _ hk2).cell 8
     have q9 : y2.cell? ⟨xb, 9, none⟩ = some (.string (bs x.left.val.word)) := (HQ.out _ hk2).cell 9
     have q10 : y2.cell? ⟨xb, 10, none⟩ = some (.string (bs x.right.col)) := (HQ.out _ hk2).cell 10
     have q11 : y2.cell? ⟨xb, 11, none⟩ = some (.int .i64 x.right.val.kind) := (HQ.out _ hk2).cell 11
     have q12 : y2.cell? ⟨xb, 12, none⟩ = some (.int .i64 x.right.val.num) := (HQ.out _ hk2).cell 12
     have q13 : y2.cell? ⟨xb, 13, none⟩ = some (.string (bs x.right.val.word)) := (HQ.out _ hk2).cell 13
     have q14 : y2.cell? ⟨xb, 14, none⟩ = some (.int .i64 x.retry) := (HQ.out _ hk2).cell 14
     have lx := (HQ.out _ hk2).lt
     have HK2 := Lib.hid hk2
     clear hk2
     by_cases hre : x.retry = 0
     ·have hr0 : (x.retry == 0) = true := by rw [hre]; rfl
      have hr1 : (x.retry != 0) = false := by rw [hre]; rfl
      have HRT : Hid (jobT x = (([106, 111, 98, 32] ++ JT) ++ (([32, 61, 32] ++ TX) ++ [59, 10]))) := Lib.hid (by
       unfold jobT
       rw [if_neg (by omega), HJT.out, HTX.out]
       simp)
      clear hre
      go_wp2_with fail
      refine (HTE.out _ HK2.out).mono ?_
      rintro e y4 ⟨rfl, hk4⟩
      have HKZ := Lib.hid (HKB0.out.trans (HK2.out.trans hk4))
      clear q0 q1 q2 q3 q4 q5 q6 q7 q8 q9 q10 q11 q12 q13 q14 lx
      go_wp2
      go_roundw
      case rel => exact ⟨n + 1, by omega, by go_num, by rw [HST.out, HRT.out]; simp, HKZ⟩
      case measure => simp [intOf]; omega
     ·have hr0 : (x.retry == 0) = false := by rw [beq_eq_false_iff_ne]; exact hre
      have hr1 : (x.retry != 0) = true := by simp [hre]
      obtain ⟨IT, hIT⟩ : ∃ t, Lib.itoa x.retry = t := ⟨_, rfl⟩
      have hil : IT.length ≤ 21 := by rw [← hIT]; exact itoa_len (by omega) (by omega)
      have HRT : Hid (jobT x = ((([106, 111, 98, 32] ++ JT) ++ ([32, 114, 101, 116, 114, 121, 32] ++ IT)) ++ (([32, 61, 32] ++ TX) ++ [59, 10]))) := Lib.hid (by
       unfold jobT
       rw [if_pos (by omega), HJT.out, HTX.out, hIT]
       simp)
      have HI : Hid (∀ W, Keeps [] y1 W → Calls Tryz.prog 46 #[.int .i64 x.retry] W fun e w' => e = .returned (.string (bs IT)) ∧ Keeps [] W w') := Lib.hid (fun W hk => by
       refine (Tryz.strconv_Itoa x.retry (by omega) (by omega) W (tabIs_quiet HE.out.p10 (HKB.out.trans hk))).mono ?_
       rintro e w' ⟨rfl, k2, os, rfl⟩
       exact ⟨by rw [← hIT]; rfl, ((Keeps.refl _ _).drewN _).trans (keeps_grow _ _)⟩)
      clear hIT hre
      go_wp2_with fail
      refine (HI.out _ HK2.out).mono ?_
      rintro e y3 ⟨rfl, hk3⟩
      clear q0 q1 q2 q3 q4 q5 q6 q7 q8 q9 q10 q11 q12 q13 q14 lx
      have HK3 := Lib.hid (HK2.out.trans hk3)
      have q0 : y3.cell? ⟨xb, 0, none⟩ = some (.int .i64 x.at_) := (HQ.out _ HK3.out).cell 0
      have q1 : y3.cell? ⟨xb, 1, none⟩ = some (.int .i64 x.code) := (HQ.out _ HK3.out).cell 1
      have q2 : y3.cell? ⟨xb, 2, none⟩ = some (.slice A2' x.outs.length c2') := (HQ.out _ HK3.out).cell 2
      have q3 : y3.cell? ⟨xb, 3, none⟩ = some (.slice A3' x.ins.length c3') := (HQ.out _ HK3.out).cell 3
      have q4 : y3.cell? ⟨xb, 4, none⟩ = some (.slice A4' x.cols.length c4') := (HQ.out _ HK3.out).cell 4
      have q5 : y3.cell? ⟨xb, 5, none⟩ = some (.string (bs x.op)) := (HQ.out _ HK3.out).cell 5
      have q6 : y3.cell? ⟨xb, 6, none⟩ = some (.string (bs x.left.col)) := (HQ.out _ HK3.out).cell 6
      have q7 : y3.cell? ⟨xb, 7, none⟩ = some (.int .i64 x.left.val.kind) := (HQ.out _ HK3.out).cell 7
      have q8 : y3.cell? ⟨xb, 8, none⟩ = some (.int .i64 x.left.val.num) := (HQ.out _ HK3.out).cell 8
      have q9 : y3.cell? ⟨xb, 9, none⟩ = some (.string (bs x.left.val.word)) := (HQ.out _ HK3.out).cell 9
      have q10 : y3.cell? ⟨xb, 10, none⟩ = some (.string (bs x.right.col)) := (HQ.out _ HK3.out).cell 10
      have q11 : y3.cell? ⟨xb, 11, none⟩ = some (.int .i64 x.right.val.kind) := (HQ.out _ HK3.out).cell 11
      have q12 : y3.cell? ⟨xb, 12, none⟩ = some (.int .i64 x.right.val.num) := (HQ.out _ HK3.out).cell 12
      have q13 : y3.cell? ⟨xb, 13, none⟩ = some (.string (bs x.right.val.word)) := (HQ.out _ HK3.out).cell 13
      have q14 : y3.cell? ⟨xb, 14, none⟩ = some (.int .i64 x.retry) := (HQ.out _ HK3.out).cell 14
      have lx := (HQ.out _ HK3.out).lt
      go_wp2_with fail
      refine (HTE.out _ HK3.out).mono ?_
      rintro e y4 ⟨rfl, hk4⟩
      have HKZ := Lib.hid (HKB0.out.trans (HK3.out.trans hk4))
      clear q0 q1 q2 q3 q4 q5 q6 q7 q8 q9 q10 q11 q12 q13 q14 lx
      go_wp2
      go_roundw
      case rel => exact ⟨n + 1, by omega, by go_num, by rw [HST.out, HRT.out]; simp, HKZ⟩
      case measure => simp [intOf]; omega
    ·have hni : ¬ (n : Int) < (f.jobs.length : Int) := by omega
     obtain rfl : n = f.jobs.length := by omega
     go_wp2
     go_meet
     exact ⟨rfl, HK⟩
  case rest =>
   clear HK f1
   obtain ⟨rfl, HK⟩ := hcut
   obtain ⟨y0, rfl⟩ : ∃ y : World, y = wc := ⟨_, rfl⟩
   have f2 : y0.cell? ⟨fb, 2, none⟩ = some (.slice A2 f.outs.length c2) := (HFB.out.keep HK.out (by simp)).cell 2
   go_wp2_with fail
   go_loopw [3, 84] (fun o i wx => ∃ n : Nat, n ≤ f.outs.length ∧ i = .int .i64 n ∧ o = .string (bs (f.ins.flatMap inT ++ f.jobs.flatMap jobT ++ (f.outs.take n).flatMap outT)) ∧ Hid (Keeps [] W1 wx)) (fun _ i _ => f.outs.length - (intOf i).toNat)
   case atStart => exact ⟨0, Nat.zero_le _, rfl, by simp, HK⟩
   case round =>
    clear HK f2
    obtain ⟨n, hn, rfl, rfl, HK⟩ := hrel
    obtain ⟨y, rfl⟩ : ∃ y : World, y = wr := ⟨_, rfl⟩
    by_cases hlt : n < f.outs.length
    ·have hni : (n : Int) < (f.outs.length : Int) := by omega
     obtain ⟨g2, cs, rfl, lg0, rfl, hcell⟩ := lst_at HI2.out PbEl.len n hlt
     have hxw := HF.out.outs _ (List.getElem_mem hlt)
     have hstep := take_flat outT f.outs n hlt
     have hln : (f.ins.flatMap inT ++ f.jobs.flatMap jobT ++ (f.outs.take n).flatMap outT).length ≤ 2000000 := by
      have h1 := HT0.out f.ins.length
      have h2 := HT1.out f.jobs.length
      have h3 := HT2.out n
      rw [List.take_of_length_le (Nat.le_refl _)] at h1 h2
      rw [List.length_append, List.length_append]
      omega
     generalize f.outs[n] = x at *
     have x0 := HK.out.cell_of (HKW.out.cell_of (hcell 0 _ rfl) (by simp)) (by simp)
     have x1 := HK.out.cell_of (HKW.out.cell_of (hcell 1 _ rfl) (by simp)) (by simp)
     have x2 := HK.out.cell_of (HKW.out.cell_of (hcell 2 _ rfl) (by simp)) (by simp)
     rw [Nat.add_zero] at x0
     have lg : g2 < y.heap.size := World.block_lt_of_cell? _ _ x0
     have HST : Hid (f.ins.flatMap inT ++ f.jobs.flatMap jobT ++ (f.outs.take (n + 1)).flatMap outT = f.ins.flatMap inT ++ f.jobs.flatMap jobT ++ (f.outs.take n).flatMap outT ++ outT x) := Lib.hid (by rw [hstep, List.append_assoc _ _ (outT x)])
     have hnl := hxw.name.len
     have hsl := hxw.src.len
     clear hcell hstep hxw lg0
     obtain ⟨OT, hOT⟩ : ∃ t, f.ins.flatMap inT ++ f.jobs.flatMap jobT ++ (f.outs.take n).flatMap outT = t := ⟨_, rfl⟩
     rw [hOT] at hln HST ⊢
     clear hOT
     go_wp2
     have HKZ := Lib.hid (HK.out.alloc (.cells #[.int .i64 x.at_, .string (bs x.name), .string (bs x.src)] 83))
     go_roundw
     case rel => exact ⟨n + 1, by omega, by go_num, by rw [HST.out]; simp [outT], HKZ⟩
     case measure => simp [intOf]; omega
    ·have hni : ¬ (n : Int) < (f.outs.length : Int) := by omega
     obtain rfl : n = f.outs.length := by omega
     have HKF := Lib.hid (HKW.out.trans HK.out)
     rw [List.take_of_length_le (Nat.le_refl _)]
     go_wp2
     go_ret
     exact ⟨by unfold printF; rw [List.append_assoc]; rfl, HKF.out⟩
end Go.Proofs.YtnjjajanfedjiaaGreatDoor
namespace Go.Proofs.YtnjjajanfedjiaaGreatDoor
def Pos {α : Type} (r : Except (Int × Int) α) : Prop := ∀ y, r = .error y → 0 < y.1
theorem Pos.ok {α : Type} (a : α) : Pos (.ok a) := fun _ h => by cases h
theorem Pos.fail {α : Type} {e : Int} (h : 0 < e) (l : List Tk) : Pos (failP (α := α) e l) := fun y hy => by cases hy; exact h
theorem Pos.bind {α β : Type} {r : Except (Int × Int) α} {f : α → Except (Int × Int) β} (h : Pos r) (k : ∀ a, Pos (f a)) : Pos (r >>= f) := by
 cases r with
 | error x => intro y hy; exact h y (by cases hy; rfl)
 | ok a => exact k a
theorem Pos.ite {α : Type} {c : Prop} [Decidable c] {a b : Except (Int × Int) α} (ha : Pos a) (hb : Pos b) : Pos (if c then a else b) := by
 split
 ·exact ha
 ·exact hb
theorem must_erp (s : Bs) (l : List Tk) : Pos (mustP s l) := Pos.ite (.ok _) (.fail (by decide) _)
theorem name_erp (l : List Tk) : Pos (nameP l) := Pos.ite (.fail (by decide) _) (.ite (.fail (by decide) _) (.ok _))
theorem namesGo_erp : ∀ (n : Nat) (l : List Tk) (acc : List Bs), Pos (namesGo n l acc)
 | 0, _, _ => Pos.ok _
 | n + 1, _, _ => Pos.ite (.bind (name_erp _) fun _ => namesGo_erp n _ _) (.ok _)
theorem names_erp (l : List Tk) : Pos (namesP l) := .bind (name_erp _) fun _ => namesGo_erp _ _ _
theorem fin_erp (r : List Tk) (v : Vl) : Pos (finP r v) := Pos.ite (.ok _) (.fail (by decide) _)
theorem val1_erp (neg : Bool) (r : List Tk) : Pos (val1P neg r) := by
 unfold val1P
 refine Pos.ite (.fail (by decide) _) (.ite (fin_erp _ _) (.ite ?_ (.fail (by decide) _)))
 split
 ·exact fin_erp _ _
 ·exact .fail (by decide) _
theorem value_erp (l : List Tk) : Pos (valueP l) := Pos.ite (val1_erp _ _) (val1_erp _ _)
theorem arg_erp (l : List Tk) : Pos (argP l) := Pos.ite (.bind (name_erp _) fun _ => .ok _) (.bind (value_erp _) fun _ => .ok _)
theorem one_erp (ms : List Bs) (l : List Tk) : Pos (oneP ms l) := by
 unfold oneP
 split
 ·exact .fail (by decide) _
 ·exact .ok _
theorem colOne_erp (l : List Tk) : Pos (colOne l) := .bind (name_erp _) fun _ => .bind (one_erp _ _) fun _ => .ok _
theorem colsGo_erp : ∀ (n : Nat) (l : List Tk) (acc : List Cl), Pos (colsGo n l acc)
 | 0, _, _ => Pos.ok _
 | n + 1, _, _ => .bind (colOne_erp _) fun _ => Pos.ite (colsGo_erp n _ _) (.ok _)
theorem input_erp (l : List Tk) : Pos (inputP l) := .bind (must_erp _ _) fun _ => .bind (name_erp _) fun _ => .bind (must_erp _ _) fun _ => .bind (colsGo_erp _ _ _) fun _ => .bind (must_erp _ _) fun _ => .ok _
theorem where_erp (j : Jb) (l : List Tk) : Pos (whereP j l) := .bind (must_erp _ _) fun _ => .bind (name_erp _) fun _ => .bind (one_erp _ _) fun _ => .bind (arg_erp _) fun _ => .ok _
theorem of_erp (j : Jb) (l : List Tk) : Pos (ofP j l) := .bind (name_erp _) fun _ => .bind (must_erp _ _) fun _ => .bind (name_erp _) fun _ => .ok _
theorem set_erp (j : Jb) (l : List Tk) : Pos (setP j l) := .bind (must_erp _ _) fun _ => .bind (name_erp _) fun _ => .bind (must_erp _ _) fun _ => .bind (arg_erp _) fun _ => .bind (one_erp _ _) fun _ => .bind (arg_erp _) fun _ => .ok _
theorem by_erp (j : Jb) (l : List Tk) : Pos (byP j l) := .bind (must_erp _ _) fun _ => .bind (names_erp _) fun _ => .ok _
theorem group_erp (j : Jb) (l : List Tk) : Pos (groupP j l) := .bind (must_erp _ _) fun _ => .bind (name_erp _) fun _ => .bind (one_erp _ _) fun _ => .bind (name_erp _) fun _ => .ok _
theorem join_erp (j : Jb) (l : List Tk) : Pos (joinP j l) := .bind (of_erp _ _) fun _ => .bind (must_erp _ _) fun _ => of_erp _ _
theorem union_erp (j : Jb) (l : List Tk) : Pos (unionP j l) := .bind (name_erp _) fun _ => .bind (must_erp _ _) fun _ => .bind (name_erp _) fun _ => .ok _
theorem rest_erp (j : Jb) (l : List Tk) : Pos (restP j l) := Pos.ite (where_erp _ _) (.ite (set_erp _ _) (.ite (by_erp _ _) (.ite (group_erp _ _) (.ok _))))
theorem body_erp (j : Jb) (l : List Tk) : Pos (bodyP j l) := Pos.ite (.fail (by decide) _) (.ite (join_erp _ _) (.ite (union_erp _ _) (.bind (name_erp _) fun _ => rest_erp _ _)))
theorem retry_erp (l : List Tk) : Pos (retryP l) := by
 unfold retryP
 refine Pos.ite (.ite (.fail (by decide) _) ?_) (.ok _)
 split
 ·exact .ite (.fail (by decide) _) (.ok _)
 ·exact .fail (by decide) _
theorem job_erp (l : List Tk) : Pos (jobP l) := .bind (must_erp _ _) fun _ => .bind (names_erp _) fun _ => .bind (retry_erp _) fun _ => .bind (must_erp _ _) fun _ => .bind (body_erp _ _) fun _ => .bind (must_erp _ _) fun _ => .ok _
theorem out_erp (l : List Tk) : Pos (outP l) := .bind (must_erp _ _) fun _ => .bind (name_erp _) fun _ => .bind (must_erp _ _) fun _ => .bind (name_erp _) fun _ => .bind (must_erp _ _) fun _ => .ok _
theorem many_erp {α : Type} (w : Bs) (one : List Tk → Except (Int × Int) (α × List Tk)) (h : ∀ l, Pos (one l)) : ∀ (n : Nat) (l : List Tk) (acc : List α), Pos (manyP w one n l acc)
 | 0, _, _ => Pos.ok _
 | n + 1, _, _ => Pos.ite (.ite (.fail (by decide) _) (.bind (h _) fun _ => many_erp w one h n _ _)) (.ok _)
theorem flow_erp (l : List Tk) : Pos (flowP l) := .bind (many_erp _ _ input_erp _ _ _) fun _ => .bind (many_erp _ _ job_erp _ _ _) fun _ => .bind (many_erp _ _ out_erp _ _ _) fun _ => .ok _
theorem lexGo_erp : ∀ (f : Nat) (s : Bs) (i : Nat) (acc : List Tk), Pos (lexGo f s i acc)
 | 0, _, _, _ => Pos.ok _
 | _ + 1, [], _, _ => Pos.ok _
 | f + 1, c :: t, i, acc => by
  unfold lexGo
  refine Pos.ite (lexGo_erp f _ _ _) (.ite (fun y h => by cases h; show (0 : Int) < 3; decide) (.ite (fun y h => by cases h; show (0 : Int) < 4; decide) (lexGo_erp f _ _ _)))
theorem parse_erp (s : Bs) : Pos (parseF s) := .bind (lexGo_erp _ _ _ _) fun _ => .bind (flow_erp _) fun _ => Pos.ite (.fail (by decide) _) (.ok _)
end Go.Proofs.YtnjjajanfedjiaaGreatDoor
