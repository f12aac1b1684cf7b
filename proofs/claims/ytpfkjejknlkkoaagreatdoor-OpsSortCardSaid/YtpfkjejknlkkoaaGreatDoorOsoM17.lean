/- ops.grouped, whole. slices.Concat at 39. Slices of columns: [:n], [n:]. -/
import Derived.Deep.DeepCutAuto
import Derived.Test.YtpfkjejknlkkoaaGreatDoorOsoM7
import Derived.Test.YtpfkjejknlkkoaaGreatDoorOsoM1
import Derived.Test.YtpfkjejknlkkoaaGreatDoorOsoM9
set_option linter.unusedSimpArgs false
set_option linter.unusedVariables false
namespace Go.Proofs.YtpfkjejknlkkoaaGreatDoor
open Go.RowKit Go.BigFrame
attribute [local go_sem] bs_size bs_extract bs_append bs_toList
attribute [local go_sem] KW.cell
theorem fszg (w : World) (o : Obj) : (w.alloc o).heap.size = w.heap.size + 1 := Array.size_push _
theorem rd_new (w : World) (t : TypeId) (cs : List Value) (n size : Nat) (h : cs.length = n * size) : Rd (w.alloc (.cells cs.toArray t)) [] size (some ⟨w.heap.size, 0, none⟩) n cs :=
 ⟨h, fun _ => ⟨_, rfl, by simp, (Blk.new _ _ _).lt, fun j u hu => by
  rw [add_at, Nat.zero_add, (Blk.new w t cs.toArray).cell j]
  simpa using hu⟩⟩
theorem RdHeads.drew' {w : World} {A : Option Addr} {ls : List (List Cl)} (h : RdHeads w A ls) : RdHeads w.drew A ls := h
set_option maxRecDepth 100000 in
set_option maxHeartbeats 8000000 in
theorem grouped_any (j : Jb) (a : List Cl) (Ao : Option Addr) (co : Nat) (Ai : Option Addr) (ni ci : Nat) (Ac : Option Addr) (cc : Nat) (A : Option Addr) (c : Nat) (w : World) (hJ : JobIn w j Ao co Ac cc) (hA : Rd w [] 2 A a.length (csCells a)) (hl : a.length ≤ 4294967296) :
  Calls Tryz.prog 62 #[jAgg j Ao co Ai ni ci Ac cc, .slice A a.length c] w fun e w' => ColsOut (groupedJ j a) e w' ∧ Keeps [] w w' := by
 have HF0 := Lib.hid (fun (nm : Bs) W (q : Keeps [] w W) => find_any a nm A c W (hA.keep q) hl)
 have HA := Lib.hid hA
 have HJ := Lib.hid hJ.cols
 obtain ⟨R, hR⟩ : ∃ R, groupedJ j a = R := ⟨_, rfl⟩
 rw [hR]
 have HR : Hid (R = if j.cols.length ≠ 2 ∨ ¬ (j.op = [115, 117, 109] ∨ j.op = [109, 97, 120]) then .error 1 else match colIx a (j.cols.getD 0 []), colIx a (j.cols.getD 1 []) with
  | some k, some m => if (a.getD m zC).kind ≠ 1 then .error 13 else if k = m then .error 9 else .ok [[a.getD k zC, a.getD m zC]]
  | _, _ => .error 7) := Lib.hid (by
  rw [← hR]
  unfold groupedJ
  split
  ·rfl
  ·cases colIx a (j.cols.getD 0 []) <;> cases colIx a (j.cols.getD 1 []) <;> rfl)
 clear hR hJ hA
 obtain ⟨at_, code, outs, ins, cols, op, ⟨lc, lk, ln, lw⟩, ⟨rc, rk, rn, rw'⟩, retry⟩ := j
 simp only at HR HJ
 show Calls _ _ #[.agg #[.int .i64 at_, .int .i64 code, .slice Ao outs.length co, .slice Ai ni ci, .slice Ac cols.length cc, .string (bs op), .string (bs lc), .int .i64 lk, .int .i64 ln, .string (bs lw), .string (bs rc), .int .i64 rk, .int .i64 rn, .string (bs rw'), .int .i64 retry], .slice A a.length c] w _
 by_cases h1 : cols.length = 2
 ·have t0 : ((cols.length : Int) != 2) = false := by rw [h1]; rfl
  obtain ⟨n1, n2, hnm⟩ : ∃ n1 n2, cols = [n1, n2] := by
   match cols, h1 with
   | [n1, n2], _ => exact ⟨n1, n2, rfl⟩
  subst hnm
  obtain ⟨b, o, rfl, _, hb, hcs⟩ := HJ.out.open' (by simp) (by decide)
  have s0 : w.cell? ⟨b, o, none⟩ = some (.string (bs n1)) := hcs 0 _ rfl
  have s1 : w.cell? ⟨b, o + 1, none⟩ = some (.string (bs n2)) := hcs 1 _ rfl
  have HS0 := Lib.hid s0
  have HS1 := Lib.hid s1
  clear hcs h1 HJ s0 s1
  show Calls _ _ #[.agg #[.int .i64 at_, .int .i64 code, .slice Ao outs.length co, .slice Ai ni ci, .slice (some ⟨b, o, none⟩) 2 cc, .string (bs op), .string (bs lc), .int .i64 lk, .int .i64 ln, .string (bs lw), .string (bs rc), .int .i64 rk, .int .i64 rn, .string (bs rw'), .int .i64 retry], .slice A a.length c] w _
  by_cases hop : op = [115, 117, 109] ∨ op = [109, 97, 120]
  ·have HR2 : Hid (R = match colIx a n1, colIx a n2 with
    | some k, some m => if (a.getD m zC).kind ≠ 1 then .error 13 else if k = m then .error 9 else .ok [[a.getD k zC, a.getD m zC]]
    | _, _ => .error 7) := Lib.hid (HR.out.trans (by
     rw [if_neg (by
      rintro (h | h)
      ·exact h rfl
      ·exact h hop)]
     show (match colIx a n1, colIx a n2 with | some k, some m => _ | _, _ => _) = _
     cases colIx a n1 <;> cases colIx a n2 <;> rfl))
   clear HR
   have hto : ∃ b1 b2, (op == [115, 117, 109]) = b1 ∧ (op == [109, 97, 120]) = b2 ∧ (b1 = true ∨ b2 = true) := ⟨_, _, rfl, rfl, by simpa using hop⟩
   obtain ⟨b1, b2, t1, t2, hbb⟩ := hto
   clear hop
   have hway : (b1 = true) ∨ (b1 = false ∧ b2 = true) := by
    cases b1 <;> cases b2 <;> simp at hbb ⊢
   clear hbb
   obtain ⟨w2, hw2⟩ : ∃ w2, w.alloc (.cells #[.int .i64 at_, .int .i64 code, .slice Ao outs.length co, .slice Ai ni ci, .slice (some ⟨b, o, none⟩) 2 cc, .string (bs op), .string (bs lc), .int .i64 lk, .int .i64 ln, .string (bs lw), .string (bs rc), .int .i64 rk, .int .i64 rn, .string (bs rw'), .int .i64 retry] 36) = w2 := ⟨_, rfl⟩
   have HK0 : Hid (Keeps [] w w2) := Lib.hid (by rw [← hw2]; exact (Keeps.refl _ _).alloc _)
   have HBX : Hid (Blk w2 w.heap.size 36 #[.int .i64 at_, .int .i64 code, .slice Ao outs.length co, .slice Ai ni ci, .slice (some ⟨b, o, none⟩) 2 cc, .string (bs op), .string (bs lc), .int .i64 lk, .int .i64 ln, .string (bs lw), .string (bs rc), .int .i64 rk, .int .i64 rn, .string (bs rw'), .int .i64 retry]) := Lib.hid (by rw [← hw2]; exact Blk.new _ _ _)
   have HW := Lib.hid hw2
   clear hw2
   obtain ⟨k1, hk1⟩ : ∃ k1, colIx a n1 = k1 := ⟨_, rfl⟩
   obtain ⟨k2, hk2⟩ : ∃ k2, colIx a n2 = k2 := ⟨_, rfl⟩
   have HF1 : Hid (∀ W, Keeps [] w2 W → Calls Tryz.prog 66 #[.slice A a.length c, .string (bs n1)] W fun e W' => e = .returned (.int .i64 (optI k1)) ∧ Keeps [] W W') := Lib.hid fun W q => by
    rw [← hk1]
    exact HF0.out n1 W (HK0.out.trans q)
   have HF2 : Hid (∀ W, Keeps [] w2 W → Calls Tryz.prog 66 #[.slice A a.length c, .string (bs n2)] W fun e W' => e = .returned (.int .i64 (optI k2)) ∧ Keeps [] W W') := Lib.hid fun W q => by
    rw [← hk2]
    exact HF0.out n2 W (HK0.out.trans q)
   have HX1 : Hid (∀ k, k1 = some k → k < a.length) := Lib.hid fun k h => (List.findIdx?_eq_some_iff_getElem.1 (hk1.trans h)).1
   have HX2 : Hid (∀ k, k2 = some k → k < a.length) := Lib.hid fun k h => (List.findIdx?_eq_some_iff_getElem.1 (hk2.trans h)).1
   rw [hk1, hk2] at HR2
   clear HF0 hk1 hk2
   rcases hway with rfl | ⟨rfl, rfl⟩
   all_goals
    cases k1 with
    | none =>
     have HE : Hid (R = .error 7) := Lib.hid (by rw [HR2.out])
     have HF1' : Hid (∀ W, Keeps [] w2 W → Calls Tryz.prog 66 #[.slice A a.length c, .string (bs n1)] W fun e W' => e = .returned (.int .i64 (-1)) ∧ Keeps [] W W') := HF1
     clear HF1 HR2
     generalize optI k2 = q2 at HF2
     go_enter Tryz.func62, Tryz.ntmps62
     go_upto_region 3 with (fail)
     rw [HW.out]
     have y4 : w2.cell? ⟨w.heap.size, 4, none⟩ = some (.slice (some ⟨b, o, none⟩) 2 cc) := HBX.out.cell 4
     have s0 := HK0.out.cell_of HS0.out (by simp)
     have s1 := HK0.out.cell_of HS1.out (by simp)
     have hz1 : w.heap.size < w2.heap.size := HBX.out.lt
     have hz2 : b < w2.heap.size := World.block_lt_of_cell? _ _ s0
     generalize w.heap.size = bx at *
     refine wp_region_keeps (by kernel_rfl) (by kernel_rfl) ?_
     repeat (go_big_quiet_step (first | with_reducible exact KW.of HF1'.out _ | with_reducible exact KW.of HF2.out _))
     refine wpQuiet_nil ?_
     intro w3 hk3
     have HK3 := Lib.hid (HK0.out.trans hk3)
     clear hk3 y4 s0 s1
     go_wp2
     go_ret2
     exact ⟨by rw [HE.out]; rfl, HK3.out⟩
    | some k =>
     have hx1 := HX1.out k rfl
     have hk0 : ((k : Int) < 0) = False := eq_false (by omega)
     have HF1' : Hid (∀ W, Keeps [] w2 W → Calls Tryz.prog 66 #[.slice A a.length c, .string (bs n1)] W fun e W' => e = .returned (.int .i64 (k : Int)) ∧ Keeps [] W W') := HF1
     clear HF1
     cases k2 with
     | none =>
      have HE : Hid (R = .error 7) := Lib.hid (by rw [HR2.out])
      have HF2' : Hid (∀ W, Keeps [] w2 W → Calls Tryz.prog 66 #[.slice A a.length c, .string (bs n2)] W fun e W' => e = .returned (.int .i64 (-1)) ∧ Keeps [] W W') := HF2
      clear HF2 HR2
      go_enter Tryz.func62, Tryz.ntmps62
      go_upto_region 3 with (fail)
      rw [HW.out]
      have y4 : w2.cell? ⟨w.heap.size, 4, none⟩ = some (.slice (some ⟨b, o, none⟩) 2 cc) := HBX.out.cell 4
      have s0 := HK0.out.cell_of HS0.out (by simp)
      have s1 := HK0.out.cell_of HS1.out (by simp)
      have hz1 : w.heap.size < w2.heap.size := HBX.out.lt
      have hz2 : b < w2.heap.size := World.block_lt_of_cell? _ _ s0
      generalize w.heap.size = bx at *
      refine wp_region_keeps (by kernel_rfl) (by kernel_rfl) ?_
      repeat (go_big_quiet_step (first | with_reducible exact KW.of HF1'.out _ | with_reducible exact KW.of HF2'.out _))
      refine wpQuiet_nil ?_
      intro w3 hk3
      have HK3 := Lib.hid (HK0.out.trans hk3)
      clear hk3 y4 s0 s1
      go_wp2
      go_ret2
      exact ⟨by rw [HE.out]; rfl, HK3.out⟩
     | some m =>
      have hx2 := HX2.out m rfl
      have hm0 : ((m : Int) < 0) = False := eq_false (by omega)
      have hmi : (m : Int) < (a.length : Int) := by omega
      have hki : (k : Int) < (a.length : Int) := by omega
      have hm1 : (0 : Int) ≤ (m : Int) := by omega
      have hk1 : (0 : Int) ≤ (k : Int) := by omega
      have HF2' : Hid (∀ W, Keeps [] w2 W → Calls Tryz.prog 66 #[.slice A a.length c, .string (bs n2)] W fun e W' => e = .returned (.int .i64 (m : Int)) ∧ Keeps [] W W') := HF2
      clear HF2
      have gm : a.getD m zC = a[m] := by rw [List.getD_eq_getElem?_getD, List.getElem?_eq_getElem hx2]; rfl
      have gk : a.getD k zC = a[k] := by rw [List.getD_eq_getElem?_getD, List.getElem?_eq_getElem hx1]; rfl
      obtain ⟨b4, o4, rfl, _, hb4, hcs⟩ := HA.out.open' (by omega) (by omega)
      have c0 := hcs (m * 2) _ (csCells_at a m hx2).1
      have c1 := hcs (m * 2 + 1) _ (csCells_at a m hx2).2
      have c2 := hcs (k * 2) _ (csCells_at a k hx1).1
      have c3 := hcs (k * 2 + 1) _ (csCells_at a k hx1).2
      rw [← Nat.add_assoc] at c1 c3
      have HR3 : Hid (R = if (a.getD m zC).kind ≠ 1 then .error 13 else if k = m then .error 9 else .ok [[a.getD k zC, a.getD m zC]]) := HR2
      rw [gm, gk] at HR3
      obtain ⟨x, hx⟩ : ∃ x, a[k] = x := ⟨_, rfl⟩
      obtain ⟨y, hy⟩ : ∃ y, a[m] = y := ⟨_, rfl⟩
      rw [hx, hy] at HR3
      rw [hy] at c0 c1
      rw [hx] at c2 c3
      have C0 := Lib.hid c0
      have C1 := Lib.hid c1
      have C2 := Lib.hid c2
      have C3 := Lib.hid c3
      clear hcs c0 c1 c2 c3 gm gk hx hy HR2 HA
      go_enter Tryz.func62, Tryz.ntmps62
      go_upto_region 3 with (fail)
      rw [HW.out]
      have y4 : w2.cell? ⟨w.heap.size, 4, none⟩ = some (.slice (some ⟨b, o, none⟩) 2 cc) := HBX.out.cell 4
      have s0 := HK0.out.cell_of HS0.out (by simp)
      have s1 := HK0.out.cell_of HS1.out (by simp)
      have hz1 : w.heap.size < w2.heap.size := HBX.out.lt
      have hz2 : b < w2.heap.size := World.block_lt_of_cell? _ _ s0
      generalize w.heap.size = bx at *
      refine wp_region_keeps (by kernel_rfl) (by kernel_rfl) ?_
      repeat (go_big_quiet_step (first | with_reducible exact KW.of HF1'.out _ | with_reducible exact KW.of HF2'.out _))
      refine wpQuiet_nil ?_
      intro w3 hk3
      have HK3 := Lib.hid (HK0.out.trans hk3)
      clear hk3 y4 s0 s1
      have c1 := HK3.out.cell_of C1.out (by simp)
      have l4 := World.block_lt_of_cell? _ _ c1
      by_cases hk : y.kind = 1
      ·have tk : (y.kind != 1) = false := by simp [hk]
       by_cases hkm : k = m
       ·have HE : Hid (R = .error 9) := Lib.hid (by rw [HR3.out, if_neg (fun h => h hk), if_pos hkm])
        subst hkm
        clear hk
        go_wp2
        go_ret2
        exact ⟨by rw [HE.out]; rfl, HK3.out⟩
       ·have HE : Hid (R = .ok [[x, y]]) := Lib.hid (by rw [HR3.out, if_neg (fun h => h hk), if_neg hkm])
        have tm : ((k : Int) == (m : Int)) = false := by simp; omega
        have c0 := HK3.out.cell_of C0.out (by simp)
        have c2 := HK3.out.cell_of C2.out (by simp)
        have c3 := HK3.out.cell_of C3.out (by simp)
        clear hk
        go_wp2
        go_region
        all_goals
         go_wp2
         go_ret2
         have hh := (heads_one (l := [x, y]) (rd_new w3 39 (csCells [x, y]) 2 2 rfl) (Nat.le_refl 2) 22).drew'
         rw [fszg] at hh
         exact ⟨by rw [HE.out]; exact ⟨_, _, rfl, Nat.le_refl _, hh⟩, ((HK3.out.alloc _).alloc _).drew⟩
      ·have HE : Hid (R = .error 13) := Lib.hid (by rw [HR3.out, if_pos hk])
       have tk : (y.kind != 1) = true := by simp [hk]
       clear hk
       go_wp2
       go_ret2
       exact ⟨by rw [HE.out]; rfl, HK3.out⟩
  ·have t1 : (op == [115, 117, 109]) = false := by simpa using fun h => hop (.inl h)
   have t2 : (op == [109, 97, 120]) = false := by simpa using fun h => hop (.inr h)
   have HE : Hid (R = .error 1) := Lib.hid (by rw [HR.out, if_pos (.inr hop)])
   clear hop HR HA
   go_enter Tryz.func62, Tryz.ntmps62
   go_wp2
   go_ret2
   exact ⟨by rw [HE.out]; rfl, (Keeps.refl _ _).alloc _⟩
 ·have t0 : ((cols.length : Int) != 2) = true := by simp; omega
  have HE : Hid (R = .error 1) := Lib.hid (by rw [HR.out, if_pos (.inl h1)])
  clear h1 HR HA
  go_enter Tryz.func62, Tryz.ntmps62
  go_wp2
  go_ret2
  exact ⟨by rw [HE.out]; rfl, (Keeps.refl _ _).alloc _⟩
end Go.Proofs.YtpfkjejknlkkoaaGreatDoor
namespace Go.Proofs.YtpfkjejknlkkoaaGreatDoor
open Go.RowKit
attribute [local go_sem] bs_size bs_extract bs_append bs_toList
theorem catCinfo : (Tryz.prog.info? 39).map (fun i => (i.zero, i.size, i.bytes)) = some (some (.agg #[.string ⟨#[]⟩, .int .i64 0]), 2, 24) := by kernel_rfl
set_option maxHeartbeats 2000000 in
set_option maxRecDepth 100000 in
theorem growC_any (n : Nat) (hn : n ≤ 4294967296) (w : World) :
  Calls Tryz.prog 119 #[.slice none 0 0, .int .i64 (n : Int)] w fun e w' => (∃ v, e = .returned v ∧ w'.ownsRow w.heap.size 39 2 v 0 []) ∧ Keeps [] w w' := by
 by_cases h0 : n = 0
 ·subst h0
  go_enter Tryz.func119, Tryz.ntmps119
  go_wp2
  go_ret
  exact ⟨⟨_, rfl, World.ownsRow_nil _ _ _ _⟩, Keeps.refl _ _⟩
 ·obtain ⟨i0, hi, hz0, hz1, hz2⟩ := info_parts catCinfo
  have hrz := Lib.run_append_grow_zeros w 22 3 22 39 i0 _ .i64 .i64 Tryz.underlying22 Tryz.underlying3 hi hz0 none 0 0 [] (run_firstCells_none w.drew _ 0 0 0) n (by omega) (by rw [hz1]; decide) (by omega) (by omega) (by rw [hz2]; omega) (growslice_fits (by omega) (by rw [hz2]; omega))
  have hG : grownCap w (0 + n) 0 39 ≤ maxLen := grownCap_le_maxLen w (0 + n) 0 39 (by unfold maxLen; omega)
  have hGn : 0 + n ≤ grownCap w (0 + n) 0 39 := grownCap_ge w _ _ _
  rw [Nat.zero_add] at hrz hG hGn
  obtain ⟨G, hGG⟩ : ∃ G, grownCap w n 0 39 = G := ⟨_, rfl⟩
  rw [hGG] at hrz hG hGn
  obtain ⟨cs, hcs⟩ : ∃ cs, (([] : List Value).toArray ++ Builtin.zeroCells (.agg #[.string ⟨#[]⟩, .int .i64 0] : Value).cells n ++ Builtin.zeroCells (.agg #[.string ⟨#[]⟩, .int .i64 0] : Value).cells (G - n)) = cs := ⟨_, rfl⟩
  rw [hcs] at hrz
  have hsz : cs.size = G * 2 := by
   rw [← hcs]
   simp [Builtin.zeroCells, Value.cells]
   omega
  have HZ := Lib.hid (zeros_own (w := w.drew) (e := 39) (size := 2) hsz hG)
  have HRZ := Lib.hid hrz
  have h1 : ¬ ((n : Int) < 0) := by omega
  have h4 : (0 : Int) < (n : Int) := by omega
  have hm1 : G ≤ 9223372036854775807 := by unfold maxLen at hG; omega
  clear hrz hcs hsz hGG hi hz0 hz1 hz2
  go_enter Tryz.func119, Tryz.ntmps119
  go_wp2_with (at_builtin; refine Lib.wpList_append_run _ rfl _ _ _ _ rfl _ _ rfl rfl _ _ HRZ.out ?_)
  go_ret
  exact ⟨⟨_, rfl, HZ.out⟩, ((Keeps.refl [] w).drew).alloc _⟩
set_option maxHeartbeats 2000000 in
set_option maxRecDepth 40000 in
theorem concatC_any (ss : List (Nat × List Value)) (us : List Value) (A0 : Option Addr) (k0 : Nat) (w : World) (hus : us.length = ss.length) (hB : Rd w [] 1 A0 ss.length us) (hu : ∀ i (h : i < us.length) (h' : i < ss.length), SlIn w 2 us[i] ss[i]) (hl : ss.length ≤ 4294967296) (htot : totN ss ss.length ≤ 4294967296) (hone : ∀ p ∈ ss, ∀ x ∈ p.2, x.oneCell' = true) :
  Calls Tryz.prog 87 #[.slice A0 ss.length k0] w fun e w' => (∃ v, e = .returned v ∧ w'.ownsRow w.heap.size 39 2 v (totN ss ss.length) (catV ss ss.length)) ∧ Keeps [] w w' := by
 obtain ⟨ie, hie, hez0, hez1, hez2⟩ := info_parts catCinfo
 have HB := Lib.hid hB
 have HU := Lib.hid hu
 have HUS := Lib.hid hus
 have HTL := Lib.hid (fun m (h : m ≤ ss.length) => Nat.le_trans (totN_le ss h) htot)
 have HON := Lib.hid hone
 have HGR := Lib.hid (growC_any (totN ss ss.length) htot w)
 clear hB hu hone hus htot
 go_enter Tryz.func87, Tryz.ntmps87
 go_wp2
 go_loop [3, 11] (fun s i => ∃ m : Nat, m ≤ ss.length ∧ i = .int .i64 m ∧ s = .int .i64 (totN ss m : Nat)) (fun _ i => ss.length - (intOf i).toNat)
 case atStart => exact ⟨0, Nat.zero_le _, rfl, rfl⟩
 case round =>
  obtain ⟨m, hm, rfl, rfl⟩ := hrel
  by_cases hlt : m < ss.length
  ·obtain ⟨b, o, rfl, _, hb, hc⟩ := HB.out.open' (by omega) (by omega)
   have hux : m < us.length := by rw [HUS.out]; exact hlt
   have d1 := hc m _ (List.getElem?_eq_getElem hux)
   obtain ⟨A, c, he, hr⟩ := HU.out m hux hlt
   rw [he] at d1
   have HS := Lib.hid (totN_succ ss m hlt)
   have hle := HTL.out (m + 1) (by omega)
   rw [HS.out] at hle
   clear hc he hr
   generalize totN ss m = a at *
   generalize ss[m].1 = n at *
   have hneg : ¬ ((a : Int) + (n : Int) < 0) := by omega
   go_wp2
   go_round
   case rel => exact ⟨m + 1, by omega, by go_num, by rw [HS.out]; go_num⟩
   case measure => simp [intOf]; omega
  ·obtain rfl : m = ss.length := by omega
   go_wp2_with fail
   refine HGR.out.mono ?_
   rintro e w2 ⟨⟨v0, rfl, ho0⟩, hk0⟩
   have HO0 := Lib.hid ho0
   have HK0 := Lib.hid hk0
   clear ho0 hk0 HGR
   go_wp2
   go_loopw [6, 27] (fun u i wx => ∃ (m : Nat) (v : Value), v = u ∧ m ≤ ss.length ∧ i = .int .i64 m ∧ wx.ownsRow w.heap.size 39 2 v (totN ss m) (catV ss m) ∧ Keeps [] w wx) (fun _ i _ => ss.length - (intOf i).toNat)
   case atStart => exact ⟨0, v0, rfl, Nat.zero_le _, rfl, HO0.out, HK0.out⟩
   case round =>
    obtain ⟨m, v, rfl, hm2, rfl, hown, hk⟩ := hrel
    have HK := Lib.hid hk
    have HO := Lib.hid hown
    clear hk hown
    by_cases hlt : m < ss.length
    ·obtain ⟨b, o, rfl, _, hb, hc⟩ := (HB.out.keep HK.out).open' (by omega) (by omega)
     have hux : m < us.length := by rw [HUS.out]; exact hlt
     have d1 := hc m _ (List.getElem?_eq_getElem hux)
     obtain ⟨A, c, he, hr⟩ := HU.out m hux hlt
     rw [he] at d1
     have hle := HTL.out (m + 1) (by omega)
     rw [totN_succ ss m hlt] at hle
     obtain ⟨v', w', hrun, ho', hg'⟩ := run_append_rd (P := Tryz.prog) wr w.heap.size 22 22 39 ie _ 2 24 Tryz.underlying22 hie hez0 hez1 hez2 rfl (by decide) HO.out (hr.keep HK.out) c (HON.out _ (List.getElem_mem hlt)) (by unfold maxLen; omega) (by omega) HK.out.size
     have HRUN := Lib.hid hrun
     have HO' : Hid (w'.ownsRow w.heap.size 39 2 v' (totN ss (m + 1)) (catV ss (m + 1))) := Lib.hid (by rw [totN_succ ss m hlt, catV_succ ss m hlt]; exact ho')
     have HK' := Lib.hid (HK.out.grown hg' (fun g hg => .inr (HO.out.lt g hg).1))
     clear hc he hr hrun ho' hg' hle
     generalize ss[m].1 = n at *
     go_wp2_with (at_builtin; refine Lib.wpList_append_run _ rfl _ _ _ _ rfl _ _ rfl rfl _ _ HRUN.out ?_)
     go_roundw
     case rel => exact ⟨m + 1, v', rfl, by omega, by go_num, HO'.out, HK'.out⟩
     case measure => simp [intOf]; omega
    ·obtain rfl : m = ss.length := by omega
     go_wp2
     go_ret
     exact ⟨⟨_, rfl, HO.out⟩, HK.out⟩
end Go.Proofs.YtpfkjejknlkkoaaGreatDoor
namespace Go.Proofs.YtpfkjejknlkkoaaGreatDoor
open Go.RowKit Go.BigFrame
attribute [local go_sem] bs_size bs_extract bs_append bs_toList
theorem slice_toC (A : Option Addr) (m d n : Nat) (h : n ≤ d) (W : World) : (Instr.slice 22 (.slice A m d) none (some (.int .i64 (n : Int))) none).run Tryz.prog W = .ok (.slice A n d) W := by
 have hT := Tryz.underlying22
 have hl0 : (0 : Int) ≤ (n : Int) := by omega
 have hl1 : (n : Int) ≤ (d : Int) := by omega
 cases A with
 | none => go_simp
 | some a => go_simp
theorem slice_fromC (b o n d lo : Nat) (h1 : lo ≤ n) (h2 : n ≤ d) : ∃ A, (∀ W, (Instr.slice 22 (.slice (some ⟨b, o, none⟩) n d) (some (.int .i64 (lo : Int))) none none).run Tryz.prog W = .ok (.slice A (n - lo) (d - lo)) W) ∧ (lo < d → A = some ⟨b, o + lo * 2, none⟩) := by
 have hT := Tryz.underlying22
 have hl0 : (0 : Int) ≤ (lo : Int) := by omega
 have hl1 : (lo : Int) ≤ (n : Int) := by omega
 have hl2 : (n : Int) ≤ (d : Int) := by omega
 by_cases h : lo = d
 ·subst h
  refine ⟨some ⟨b, o, none⟩, fun W => ?_, fun h => absurd h (by omega)⟩
  go_simp
 ·refine ⟨some ⟨b, o + lo * 2, none⟩, fun W => ?_, fun _ => rfl⟩
  go_simp
  exact fun e => absurd e.symm h
theorem own_rdj {w : World} {base : Nat} {e : TypeId} {size n : Nat} {v : Value} {xs : List Value} (h : w.ownsRow base e size v n xs) : ∃ A c, v = .slice A n c ∧ n ≤ c ∧ Rd w [] size A n xs := by
 rcases h.2 with ⟨rfl, rfl⟩ | ⟨g, cap, cur, rfl, hb, hh, hc, r⟩
 ·refine ⟨none, 0, rfl, Nat.le_refl _, ?_⟩
  have : xs = [] := List.eq_nil_of_length_eq_zero (by rw [h.1]; simp)
  rw [this]
  exact Rd.nil
 ·obtain ⟨A, c, e1, h2⟩ := own_form h
  injection e1 with e1 e2 e3
  subst e1 e3
  refine ⟨_, _, rfl, hc, h.1, fun hn => ?_⟩
  obtain ⟨g', e4, hg, hx⟩ := h2 hn
  injection e4 with e4
  injection e4 with e4
  subst e4
  exact ⟨_, rfl, by simp, hg, fun j u hu => by rw [add_at, Nat.zero_add]; exact hx j u hu⟩
theorem rdC_drop {w : World} {b o : Nat} {l : List Cl} {n : Nat} {A : Option Addr} (h : Rd w [] 2 (some ⟨b, o, none⟩) l.length (csCells l)) (hn : n ≤ l.length) (hA : n < l.length → A = some ⟨b, o + n * 2, none⟩) : Rd w [] 2 A (l.length - n) (csCells (l.drop n)) := by
 have hlen : ∀ q : List Cl, (csCells q).length = q.length * 2 := fun q => by
  induction q with
  | nil => rfl
  | cons c q ih =>
   have e : csCells (c :: q) = [.string (bs c.name), .int .i64 c.kind] ++ csCells q := by simp [csCells, cCells]
   rw [e, List.length_append, ih]
   simp
   omega
 refine ⟨by rw [hlen, List.length_drop], fun h0 => ?_⟩
 obtain ⟨ad, e, hb, hlt, hc⟩ := h.2 (by omega)
 injection e with e
 subst e
 refine ⟨_, hA (by omega), hb, hlt, fun j u hu => ?_⟩
 have e2 : csCells l = csCells (l.take n) ++ csCells (l.drop n) := by
  unfold csCells
  rw [← List.flatMap_append, List.take_append_drop]
 have hl : (csCells (l.take n)).length = n * 2 := by rw [hlen, List.length_take, Nat.min_eq_left hn]
 have := hc (n * 2 + j) u (by
  rw [e2, List.getElem?_append_right (by rw [hl]; omega), hl, Nat.add_sub_cancel_left]
  exact hu)
 rw [add_at] at this ⊢
 rw [show o + n * 2 + j = o + (n * 2 + j) by omega]
 exact this
end Go.Proofs.YtpfkjejknlkkoaaGreatDoor
