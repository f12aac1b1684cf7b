/- ops: jobs in memory, what Cols hands back, Contains, set. slices.Repeat of one slice, once or twice. ops: compared. -/
import Derived.Test.YtpfkjejknlkkoaaGreatDoorOsoM6
import Derived.Test.YtpfkjejknlkkoaaGreatDoorShOps
import Derived.Laws.CopyOwn
set_option linter.unusedSimpArgs false
set_option linter.unusedVariables false
namespace Go.Proofs.YtpfkjejknlkkoaaGreatDoor
open Go.RowKit Go.BigFrame
attribute [local go_sem] bs_size bs_extract bs_append bs_toList
attribute [local go_sem] KW.cell
def jAgg (j : Jb) (Ao : Option Addr) (co : Nat) (Ai : Option Addr) (ni ci : Nat) (Ac : Option Addr) (cc : Nat) : Value :=
 .agg #[.int .i64 j.at_, .int .i64 j.code, .slice Ao j.outs.length co, .slice Ai ni ci, .slice Ac j.cols.length cc, .string (bs j.op), .string (bs j.left.col), .int .i64 j.left.val.kind, .int .i64 j.left.val.num, .string (bs j.left.val.word), .string (bs j.right.col), .int .i64 j.right.val.kind, .int .i64 j.right.val.num, .string (bs j.right.val.word), .int .i64 j.retry]
structure JobIn (w : World) (j : Jb) (Ao : Option Addr) (co : Nat) (Ac : Option Addr) (cc : Nat) : Prop where
 outs : Rd w [] 1 Ao j.outs.length (strs j.outs)
 oc : j.outs.length ≤ co
 cols : Rd w [] 1 Ac j.cols.length (strs j.cols)
 cc : j.cols.length ≤ cc
 lo : j.outs.length ≤ 4294967296
 lc : j.cols.length ≤ 4294967296
theorem JobIn.quiet {w w' : World} {j : Jb} {Ao : Option Addr} {co : Nat} {Ac : Option Addr} {cc : Nat} (h : JobIn w j Ao co Ac cc) (hk : Keeps [] w w') : JobIn w' j Ao co Ac cc := ⟨h.outs.keep hk, h.oc, h.cols.keep hk, h.cc, h.lo, h.lc⟩
def HeadIs (w : World) (u : Value) (l : List Cl) : Prop := ∃ A c, u = .slice A l.length c ∧ l.length ≤ c ∧ Rd w [] 2 A l.length (csCells l)
def RdHeads (w : World) (A : Option Addr) (ls : List (List Cl)) : Prop :=
 ∃ us : List Value, us.length = ls.length ∧ Rd w [] 1 A ls.length us ∧ ∀ i (h : i < us.length) (h' : i < ls.length), HeadIs w us[i] ls[i]
theorem HeadIs.keep {w w' : World} {u : Value} {l : List Cl} (h : HeadIs w u l) (hk : Keeps [] w w') : HeadIs w' u l := by
 obtain ⟨A, c, e, hc, h⟩ := h
 exact ⟨A, c, e, hc, h.keep hk⟩
theorem RdHeads.keep {w w' : World} {A : Option Addr} {ls : List (List Cl)} (h : RdHeads w A ls) (hk : Keeps [] w w') : RdHeads w' A ls := by
 obtain ⟨us, h1, h2, h3⟩ := h
 exact ⟨us, h1, h2.keep hk, fun i a b => (h3 i a b).keep hk⟩
def ColsOut (R : Except Int (List (List Cl))) (e : Ending) (w' : World) : Prop := match R with
 | .error x => e = .returned (.tuple #[.slice none 0 0, .iface 71 (.int .i64 x)])
 | .ok out => ∃ B d, e = .returned (.tuple #[.slice B out.length d, .nilIface]) ∧ out.length ≤ d ∧ RdHeads w' B out
theorem heads_one {w : World} {l : List Cl} {A : Option Addr} {c : Nat} (hA : Rd w [] 2 A l.length (csCells l)) (hc : l.length ≤ c) (t : TypeId) : RdHeads (w.alloc (.cells #[.slice A l.length c] t)) (some ⟨w.heap.size, 0, none⟩) [l] := by
 have hk : Keeps [] w (w.alloc (.cells #[.slice A l.length c] t)) := (Keeps.refl _ _).alloc _
 refine ⟨[.slice A l.length c], rfl, ⟨rfl, fun _ => ⟨_, rfl, by simp, (Blk.new _ _ _).lt, fun j u hu => ?_⟩⟩, fun i h h' => ?_⟩
 ·rw [add_at, Nat.zero_add]
  have := (Blk.new w t #[.slice A l.length c]).cell j
  rw [this]
  simpa using hu
 ·have hi : i = 0 := by simp at h; omega
  subst hi
  exact ⟨A, c, rfl, hc, hA.keep hk⟩
theorem contains_any (l : List Bs) (x : Bs) (A : Option Addr) (c : Nat) (w : World) (hA : Rd w [] 1 A l.length (strs l)) (hl : l.length ≤ 4294967296) :
  Calls Tryz.prog 84 #[.slice A l.length c, .string (bs x)] w fun e w' => e = .returned (.bool (decide (x ∈ l))) ∧ w = w' := by
 by_cases h0 : l.length = 0
 ·have hl0 : l = [] := List.eq_nil_of_length_eq_zero h0
  subst hl0
  refine (Tryz.slices_Contains_string_empty A c (bs x) w).mono ?_
  rintro e w' ⟨rfl, rfl⟩
  exact ⟨rfl, rfl⟩
 ·obtain ⟨b, o, rfl, _, _, hc⟩ := hA.open' (by omega) (by decide)
  refine (Tryz.slices_Contains_string b o l.length c (l.map bs) (bs x) w (by simp) (by omega) (fun j hj => ?_)).mono ?_
  ·have hj' : j < l.length := by simpa using hj
   rw [hc j _ (strs_at' l j hj'), List.getD_eq_getElem?_getD, List.getElem?_map, List.getElem?_eq_getElem hj']
   rfl
  ·rintro e w' ⟨rfl, rfl⟩
   refine ⟨congrArg (fun b => Ending.returned (.bool b)) ?_, rfl⟩
   rw [List.take_of_length_le (by simp)]
   rw [Bool.eq_iff_iff, Lib.containsS_iff, decide_eq_true_iff, List.mem_map]
   constructor
   ·rintro ⟨y, hy, he⟩; rw [← bs_inj he]; exact hy
   ·intro h; exact ⟨x, h, rfl⟩
set_option maxHeartbeats 8000000 in
theorem set_any (j : Jb) (a : List Cl) (Ao : Option Addr) (co : Nat) (Ai : Option Addr) (ni ci : Nat) (Ac : Option Addr) (cc : Nat) (A : Option Addr) (c : Nat) (w : World) (hJ : JobIn w j Ao co Ac cc) (hA : Rd w [] 2 A a.length (csCells a)) (hc : a.length ≤ c) (hl : a.length ≤ 4294967296) :
  Calls Tryz.prog 59 #[jAgg j Ao co Ai ni ci Ac cc, .slice A a.length c] w fun e w' => ColsOut (setJ j a) e w' ∧ Keeps [] w w' := by
 have HF0 := Lib.hid (fun (nm : Bs) W (q : Keeps [] w W) => find_any a nm A c W (hA.keep q) hl)
 have HKL := Lib.hid (fun W (q : Keeps [] w W) => kind_any j.left a A c W (hA.keep q) hl)
 have HKR := Lib.hid (fun W (q : Keeps [] w W) => kind_any j.right a A c W (hA.keep q) hl)
 have HA := Lib.hid hA
 have HJ := Lib.hid hJ.cols
 obtain ⟨R, hR⟩ : ∃ R, setJ j a = R := ⟨_, rfl⟩
 rw [hR]
 have HR : Hid (R = if j.cols.length ≠ 1 ∨ ¬ (j.op = [43] ∨ j.op = [45] ∨ j.op = [42]) then .error 1 else match colIx a (j.cols.headD []) with
  | none => .error 7
  | some k => if (a.getD k zC).kind ≠ 1 ∨ kindI j.left a ≠ 1 ∨ kindI j.right a ≠ 1 then .error 13 else .ok [a]) := Lib.hid (by
  rw [← hR]
  unfold setJ
  split
  ·rfl
  ·cases colIx a (j.cols.headD []) <;> rfl)
 clear hR hJ hA
 generalize hkl : kindI j.left a = KL at *
 generalize hkr : kindI j.right a = KR at *
 clear hkl hkr
 obtain ⟨at_, code, outs, ins, cols, op, ⟨lc, lk, ln, lw⟩, ⟨rc, rk, rn, rw'⟩, retry⟩ := j
 simp only at HR HJ
 show Calls _ _ #[.agg #[.int .i64 at_, .int .i64 code, .slice Ao outs.length co, .slice Ai ni ci, .slice Ac cols.length cc, .string (bs op), .string (bs lc), .int .i64 lk, .int .i64 ln, .string (bs lw), .string (bs rc), .int .i64 rk, .int .i64 rn, .string (bs rw'), .int .i64 retry], .slice A a.length c] w _
 have HKL' : Hid (∀ W, Keeps [] w W → Calls Tryz.prog 85 #[.agg #[.string (bs lc), .int .i64 lk, .int .i64 ln, .string (bs lw)], .slice A a.length c] W fun e W' => e = .returned (.int .i64 KL) ∧ Keeps [] W W') := HKL
 have HKR' : Hid (∀ W, Keeps [] w W → Calls Tryz.prog 85 #[.agg #[.string (bs rc), .int .i64 rk, .int .i64 rn, .string (bs rw')], .slice A a.length c] W fun e W' => e = .returned (.int .i64 KR) ∧ Keeps [] W W') := HKR
 clear HKL HKR
 by_cases h1 : cols.length = 1
 ·have t0 : ((cols.length : Int) != 1) = false := by rw [h1]; rfl
  obtain ⟨nm, hnm⟩ : ∃ nm, cols = [nm] := by
   match cols, h1 with
   | [nm], _ => exact ⟨nm, rfl⟩
  subst hnm
  obtain ⟨b, o, rfl, _, hb, hcs⟩ := HJ.out.open' (by simp) (by decide)
  have d0 : w.cell? ⟨b, o, none⟩ = some (.string (bs nm)) := hcs 0 _ rfl
  have HF := Lib.hid (HF0.out nm)
  clear hcs HF0 h1 HJ
  by_cases hop : op = [43] ∨ op = [45] ∨ op = [42]
  ·have HR2 : Hid (R = match colIx a nm with
    | none => .error 7
    | some k => if (a.getD k zC).kind ≠ 1 ∨ KL ≠ 1 ∨ KR ≠ 1 then .error 13 else .ok [a]) := Lib.hid (HR.out.trans (by
     rw [if_neg (by
      rintro (h | h)
      ·exact h rfl
      ·exact h hop)]
     show (match colIx a nm with | none => _ | some k => _) = _
     cases colIx a nm <;> rfl))
   clear HR
   have hto : ∃ b1 b2 b3, (op == [43]) = b1 ∧ (op == [45]) = b2 ∧ (op == [42]) = b3 ∧ (b1 = true ∨ b2 = true ∨ b3 = true) := ⟨_, _, _, rfl, rfl, rfl, by simpa using hop⟩
   obtain ⟨b1, b2, b3, t1, t2, t3, hbb⟩ := hto
   clear hop
   have hway : (b1 = true) ∨ (b1 = false ∧ b2 = true) ∨ (b1 = false ∧ b2 = false ∧ b3 = true) := by
    cases b1 <;> cases b2 <;> cases b3 <;> simp at hbb ⊢
   clear hbb
   rcases hway with rfl | ⟨rfl, rfl⟩ | ⟨rfl, rfl, rfl⟩
   all_goals
    cases hci : colIx a nm with
    | none =>
     rw [hci] at HF HR2
     have HR3 : Hid (R = .error 7) := HR2
     clear HR2 hci
     go_enter Tryz.func59, Tryz.ntmps59
     go_wp2_with fail
     refine (HF.out _ ((Keeps.refl _ _).alloc _)).mono ?_
     rintro e w2 ⟨rfl, hk2⟩
     simp only [optI]
     go_wp2
     go_ret2
     exact ⟨by rw [HR3.out]; rfl, ((Keeps.refl _ _).alloc _).trans hk2⟩
    | some k =>
     rw [hci] at HF HR2
     have hkl : k < a.length := (List.findIdx?_eq_some_iff_getElem.1 hci).1
     have hgd : a.getD k zC = a[k] := by rw [List.getD_eq_getElem?_getD, List.getElem?_eq_getElem hkl]; rfl
     obtain ⟨b4, o4, hAe, _, hb4, hcs⟩ := HA.out.open' (by omega) (by omega)
     subst hAe
     have d1 := hcs (k * 2 + 1) _ (csCells_at a k hkl).2
     rw [← Nat.add_assoc] at d1
     have HD1 := Lib.hid d1
     have hi0 : ((k : Int) < 0) = False := eq_false (by omega)
     have hi1 : (0 : Int) ≤ (k : Int) := by omega
     have hi2 : (k : Int) < (a.length : Int) := by omega
     have hR3 : R = if a[k].kind ≠ 1 ∨ KL ≠ 1 ∨ KR ≠ 1 then .error 13 else .ok [a] := by rw [← hgd]; exact HR2.out
     have HR3 := Lib.hid hR3
     clear hR3 HR2 hci hgd hcs
     generalize a[k].kind = kk at *
     clear d1
     by_cases hk1 : kk = 1
     ·have s1 : (kk != 1) = false := by rw [hk1]; rfl
      by_cases hl1 : KL = 1
      ·have s2 : (KL != 1) = false := by rw [hl1]; rfl
       by_cases hr1 : KR = 1
       ·have s3 : (KR != 1) = false := by rw [hr1]; rfl
        have HR4 : Hid (R = .ok [a]) := Lib.hid (by rw [HR3.out, if_neg (by rintro (h | h | h); exact h hk1; exact h hl1; exact h hr1)])
        clear HR3 hk1 hl1 hr1
        go_enter Tryz.func59, Tryz.ntmps59
        go_wp2_with fail
        refine (HF.out _ ((Keeps.refl _ _).alloc _)).mono ?_
        rintro e w2 ⟨rfl, hk2⟩
        simp only [optI]
        have HK2 := Lib.hid ((((Keeps.refl [] w).alloc _).trans hk2))
        have x1 := HK2.out.cell_of HD1.out (by simp)
        have y6 := hk2.cell_of (p := ⟨w.heap.size, 6, none⟩) (v := .string (bs lc)) ((Blk.new _ _ _).cell 6) (by simp)
        have y7 := hk2.cell_of (p := ⟨w.heap.size, 7, none⟩) (v := .int .i64 lk) ((Blk.new _ _ _).cell 7) (by simp)
        have y8 := hk2.cell_of (p := ⟨w.heap.size, 8, none⟩) (v := .int .i64 ln) ((Blk.new _ _ _).cell 8) (by simp)
        have y9 := hk2.cell_of (p := ⟨w.heap.size, 9, none⟩) (v := .string (bs lw)) ((Blk.new _ _ _).cell 9) (by simp)
        have y10 := hk2.cell_of (p := ⟨w.heap.size, 10, none⟩) (v := .string (bs rc)) ((Blk.new _ _ _).cell 10) (by simp)
        have y11 := hk2.cell_of (p := ⟨w.heap.size, 11, none⟩) (v := .int .i64 rk) ((Blk.new _ _ _).cell 11) (by simp)
        have y12 := hk2.cell_of (p := ⟨w.heap.size, 12, none⟩) (v := .int .i64 rn) ((Blk.new _ _ _).cell 12) (by simp)
        have y13 := hk2.cell_of (p := ⟨w.heap.size, 13, none⟩) (v := .string (bs rw')) ((Blk.new _ _ _).cell 13) (by simp)
        go_wp2_with fail
        refine (HKL'.out _ HK2.out).mono ?_
        rintro e w3 ⟨rfl, hk3⟩
        have HK3 := Lib.hid (HK2.out.trans hk3)
        replace y10 := hk3.cell_of y10 (by simp)
        replace y11 := hk3.cell_of y11 (by simp)
        replace y12 := hk3.cell_of y12 (by simp)
        replace y13 := hk3.cell_of y13 (by simp)
        go_wp2_with fail
        refine (HKR'.out _ HK3.out).mono ?_
        rintro e w4 ⟨rfl, hk4⟩
        have HK4 := Lib.hid (HK3.out.trans hk4)
        have HRO := Lib.hid (heads_one (HA.out.keep HK4.out) hc 22)
        go_wp2
        go_ret2
        exact ⟨by rw [HR4.out]; exact ⟨_, _, rfl, Nat.le_refl _, HRO.out⟩, HK4.out.alloc _⟩
       ·have s3 : (KR != 1) = true := by rw [bne_iff_ne]; exact hr1
        have HR4 : Hid (R = .error 13) := Lib.hid (by rw [HR3.out, if_pos (.inr (.inr hr1))])
        clear HR3 hk1 hl1 hr1
        go_enter Tryz.func59, Tryz.ntmps59
        go_wp2_with fail
        refine (HF.out _ ((Keeps.refl _ _).alloc _)).mono ?_
        rintro e w2 ⟨rfl, hk2⟩
        simp only [optI]
        have HK2 := Lib.hid ((((Keeps.refl [] w).alloc _).trans hk2))
        have x1 := HK2.out.cell_of HD1.out (by simp)
        have y6 := hk2.cell_of (p := ⟨w.heap.size, 6, none⟩) (v := .string (bs lc)) ((Blk.new _ _ _).cell 6) (by simp)
        have y7 := hk2.cell_of (p := ⟨w.heap.size, 7, none⟩) (v := .int .i64 lk) ((Blk.new _ _ _).cell 7) (by simp)
        have y8 := hk2.cell_of (p := ⟨w.heap.size, 8, none⟩) (v := .int .i64 ln) ((Blk.new _ _ _).cell 8) (by simp)
        have y9 := hk2.cell_of (p := ⟨w.heap.size, 9, none⟩) (v := .string (bs lw)) ((Blk.new _ _ _).cell 9) (by simp)
        have y10 := hk2.cell_of (p := ⟨w.heap.size, 10, none⟩) (v := .string (bs rc)) ((Blk.new _ _ _).cell 10) (by simp)
        have y11 := hk2.cell_of (p := ⟨w.heap.size, 11, none⟩) (v := .int .i64 rk) ((Blk.new _ _ _).cell 11) (by simp)
        have y12 := hk2.cell_of (p := ⟨w.heap.size, 12, none⟩) (v := .int .i64 rn) ((Blk.new _ _ _).cell 12) (by simp)
        have y13 := hk2.cell_of (p := ⟨w.heap.size, 13, none⟩) (v := .string (bs rw')) ((Blk.new _ _ _).cell 13) (by simp)
        go_wp2_with fail
        refine (HKL'.out _ HK2.out).mono ?_
        rintro e w3 ⟨rfl, hk3⟩
        have HK3 := Lib.hid (HK2.out.trans hk3)
        replace y10 := hk3.cell_of y10 (by simp)
        replace y11 := hk3.cell_of y11 (by simp)
        replace y12 := hk3.cell_of y12 (by simp)
        replace y13 := hk3.cell_of y13 (by simp)
        go_wp2_with fail
        refine (HKR'.out _ HK3.out).mono ?_
        rintro e w4 ⟨rfl, hk4⟩
        have HK4 := Lib.hid (HK3.out.trans hk4)
        go_wp2
        go_ret2
        exact ⟨by rw [HR4.out]; rfl, HK4.out⟩
      ·have s2 : (KL != 1) = true := by rw [bne_iff_ne]; exact hl1
       have HR4 : Hid (R = .error 13) := Lib.hid (by rw [HR3.out, if_pos (.inr (.inl hl1))])
       clear HR3 hk1 hl1
       go_enter Tryz.func59, Tryz.ntmps59
       go_wp2_with fail
       refine (HF.out _ ((Keeps.refl _ _).alloc _)).mono ?_
       rintro e w2 ⟨rfl, hk2⟩
       simp only [optI]
       have HK2 := Lib.hid ((((Keeps.refl [] w).alloc _).trans hk2))
       have x1 := HK2.out.cell_of HD1.out (by simp)
       have y6 := hk2.cell_of (p := ⟨w.heap.size, 6, none⟩) (v := .string (bs lc)) ((Blk.new _ _ _).cell 6) (by simp)
       have y7 := hk2.cell_of (p := ⟨w.heap.size, 7, none⟩) (v := .int .i64 lk) ((Blk.new _ _ _).cell 7) (by simp)
       have y8 := hk2.cell_of (p := ⟨w.heap.size, 8, none⟩) (v := .int .i64 ln) ((Blk.new _ _ _).cell 8) (by simp)
       have y9 := hk2.cell_of (p := ⟨w.heap.size, 9, none⟩) (v := .string (bs lw)) ((Blk.new _ _ _).cell 9) (by simp)
       go_wp2_with fail
       refine (HKL'.out _ HK2.out).mono ?_
       rintro e w3 ⟨rfl, hk3⟩
       have HK3 := Lib.hid (HK2.out.trans hk3)
       go_wp2
       go_ret2
       exact ⟨by rw [HR4.out]; rfl, HK3.out⟩
     ·have s1 : (kk != 1) = true := by rw [bne_iff_ne]; exact hk1
      have HR4 : Hid (R = .error 13) := Lib.hid (by rw [HR3.out, if_pos (.inl hk1)])
      clear HR3 hk1
      go_enter Tryz.func59, Tryz.ntmps59
      go_wp2_with fail
      refine (HF.out _ ((Keeps.refl _ _).alloc _)).mono ?_
      rintro e w2 ⟨rfl, hk2⟩
      simp only [optI]
      have HK2 := Lib.hid ((((Keeps.refl [] w).alloc _).trans hk2))
      have x1 := HK2.out.cell_of HD1.out (by simp)
      go_wp2
      go_ret2
      exact ⟨by rw [HR4.out]; rfl, HK2.out⟩
  ·have HR2 : Hid (R = .error 1) := Lib.hid (by rw [HR.out, if_pos (.inr hop)])
   have t1 : (op == [43]) = false := by rw [beq_eq_false_iff_ne]; exact fun h => hop (.inl h)
   have t2 : (op == [45]) = false := by rw [beq_eq_false_iff_ne]; exact fun h => hop (.inr (.inl h))
   have t3 : (op == [42]) = false := by rw [beq_eq_false_iff_ne]; exact fun h => hop (.inr (.inr h))
   clear HR hop
   go_enter Tryz.func59, Tryz.ntmps59
   go_wp2
   go_ret2
   exact ⟨by rw [HR2.out]; rfl, (Keeps.refl _ _).alloc _⟩
 ·have t0 : ((cols.length : Int) != 1) = true := by rw [bne_iff_ne]; omega
  have HR2 : Hid (R = .error 1) := Lib.hid (by rw [HR.out, if_pos (.inl h1)])
  clear HR h1
  go_enter Tryz.func59, Tryz.ntmps59
  go_wp2
  go_ret2
  exact ⟨by rw [HR2.out]; rfl, (Keeps.refl _ _).alloc _⟩
end Go.Proofs.YtpfkjejknlkkoaaGreatDoor
namespace Go.Proofs.YtpfkjejknlkkoaaGreatDoor
open Go.RowKit Go.BigFrame
attribute [local go_sem] bs_size bs_extract bs_append bs_toList
theorem mul_small (x y : Nat) (hx : x * y < 18446744073709551616) (h1 : x < 18446744073709551616) (h2 : y < 18446744073709551616) (w : World) : Calls Tryz.prog 118 #[.int .u64 (x : Int), .int .u64 (y : Int)] w fun e w' => e = .returned (.tuple #[.int .u64 0, .int .u64 ((x * y : Nat) : Int)]) ∧ w = w' := by
 refine (Tryz.bits_Mul x y h1 h2 w).mono ?_
 rintro e w' ⟨rfl, rfl⟩
 rw [Nat.div_eq_of_lt hx, Nat.mod_eq_of_lt hx]
 exact ⟨rfl, rfl⟩
theorem mul11 (w : World) : Calls Tryz.prog 118 #[.int .u64 1, .int .u64 1] w fun e w' => e = .returned (.tuple #[.int .u64 0, .int .u64 1]) ∧ w = w' := mul_small 1 1 (by omega) (by omega) (by omega) w
theorem mul12 (w : World) : Calls Tryz.prog 118 #[.int .u64 1, .int .u64 2] w fun e w' => e = .returned (.tuple #[.int .u64 0, .int .u64 2]) ∧ w = w' := mul_small 1 2 (by omega) (by omega) (by omega) w
set_option maxRecDepth 100000 in
set_option maxHeartbeats 2000000 in
theorem repeat_one (B : Nat) (A : Option Addr) (n c : Nat) (w : World) (hb : w.cell? ⟨B, 0, none⟩ = some (.slice A n c)) :
  Calls Tryz.prog 86 #[.slice (some ⟨B, 0, none⟩) 1 1, .int .i64 1] w fun e w' => (∃ g, e = .returned (.slice (some ⟨g, 0, none⟩) 1 1) ∧ w'.cell? ⟨g, 0, none⟩ = some (.slice A n c)) ∧ Keeps [] w w' := by
 have hlt := World.block_lt_of_cell? _ _ hb
 have hmk : ∀ w : World, (Instr.makeSlice 84 (.int .i64 1) (.int .i64 1)).run Tryz.prog w = .ok (.slice (some ⟨w.heap.size, 0, none⟩) 1 1) (w.alloc (.cells #[.slice none 0 0] 22)) := fun _ => by kernel_rfl
 go_enter Tryz.func86, Tryz.ntmps86
 go_wp2_with fail
 refine (mul11 _).mono ?_
 rintro e w2 ⟨rfl, rfl⟩
 have HCP : Hid (∀ (j : Nat) (v : Value), [Value.slice A n c][j]? = some v → (w.alloc (.cells #[.slice none 0 0] 22)).cell? ((⟨B, 0, none⟩ : Addr).add j) = some v) := Lib.hid (fun j v hv => by
  obtain rfl : j = 0 := by
   have := (List.getElem?_eq_some_iff.1 hv).1
   simpa using this
  obtain rfl : Value.slice A n c = v := by simpa using hv
  rw [add_at]
  exact ((Keeps.refl [] w).alloc _).cell_of hb (by simp))
 go_wp2_with ((refine wpList_copy_splice rfl (.tmp 31) (.tmp 32) 84 84 rfl 22 Tryz.underlying84 (by kernel_rfl) (some ⟨w.heap.size, 0, none⟩) (some ⟨B, 0, none⟩) 1 1 1 1 rfl rfl w.heap.size 0 [.slice none 0 0] 22 (heap_alloc_new _ _) [.slice A n c] rfl (fun _ => ⟨rfl, _, rfl, HCP.out⟩) (by simp) (by simp [Value.oneCell']) w.heap.size w ((Below.refl _ _).alloc (Nat.le_refl _) _) (Nat.le_refl _) ?_); intro w3 hw3 hb3)
 have HB3 := Lib.hid hb3
 clear hb3
 go_wp2
 refine wp_loop_rounds 1 ?_
 rw [rounds_succ]
 go_wp2
 go_ret
 have hblk : Blk w3 w.heap.size 22 #[.slice A n c] := hw3.out
 exact ⟨⟨_, rfl, hblk.cell 0⟩, Keeps.of_below HB3.out⟩
set_option maxRecDepth 100000 in
set_option maxHeartbeats 2000000 in
theorem repeat_two (B : Nat) (A : Option Addr) (n c : Nat) (w : World) (hb : w.cell? ⟨B, 0, none⟩ = some (.slice A n c)) :
  Calls Tryz.prog 86 #[.slice (some ⟨B, 0, none⟩) 1 1, .int .i64 2] w fun e w' => (∃ g, e = .returned (.slice (some ⟨g, 0, none⟩) 2 2) ∧ w'.cell? ⟨g, 0, none⟩ = some (.slice A n c) ∧ w'.cell? ⟨g, 1, none⟩ = some (.slice A n c)) ∧ Keeps [] w w' := by
 have hlt := World.block_lt_of_cell? _ _ hb
 have hmk : ∀ w : World, (Instr.makeSlice 84 (.int .i64 2) (.int .i64 2)).run Tryz.prog w = .ok (.slice (some ⟨w.heap.size, 0, none⟩) 2 2) (w.alloc (.cells #[.slice none 0 0, .slice none 0 0] 22)) := fun _ => by kernel_rfl
 go_enter Tryz.func86, Tryz.ntmps86
 go_wp2_with fail
 refine (mul12 _).mono ?_
 rintro e w2 ⟨rfl, rfl⟩
 have HCP : Hid (∀ (j : Nat) (v : Value), [Value.slice A n c][j]? = some v → (w.alloc (.cells #[.slice none 0 0, .slice none 0 0] 22)).cell? ((⟨B, 0, none⟩ : Addr).add j) = some v) := Lib.hid (fun j v hv => by
  obtain rfl : j = 0 := by
   have := (List.getElem?_eq_some_iff.1 hv).1
   simpa using this
  obtain rfl : Value.slice A n c = v := by simpa using hv
  rw [add_at]
  exact ((Keeps.refl [] w).alloc _).cell_of hb (by simp))
 go_wp2_with ((refine wpList_copy_splice rfl (.tmp 31) (.tmp 32) 84 84 rfl 22 Tryz.underlying84 (by kernel_rfl) (some ⟨w.heap.size, 0, none⟩) (some ⟨B, 0, none⟩) 2 2 1 1 rfl rfl w.heap.size 0 [.slice none 0 0, .slice none 0 0] 22 (heap_alloc_new _ _) [.slice A n c] rfl (fun _ => ⟨rfl, _, rfl, HCP.out⟩) (by simp) (by simp [Value.oneCell']) w.heap.size w ((Below.refl _ _).alloc (Nat.le_refl _) _) (Nat.le_refl _) ?_); intro w3 hw3 hb3)
 have HB3 := Lib.hid hb3
 clear hb3
 go_wp2
 refine wp_loop_rounds 2 ?_
 rw [rounds_succ]
 go_wp2
 have HG : Hid (w3.drew.heap[w.heap.size]? = some (.cells [.slice A n c, .slice none 0 0].toArray 22 (0, 0))) := Lib.hid hw3.out
 have HX0 : Hid (∀ (j : Nat) (v : Value), [Value.slice A n c][j]? = some v → w3.drew.cell? ((⟨w.heap.size, 0, none⟩ : Addr).add j) = some v) := Lib.hid (fun j v hv => by
  obtain rfl : j = 0 := by
   have := (List.getElem?_eq_some_iff.1 hv).1
   simpa using this
  obtain rfl : Value.slice A n c = v := by simpa using hv
  have hblk : Blk w3.drew w.heap.size 22 #[.slice A n c, .slice none 0 0] := HG.out
  exact hblk.cell 0)
 clear hw3
 generalize hg : w.heap.size = g at *
 have HGG := Lib.hid hg
 clear hg
 go_region_law ((with_reducible refine step_copy_splice rfl (.tmp 41) (.tmp 44) 84 84 (by rfl) 22 Tryz.underlying84 (by kernel_rfl) (some ⟨g, 1, none⟩) (some ⟨g, 0, none⟩) 1 1 1 2 (by go_simp) (by go_simp) g 1 [.slice A n c, .slice none 0 0] 22 HG.out [.slice A n c] rfl (fun _ => ⟨rfl, _, rfl, HX0.out⟩) (by simp) (by simp [Value.oneCell']) g _ (Below.refl _ _) (Nat.le_refl _) ?_; intro w4 hw4 hb4))
 have HB4 := Lib.hid hb4
 clear hb4
 go_wp2
 rw [rounds_succ]
 go_wp2
 go_ret
 have hblk : Blk w4 g 22 #[.slice A n c, .slice A n c] := hw4.out
 have hgg := HGG.out
 have hk3 : Keeps [] w w3 := ⟨HB3.out.os, HB3.out.output, HB3.out.size, fun k hk _ => HB3.out.block k (by omega)⟩
 have hk4 : Keeps [] w w4 := ⟨HB4.out.os.trans hk3.os, HB4.out.output.trans hk3.output, Nat.le_trans hk3.size HB4.out.size, fun k hk _ => (HB4.out.block k (by omega)).trans (hk3.block k hk (by simp))⟩
 exact ⟨⟨g, rfl, hblk.cell 0, hblk.cell 1⟩, hk4⟩
end Go.Proofs.YtpfkjejknlkkoaaGreatDoor
namespace Go.Proofs.YtpfkjejknlkkoaaGreatDoor
open Go.RowKit Go.BigFrame
attribute [local go_sem] bs_size bs_extract bs_append bs_toList
attribute [local go_sem] KW.cell
structure CEnv (w : World) : Prop where
 cmp : ∃ A c, w.cell? ⟨1, 0, none⟩ = some (.slice A 6 c) ∧ Rd w [] 1 A 6 (strs compares)
theorem CEnv.quiet {w w' : World} (h : CEnv w) (hk : Keeps [] w w') : CEnv w' := ⟨by
 obtain ⟨A, c, h1, h2⟩ := h.cmp
 exact ⟨A, c, hk.cell_of h1 (by simp), h2.keep hk⟩⟩
theorem heads_rep {w : World} {l : List Cl} {A : Option Addr} {c g n : Nat} (hA : Rd w [] 2 A l.length (csCells l)) (hc : l.length ≤ c) (hg : ∀ j, j < n → w.cell? ⟨g, j, none⟩ = some (.slice A l.length c)) : RdHeads w (some ⟨g, 0, none⟩) (List.replicate n l) := by
 refine ⟨List.replicate n (.slice A l.length c), by simp, ⟨by simp, fun h0 => ⟨_, rfl, by simp, ?_, fun j u hu => ?_⟩⟩, fun i h h' => ?_⟩
 ·exact World.block_lt_of_cell? _ _ (hg 0 (by simpa using h0))
 ·rw [add_at, Nat.zero_add]
  rw [List.getElem?_replicate] at hu
  split at hu
  ·rename_i hj
   rw [hg j hj]
   exact hu
  ·cases hu
 ·rw [List.getElem_replicate, List.getElem_replicate]
  exact ⟨A, c, rfl, hc, hA⟩
set_option maxHeartbeats 8000000 in
theorem compared_any (j : Jb) (a : List Cl) (Ao : Option Addr) (co : Nat) (Ai : Option Addr) (ni ci : Nat) (Ac : Option Addr) (cc : Nat) (A : Option Addr) (c : Nat) (w : World) (hE : CEnv w) (hA : Rd w [] 2 A a.length (csCells a)) (hc : a.length ≤ c) (hl : a.length ≤ 4294967296) :
  Calls Tryz.prog 58 #[jAgg j Ao co Ai ni ci Ac cc, .slice A a.length c] w fun e w' => ColsOut (comparedJ j a) e w' ∧ Keeps [] w w' := by
 have HF0 := Lib.hid (fun (nm : Bs) W (q : Keeps [] w W) => find_any a nm A c W (hA.keep q) hl)
 have HKR := Lib.hid (fun W (q : Keeps [] w W) => kind_any j.right a A c W (hA.keep q) hl)
 have HA := Lib.hid hA
 obtain ⟨Ag, cg, hgc, hgr⟩ := hE.cmp
 have HCT := Lib.hid (fun W (q : Keeps [] w W) => contains_any compares j.op Ag cg W (hgr.keep q) (by decide))
 obtain ⟨R, hR⟩ : ∃ R, comparedJ j a = R := ⟨_, rfl⟩
 rw [hR]
 have HR : Hid (R = if j.op ∉ compares ∨ j.left.col = [] then .error 1
  else match colIx a j.left.col with
   | none => .error 7
   | some k => if kindI j.right a ≠ (a.getD k zC).kind then .error 13 else .ok (List.replicate (if j.code = 9 then 2 else 1) a)) := Lib.hid (by
  rw [← hR]
  unfold comparedJ
  split
  ·rfl
  ·cases colIx a j.left.col <;> rfl)
 clear hR hA hgr hE
 generalize hkr : kindI j.right a = KR at *
 clear hkr
 obtain ⟨at_, code, outs, ins, cols, op, ⟨lc, lk, ln, lw⟩, ⟨rc, rk, rn, rw'⟩, retry⟩ := j
 simp only at HR
 have HKR' : Hid (∀ W, Keeps [] w W → Calls Tryz.prog 85 #[.agg #[.string (bs rc), .int .i64 rk, .int .i64 rn, .string (bs rw')], .slice A a.length c] W fun e W' => e = .returned (.int .i64 KR) ∧ Keeps [] W W') := HKR
 have HCT' : Hid (∀ W, Keeps [] w W → Calls Tryz.prog 84 #[.slice Ag 6 cg, .string (bs op)] W fun e w' => e = .returned (.bool (decide (op ∈ compares))) ∧ W = w') := HCT
 clear HKR HCT
 have HK0 : Hid (Keeps [] w (w.alloc (.cells #[.int .i64 at_, .int .i64 code, .slice Ao outs.length co, .slice Ai ni ci, .slice Ac cols.length cc, .string (bs op), .string (bs lc), .int .i64 lk, .int .i64 ln, .string (bs lw), .string (bs rc), .int .i64 rk, .int .i64 rn, .string (bs rw'), .int .i64 retry] 36))) := Lib.hid ((Keeps.refl _ _).alloc _)
 have HBX := Lib.hid (Blk.new w 36 #[.int .i64 at_, .int .i64 code, .slice Ao outs.length co, .slice Ai ni ci, .slice Ac cols.length cc, .string (bs op), .string (bs lc), .int .i64 lk, .int .i64 ln, .string (bs lw), .string (bs rc), .int .i64 rk, .int .i64 rn, .string (bs rw'), .int .i64 retry])
 have hgl : 1 < w.heap.size := World.block_lt_of_cell? _ _ hgc
 show Calls _ _ #[.agg #[.int .i64 at_, .int .i64 code, .slice Ao outs.length co, .slice Ai ni ci, .slice Ac cols.length cc, .string (bs op), .string (bs lc), .int .i64 lk, .int .i64 ln, .string (bs lw), .string (bs rc), .int .i64 rk, .int .i64 rn, .string (bs rw'), .int .i64 retry], .slice A a.length c] w _
 by_cases hop : op ∈ compares
 ·rw [decide_eq_true hop] at HCT'
  cases lc with
  | nil =>
   have HR2 : Hid (R = .error 1) := Lib.hid (by rw [HR.out, if_pos (.inr rfl)])
   clear HR hop
   go_enter Tryz.func58, Tryz.ntmps58
   go_wp2_with (go_at_call 84; refine (HCT'.out _ HK0.out).mono ?_; rintro e w6 ⟨rfl, rfl⟩)
   go_ret2
   exact ⟨by rw [HR2.out]; rfl, HK0.out⟩
  | cons x tl =>
   have hR2 : R = match colIx a (x :: tl) with
    | none => .error 7
    | some k => if KR ≠ (a.getD k zC).kind then .error 13 else .ok (List.replicate (if code = 9 then 2 else 1) a) := by
    rw [HR.out, if_neg (by
     rintro (h | h)
     ·exact h hop
     ·cases h)]
   have HR2 := Lib.hid hR2
   have HF := Lib.hid (HF0.out (x :: tl))
   clear HR hop hR2 HF0
   cases hci : colIx a (x :: tl) with
   | none =>
    rw [hci] at HF HR2
    have HR3 : Hid (R = .error 7) := HR2
    clear HR2 hci
    go_enter Tryz.func58, Tryz.ntmps58
    go_wp2_with (go_at_call 84; refine (HCT'.out _ HK0.out).mono ?_; rintro e w6 ⟨rfl, rfl⟩)
    refine (HF.out _ HK0.out).mono ?_
    rintro e w2 ⟨rfl, hk2⟩
    simp only [optI]
    go_wp2
    go_ret2
    exact ⟨by rw [HR3.out]; rfl, HK0.out.trans hk2⟩
   | some k =>
    rw [hci] at HF HR2
    have hkl : k < a.length := (List.findIdx?_eq_some_iff_getElem.1 hci).1
    have hgd : a.getD k zC = a[k] := by rw [List.getD_eq_getElem?_getD, List.getElem?_eq_getElem hkl]; rfl
    have HRDA := Lib.hid HA.out
    obtain ⟨b4, o4, hAe, _, hb4, hcs⟩ := HA.out.open' (by omega) (by omega)
    subst hAe
    have d1 := hcs (k * 2 + 1) _ (csCells_at a k hkl).2
    rw [← Nat.add_assoc] at d1
    have HD1 := Lib.hid d1
    have hi0 : ((k : Int) < 0) = False := eq_false (by omega)
    have hi1 : (0 : Int) ≤ (k : Int) := by omega
    have hi2 : (k : Int) < (a.length : Int) := by omega
    have hR3 : R = if KR ≠ a[k].kind then .error 13 else .ok (List.replicate (if code = 9 then 2 else 1) a) := by rw [← hgd]; exact HR2.out
    have HR3 := Lib.hid hR3
    clear hR3 HR2 hci hgd hcs
    generalize a[k].kind = kk at *
    clear d1
    have hway : ∃ b, (KR != kk) = b := ⟨_, rfl⟩
    obtain ⟨bb, hbb⟩ := hway
    go_enter Tryz.func58, Tryz.ntmps58
    go_wp2_with (go_at_call 84; refine (HCT'.out _ HK0.out).mono ?_; rintro e w6 ⟨rfl, rfl⟩)
    refine (HF.out _ HK0.out).mono ?_
    rintro e w2 ⟨rfl, hk2⟩
    simp only [optI]
    obtain ⟨bx, hbx⟩ : ∃ bx, w.heap.size = bx := ⟨_, rfl⟩
    have HB2 := Lib.hid (HBX.out.keep hk2 (by simp))
    have HK2 := Lib.hid (HK0.out.trans hk2)
    rw [hbx] at HB2 ⊢
    clear hk2
    have x1 := HK2.out.cell_of HD1.out (by simp)
    have y1 : w2.cell? ⟨bx, 1, none⟩ = some (.int .i64 code) := HB2.out.cell 1
    have y10 : w2.cell? ⟨bx, 10, none⟩ = some (.string (bs rc)) := HB2.out.cell 10
    have y11 : w2.cell? ⟨bx, 11, none⟩ = some (.int .i64 rk) := HB2.out.cell 11
    have y12 : w2.cell? ⟨bx, 12, none⟩ = some (.int .i64 rn) := HB2.out.cell 12
    have y13 : w2.cell? ⟨bx, 13, none⟩ = some (.string (bs rw')) := HB2.out.cell 13
    have hz1 : bx < w2.heap.size := HB2.out.lt
    have hz2 : b4 < w2.heap.size := World.block_lt_of_cell? _ _ x1
    have HKQ := Lib.hid (fun W (q : Keeps [] w2 W) => HKR'.out W (HK2.out.trans q))
    clear hbx
    go_wp2_with fail
    refine wp_region_keeps (by kernel_rfl) (by kernel_rfl) ?_
    repeat (go_big_quiet_step (with_reducible exact KW.of HKQ.out _))
    refine wpQuiet_nil ?_
    intro w3 hk3
    have HK3 := Lib.hid (HK2.out.trans hk3)
    have z1 := hk3.cell_of y1 (by simp)
    clear hk3 y10 y11 y12 y13 y1 x1
    cases bb with
    | true =>
     have HR4 : Hid (R = .error 13) := Lib.hid (by rw [HR3.out, if_pos (by simpa using hbb)])
     go_wp2
     go_ret2
     exact ⟨by rw [HR4.out]; rfl, HK3.out⟩
    | false =>
     have hkk : KR = kk := by simpa using hbb
     have HR4 : Hid (R = .ok (List.replicate (if code = 9 then 2 else 1) a)) := Lib.hid (by rw [HR3.out, if_neg (fun h => h hkk)])
     clear HR3 hkk
     by_cases h9 : code = 9
     ·have t9 : (code == 9) = true := by rw [h9]; rfl
      have HR5 : Hid (R = .ok (List.replicate 2 a)) := Lib.hid (by rw [HR4.out, if_pos h9])
      clear HR4 h9
      go_wp2_with fail
      refine (repeat_two _ _ _ _ _ ((Blk.new _ _ _).cell 0)).mono ?_
      rintro e w4 ⟨⟨g, rfl, hg0, hg1⟩, hk4⟩
      have HK4 := Lib.hid ((HK3.out.alloc _).trans hk4)
      have HRO := Lib.hid (heads_rep (n := 2) (HRDA.out.keep HK4.out) hc (fun j hj => by
       rcases j with _ | _ | j
       ·exact hg0
       ·exact hg1
       ·omega))
      go_wp2
      go_ret2
      exact ⟨by rw [HR5.out]; exact ⟨_, 2, rfl, Nat.le_refl _, HRO.out⟩, HK4.out⟩
     ·have t9 : (code == 9) = false := by rw [beq_eq_false_iff_ne]; exact h9
      have HR5 : Hid (R = .ok (List.replicate 1 a)) := Lib.hid (by rw [HR4.out, if_neg h9])
      clear HR4 h9
      go_wp2_with fail
      refine (repeat_one _ _ _ _ _ ((Blk.new _ _ _).cell 0)).mono ?_
      rintro e w4 ⟨⟨g, rfl, hg0⟩, hk4⟩
      have HK4 := Lib.hid ((HK3.out.alloc _).trans hk4)
      have HRO := Lib.hid (heads_rep (n := 1) (HRDA.out.keep HK4.out) hc (fun j hj => by
       obtain rfl : j = 0 := by omega
       exact hg0))
      go_wp2
      go_ret2
      exact ⟨by rw [HR5.out]; exact ⟨_, 1, rfl, Nat.le_refl _, HRO.out⟩, HK4.out⟩
 ·rw [decide_eq_false hop] at HCT'
  have HR2 : Hid (R = .error 1) := Lib.hid (by rw [HR.out, if_pos (.inl hop)])
  clear HR hop
  go_enter Tryz.func58, Tryz.ntmps58
  go_wp2_with (go_at_call 84; refine (HCT'.out _ HK0.out).mono ?_; rintro e w6 ⟨rfl, rfl⟩)
  go_ret2
  exact ⟨by rw [HR2.out]; rfl, HK0.out⟩
end Go.Proofs.YtpfkjejknlkkoaaGreatDoor
