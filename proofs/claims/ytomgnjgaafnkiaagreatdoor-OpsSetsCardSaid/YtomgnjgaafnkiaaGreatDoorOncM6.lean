/- ops: jobs in memory, what Cols hands back, Contains, set. slices.Repeat of one slice, once or twice. table.Right. -/
import Derived.Test.YtomgnjgaafnkiaaGreatDoorOncM5
import Derived.Test.YtomgnjgaafnkiaaGreatDoorShOps
import Derived.Laws.CopyOwn
import Derived.Test.YtomgnjgaafnkiaaGreatDoorOncM3
namespace Go.Proofs.YtomgnjgaafnkiaaGreatDoor
open Go.RowKit Go.BigFrame
attribute [local go_sem] bs_size bs_extract bs_append bs_toList
attribute [local go_sem] KW.cell
/-- A job's value, and what must lie in memory. -/
def jAgg (j : Jb) (Ao : Option Addr) (co : Nat) (Ai : Option Addr) (ni ci : Nat) (Ac : Option Addr) (cc : Nat) : Value :=
  .agg #[.int .i64 j.at_, .int .i64 j.code, .slice Ao j.outs.length co, .slice Ai ni ci, .slice Ac j.cols.length cc, .string (bs j.op), .string (bs j.left.col), .int .i64 j.left.val.kind, .int .i64 j.left.val.num, .string (bs j.left.val.word), .string (bs j.right.col), .int .i64 j.right.val.kind, .int .i64 j.right.val.num, .string (bs j.right.val.word), .int .i64 j.retry]
structure JobIn (w : World) (j : Jb) (Ao : Option Addr) (co : Nat) (Ac : Option Addr) (cc : Nat) : Prop where
  outs : Rd w [] 1 Ao j.outs.length (strs j.outs)
  oc : j.outs.length ≤ co
  cols : Rd w [] 1 Ac j.cols.length (strs j.cols)
  cc : j.cols.length ≤ cc
  lo : j.outs.length ≤ 4294967296
  lc : j.cols.length ≤ 4294967296
theorem JobIn.quiet {w w' : World} {j : Jb} {Ao : Option Addr} {co : Nat} {Ac : Option Addr} {cc : Nat} (h : JobIn w j Ao co Ac cc) (hk : Keeps [] w w') : JobIn w' j Ao co Ac cc := ⟨h.outs.keep hk, h.oc, h.cols.keep hk, h.cc, h.lo, h.lc⟩
/-- Columns, as a slice; columns of tables. -/
def HeadIs (w : World) (u : Value) (l : List Cl) : Prop := ∃ A c, u = .slice A l.length c ∧ l.length ≤ c ∧ Rd w [] 2 A l.length (csCells l)
def RdHeads (w : World) (A : Option Addr) (ls : List (List Cl)) : Prop :=
  ∃ us : List Value, us.length = ls.length ∧ Rd w [] 1 A ls.length us ∧ ∀ i (h : i < us.length) (h' : i < ls.length), HeadIs w us[i] ls[i]
theorem HeadIs.keep {w w' : World} {u : Value} {l : List Cl} (h : HeadIs w u l) (hk : Keeps [] w w') : HeadIs w' u l := by
  obtain ⟨A, c, e, hc, h⟩ := h
  exact ⟨A, c, e, hc, h.keep hk⟩
theorem RdHeads.keep {w w' : World} {A : Option Addr} {ls : List (List Cl)} (h : RdHeads w A ls) (hk : Keeps [] w w') : RdHeads w' A ls := by
  obtain ⟨us, h1, h2, h3⟩ := h
  exact ⟨us, h1, h2.keep hk, fun i a b => (h3 i a b).keep hk⟩
def errI (x : Int) : Value := .iface 74 (.int .i64 x)
/-- What Cols hands back. -/
def ColsOut (R : Except Int (List (List Cl))) (e : Ending) (w' : World) : Prop := match R with
  | .error x => e = .returned (.tuple #[.slice none 0 0, .iface 74 (.int .i64 x)])
  | .ok out => ∃ B d, e = .returned (.tuple #[.slice B out.length d, .nilIface]) ∧ out.length ≤ d ∧ RdHeads w' B out
/-- One head, in a block of its own. -/
theorem heads_one {w : World} {l : List Cl} {A : Option Addr} {c : Nat} (hA : Rd w [] 2 A l.length (csCells l)) (hc : l.length ≤ c) (t : TypeId) : RdHeads (w.alloc (.cells #[.slice A l.length c] t)) (some ⟨w.heap.size, 0, none⟩) [l] := by
  have hk : Keeps [] w (w.alloc (.cells #[.slice A l.length c] t)) := (Keeps.refl _ _).alloc _
  refine ⟨[.slice A l.length c], rfl, ⟨rfl, fun _ => ⟨_, rfl, by simp, (Blk.new _ _ _).lt, fun j u hu => ?_⟩⟩, fun i h h' => ?_⟩
  · rw [add_at, Nat.zero_add]
    have := (Blk.new w t #[.slice A l.length c]).cell j
    rw [this]
    simpa using hu
  · have hi : i = 0 := by simp at h; omega
    subst hi
    exact ⟨A, c, rfl, hc, hA.keep hk⟩
theorem contains_any (l : List Bs) (x : Bs) (A : Option Addr) (c : Nat) (w : World) (hA : Rd w [] 1 A l.length (strs l)) (hl : l.length ≤ 4294967296) :
    Calls Tryz.prog 27 #[.slice A l.length c, .string (bs x)] w fun e w' => e = .returned (.bool (decide (x ∈ l))) ∧ w = w' := by
  by_cases h0 : l.length = 0
  · have hl0 : l = [] := List.eq_nil_of_length_eq_zero h0
    subst hl0
    refine (Tryz.slices_Contains_string_empty A c (bs x) w).mono ?_
    rintro e w' ⟨rfl, rfl⟩
    exact ⟨rfl, rfl⟩
  · obtain ⟨b, o, rfl, _, _, hc⟩ := hA.open' (by omega) (by decide)
    refine (Tryz.slices_Contains_string b o l.length c (l.map bs) (bs x) w (by simp) (by omega) (fun j hj => ?_)).mono ?_
    · have hj' : j < l.length := by simpa using hj
      rw [hc j _ (strs_at' l j hj'), List.getD_eq_getElem?_getD, List.getElem?_map, List.getElem?_eq_getElem hj']
      rfl
    · rintro e w' ⟨rfl, rfl⟩
      refine ⟨congrArg (fun b => Ending.returned (.bool b)) ?_, rfl⟩
      rw [List.take_of_length_le (by simp)]
      rw [Bool.eq_iff_iff, Lib.containsS_iff, decide_eq_true_iff, List.mem_map]
      constructor
      · rintro ⟨y, hy, he⟩; rw [← bs_inj he]; exact hy
      · intro h; exact ⟨x, h, rfl⟩
set_option maxHeartbeats 8000000 in
theorem set_any (j : Jb) (a : List Cl) (Ao : Option Addr) (co : Nat) (Ai : Option Addr) (ni ci : Nat) (Ac : Option Addr) (cc : Nat) (A : Option Addr) (c : Nat) (w : World) (hJ : JobIn w j Ao co Ac cc) (hA : Rd w [] 2 A a.length (csCells a)) (hc : a.length ≤ c) (hl : a.length ≤ 4294967296) :
    Calls Tryz.prog 65 #[jAgg j Ao co Ai ni ci Ac cc, .slice A a.length c] w fun e w' => ColsOut (setJ j a) e w' ∧ Keeps [] w w' := by
  have HF0 := Lib.hid (fun (nm : Bs) W (q : Keeps [] w W) => find_any a nm A c W (hA.keep q) hl)
  have HKL := Lib.hid (fun W (q : Keeps [] w W) => kind_any j.left a A c W (hA.keep q) hl)
  have HKR := Lib.hid (fun W (q : Keeps [] w W) => kind_any j.right a A c W (hA.keep q) hl)
  have HA := Lib.hid hA
  have HJ := Lib.hid hJ.cols
  obtain ⟨R, hR⟩ : ∃ R, setJ j a = R := ⟨_, rfl⟩
  rw [hR]
  have HR : Hid (R = if j.cols.length ≠ 1 ∨ ¬ (j.op = [43] ∨ j.op = [45] ∨ j.op = [42]) then .error 1 else match colIx a (j.cols.headD []) with
    | none => .error 7
    | some k => if (a.getD k zC).kind ≠ 1 ∨ kindI j.left a ≠ 1 ∨ kindI j.right a ≠ 1 then .error 13 else .ok [a]) := Lib.hid (by
    rw [← hR]
    unfold setJ
    split
    · rfl
    · cases colIx a (j.cols.headD []) <;> rfl)
  clear hR hJ hA
  generalize hkl : kindI j.left a = KL at *
  generalize hkr : kindI j.right a = KR at *
  clear hkl hkr
  obtain ⟨at_, code, outs, ins, cols, op, ⟨lc, lk, ln, lw⟩, ⟨rc, rk, rn, rw'⟩, retry⟩ := j
  simp only at HR HJ
  show Calls _ _ #[.agg #[.int .i64 at_, .int .i64 code, .slice Ao outs.length co, .slice Ai ni ci, .slice Ac cols.length cc, .string (bs op), .string (bs lc), .int .i64 lk, .int .i64 ln, .string (bs lw), .string (bs rc), .int .i64 rk, .int .i64 rn, .string (bs rw'), .int .i64 retry], .slice A a.length c] w _
  have HKL' : Hid (∀ W, Keeps [] w W → Calls Tryz.prog 87 #[.agg #[.string (bs lc), .int .i64 lk, .int .i64 ln, .string (bs lw)], .slice A a.length c] W fun e W' => e = .returned (.int .i64 KL) ∧ Keeps [] W W') := HKL
  have HKR' : Hid (∀ W, Keeps [] w W → Calls Tryz.prog 87 #[.agg #[.string (bs rc), .int .i64 rk, .int .i64 rn, .string (bs rw')], .slice A a.length c] W fun e W' => e = .returned (.int .i64 KR) ∧ Keeps [] W W') := HKR
  clear HKL HKR
  by_cases h1 : cols.length = 1
  · have t0 : ((cols.length : Int) != 1) = false := by rw [h1]; rfl
    obtain ⟨nm, hnm⟩ : ∃ nm, cols = [nm] := by
      match cols, h1 with
      | [nm], _ => exact ⟨nm, rfl⟩
    subst hnm
    obtain ⟨b, o, rfl, _, hb, hcs⟩ := HJ.out.open' (by simp) (by decide)
    have d0 : w.cell? ⟨b, o, none⟩ = some (.string (bs nm)) := hcs 0 _ rfl
    have HF := Lib.hid (HF0.out nm)
    clear hcs HF0 h1 HJ
    by_cases hop : op = [43] ∨ op = [45] ∨ op = [42]
    · have HR2 : Hid (R = match colIx a nm with
        | none => .error 7
        | some k => if (a.getD k zC).kind ≠ 1 ∨ KL ≠ 1 ∨ KR ≠ 1 then .error 13 else .ok [a]) := Lib.hid (HR.out.trans (by
          rw [if_neg (by
            rintro (h | h)
            · exact h rfl
            · exact h hop)]
          show (match colIx a nm with | none => _ | some k => _) = _
          cases colIx a nm <;> rfl))
      clear HR
      have hto : ∃ b1 b2 b3, (op == [43]) = b1 ∧ (op == [45]) = b2 ∧ (op == [42]) = b3 ∧ (b1 = true ∨ b2 = true ∨ b3 = true) := ⟨_, _, _, rfl, rfl, rfl, by simpa using hop⟩
      obtain ⟨b1, b2, b3, t1, t2, t3, hbb⟩ := hto
      clear hop
      have hway : (b1 = true) ∨ (b1 = false ∧ b2 = true) ∨ (b1 = false ∧ b2 = false ∧ b3 = true) := by
        cases b1 <;> cases b2 <;> cases b3 <;> simp at hbb ⊢
      clear hbb
      rcases hway with rfl | ⟨rfl, rfl⟩ | ⟨rfl, rfl, rfl⟩
      all_goals
        cases hci : colIx a nm with
        | none =>
          rw [hci] at HF HR2
          have HR3 : Hid (R = .error 7) := HR2
          clear HR2 hci
          go_enter Tryz.func65, Tryz.ntmps65
          go_wp2_with fail
          refine (HF.out _ ((Keeps.refl _ _).alloc _)).mono ?_
          rintro e w2 ⟨rfl, hk2⟩
          simp only [optI]
          go_wp2
          go_ret2
          exact ⟨by rw [HR3.out]; rfl, ((Keeps.refl _ _).alloc _).trans hk2⟩
        | some k =>
          rw [hci] at HF HR2
          have hkl : k < a.length := (List.findIdx?_eq_some_iff_getElem.1 hci).1
          have hgd : a.getD k zC = a[k] := by rw [List.getD_eq_getElem?_getD, List.getElem?_eq_getElem hkl]; rfl
          obtain ⟨b4, o4, hAe, _, hb4, hcs⟩ := HA.out.open' (by omega) (by omega)
          subst hAe
          have d1 := hcs (k * 2 + 1) _ (csCells_at a k hkl).2
          rw [← Nat.add_assoc] at d1
          have HD1 := Lib.hid d1
          have hi0 : ((k : Int) < 0) = False := eq_false (by omega)
          have hi1 : (0 : Int) ≤ (k : Int) := by omega
          have hi2 : (k : Int) < (a.length : Int) := by omega
          have hR3 : R = if a[k].kind ≠ 1 ∨ KL ≠ 1 ∨ KR ≠ 1 then .error 13 else .ok [a] := by rw [← hgd]; exact HR2.out
          have HR3 := Lib.hid hR3
          clear hR3 HR2 hci hgd hcs
          generalize a[k].kind = kk at *
          clear d1
          by_cases hk1 : kk = 1
          · have s1 : (kk != 1) = false := by rw [hk1]; rfl
            by_cases hl1 : KL = 1
            · have s2 : (KL != 1) = false := by rw [hl1]; rfl
              by_cases hr1 : KR = 1
              · have s3 : (KR != 1) = false := by rw [hr1]; rfl
                have HR4 : Hid (R = .ok [a]) := Lib.hid (by rw [HR3.out, if_neg (by rintro (h | h | h); exact h hk1; exact h hl1; exact h hr1)])
                clear HR3 hk1 hl1 hr1
                go_enter Tryz.func65, Tryz.ntmps65
                go_wp2_with fail
                refine (HF.out _ ((Keeps.refl _ _).alloc _)).mono ?_
                rintro e w2 ⟨rfl, hk2⟩
                simp only [optI]
                have HK2 := Lib.hid ((((Keeps.refl [] w).alloc _).trans hk2))
                have x1 := HK2.out.cell_of HD1.out (by simp)
                have y6 := hk2.cell_of (p := ⟨w.heap.size, 6, none⟩) (v := .string (bs lc)) ((Blk.new _ _ _).cell 6) (by simp)
                have y7 := hk2.cell_of (p := ⟨w.heap.size, 7, none⟩) (v := .int .i64 lk) ((Blk.new _ _ _).cell 7) (by simp)
                have y8 := hk2.cell_of (p := ⟨w.heap.size, 8, none⟩) (v := .int .i64 ln) ((Blk.new _ _ _).cell 8) (by simp)
                have y9 := hk2.cell_of (p := ⟨w.heap.size, 9, none⟩) (v := .string (bs lw)) ((Blk.new _ _ _).cell 9) (by simp)
                have y10 := hk2.cell_of (p := ⟨w.heap.size, 10, none⟩) (v := .string (bs rc)) ((Blk.new _ _ _).cell 10) (by simp)
                have y11 := hk2.cell_of (p := ⟨w.heap.size, 11, none⟩) (v := .int .i64 rk) ((Blk.new _ _ _).cell 11) (by simp)
                have y12 := hk2.cell_of (p := ⟨w.heap.size, 12, none⟩) (v := .int .i64 rn) ((Blk.new _ _ _).cell 12) (by simp)
                have y13 := hk2.cell_of (p := ⟨w.heap.size, 13, none⟩) (v := .string (bs rw')) ((Blk.new _ _ _).cell 13) (by simp)
                go_wp2_with fail
                refine (HKL'.out _ HK2.out).mono ?_
                rintro e w3 ⟨rfl, hk3⟩
                have HK3 := Lib.hid (HK2.out.trans hk3)
                replace y10 := hk3.cell_of y10 (by simp)
                replace y11 := hk3.cell_of y11 (by simp)
                replace y12 := hk3.cell_of y12 (by simp)
                replace y13 := hk3.cell_of y13 (by simp)
                go_wp2_with fail
                refine (HKR'.out _ HK3.out).mono ?_
                rintro e w4 ⟨rfl, hk4⟩
                have HK4 := Lib.hid (HK3.out.trans hk4)
                have HRO := Lib.hid (heads_one (HA.out.keep HK4.out) hc 22)
                go_wp2
                go_ret2
                exact ⟨by rw [HR4.out]; exact ⟨_, _, rfl, Nat.le_refl _, HRO.out⟩, HK4.out.alloc _⟩
              · have s3 : (KR != 1) = true := by rw [bne_iff_ne]; exact hr1
                have HR4 : Hid (R = .error 13) := Lib.hid (by rw [HR3.out, if_pos (.inr (.inr hr1))])
                clear HR3 hk1 hl1 hr1
                go_enter Tryz.func65, Tryz.ntmps65
                go_wp2_with fail
                refine (HF.out _ ((Keeps.refl _ _).alloc _)).mono ?_
                rintro e w2 ⟨rfl, hk2⟩
                simp only [optI]
                have HK2 := Lib.hid ((((Keeps.refl [] w).alloc _).trans hk2))
                have x1 := HK2.out.cell_of HD1.out (by simp)
                have y6 := hk2.cell_of (p := ⟨w.heap.size, 6, none⟩) (v := .string (bs lc)) ((Blk.new _ _ _).cell 6) (by simp)
                have y7 := hk2.cell_of (p := ⟨w.heap.size, 7, none⟩) (v := .int .i64 lk) ((Blk.new _ _ _).cell 7) (by simp)
                have y8 := hk2.cell_of (p := ⟨w.heap.size, 8, none⟩) (v := .int .i64 ln) ((Blk.new _ _ _).cell 8) (by simp)
                have y9 := hk2.cell_of (p := ⟨w.heap.size, 9, none⟩) (v := .string (bs lw)) ((Blk.new _ _ _).cell 9) (by simp)
                have y10 := hk2.cell_of (p := ⟨w.heap.size, 10, none⟩) (v := .string (bs rc)) ((Blk.new _ _ _).cell 10) (by simp)
                have y11 := hk2.cell_of (p := ⟨w.heap.size, 11, none⟩) (v := .int .i64 rk) ((Blk.new _ _ _).cell 11) (by simp)
                have y12 := hk2.cell_of (p := ⟨w.heap.size, 12, none⟩) (v := .int .i64 rn) ((Blk.new _ _ _).cell 12) (by simp)
                have y13 := hk2.cell_of (p := ⟨w.heap.size, 13, none⟩) (v := .string (bs rw')) ((Blk.new _ _ _).cell 13) (by simp)
                go_wp2_with fail
                refine (HKL'.out _ HK2.out).mono ?_
                rintro e w3 ⟨rfl, hk3⟩
                have HK3 := Lib.hid (HK2.out.trans hk3)
                replace y10 := hk3.cell_of y10 (by simp)
                replace y11 := hk3.cell_of y11 (by simp)
                replace y12 := hk3.cell_of y12 (by simp)
                replace y13 := hk3.cell_of y13 (by simp)
                go_wp2_with fail
                refine (HKR'.out _ HK3.out).mono ?_
                rintro e w4 ⟨rfl, hk4⟩
                have HK4 := Lib.hid (HK3.out.trans hk4)
                go_wp2
                go_ret2
                exact ⟨by rw [HR4.out]; rfl, HK4.out⟩
            · have s2 : (KL != 1) = true := by rw [bne_iff_ne]; exact hl1
              have HR4 : Hid (R = .error 13) := Lib.hid (by rw [HR3.out, if_pos (.inr (.inl hl1))])
              clear HR3 hk1 hl1
              go_enter Tryz.func65, Tryz.ntmps65
              go_wp2_with fail
              refine (HF.out _ ((Keeps.refl _ _).alloc _)).mono ?_
              rintro e w2 ⟨rfl, hk2⟩
              simp only [optI]
              have HK2 := Lib.hid ((((Keeps.refl [] w).alloc _).trans hk2))
              have x1 := HK2.out.cell_of HD1.out (by simp)
              have y6 := hk2.cell_of (p := ⟨w.heap.size, 6, none⟩) (v := .string (bs lc)) ((Blk.new _ _ _).cell 6) (by simp)
              have y7 := hk2.cell_of (p := ⟨w.heap.size, 7, none⟩) (v := .int .i64 lk) ((Blk.new _ _ _).cell 7) (by simp)
              have y8 := hk2.cell_of (p := ⟨w.heap.size, 8, none⟩) (v := .int .i64 ln) ((Blk.new _ _ _).cell 8) (by simp)
              have y9 := hk2.cell_of (p := ⟨w.heap.size, 9, none⟩) (v := .string (bs lw)) ((Blk.new _ _ _).cell 9) (by simp)
              go_wp2_with fail
              refine (HKL'.out _ HK2.out).mono ?_
              rintro e w3 ⟨rfl, hk3⟩
              have HK3 := Lib.hid (HK2.out.trans hk3)
              go_wp2
              go_ret2
              exact ⟨by rw [HR4.out]; rfl, HK3.out⟩
          · have s1 : (kk != 1) = true := by rw [bne_iff_ne]; exact hk1
            have HR4 : Hid (R = .error 13) := Lib.hid (by rw [HR3.out, if_pos (.inl hk1)])
            clear HR3 hk1
            go_enter Tryz.func65, Tryz.ntmps65
            go_wp2_with fail
            refine (HF.out _ ((Keeps.refl _ _).alloc _)).mono ?_
            rintro e w2 ⟨rfl, hk2⟩
            simp only [optI]
            have HK2 := Lib.hid ((((Keeps.refl [] w).alloc _).trans hk2))
            have x1 := HK2.out.cell_of HD1.out (by simp)
            go_wp2
            go_ret2
            exact ⟨by rw [HR4.out]; rfl, HK2.out⟩
    · have HR2 : Hid (R = .error 1) := Lib.hid (by rw [HR.out, if_pos (.inr hop)])
      have t1 : (op == [43]) = false := by rw [beq_eq_false_iff_ne]; exact fun h => hop (.inl h)
      have t2 : (op == [45]) = false := by rw [beq_eq_false_iff_ne]; exact fun h => hop (.inr (.inl h))
      have t3 : (op == [42]) = false := by rw [beq_eq_false_iff_ne]; exact fun h => hop (.inr (.inr h))
      clear HR hop
      go_enter Tryz.func65, Tryz.ntmps65
      go_wp2
      go_ret2
      exact ⟨by rw [HR2.out]; rfl, (Keeps.refl _ _).alloc _⟩
  · have t0 : ((cols.length : Int) != 1) = true := by rw [bne_iff_ne]; omega
    have HR2 : Hid (R = .error 1) := Lib.hid (by rw [HR.out, if_pos (.inl h1)])
    clear HR h1
    go_enter Tryz.func65, Tryz.ntmps65
    go_wp2
    go_ret2
    exact ⟨by rw [HR2.out]; rfl, (Keeps.refl _ _).alloc _⟩
end Go.Proofs.YtomgnjgaafnkiaaGreatDoor
namespace Go.Proofs.YtomgnjgaafnkiaaGreatDoor
open Go.RowKit Go.BigFrame
attribute [local go_sem] bs_size bs_extract bs_append bs_toList
theorem mul_small (x y : Nat) (hx : x * y < 18446744073709551616) (h1 : x < 18446744073709551616) (h2 : y < 18446744073709551616) (w : World) : Calls Tryz.prog 109 #[.int .u64 (x : Int), .int .u64 (y : Int)] w fun e w' => e = .returned (.tuple #[.int .u64 0, .int .u64 ((x * y : Nat) : Int)]) ∧ w = w' := by
  refine (Tryz.bits_Mul x y h1 h2 w).mono ?_
  rintro e w' ⟨rfl, rfl⟩
  rw [Nat.div_eq_of_lt hx, Nat.mod_eq_of_lt hx]
  exact ⟨rfl, rfl⟩
theorem mul11 (w : World) : Calls Tryz.prog 109 #[.int .u64 1, .int .u64 1] w fun e w' => e = .returned (.tuple #[.int .u64 0, .int .u64 1]) ∧ w = w' := mul_small 1 1 (by omega) (by omega) (by omega) w
theorem mul12 (w : World) : Calls Tryz.prog 109 #[.int .u64 1, .int .u64 2] w fun e w' => e = .returned (.tuple #[.int .u64 0, .int .u64 2]) ∧ w = w' := mul_small 1 2 (by omega) (by omega) (by omega) w
set_option maxRecDepth 100000 in
set_option maxHeartbeats 2000000 in
theorem repeat_one (B : Nat) (A : Option Addr) (n c : Nat) (w : World) (hb : w.cell? ⟨B, 0, none⟩ = some (.slice A n c)) :
    Calls Tryz.prog 88 #[.slice (some ⟨B, 0, none⟩) 1 1, .int .i64 1] w fun e w' => (∃ g, e = .returned (.slice (some ⟨g, 0, none⟩) 1 1) ∧ w'.cell? ⟨g, 0, none⟩ = some (.slice A n c)) ∧ Keeps [] w w' := by
  have hlt := World.block_lt_of_cell? _ _ hb
  have hmk : ∀ w : World, (Instr.makeSlice 73 (.int .i64 1) (.int .i64 1)).run Tryz.prog w = .ok (.slice (some ⟨w.heap.size, 0, none⟩) 1 1) (w.alloc (.cells #[.slice none 0 0] 22)) := fun _ => by kernel_rfl
  go_enter Tryz.func88, Tryz.ntmps88
  go_wp2_with fail
  refine (mul11 _).mono ?_
  rintro e w2 ⟨rfl, rfl⟩
  have HCP : Hid (∀ (j : Nat) (v : Value), [Value.slice A n c][j]? = some v → (w.alloc (.cells #[.slice none 0 0] 22)).cell? ((⟨B, 0, none⟩ : Addr).add j) = some v) := Lib.hid (fun j v hv => by
    obtain rfl : j = 0 := by
      have := (List.getElem?_eq_some_iff.1 hv).1
      simpa using this
    obtain rfl : Value.slice A n c = v := by simpa using hv
    rw [add_at]
    exact ((Keeps.refl [] w).alloc _).cell_of hb (by simp))
  go_wp2_with ((refine wpList_copy_splice rfl (.tmp 31) (.tmp 32) 73 73 rfl 22 Tryz.underlying73 (by kernel_rfl) (some ⟨w.heap.size, 0, none⟩) (some ⟨B, 0, none⟩) 1 1 1 1 rfl rfl w.heap.size 0 [.slice none 0 0] 22 (heap_alloc_new _ _) [.slice A n c] rfl (fun _ => ⟨rfl, _, rfl, HCP.out⟩) (by simp) (by simp [Value.oneCell']) w.heap.size w ((Below.refl _ _).alloc (Nat.le_refl _) _) (Nat.le_refl _) ?_); intro w3 hw3 hb3)
  have HB3 := Lib.hid hb3
  clear hb3
  go_wp2
  refine wp_loop_rounds 1 ?_
  rw [rounds_succ]
  go_wp2
  go_ret
  have hblk : Blk w3 w.heap.size 22 #[.slice A n c] := hw3.out
  exact ⟨⟨_, rfl, hblk.cell 0⟩, Keeps.of_below HB3.out⟩
set_option maxRecDepth 100000 in
set_option maxHeartbeats 2000000 in
theorem repeat_two (B : Nat) (A : Option Addr) (n c : Nat) (w : World) (hb : w.cell? ⟨B, 0, none⟩ = some (.slice A n c)) :
    Calls Tryz.prog 88 #[.slice (some ⟨B, 0, none⟩) 1 1, .int .i64 2] w fun e w' => (∃ g, e = .returned (.slice (some ⟨g, 0, none⟩) 2 2) ∧ w'.cell? ⟨g, 0, none⟩ = some (.slice A n c) ∧ w'.cell? ⟨g, 1, none⟩ = some (.slice A n c)) ∧ Keeps [] w w' := by
  have hlt := World.block_lt_of_cell? _ _ hb
  have hmk : ∀ w : World, (Instr.makeSlice 73 (.int .i64 2) (.int .i64 2)).run Tryz.prog w = .ok (.slice (some ⟨w.heap.size, 0, none⟩) 2 2) (w.alloc (.cells #[.slice none 0 0, .slice none 0 0] 22)) := fun _ => by kernel_rfl
  go_enter Tryz.func88, Tryz.ntmps88
  go_wp2_with fail
  refine (mul12 _).mono ?_
  rintro e w2 ⟨rfl, rfl⟩
  have HCP : Hid (∀ (j : Nat) (v : Value), [Value.slice A n c][j]? = some v → (w.alloc (.cells #[.slice none 0 0, .slice none 0 0] 22)).cell? ((⟨B, 0, none⟩ : Addr).add j) = some v) := Lib.hid (fun j v hv => by
    obtain rfl : j = 0 := by
      have := (List.getElem?_eq_some_iff.1 hv).1
      simpa using this
    obtain rfl : Value.slice A n c = v := by simpa using hv
    rw [add_at]
    exact ((Keeps.refl [] w).alloc _).cell_of hb (by simp))
  go_wp2_with ((refine wpList_copy_splice rfl (.tmp 31) (.tmp 32) 73 73 rfl 22 Tryz.underlying73 (by kernel_rfl) (some ⟨w.heap.size, 0, none⟩) (some ⟨B, 0, none⟩) 2 2 1 1 rfl rfl w.heap.size 0 [.slice none 0 0, .slice none 0 0] 22 (heap_alloc_new _ _) [.slice A n c] rfl (fun _ => ⟨rfl, _, rfl, HCP.out⟩) (by simp) (by simp [Value.oneCell']) w.heap.size w ((Below.refl _ _).alloc (Nat.le_refl _) _) (Nat.le_refl _) ?_); intro w3 hw3 hb3)
  have HB3 := Lib.hid hb3
  clear hb3
  go_wp2
  refine wp_loop_rounds 2 ?_
  rw [rounds_succ]
  go_wp2
  have HG : Hid (w3.drew.heap[w.heap.size]? = some (.cells [.slice A n c, .slice none 0 0].toArray 22 (0, 0))) := Lib.hid hw3.out
  have HX0 : Hid (∀ (j : Nat) (v : Value), [Value.slice A n c][j]? = some v → w3.drew.cell? ((⟨w.heap.size, 0, none⟩ : Addr).add j) = some v) := Lib.hid (fun j v hv => by
    obtain rfl : j = 0 := by
      have := (List.getElem?_eq_some_iff.1 hv).1
      simpa using this
    obtain rfl : Value.slice A n c = v := by simpa using hv
    have hblk : Blk w3.drew w.heap.size 22 #[.slice A n c, .slice none 0 0] := HG.out
    exact hblk.cell 0)
  clear hw3
  generalize hg : w.heap.size = g at *
  have HGG := Lib.hid hg
  clear hg
  go_region_law ((with_reducible refine step_copy_splice rfl (.tmp 41) (.tmp 44) 73 73 (by rfl) 22 Tryz.underlying73 (by kernel_rfl) (some ⟨g, 1, none⟩) (some ⟨g, 0, none⟩) 1 1 1 2 (by go_simp) (by go_simp) g 1 [.slice A n c, .slice none 0 0] 22 HG.out [.slice A n c] rfl (fun _ => ⟨rfl, _, rfl, HX0.out⟩) (by simp) (by simp [Value.oneCell']) g _ (Below.refl _ _) (Nat.le_refl _) ?_; intro w4 hw4 hb4))
  have HB4 := Lib.hid hb4
  clear hb4
  go_wp2
  rw [rounds_succ]
  go_wp2
  go_ret
  have hblk : Blk w4 g 22 #[.slice A n c, .slice A n c] := hw4.out
  have hgg := HGG.out
  have hk3 : Keeps [] w w3 := ⟨HB3.out.os, HB3.out.output, HB3.out.size, fun k hk _ => HB3.out.block k (by omega)⟩
  have hk4 : Keeps [] w w4 := ⟨HB4.out.os.trans hk3.os, HB4.out.output.trans hk3.output, Nat.le_trans hk3.size HB4.out.size, fun k hk _ => (HB4.out.block k (by omega)).trans (hk3.block k hk (by simp))⟩
  exact ⟨⟨g, rfl, hblk.cell 0, hblk.cell 1⟩, hk4⟩
end Go.Proofs.YtomgnjgaafnkiaaGreatDoor
namespace Go.Proofs.YtomgnjgaafnkiaaGreatDoor
open Go.RowKit
attribute [local go_sem] bs_size bs_extract bs_append bs_toList
theorem rowB_false {cs : List Cl} {r : List Vl} {n : Nat} (h : n < r.length) (hb : okAt cs r n = false) : rowB cs r = false := by
  unfold rowB
  have : (List.range r.length).all (okAt cs r) = false := by
    rw [List.all_eq_false]
    exact ⟨n, List.mem_range.2 h, by rw [hb]; decide⟩
  rw [this, Bool.and_false]
theorem rightB_false {t : Tb} {n : Nat} (h : n < t.rows.length) (hb : rowB t.cols t.rows[n] = false) : rightB t = false := by
  unfold rightB
  have : t.rows.all (rowB t.cols) = false := by
    rw [List.all_eq_false]
    exact ⟨_, List.getElem_mem h, by rw [hb]; decide⟩
  rw [this, Bool.and_false]
def tAgg (A : Option Addr) (n c : Nat) (B : Option Addr) (m d : Nat) : Value := .agg #[.slice A n c, .slice B m d]
set_option maxRecDepth 100000 in
set_option maxHeartbeats 4000000 in
theorem right_any (t : Tb) (A B : Option Addr) (c d : Nat) (w : World) (hA : Rd w [] 2 A t.cols.length (csCells t.cols)) (hc : t.cols.length ≤ c) (hB : RdRows w [] B t.rows) (hn : ∀ x ∈ t.cols, x.name.length ≤ 1000000000) (hl : t.cols.length ≤ 4294967296) (hm : t.rows.length ≤ 4294967296) (hr : ∀ r ∈ t.rows, r.length ≤ 4294967296) :
    Calls Tryz.prog 25 #[tAgg A t.cols.length c B t.rows.length d] w fun e w' => e = .returned (.bool (rightB t)) ∧ Keeps [] w w' := by
  have hcols := fun W (q : Keeps [] w W) => rightCols_any t.cols A c W (hA.keep q) hc hn hl
  have HA := Lib.hid hA
  have HB := Lib.hid hB
  have HRR := Lib.hid hr
  clear hA hB hn hr
  show Calls _ _ #[.agg #[.slice A t.cols.length c, .slice B t.rows.length d]] w _
  cases h1 : colsB t.cols with
  | false =>
    rw [h1] at hcols
    have HC := Lib.hid hcols
    have HF : Hid (rightB t = false) := Lib.hid (by unfold rightB; rw [h1]; rfl)
    clear hcols h1
    go_enter Tryz.func25, Tryz.ntmps25
    go_wp2_with (go_at_call 49; refine (HC.out _ ((Keeps.refl _ _).alloc _)).mono ?_; rintro e w5 ⟨rfl, hk5⟩)
    go_ret
    exact ⟨by rw [HF.out]; rfl, ((Keeps.refl _ _).alloc _).trans hk5⟩
  | true =>
    rw [h1] at hcols
    have HC := Lib.hid hcols
    have HC1 := Lib.hid h1
    clear hcols h1
    by_cases h2 : t.rows.length ≤ 60
    · have h2' : ¬ ((60 : Int) < (t.rows.length : Int)) := by omega
      go_enter Tryz.func25, Tryz.ntmps25
      go_wp2_with (go_at_call 49; refine (HC.out _ ((Keeps.refl _ _).alloc _)).mono ?_; rintro e w5 ⟨rfl, hk5⟩; have q0 := hk5.cell_of (p := ⟨w.heap.size, 0, none⟩) (v := .slice A t.cols.length c) (by simp) (by simp); have q1 := hk5.cell_of (p := ⟨w.heap.size, 1, none⟩) (v := .slice B t.rows.length d) (by simp) (by simp))
      obtain ⟨bt, hbt⟩ : ∃ bt, w.heap.size = bt := ⟨_, rfl⟩
      have HK5 := Lib.hid (((Keeps.refl [] w).alloc (.cells #[.slice A t.cols.length c, .slice B t.rows.length d] 25)).trans hk5)
      rw [hbt] at q0 q1 ⊢
      have Q0 := Lib.hid q0
      have Q1 := Lib.hid q1
      clear hk5 hbt q0 q1
      go_loopw [20] (fun i wr => ∃ n : Nat, n ≤ t.rows.length ∧ i = .int .i64 n ∧ Hid (∀ j (hj : j < n) (hl : j < t.rows.length), rowB t.cols t.rows[j] = true) ∧ Keeps [] w5 wr) (fun i _ => t.rows.length - (intOf i).toNat)
      case atStart => exact ⟨0, Nat.zero_le _, rfl, fun j hj => absurd hj (by omega), Keeps.refl _ _⟩
      case round =>
        obtain ⟨n, hn, rfl, hno, hk⟩ := hrel
        by_cases hlt : n < t.rows.length
        · obtain ⟨us, hul, hu1, hu2⟩ := (HB.out.keep HK5.out).keep hk
          obtain ⟨b, o, rfl, _, hb, hcs⟩ := hu1.open' (by omega) (by omega)
          have d1 := hcs n _ (List.getElem?_eq_getElem (by omega))
          obtain ⟨Ar, cr, hue, hcr, hRr⟩ := hu2 n (by omega) hlt
          rw [hue] at d1
          have q0 := hk.cell_of Q0.out (by simp)
          have q1 := hk.cell_of Q1.out (by simp)
          have hrl4 := HRR.out _ (List.getElem_mem hlt)
          have hbad : rowB t.cols t.rows[n] = false → Hid (rightB t = false) := fun h => Lib.hid (rightB_false hlt h)
          have HROW : Hid (∀ r, t.rows[n] = r → rowB t.cols r = true → ∀ j (hj : j < n + 1) (hl : j < t.rows.length), rowB t.cols t.rows[j] = true) := fun r e hr j hj hl => by
            by_cases h : j < n
            · exact hno.out j h hl
            · obtain rfl : j = n := by omega
              rw [e]; exact hr
          generalize hr : t.rows[n] = r at *
          have HBAD := Lib.hid hbad
          have HNX := HROW.out r rfl
          have HNX := Lib.hid HNX
          clear hno hcs hu1 hu2 hue hul hbad HROW hr
          by_cases hrl : r.length = t.cols.length
          · have hb1 : ((r.length : Int) != (t.cols.length : Int)) = false := by simp [hrl]
            have HRL := Lib.hid hrl
            obtain ⟨wo, hwo⟩ : ∃ wo : World, wo = wr := ⟨_, rfl⟩
            subst hwo
            have hlc : r.length ≤ t.cols.length := by omega
            clear hrl
            go_wp2
            go_loopw [32] (fun i wr => ∃ m : Nat, m ≤ r.length ∧ i = .int .i64 m ∧ Hid (∀ j, j < m → okAt t.cols r j = true) ∧ Keeps [] wo wr) (fun i _ => r.length - (intOf i).toNat)
            case atStart => exact ⟨0, Nat.zero_le _, rfl, fun j hj => absurd hj (by omega), Keeps.refl _ _⟩
            case round =>
              obtain ⟨m, hm, rfl, hok, hk2⟩ := hrel
              by_cases hlt2 : m < r.length
              · obtain ⟨b2, o2, rfl, _, hb2, hcs2⟩ := (hRr.keep hk2).open' (by omega) (by omega)
                have e1 := hcs2 (m * 3) _ (vsCells_at r m hlt2).1
                have e2 := hcs2 (m * 3 + 1) _ (vsCells_at r m hlt2).2.1
                have e3 := hcs2 (m * 3 + 2) _ (vsCells_at r m hlt2).2.2
                rw [← Nat.add_assoc] at e2 e3
                obtain ⟨b3, o3, hA3, _, hb3, hcs3⟩ := (((HA.out.keep HK5.out).keep hk).keep hk2).open' (by omega) (by omega)
                have f1 := hcs3 (m * 2 + 1) _ (csCells_at t.cols m (by omega)).2
                rw [← Nat.add_assoc] at f1
                have hokm : okAt t.cols r m = (decide (r[m].kind = (t.cols[m]'(by omega)).kind) && rvB r[m]) := by unfold okAt; rw [List.getElem?_eq_getElem hlt2, List.getElem?_eq_getElem (by omega)]
                have q0 := hk2.cell_of q0 (by simp)
                generalize r[m] = x at *
                generalize (t.cols[m]'(by omega)).kind = ck at *
                obtain ⟨xk, xn, xs⟩ := x
                subst hA3
                simp only at e1 e2 e3 hokm
                have HBA : Hid (okAt t.cols r m = false → Hid (rightB t = false)) := Lib.hid (fun h => HBAD.out (rowB_false hlt2 h))
                have HK2 := Lib.hid hk2
                have hmc : m < t.cols.length := by omega
                clear hcs2 hcs3 hk2
                have hbt : bt < wr.heap.size := World.block_lt_of_cell? wr _ q0
                have hrv := rightValue_any ⟨xk, xn, xs⟩
                have hal := fun o => (Keeps.refl [] wr).alloc o
                have G : Hid ((wr.alloc (.cells #[.int .i64 xk, .int .i64 xn, .string (bs xs)] 32)).drew.cell? ⟨wr.heap.size, 0, none⟩ = some (.int .i64 xk) ∧ (wr.alloc (.cells #[.int .i64 xk, .int .i64 xn, .string (bs xs)] 32)).drew.cell? ⟨wr.heap.size, 1, none⟩ = some (.int .i64 xn) ∧ (wr.alloc (.cells #[.int .i64 xk, .int .i64 xn, .string (bs xs)] 32)).drew.cell? ⟨wr.heap.size, 2, none⟩ = some (.string (bs xs)) ∧ (wr.alloc (.cells #[.int .i64 xk, .int .i64 xn, .string (bs xs)] 32)).drew.cell? ⟨bt, 0, none⟩ = some (.slice (some ⟨b3, o3, none⟩) t.cols.length c) ∧ (wr.alloc (.cells #[.int .i64 xk, .int .i64 xn, .string (bs xs)] 32)).drew.cell? ⟨b3, o3 + m * 2 + 1, none⟩ = some (.int .i64 ck)) := Lib.hid ⟨by simp, by simp, by simp, (hal _).cell_of (p := ⟨bt, 0, none⟩) q0 (by simp), (hal _).cell_of (p := ⟨b3, o3 + m * 2 + 1, none⟩) f1 (by simp)⟩
                clear hal
                by_cases hkk : xk = ck
                · subst hkk
                  have hz : (xk != xk) = false := by simp
                  have hokm' : okAt t.cols r m = rvB ⟨xk, xn, xs⟩ := by rw [hokm, decide_eq_true rfl, Bool.true_and]
                  cases hb : rvB ⟨xk, xn, xs⟩ with
                  | true =>
                    rw [hb] at hrv hokm'
                    have HRV := Lib.hid hrv
                    have hok' : Hid (∀ j, j < m + 1 → okAt t.cols r j = true) := fun j hj => by
                      by_cases h : j < m
                      · exact hok.out j h
                      · obtain rfl : j = m := by omega
                        exact hokm'
                    clear hrv hokm hokm' hb
                    go_wp2_with fail
                    go_region_held3 (fun w' => w'.cell? ⟨wr.heap.size, 0, none⟩ = some (.int .i64 xk) ∧ w'.cell? ⟨wr.heap.size, 1, none⟩ = some (.int .i64 xn) ∧ w'.cell? ⟨wr.heap.size, 2, none⟩ = some (.string (bs xs)) ∧ w'.cell? ⟨bt, 0, none⟩ = some (.slice (some ⟨b3, o3, none⟩) t.cols.length c) ∧ w'.cell? ⟨b3, o3 + m * 2 + 1, none⟩ = some (.int .i64 xk)) (first | exact G.out | exact ⟨hk6.cell_of G.out.1 (by simp), hk6.cell_of G.out.2.1 (by simp), hk6.cell_of G.out.2.2.1 (by simp), hk6.cell_of G.out.2.2.2.1 (by simp), hk6.cell_of G.out.2.2.2.2 (by simp)⟩ | go_keep) (first | (go_at_call 50; refine (HRV.out _).mono ?_; rintro e w6 ⟨rfl, hk6⟩))
                    all_goals go_wp2
                    all_goals have K6 := Lib.hid ((HK2.out.alloc _).drew.trans hk6)
                    all_goals clear hk6
                    all_goals go_roundw
                    case rel => exact ⟨m + 1, by omega, by go_num, hok', K6.out⟩
                    case measure => simp [intOf]; omega
                  | false =>
                    rw [hb] at hrv hokm'
                    have HRV := Lib.hid hrv
                    have HF := HBA.out hokm'
                    clear hrv hokm hokm' hb
                    go_wp2_with fail
                    go_region_held3 (fun w' => w'.cell? ⟨wr.heap.size, 0, none⟩ = some (.int .i64 xk) ∧ w'.cell? ⟨wr.heap.size, 1, none⟩ = some (.int .i64 xn) ∧ w'.cell? ⟨wr.heap.size, 2, none⟩ = some (.string (bs xs)) ∧ w'.cell? ⟨bt, 0, none⟩ = some (.slice (some ⟨b3, o3, none⟩) t.cols.length c) ∧ w'.cell? ⟨b3, o3 + m * 2 + 1, none⟩ = some (.int .i64 xk)) (first | exact G.out | exact ⟨hk6.cell_of G.out.1 (by simp), hk6.cell_of G.out.2.1 (by simp), hk6.cell_of G.out.2.2.1 (by simp), hk6.cell_of G.out.2.2.2.1 (by simp), hk6.cell_of G.out.2.2.2.2 (by simp)⟩ | go_keep) (first | (go_at_call 50; refine (HRV.out _).mono ?_; rintro e w6 ⟨rfl, hk6⟩))
                    all_goals go_wp2
                    all_goals go_ret
                    all_goals exact ⟨by rw [HF.out]; rfl, (HK5.out.trans hk).trans ((HK2.out.alloc _).drew.trans hk6)⟩
                · have hz : (xk != ck) = true := by rw [bne_iff_ne]; exact hkk
                  have HF := HBA.out (by rw [hokm, decide_eq_false hkk, Bool.false_and])
                  clear hrv hokm hkk
                  go_wp2_with fail
                  go_quiet (fail)
                  all_goals go_wp2
                  all_goals go_ret
                  all_goals exact ⟨by rw [HF.out]; rfl, (HK5.out.trans hk).trans ((HK2.out.alloc _).drewN _)⟩
              · have hrow := Lib.hid (HNX.out (by
                  unfold rowB
                  rw [decide_eq_true HRL.out, Bool.true_and, List.all_eq_true]
                  intro j hj
                  exact hok.out j (by have := List.mem_range.1 hj; omega)))
                have HKK := Lib.hid (hk.trans hk2)
                clear hk2 hok
                go_wp2
                go_roundw
                case rel => exact ⟨n + 1, by omega, by go_num, hrow, HKK.out⟩
                case measure => simp [intOf]; omega
          · have hb1 : ((r.length : Int) != (t.cols.length : Int)) = true := by rw [bne_iff_ne]; omega
            have HF := HBAD.out (by unfold rowB; rw [decide_eq_false hrl, Bool.false_and])
            clear hrl
            go_wp2
            go_ret
            exact ⟨by rw [HF.out]; rfl, HK5.out.trans hk⟩
        · have hfin : Hid (rightB t = true) := Lib.hid (by
            unfold rightB
            rw [HC1.out, decide_eq_true h2, Bool.and_self, Bool.true_and, List.all_eq_true]
            intro r hr
            obtain ⟨j, hj, rfl⟩ := List.getElem_of_mem hr
            exact hno.out j (by omega) hj)
          go_wp2
          go_ret
          exact ⟨by rw [hfin.out]; rfl, HK5.out.trans hk⟩
    · have h2' : (60 : Int) < (t.rows.length : Int) := by omega
      have HF : Hid (rightB t = false) := Lib.hid (by unfold rightB; rw [decide_eq_false h2, Bool.and_false, Bool.false_and])
      clear h2
      go_enter Tryz.func25, Tryz.ntmps25
      go_wp2_with (go_at_call 49; refine (HC.out _ ((Keeps.refl _ _).alloc _)).mono ?_; rintro e w5 ⟨rfl, hk5⟩; have q1 := hk5.cell_of (p := ⟨w.heap.size, 1, none⟩) (v := .slice B t.rows.length d) (by simp) (by simp))
      go_ret
      exact ⟨by rw [HF.out]; rfl, ((Keeps.refl _ _).alloc _).trans hk5⟩
end Go.Proofs.YtomgnjgaafnkiaaGreatDoor
